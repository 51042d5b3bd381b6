/- The walk of chapter 8's law CurStays. -/
import Derived.Test.YtgdlhcopgfgmaaaCurL
namespace Go.Proofs.Ytgdlhcopgfgmaaa.Cur
open Go.RowKit Go.Proofs.Ytgdlhcopgfgmaaa.Mk
theorem tail_extract (s : ByteArray) (c : C) (h : Inv (bs s) c) : ba c.b = s.extract (s.size - c.b.length) s.size := by
  have h1 := h.tail
  have h2 := drop_extract (bs s) (s.size - c.b.length) s.size (bs_len s).symm
  rw [ba_bs] at h2
  rw [h2, ← bs_len s, h1]
set_option maxHeartbeats 4000000 in
set_option maxRecDepth 100000 in
theorem lawStays_calls (s : ByteArray) (v : Value) (l : List St) (w : World) (hs : s.size ≤ 140737488351232) (hv : SL St.c 4 w v l) (hok : ∀ x ∈ l, x.Ok) :
    Calls Try.prog 6 #[.string s, v] w fun e w' => e = .returned (.bool true) ∧ Below w.heap.size w w' := by
  have hbd := hv.bd
  obtain ⟨A, cc, rfl, hlc, hcm, _⟩ := hv.ex
  have HV := Lib.hid hv
  have Hok := Lib.hid hok
  obtain ⟨d, hd1, hd2⟩ := Option.map_eq_some_iff.1 rowSt
  have D1 := Lib.hid hd1
  have D2 := Lib.hid hd2
  clear hv hok hd1 hd2
  go_enter Try.func6, Try.ntmps6
  go_wp2_with fail
  refine (read_calls _ _).mono ?_
  rintro r w1 ⟨rfl, hu1, hb1⟩
  have hinv : Inv (bs s) ⟨bs s, 0⟩ := ⟨⟨0, rfl⟩, fun h => absurd rfl h⟩
  have hlen0 : ((⟨bs s, 0⟩ : C).b.length : Int) = (s.size : Int) := by rw [bs_len]
  have S1 := Lib.hid (And.intro hu1 (And.intro hinv hb1))
  have Hl0 := Lib.hid hlen0
  clear hu1 hb1 hinv hlen0
  generalize hbb : w.heap.size = bb at *
  have Hbb := Lib.hid hbb
  clear hbb
  go_wp2_with fail
  go_loopw [6, 7] (fun s6 s7 wr => ∃ (k : Nat) (c : C), k ≤ l.length ∧ c.b.length ≤ 140737488351232 ∧ s7 = .int .i64 k ∧ s6 = .int .i64 c.b.length ∧ Hid (CU bb c wr ∧ Inv (bs s) c ∧ Below bb w wr)) (fun _ s7 _ => l.length - (intOf s7).toNat)
  case atStart => exact ⟨0, ⟨bs s, 0⟩, by omega, by rw [bs_len]; exact hs, rfl, by rw [Hl0.out], S1⟩
  case round =>
    obtain ⟨k, c, hk, hcl, rfl, rfl, hq⟩ := hrel
    obtain ⟨hu, hinv, hbw⟩ := hq.out
    by_cases hgo : k < l.length ∧ k < 100
    · obtain ⟨hkl, hk1⟩ := hgo
      have hxo : l[k].Ok := Hok.out _ (List.getElem_mem hkl)
      have hv2 := HV.out.below (by rw [Hbb.out]; exact hbw)
      obtain ⟨_, _, A', c', he, _, _, hex⟩ := hv2
      cases he
      obtain ⟨b0, o0, rfl, hx⟩ := hex (by omega)
      have hr0 : wr.rangeAt b0 (o0 + k * 4) l[k].c := hx k l[k] (List.getElem?_eq_getElem hkl)
      generalize l[k] = x at *
      have hi4 : (Try.prog.info? 50).map (·.size) = some x.c.length := by rw [sizeSt]; rfl
      have HE := Lib.hid (err_calls bb c wr hu)
      have HD := Lib.hid (do_calls bb x c ⟨[], 0⟩ wr hu (by omega) (by simp) hxo.1 hxo.2)
      unfold DoPost at HD
      have hgood := good_go x c
      have hlen := hgood.len
      have HI := Lib.hid (hinv.step hgood)
      have hkeep := hgood.1
      have Hbw := Lib.hid hbw
      have Hinv := Lib.hid hinv
      have i1 : ¬ (k : Int) < 0 := by omega
      have I4 := Lib.hid hi4
      clear hx hex hu hinv hbw hq hxo hgood hi4
      by_cases h0 : c.e = 0
      · clear hkeep
        generalize x.go c = c2 at *
        obtain ⟨cb, ce⟩ := c
        obtain rfl : ce = 0 := h0
        simp only at hlen hcl
        have HR0 := Lib.hid hr0
        clear hr0
        go_wp2_with fail
        refine HE.out.mono ?_
        rintro r w2 ⟨rfl, rfl⟩
        go_wp2_with (refine wpList_load_mid rfl 50 _ rfl b0 (o0 + k * 4) rfl x.c d HR0.out D1.out D2.out I4.out ?_)
        refine HD.out.mono ?_
        rintro r w3 ⟨⟨q, rfl, _⟩, hu3, hw3⟩
        have hb3 := Lib.hid (Hbw.out.trans (hw3.below (by rw [← Hbb.out]; exact Hbw.out.size) (Nat.le_refl _)))
        have HL := Lib.hid (left_calls bb c2 w3 hu3)
        have HE3 := Lib.hid (err_calls bb c2 w3 hu3)
        have HU3 := Lib.hid hu3
        have Hle := Lib.hid hlen
        clear hu3 hw3 HE HD
        go_wp2_with fail
        refine HL.out.mono ?_
        rintro r w4 ⟨rfl, rfl⟩
        obtain ⟨c2b, c2e⟩ := c2
        simp only at hlen
        by_cases h2 : c2e = 0
        · subst h2
          go_wp2_with fail
          refine HE3.out.mono ?_
          rintro r w5 ⟨rfl, rfl⟩
          go_wp2_with fail
          go_roundw
          case rel => exact ⟨k + 1, ⟨c2b, 0⟩, by omega, by simp only; omega, by go_num, rfl, Lib.hid ⟨HU3.out, HI.out, hb3.out⟩⟩
          case measure => simp [intOf] <;> omega
        · have h3 : c2b = [] := HI.out.2 h2
          subst h3
          have t2 : (c2e != 0) = true := by simpa using h2
          go_wp2_with fail
          refine HE3.out.mono ?_
          rintro r w5 ⟨rfl, rfl⟩
          go_wp2_with fail
          go_roundw
          case rel => exact ⟨k + 1, ⟨[], c2e⟩, by omega, by simp, by go_num, rfl, Lib.hid ⟨HU3.out, HI.out, hb3.out⟩⟩
          case measure => simp [intOf] <;> omega
      · obtain ⟨cb, ce⟩ := c
        have h3 : cb = [] := Hinv.out.2 h0
        subst h3
        simp only at h0
        rw [hkeep h0] at HD HI
        have t2 : (ce != 0) = true := by simpa using h0
        have HR0 := Lib.hid hr0
        clear hr0 hkeep hlen
        go_wp2_with fail
        refine HE.out.mono ?_
        rintro r w2 ⟨rfl, rfl⟩
        go_wp2_with (refine wpList_load_mid rfl 50 _ rfl b0 (o0 + k * 4) rfl x.c d HR0.out D1.out D2.out I4.out ?_)
        refine HD.out.mono ?_
        rintro r w3 ⟨⟨q, rfl, _⟩, hu3, hw3⟩
        have hb3 := Lib.hid (Hbw.out.trans (hw3.below (by rw [← Hbb.out]; exact Hbw.out.size) (Nat.le_refl _)))
        have HL := Lib.hid (left_calls bb ⟨[], ce⟩ w3 hu3)
        have HE3 := Lib.hid (err_calls bb ⟨[], ce⟩ w3 hu3)
        have HU3 := Lib.hid hu3
        clear hu3 hw3 HE HD
        go_wp2_with fail
        refine HL.out.mono ?_
        rintro r w4 ⟨rfl, rfl⟩
        go_wp2_with fail
        refine HE3.out.mono ?_
        rintro r w5 ⟨rfl, rfl⟩
        go_wp2_with fail
        refine HE3.out.mono ?_
        rintro r w5 ⟨rfl, rfl⟩
        go_wp2_with fail
        go_roundw
        case rel => exact ⟨k + 1, ⟨[], ce⟩, by omega, by simp, by go_num, rfl, Lib.hid ⟨HU3.out, HI.out, hb3.out⟩⟩
        case measure => simp [intOf] <;> omega
    · have HRaw := Lib.hid (raw_calls bb c c.b.length wr hu (by omega) (by omega))
      have hcs := hinv.len
      rw [bs_len] at hcs
      have HT := Lib.hid (tail_extract s c hinv)
      have Hbw := Lib.hid hbw
      obtain ⟨cb, ce⟩ := c
      simp only at hcs HT HRaw hcl
      clear hu hinv hbw hq
      by_cases h0 : ce = 0
      · subst h0
        rw [raw_ok cb cb.length (Nat.le_refl _), List.take_length, HT.out] at HRaw
        clear HT
        by_cases hkl : k < l.length
        · have hk1 : ¬ k < 100 := fun e => hgo ⟨hkl, e⟩
          clear hgo
          go_wp2_with fail
          refine HRaw.out.mono ?_
          rintro r w3 ⟨rfl, hu3, hw3⟩
          have HE3 := Lib.hid (err_calls bb _ w3 hu3)
          have hb3 := Lib.hid (Hbw.out.trans (hw3.below (by rw [← Hbb.out]; exact Hbw.out.size) (Nat.le_refl _)))
          clear hu3 hw3
          go_wp2_with fail
          refine HE3.out.mono ?_
          rintro r w5 ⟨rfl, rfl⟩
          go_wp2_with fail
          refine (awake_calls _).mono ?_
          rintro r w6 ⟨rfl, hb6⟩
          have hb7 := Lib.hid (below_up (by rw [Hbb.out]; exact hb3.out) hb6)
          clear hb6
          go_wp2_with fail
          go_ret
          exact ⟨rfl, hb7.out⟩
        · clear hgo
          go_wp2_with fail
          refine HRaw.out.mono ?_
          rintro r w3 ⟨rfl, hu3, hw3⟩
          have HE3 := Lib.hid (err_calls bb _ w3 hu3)
          have hb3 := Lib.hid (Hbw.out.trans (hw3.below (by rw [← Hbb.out]; exact Hbw.out.size) (Nat.le_refl _)))
          clear hu3 hw3
          go_wp2_with fail
          refine HE3.out.mono ?_
          rintro r w5 ⟨rfl, rfl⟩
          go_wp2_with fail
          refine (awake_calls _).mono ?_
          rintro r w6 ⟨rfl, hb6⟩
          have hb7 := Lib.hid (below_up (by rw [Hbb.out]; exact hb3.out) hb6)
          clear hb6
          go_wp2_with fail
          go_ret
          exact ⟨rfl, hb7.out⟩
      · rw [raw_err cb ce cb.length h0] at HRaw
        have t2 : (ce != 0) = true := by simpa using h0
        clear HT
        by_cases hkl : k < l.length
        · have hk1 : ¬ k < 100 := fun e => hgo ⟨hkl, e⟩
          clear hgo
          go_wp2_with fail
          refine HRaw.out.mono ?_
          rintro r w3 ⟨rfl, hu3, hw3⟩
          have HE3 := Lib.hid (err_calls bb _ w3 hu3)
          have hb3 := Lib.hid (Hbw.out.trans (hw3.below (by rw [← Hbb.out]; exact Hbw.out.size) (Nat.le_refl _)))
          clear hu3 hw3
          go_wp2_with fail
          refine HE3.out.mono ?_
          rintro r w5 ⟨rfl, rfl⟩
          go_wp2_with fail
          refine (awake_calls _).mono ?_
          rintro r w6 ⟨rfl, hb6⟩
          have hb7 := Lib.hid (below_up (by rw [Hbb.out]; exact hb3.out) hb6)
          clear hb6
          go_wp2_with fail
          go_ret
          exact ⟨rfl, hb7.out⟩
        · clear hgo
          go_wp2_with fail
          refine HRaw.out.mono ?_
          rintro r w3 ⟨rfl, hu3, hw3⟩
          have HE3 := Lib.hid (err_calls bb _ w3 hu3)
          have hb3 := Lib.hid (Hbw.out.trans (hw3.below (by rw [← Hbb.out]; exact Hbw.out.size) (Nat.le_refl _)))
          clear hu3 hw3
          go_wp2_with fail
          refine HE3.out.mono ?_
          rintro r w5 ⟨rfl, rfl⟩
          go_wp2_with fail
          refine (awake_calls _).mono ?_
          rintro r w6 ⟨rfl, hb6⟩
          have hb7 := Lib.hid (below_up (by rw [Hbb.out]; exact hb3.out) hb6)
          clear hb6
          go_wp2_with fail
          go_ret
          exact ⟨rfl, hb7.out⟩
end Go.Proofs.Ytgdlhcopgfgmaaa.Cur

/- The walk of chapter 9's law BufBack. -/
import Derived.Test.YtgdlhcopgfgmaaaBk
namespace Go.Proofs.Ytgdlhcopgfgmaaa.Bk
open Go.RowKit Go.Proofs.Ytgdlhcopgfgmaaa.Mk Go.Proofs.Ytgdlhcopgfgmaaa.Cur Go.Proofs.Ytgdlhcopgfgmaaa.Buf
theorem back_calls (b : Nat) (x : Buf.St) (m : List UInt8) (w : World) (h : CU b ⟨x.l ++ m, 0⟩ w) (hl : (x.l ++ m).length ≤ 9223372036854775807) (ok : x.Ok) :
    Calls Try.prog 44 #[.pointer (some ⟨b, 0, none⟩), x.v] w (BP b m w) := by
  obtain ⟨k, s, n, hh⟩ := x
  unfold Buf.St.l doL at h hl
  show Calls Try.prog 44 #[.pointer (some ⟨b, 0, none⟩), stepV k s n hh] w (BP b m w)
  by_cases h1 : k = 1
  · subst h1
    simp only [if_true] at h hl
    exact back1 b s n hh m w h hl
  simp only [if_neg h1] at h hl
  by_cases h2 : k = 2
  · subst h2
    simp only [if_true] at h hl
    exact back2 b s n hh m w h hl
  simp only [if_neg h2] at h hl
  by_cases h3 : k = 3
  · subst h3
    simp only [if_true] at h hl
    exact back3 b s n hh m w h hl ok.1
  simp only [if_neg h3] at h hl
  by_cases h4 : k = 4
  · subst h4
    simp only [if_true, List.append_assoc] at h hl
    exact back4 b s n hh m w h hl ok.2.1
  simp only [if_neg h4, List.append_assoc] at h hl
  exact back5 b k (by simpa using h1) (by simpa using h2) (by simpa using h3) (by simpa using h4) s n hh m w h hl
/-- what the steps from k on put -/
def restL (l : List Buf.St) (k : Nat) : List UInt8 := (l.drop k).flatMap Buf.St.l
theorem restL_step (l : List Buf.St) (k : Nat) (h : k < l.length) : restL l k = l[k].l ++ restL l (k + 1) := by
  unfold restL
  rw [List.drop_eq_getElem_cons h, List.flatMap_cons]
theorem restL_end (l : List Buf.St) : restL l l.length = [] := by simp [restL]
theorem restL_all (l : List Buf.St) : allL l l.length = restL l 0 := by unfold allL restL; rw [List.take_length, List.drop_zero]
theorem restL_len (l : List Buf.St) (k : Nat) : (restL l k).length ≤ (restL l 0).length := by
  induction k with
  | zero => exact Nat.le_refl _
  | succ k ih =>
    by_cases h : k < l.length
    · rw [restL_step l k h, List.length_append] at ih
      omega
    · have : restL l (k + 1) = [] := by unfold restL; rw [List.drop_of_length_le (by omega)]; rfl
      rw [this]
      simp
set_option maxHeartbeats 4000000 in
set_option maxRecDepth 100000 in
theorem lawBack_calls (v : Value) (l : List Buf.St) (w : World) (hv : SL Buf.St.c 35 w v l) (hok : ∀ x ∈ l, x.Ok) :
    Calls Try.prog 10 #[v] w fun e w' => e = .returned (.bool true) ∧ Below w.heap.size w w' := by
  have Hmuch := Lib.hid (much_calls v l w hv)
  have hlen := hv.bd
  obtain ⟨A, c, rfl, hlc, hcm, _⟩ := hv.ex
  have HV := Lib.hid hv
  have Hok := Lib.hid hok
  clear hv hok
  go_enter Try.func10, Try.ntmps10
  go_wp2_with fail
  refine Hmuch.out.mono ?_
  rintro e w1 ⟨⟨b, rfl, hb⟩, hb1⟩
  cases b with
  | true =>
    go_wp2_with fail
    refine (Buf.awake_calls _).mono ?_
    rintro e w2 ⟨rfl, hb2⟩
    go_wp2_with fail
    go_ret
    exact ⟨rfl, below_up hb1 hb2⟩
  | false =>
    obtain ⟨h100, h5000⟩ := hb rfl
    go_wp2_with fail
    refine (new_calls _).mono ?_
    rintro e w2 ⟨rfl, hq2, hb2⟩
    have S1 := Lib.hid (show ∃ rb, QB w.heap.size (some w1.heap.size) rb (allL l 0) w2 from ⟨none, QB.weaken hq2 hb1.size⟩)
    have S2 := Lib.hid (below_up hb1 hb2)
    clear hq2 hb2 hb1
    generalize hvb : qv (some w1.heap.size) = vb
    have Hvb := Lib.hid hvb
    clear hvb hb
    obtain ⟨d, hd1, hd2⟩ := Option.map_eq_some_iff.1 rowStep
    have D1 := Lib.hid hd1
    have D2 := Lib.hid hd2
    clear hd1 hd2
    generalize w1.heap.size = bb at *
    have hrange := Lib.hid (show ∀ (k : Nat) (_ : k < l.length) wx, Below w.heap.size w wx → ∃ b0 o0, A = some ⟨b0, o0, none⟩ ∧ wx.rangeAt b0 (o0 + k * 35) l[k].c from fun k hkl wx hbx => by
      obtain ⟨_, _, A', c', he, _, _, hex⟩ := HV.out.below hbx
      cases he
      obtain ⟨b0, o0, hA, hx⟩ := hex (by omega)
      exact ⟨b0, o0, hA, hx k l[k] (List.getElem?_eq_getElem hkl)⟩)
    have hi35 := Lib.hid (show ∀ (k : Nat) (h : k < l.length), (Try.prog.info? 77).map (·.size) = some l[k].c.length from fun k h => by rw [sizeStep, Buf.St.c_len _ (Hok.out _ (List.getElem_mem h))])
    go_wp2_with fail
    go_loopw [4] (fun s4 wr => ∃ k : Nat, k ≤ l.length ∧ s4 = .int .i64 k ∧ Hid (∃ rb, QB w.heap.size (some bb) rb (allL l k) wr) ∧ Hid (Below w.heap.size w wr)) (fun s4 _ => l.length - (intOf s4).toNat)
    case atStart => exact ⟨0, by omega, rfl, S1, S2⟩
    case round =>
      obtain ⟨k, hk, rfl, hq, hbw⟩ := hrel
      have hall := allL_len l Hok.out k hk
      have hsz := sizes_take_le l k
      by_cases hkl : k < l.length
      · obtain ⟨rb, q1⟩ := hq.out
        have hxo : l[k].Ok := Hok.out _ (List.getElem_mem hkl)
        have hxs := size_le l k hkl
        have hsucc := Lib.hid (allL_succ l k hkl)
        obtain ⟨b0, o0, rfl, hr0⟩ := hrange.out k hkl wr hbw.out
        have I35 := Lib.hid (hi35.out k hkl)
        generalize l[k] = x at *
        have D3 := Lib.hid (Buf.do_calls w.heap.size (some bb) rb (allL l k) x wr q1 hxo (by omega))
        rw [Hvb.out] at D3
        have Q1 := Lib.hid q1
        have HR0 := Lib.hid hr0
        have i1 : ¬ (k : Int) < 0 := by omega
        clear q1 hq hall hsz hxs hxo hr0
        unfold Buf.St.v at D3
        go_wp2_with (refine wpList_load_mid rfl 77 _ rfl b0 (o0 + k * 35) rfl x.c d HR0.out D1.out D2.out I35.out ?_)
        refine D3.out.mono ?_
        rintro e w4 ⟨rfl, rb2, p1, pw⟩
        have hb4 := Lib.hid (hbw.out.trans (pw.below Q1.out))
        have P1 := Lib.hid p1
        clear p1 pw
        go_wp2_with fail
        go_roundw
        case rel => exact ⟨k + 1, by omega, by go_num, Lib.hid ⟨rb2, by rw [hsucc.out]; exact P1.out⟩, Lib.hid hb4.out⟩
        case measure => simp [intOf] <;> omega
      · obtain rfl : k = l.length := by omega
        obtain ⟨rb, q1⟩ := hq.out
        have DB := Lib.hid (Buf.bytes_calls w.heap.size (some bb) rb _ wr q1)
        rw [Hvb.out, if_neg (by simp)] at DB
        have Q1 := Lib.hid q1
        have hall0 := hall
        rw [restL_all] at hall0
        have hl0 : (restL l 0).length ≤ 100000 := by omega
        have Hall := Lib.hid (restL_all l)
        clear q1 hq hall hsz hall0
        go_wp2_with fail
        refine DB.out.mono ?_
        rintro e w4 ⟨rfl, p1, pw⟩
        have Hb4 := Lib.hid (hbw.out.trans (pw.below Q1.out))
        clear p1 pw
        go_wp2_with fail
        refine (read_calls _ _).mono ?_
        rintro e w5 ⟨rfl, hu5, hb5⟩
        rw [bs_ba, Hall.out] at hu5
        have U5 := Lib.hid (And.intro hu5 (And.intro (below_up Hb4.out hb5) Hb4.out.size))
        clear hu5 hb5
        go_wp2_with fail
        generalize w4.heap.size = cb at *
        go_loopw [6] (fun s6 wr => ∃ k : Nat, k ≤ l.length ∧ s6 = .int .i64 k ∧ Hid (CU cb ⟨restL l k, 0⟩ wr ∧ Below w.heap.size w wr ∧ w.heap.size ≤ cb)) (fun s6 _ => l.length - (intOf s6).toNat)
        case atStart => exact ⟨0, by omega, rfl, U5⟩
        case round =>
          obtain ⟨k, hk, rfl, hq⟩ := hrel
          obtain ⟨hu, hbw2, hcb⟩ := hq.out
          by_cases hkl : k < l.length
          · have hst := restL_step l k hkl
            have hln := restL_len l k
            rw [hst] at hu hln
            have hxo : l[k].Ok := Hok.out _ (List.getElem_mem hkl)
            obtain ⟨b0, o0, rfl, hr0⟩ := hrange.out k hkl _ hbw2
            have I35 := Lib.hid (hi35.out k hkl)
            clear hst
            generalize l[k] = x at *
            have D3 := Lib.hid (back_calls cb x (restL l (k + 1)) _ hu (by omega) hxo)
            have HR0 := Lib.hid hr0
            have HB2 := Lib.hid hbw2
            have Hcb := Lib.hid hcb
            have i1 : ¬ (k : Int) < 0 := by omega
            clear hu hq hln hxo hr0 hbw2 hcb
            unfold Buf.St.v at D3
            go_wp2_with (refine wpList_load_mid rfl 77 _ rfl b0 (o0 + k * 35) rfl x.c d HR0.out D1.out D2.out I35.out ?_)
            refine D3.out.mono ?_
            rintro e w6 ⟨rfl, hu6, hw6⟩
            have DE := Lib.hid (err_calls cb ⟨restL l (k + 1), 0⟩ w6 hu6)
            have S6 := Lib.hid (And.intro hu6 (And.intro (HB2.out.trans (hw6.below HB2.out.size Hcb.out)) Hcb.out))
            clear hu6 hw6
            go_wp2_with fail
            refine DE.out.mono ?_
            rintro e w7 ⟨rfl, rfl⟩
            go_wp2_with fail
            go_roundw
            case rel => exact ⟨k + 1, by omega, by go_num, S6⟩
            case measure => simp [intOf] <;> omega
          · obtain rfl : k = l.length := by omega
            rw [restL_end] at hu
            have DD := Lib.hid (done_calls cb ⟨[], 0⟩ _ hu (by simp))
            rw [show doneC ⟨[], 0⟩ = 0 from by simp [doneC]] at DD
            have HB2 := Lib.hid hbw2
            clear hu hq hbw2
            go_wp2_with fail
            refine DD.out.mono ?_
            rintro e w6 ⟨rfl, rfl⟩
            go_wp2_with fail
            refine (Buf.awake_calls _).mono ?_
            rintro e w7 ⟨rfl, hb7⟩
            have HB3 := Lib.hid (below_up HB2.out hb7)
            clear hb7
            go_wp2_with fail
            go_ret
            exact ⟨rfl, HB3.out⟩
end Go.Proofs.Ytgdlhcopgfgmaaa.Bk

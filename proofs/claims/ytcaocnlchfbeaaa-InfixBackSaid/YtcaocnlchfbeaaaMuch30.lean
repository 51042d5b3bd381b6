/- The walks of chapter 30's Much and awake. -/
import Derived.Test.YtcaocnlchfbeaaaEnc
import Derived.Test.YtcaocnlchfbeaaaPbMath
namespace Go.Proofs.Ytcaocnlchfbeaaa.Pf
open Go.RowKit Go.Proofs.Ytcaocnlchfbeaaa.Mk Go.Proofs.Ytcaocnlchfbeaaa.Op Go.Proofs.Ytcaocnlchfbeaaa.Hd Go.Proofs.Ytcaocnlchfbeaaa.St Go.Proofs.Ytcaocnlchfbeaaa.Cur Go.Proofs.Ytcaocnlchfbeaaa.Stp Go.Proofs.Ytcaocnlchfbeaaa.Tk
/-- some truth is handed back -/
def isB (e : Ending) : Prop := ∃ b : Bool, e = .returned (.bool b)
theorem sc_path {h : Hd} (k : h.Ok) (o : Opn) (sv : Value) : (sc h o sv)[68]? = some sv := by
  unfold sc
  rw [List.getElem?_append_right (by rw [h.c_len k]; decide), h.c_len k]
  rfl
theorem path_cell {w : World} {b o : Nat} {t : Tr} (k : t.h.Ok) (h : w.rangeAt b o (encS t)) : w.cell? ⟨b, o + 68, none⟩ = some t.v := h 68 _ (sc_path k _ _)
set_option maxHeartbeats 8000000 in
set_option maxRecDepth 100000 in
theorem much_calls (v : Value) (l : List HO) (w : World) (hs : SS w v l) :
    Calls Try.prog 38 #[v] w fun e w' => isB e ∧ w' = w := by
  obtain ⟨A, c, rfl, hbd, _⟩ := hs.at_
  have AT := Lib.hid hs.at_
  clear hs
  go_enter Try.func38, Try.ntmps38
  go_wp2_with fail
  go_loopw [3, 4] (fun s3 s4 wr => ∃ (k : Nat) (t : Int), s4 = .int .i64 (k : Int) ∧ k ≤ l.length ∧ s3 = .int .i64 t ∧ 0 ≤ t ∧ t ≤ 1048576 ∧ w = wr) (fun _ s4 _ => l.length - (intOf s4).toNat)
  case atStart => exact ⟨0, 0, rfl, by omega, rfl, by omega, by omega, rfl⟩
  case round =>
    obtain ⟨k, t, rfl, hk, rfl, ht0, ht1, rfl⟩ := hrel
    by_cases hlt : k < l.length ∧ k < 100
    · obtain ⟨hlt, h100⟩ := hlt
      obtain ⟨_, _, he, _, hx⟩ := AT.out
      cases he
      obtain ⟨b1, o1, tr, rfl, ok1, _, s1, r1⟩ := hx k hlt
      have hc := path_cell ok1 r1
      obtain ⟨_, hpb, A2, c2, hv, hlc, hcm, hex⟩ := s1
      rw [hv] at hc
      have t2 : decide ((k : Int) < (l.length : Int)) = true := decide_eq_true (by omega)
      have t3 : decide ((k : Int) < 100) = true := decide_eq_true (by omega)
      clear hx r1 AT
      go_wp2_with fail
      refine ⟨⟨k + 1, _, by go_num, by omega, rfl, by split <;> omega, by split <;> omega, trivial⟩, by simp [intOf] <;> omega⟩
    · have h2 : (l.length ≤ 40 ∨ (40 < l.length ∧ l.length ≤ 1024)) ∨ ((1024 < l.length ∧ l.length ≤ 1050) ∨ 1050 < l.length) := by omega
      clear AT
      by_cases h1 : k < l.length
      · have t2 : decide ((k : Int) < (l.length : Int)) = true := decide_eq_true (by omega)
        have t3 : decide ((k : Int) < 100) = false := decide_eq_false (by omega)
        rcases h2 with (h2 | ⟨h2, h3⟩) | (⟨h2, h3⟩ | h2)
        all_goals
          go_wp2_with fail
          try (go_ret; exact ⟨⟨_, rfl⟩, rfl⟩)
      · have t2 : decide ((k : Int) < (l.length : Int)) = false := decide_eq_false (by omega)
        rcases h2 with (h2 | ⟨h2, h3⟩) | (⟨h2, h3⟩ | h2)
        all_goals
          go_wp2_with fail
          try (go_ret; exact ⟨⟨_, rfl⟩, rfl⟩)
def t0 : Tr := ⟨hd0, op0, .slice none 0 0⟩
theorem made3 : (madeCells (sc hd0 op0 (.slice none 0 0)).toArray 207).toList = [t0, t0, t0].flatMap encS := by kernel_rfl
theorem encNil : encP [] = ([0], 0) := by
  unfold encP
  rw [if_neg (by decide)]
  show cmb (Num.putL 0) ([], 0) = _
  rw [Num.putL_one 0 (by decide)]
  rfl
theorem enc3 : (encP [t0.ho, t0.ho, t0.ho]).2 = 0 ∧ (encP [t0.ho, t0.ho, t0.ho]).1.length = 232 := by
  have h0 := step0
  have e : ∀ l, (bytesP l).2 = 0 → (bytesP (t0.ho :: l)).2 = 0 ∧ (bytesP (t0.ho :: l)).1.length = 77 + (bytesP l).1.length := fun l hl => by
    rw [show bytesP (t0.ho :: l) = if (stepB hd0 op0).2 ≠ 0 then ([], (stepB hd0 op0).2) else cmb (stepB hd0 op0).1 (bytesP l) from rfl, if_neg (by simp [h0.1])]
    unfold cmb
    rw [if_neg (by simp [hl])]
    exact ⟨rfl, by rw [List.length_append, h0.2]⟩
  have e1 := e [] rfl
  have e2 := e _ e1.1
  have e3 := e _ e2.1
  unfold encP
  rw [if_neg (by simp)]
  unfold cmb
  rw [if_neg (by simp [e3.1])]
  refine ⟨rfl, ?_⟩
  rw [List.length_append, e3.2, e2.2, e1.2, show [t0.ho, t0.ho, t0.ho].length = 3 from rfl, Num.putL_one 3 (by decide)]
  rfl
theorem decZero : decP (bs (ba [0])) = ([], 0) := by
  rw [bs_ba]
  exact dec_enc encNil (fun a h => by cases h)
set_option maxHeartbeats 8000000 in
set_option maxRecDepth 100000 in
theorem awake_calls (w : World) : Calls Try.prog 34 #[] w fun e w' => e = .returned (.bool true) ∧ Below w.heap.size w w' := by
  have HE0 := Lib.hid (encode_calls _ [] w (SS.nil w) (fun t h => by cases h))
  rw [encNil] at HE0
  have HD := Lib.hid (fun wx => decode_calls (ba [0]) wx (by decide))
  rw [decZero] at HD
  have HE3 := Lib.hid (fun v wx h => encode_calls v [t0.ho, t0.ho, t0.ho] wx h (fun t h => by simp at h; rw [h]; exact op0_ok))
  have h32 : (ba (encP [t0.ho, t0.ho, t0.ho]).1).size = 232 := by rw [ba_size, enc3.2]
  rw [enc3.1] at HE3
  generalize ba (encP [t0.ho, t0.ho, t0.ho]).1 = s3 at *
  have hq : ((ba [0]).toList == [0]) = true := by kernel_rfl
  obtain ⟨is, his, his0, his1, his2⟩ := info_parts IStp
  generalize ba [0] = s0 at *
  have b2 : is.bytes * 3 ≤ 281474976710656 := by rw [his2]; omega
  go_enter Try.func34, Try.ntmps34
  go_wp2_with fail
  refine HE0.out.mono ?_
  rintro e w1 ⟨rfl, hb1⟩
  go_wp2_with fail
  refine (HD.out w1).mono ?_
  rintro e w2 ⟨v, rfl, hv, hb2⟩
  obtain ⟨A, c, rfl, _, _⟩ := hv.at_
  clear hv
  have B2 := Lib.hid (below_up hb1 hb2)
  clear hb1 hb2
  go_wp2_with (refine wpList_make_full _ rfl _ _ 23 rfl w2.heap.size 43 is _ 69 USs his his0 his1 .i64 .i64 3 3 3 rfl rfl rfl rfl b2 (by decide) (Nat.le_refl _) ?_)
  intro W hwo hgw
  rw [made3] at hwo
  have hbW : Below w2.heap.size w2 W := (Below.refl _ _).grown hgw (Nat.le_refl _) (fun k hk => by cases hk)
  have hss : SS W (.slice (some ⟨w2.heap.size, 0, none⟩) 3 3) [t0.ho, t0.ho, t0.ho] := ⟨[t0, t0, t0], rfl, SL.of_owns (l := [t0, t0, t0]) hwo (fun t h => by simp at h; rw [h]; exact encS_len hd0_ok) (by decide), fun t h => by simp at h; rw [h]; exact ⟨hd0_ok, SL.nil _ _ _⟩⟩
  have HE := Lib.hid (HE3.out _ W hss)
  have B3 := Lib.hid (below_up B2.out hbW)
  clear hss hwo hgw hbW
  go_wp2_with fail
  refine HE.out.mono ?_
  rintro e w3 ⟨rfl, hb3⟩
  have B4 := Lib.hid (below_up B3.out hb3)
  clear hb3
  go_wp2_with fail
  go_ret
  exact ⟨rfl, B4.out⟩
end Go.Proofs.Ytcaocnlchfbeaaa.Pf

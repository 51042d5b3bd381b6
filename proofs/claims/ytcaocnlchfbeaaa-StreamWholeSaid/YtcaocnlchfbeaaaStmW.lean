/- The walk of a stream's Write. -/
import Derived.Test.YtcaocnlchfbeaaaStmL
namespace Go.Proofs.Ytcaocnlchfbeaaa.Stm
open Go.RowKit Go.Proofs.Ytcaocnlchfbeaaa.Mk Go.Proofs.Ytcaocnlchfbeaaa.Op Go.Proofs.Ytcaocnlchfbeaaa.Hd Go.Proofs.Ytcaocnlchfbeaaa.St Go.Proofs.Ytcaocnlchfbeaaa.Cur Go.Proofs.Ytcaocnlchfbeaaa.Stp Go.Proofs.Ytcaocnlchfbeaaa.Tk Go.Proofs.Ytcaocnlchfbeaaa.Pf
/-- what a round lessens: the steps to come, and whether one is tried -/
def mes (k : Nat) (v : Value) (W : World) : Nat :=
  2 * (match W.cell? ⟨k, 3, none⟩ with | some x => (intOf x).toNat | none => 0) + (match v with | .bool true => 1 | _ => 0)
theorem mes_eq {k : Nat} {s : Stm.St} {W : World} (h : SM k s W) (b : Bool) : mes k (.bool b) W = 2 * s.n.toNat + (if b then 1 else 0) := by
  unfold mes
  rw [h.c3]
  cases b <;> rfl
/-- what holds at a round's head -/
structure WI (A : List UInt8) (k : Nat) (w : World) (s : Stm.St) (ts : List Tr) (more : Bool) (W : World) : Prop where
  sm : SM k s W
  rw_ : RW (k + 1) W s.l ts
  lop : Lop A s (ts.map Tr.ho) more
  but : But (fun i => k ≤ i) w W
theorem app_bs (r : List UInt8) (b : ByteArray) : ba r ++ b = ba (r ++ bs b) := by rw [← ba_append, ba_bs]
/-- a step is taken off the stream -/
theorem taken_calls {A : List UInt8} {k K : Nat} {w W : World} {r : List UInt8} {n : Int} {v : Value} {ts : List Tr} (sm : SM k ⟨1024, r, true, n, v, 0⟩ W) (hrw : RW (k + 1) W v ts) (hb : But (fun i => k ≤ i) w W) (hp : Part A K (ts.map Tr.ho) r) (hn : n = (K : Int) - ((ts.map Tr.ho).length : Int)) (h0 : 0 < n) (hA : A.length ≤ 140737488351232) :
    Calls Try.prog 56 #[.pointer (some ⟨k, 0, none⟩), .func (.func 58) #[.pointer (some ⟨k, 0, none⟩)] #[]] W fun e W' => ∃ (m : Bool) (s' : Stm.St) (ts' : List Tr), e = .returned (.bool m) ∧ WI A k w s' ts' m W' ∧ 2 * s'.n.toNat + (if m then 1 else 0) < 2 * n.toNat + 1 := by
  have hlen := hp.len
  have hle := hp.le
  have hlk := hp.lk
  rw [List.length_map] at hlk hn
  have h := take_gen 58 k ⟨1024, r, true, n, v, 0⟩ (stepC ⟨r, 0⟩).2 (StepQ k ⟨1024, r, true, n, v, 0⟩ ts) (fun i => k ≤ i) W sm StepQ.but
    (fun he => by
      obtain ⟨_, l', _, hq⟩ := step_back (l := r) (h := (stepC ⟨r, 0⟩).1.1) (o := (stepC ⟨r, 0⟩).1.2) (c := (stepC ⟨r, 0⟩).2) rfl he
      exact ⟨l', hq⟩) (by dsimp only; omega) (enters_of Try.func58 (by kernel_rfl) rfl)
    (fun b W2 hs hu hbe hB => step_calls k b ⟨1024, r, true, n, v, 0⟩ ts W2 hs hu (by rw [hbe]; exact sm.lt) (hrw.below hB) h0 (by dsimp only; omega) (by omega) (by dsimp only; omega))
  refine h.mono fun e W' ⟨he, ⟨s', hr, hq, hs⟩, hbt⟩ => ?_
  obtain ⟨ts', g1, g2, g3⟩ := lop_step hp (by rw [List.length_map]; exact hn) h0 hq
  refine ⟨_, _, ts', he, ⟨hs, g1, g2, hb.trans hbt (fun i _ e => by omega)⟩, ?_⟩
  rcases g3 with ⟨g4, g5⟩ | ⟨g4, g5⟩
  · rw [g4, g5]
    simp
    omega
  · rw [g5, show ((stepC ⟨r, 0⟩).2.e == 0) = false by simpa using g4]
    simp
/-- how a round's head is parted: another step, or one of five ends -/
theorem Lop.cases {A : List UInt8} {s : Stm.St} {l : List HO} {more : Bool} (h : Lop A s l more) :
    (more = true ∧ 0 < s.n ∧ s.m = 1024 ∧ s.e = 0 ∧ s.g = true ∧ ∃ K, Part A K l s.r ∧ s.n = (K : Int) - (l.length : Int)) ∨
    ((more = false ∨ (more = true ∧ ¬ 0 < s.n)) ∧ ((s.e ≠ 0 ∧ Inv A ⟨1024, [], s.g, s.n, .slice none 0 0, s.e⟩ [] ∧ (s.g = false ∨ (s.g = true ∧ s.n ≠ 0))) ∨ (s.e = 0 ∧ Inv A s l ∧ (s.g = false ∨ (s.g = true ∧ s.n ≠ 0) ∨ (s.g = true ∧ s.n = 0 ∧ s.r = []))) ∨ (s.e = 0 ∧ s.g = true ∧ s.n = 0 ∧ s.r ≠ [] ∧ Inv A ⟨1024, [], true, 0, .slice none 0 0, 2⟩ []))) := by
  obtain ⟨hm, ⟨he, hmo, hb, hg⟩ | ⟨he, hmo, hg, hr, hn, hl, hne⟩ | ⟨he, hg, K, hp, hn, hq⟩⟩ := h
  · refine .inr ⟨.inl hmo, .inl ⟨he, ⟨rfl, .inl ⟨he, hb⟩⟩, ?_⟩⟩
    cases hgg : s.g with
    | false => exact .inl rfl
    | true => exact .inr ⟨rfl, by rcases hg with hg | hg; rw [hgg] at hg; cases hg; omega⟩
  · exact .inr ⟨.inl hmo, .inr (.inl ⟨he, ⟨hm, .inr (.inl ⟨he, hg, hr, hn, hl, hne⟩)⟩, .inl hg⟩)⟩
  · have hlk := hp.lk
    cases more with
    | true =>
      by_cases h0 : 0 < s.n
      · exact .inl ⟨rfl, h0, hm, he, hg, K, hp, hn⟩
      · have hn0 : s.n = 0 := by omega
        refine .inr ⟨.inr ⟨rfl, h0⟩, ?_⟩
        by_cases hr : s.r = []
        · exact .inr (.inl ⟨he, ⟨hm, .inr (.inr ⟨he, hg, K, hp, hn, .inl ⟨by omega, hr⟩⟩)⟩, .inr (.inr ⟨hg, hn0, hr⟩)⟩)
        · exact .inr (.inr ⟨he, hg, hn0, hr, rfl, .inl ⟨by decide, hp.form (by omega) hr⟩⟩)
    | false =>
      obtain ⟨q1, q2⟩ := hq rfl
      exact .inr ⟨.inl rfl, .inr (.inl ⟨he, ⟨hm, .inr (.inr ⟨he, hg, K, hp, hn, .inr ⟨q1, q2⟩⟩)⟩, .inr (.inl ⟨hg, by omega⟩)⟩)⟩
theorem st_nil {w : World} {a : Addr} {old : Value} (h : w.cell? a = some old) (hf : w.frozen? a = false) : (Instr.storeAt 23 (.pointer (some a)) (.slice none 0 0)).run Try.prog w = .ok () (w.setCell a (.slice none 0 0)) := by go_simp
theorem nil_eq (r : List UInt8) (h : r ≠ []) : (ba r).toList.isEmpty = false := by
  rw [bs_toList, bs_ba]
  cases r with
  | nil => exact absurd rfl h
  | cons a l => rfl
theorem count_r (s : Stm.St) (c : C) : (countS s c).1.r = s.r := by
  unfold countS
  split
  · rfl
  split <;> rfl
theorem count_b (A : List UInt8) (s : Stm.St) (h : (countS s ⟨A, 0⟩).2.e = 0) : ∃ t, A = t ++ (countS s ⟨A, 0⟩).2.b := by
  unfold countS at h ⊢
  rw [top_eq64] at h ⊢
  by_cases h0 : (numC ⟨A, 0⟩ top).2.e = 0
  · rw [if_neg (by simpa using h0)] at h ⊢
    by_cases h1 : s.m < ((numC ⟨A, 0⟩ top).1 : Int)
    · rw [if_pos h1] at h
      dsimp only at h
      unfold failC at h
      rw [if_pos ⟨h0, by decide⟩] at h
      cases h
    · rw [if_neg h1]
      obtain ⟨_, h2⟩ := num_back (l := A) (m := top) (n := (numC ⟨A, 0⟩ top).1) (c := (numC ⟨A, 0⟩ top).2) rfl h0
      exact ⟨_, h2⟩
  · rw [if_pos (by simpa using h0)] at h
    exact absurd h h0
theorem taken_count {A : List UInt8} {k : Nat} {w W : World} {v : Value} (sm : SM k ⟨1024, A, false, 0, v, 0⟩ W) (hrw : RW (k + 1) W v []) (hb : But (fun i => k ≤ i) w W) (hA : A.length ≤ 140737488351232) :
    Calls Try.prog 56 #[.pointer (some ⟨k, 0, none⟩), .func (.func 57) #[.pointer (some ⟨k, 0, none⟩)] #[]] W fun e W' => ∃ (m : Bool) (s' : Stm.St), e = .returned (.bool m) ∧ WI A k w s' [] m W' := by
  have h := take_calls 57 k ⟨1024, A, false, 0, v, 0⟩ (countS ⟨1024, A, false, 0, v, 0⟩ ⟨A, 0⟩).1 (countS ⟨1024, A, false, 0, v, 0⟩ ⟨A, 0⟩).2 (fun _ => False) W sm (count_r _ _) (count_b A _) hA (enters_of Try.func57 (by kernel_rfl) rfl)
    (fun b W2 hs hu hbe hB => (count_calls k b _ ⟨A, 0⟩ W2 hs hu (by have := sm.lt; omega) (show (0 : Int) ≤ 1024 by decide) (show (1024 : Int) ≤ 1024 by decide) (by dsimp only; omega)).mono (fun r W' ⟨h0, h1, h2, h3⟩ => ⟨h0, h1, h2, h3.mono (fun i _ e => by rcases e with e | e; exact .inl e; exact .inr (.inl e))⟩))
  obtain ⟨g1, g2⟩ := lop_count A v
  refine h.mono fun e W' ⟨he, hs, hbt⟩ => ⟨_, _, he, ⟨hs, ?_, g1, hb.trans hbt (fun i _ e => by rcases e with e | e; omega; exact e.elim)⟩⟩
  rw [g2]
  exact hrw.but hbt (fun i e => by rcases e with e | e; omega; exact e.elim)
set_option maxHeartbeats 8000000 in
set_option maxRecDepth 100000 in
theorem write_calls (k : Nat) (A0 : List UInt8) (s : Stm.St) (ts : List Tr) (w : World) (h : SM k s w) (hrw : RW (k + 1) w s.l ts) (hi : Inv A0 s (ts.map Tr.ho)) (b : ByteArray) (hA : A0.length + b.size ≤ 140737488351232) :
    Calls Try.prog 14 #[.pointer (some ⟨k, 0, none⟩), .string b] w fun e w' => ∃ (x : Int) (s' : Stm.St) (ts' : List Tr), e = .returned (.int .i64 x) ∧ SM k s' w' ∧ RW (k + 1) w' s'.l ts' ∧ Inv (A0 ++ bs b) s' (ts'.map Tr.ho) ∧ But (fun i => k ≤ i) w w' := by
  have hmf : ∀ (fn : Fn) (first cap : Array Value) (w : World), (Instr.makeFunc fn first cap).run Try.prog w = .ok (.func fn first cap) w := fun _ _ _ _ => rfl
  have HZ := Lib.hid (fun e : s.e ≠ 0 => show Inv (A0 ++ bs b) s (ts.map Tr.ho) from by
    obtain ⟨hm, ⟨_, hb⟩ | ⟨he, _⟩ | ⟨he, _⟩⟩ := hi
    · exact ⟨hm, .inl ⟨e, hb.more _⟩⟩
    · exact absurd he e
    · exact absurd he e)
  obtain ⟨A, hAA⟩ : ∃ A, A = A0 ++ bs b := ⟨_, rfl⟩
  rw [← hAA]
  rw [← hAA] at HZ
  have hLA : A.length ≤ 140737488351232 := by rw [hAA, List.length_append, bs_len]; exact hA
  obtain ⟨m, r, g, n, l, e⟩ := s
  dsimp only at *
  have hks := h.lt
  have c1 := h.c1
  have c2 := h.c2
  have c5 := h.c5
  have f1 := h.fz 1
  dsimp only at c1 c2 c5
  by_cases he : e ≠ 0
  · have t1 : (e != 0) = true := by simpa using he
    have HZ := Lib.hid (HZ.out he)
    have H0 := Lib.hid (And.intro h hrw)
    clear he h hrw hi hAA
    go_enter Try.func14, Try.ntmps14
    go_wp2_with fail
    go_ret
    exact ⟨_, _, ts, rfl, H0.out.1, H0.out.2, HZ.out, But.refl _ _⟩
  obtain rfl : e = 0 := by simpa using he
  clear HZ he
  have hap := app_bs r b
  have HS := Lib.hid (h.set1 (r ++ bs b))
  have HB := Lib.hid ((But.refl (fun i => k ≤ i) w).setCell (p := ⟨k, 1, none⟩) (Nat.le_refl k) (.string (ba (r ++ bs b))))
  have HR := Lib.hid (hrw.but (w' := w.setCell ⟨k, 1, none⟩ (.string (ba (r ++ bs b)))) (But.setCell (S := fun i => i = k) (But.refl _ _) (p := ⟨k, 1, none⟩) rfl _) (fun i e => by omega))
  clear h hrw
  obtain ⟨hm, ⟨he, _⟩ | ⟨-, hg, hr, hn, hl, hne⟩ | ⟨-, hg, K, hp, hn, -⟩⟩ := hi
  · exact absurd rfl he
  · dsimp only at *
    subst hm
    subst hg
    subst hn
    subst hr
    rw [← hAA] at hap HS HB HR
    have hts : ts = [] := List.map_eq_nil_iff.1 hl
    subst hts
    have HT := Lib.hid (taken_count HS.out HR.out HB.out hLA)
    have hadd : ¬ 9223372036854775807 < (ba r).size + b.size := by
      have e1 := congrArg List.length hAA
      rw [List.length_append, bs_len] at e1
      rw [ba_size]
      omega
    clear hne hl HS HB HR hAA
    go_enter Try.func14, Try.ntmps14
    go_wp2_with fail
    refine HT.out.mono ?_
    rintro e w3 ⟨m3, s3, rfl, I3⟩
    have I3 := Lib.hid I3
    clear HT c1 c2 c5 f1 hap hadd
    go_wp2_with fail
    go_loopw [5] (fun s5 wr => ∃ (more : Bool) (s : Stm.St) (ts : List Tr), s5 = .bool more ∧ Hid (WI A k w s ts more wr)) (fun s5 wr => mes k s5 wr)
    case atStart => exact ⟨m3, s3, [], rfl, I3⟩
    case round =>
      obtain ⟨more, s, ts, rfl, I⟩ := hrel
      have hks := I.out.sm.lt
      have hm := I.out.lop.1
      rcases I.out.lop.cases with ⟨rfl, h0, -, he, hg, K, hp, hn⟩ | ⟨hmore, hend⟩
      · obtain ⟨m, r, g, n, l, e⟩ := s
        dsimp only at h0 hm he hg hp hn
        subst hm
        subst he
        subst hg
        have c3 := I.out.sm.c3
        have HT := Lib.hid (taken_calls I.out.sm I.out.rw_ I.out.but hp hn h0 hLA)
        have hms := Lib.hid (mes_eq I.out.sm true)
        have t1 : decide ((0 : Int) < n) = true := decide_eq_true h0
        clear hp hn
        dsimp only at c3
        go_wp2_with fail
        refine HT.out.mono ?_
        rintro e w5 ⟨m5, s5, ts5, rfl, I5, hme⟩
        go_wp2_with fail
        go_roundw
        case rel => exact ⟨m5, s5, ts5, rfl, Lib.hid I5⟩
        case measure => rw [mes_eq I5.sm, hms.out]; simpa using hme
      · obtain ⟨m, r, g, n, l, e⟩ := s
        dsimp only at hm hmore hend
        subst hm
        have c1 := I.out.sm.c1
        have c2 := I.out.sm.c2
        have c3 := I.out.sm.c3
        have c4 := I.out.sm.c4
        have c5 := I.out.sm.c5
        have f1 := I.out.sm.fz 1
        have f4 := I.out.sm.fz 4
        dsimp only at c1 c2 c3 c4 c5
        rcases hmore with rfl | ⟨rfl, h0⟩
        · skip
          rcases hend with ⟨he, hi, hg⟩ | ⟨he, hi, hg⟩ | ⟨he, hg, hn, hr, hi⟩
          · have t2 : (e != 0) = true := by simpa using he
            have hi := Lib.hid hi
            rcases hg with hg | ⟨hg, hn⟩
            · subst hg
              have SZ := Lib.hid ((I.out.sm.set1 []).set4 (.slice none 0 0))
              have BZ := Lib.hid ((I.out.but.setCell (p := ⟨k, 1, none⟩) (Nat.le_refl k) (.string (ba []))).setCell (p := ⟨k, 4, none⟩) (Nat.le_refl k) (.slice none 0 0))
              go_wp2_with fail
              go_ret
              first | exact ⟨⟨_, rfl⟩, _, SZ.out, [], RW.nil _ _, hi.out, BZ.out⟩ | exact ⟨_, _, [], rfl, SZ.out, RW.nil _ _, hi.out, BZ.out⟩
            · subst hg
              have t3 : (n == 0) = false := by simpa using hn
              have SZ := Lib.hid ((I.out.sm.set1 []).set4 (.slice none 0 0))
              have BZ := Lib.hid ((I.out.but.setCell (p := ⟨k, 1, none⟩) (Nat.le_refl k) (.string (ba []))).setCell (p := ⟨k, 4, none⟩) (Nat.le_refl k) (.slice none 0 0))
              go_wp2_with fail
              go_ret
              first | exact ⟨⟨_, rfl⟩, _, SZ.out, [], RW.nil _ _, hi.out, BZ.out⟩ | exact ⟨_, _, [], rfl, SZ.out, RW.nil _ _, hi.out, BZ.out⟩
          · subst he
            have hi := Lib.hid hi
            rcases hg with hg | ⟨hg, hn⟩ | ⟨hg, hn, hr⟩
            · subst hg
              go_wp2_with fail
              go_ret
              first | exact ⟨⟨_, rfl⟩, _, I.out.sm, ts, I.out.rw_, hi.out, I.out.but⟩ | exact ⟨_, _, ts, rfl, I.out.sm, I.out.rw_, hi.out, I.out.but⟩
            · subst hg
              have t3 : (n == 0) = false := by simpa using hn
              go_wp2_with fail
              go_ret
              first | exact ⟨⟨_, rfl⟩, _, I.out.sm, ts, I.out.rw_, hi.out, I.out.but⟩ | exact ⟨_, _, ts, rfl, I.out.sm, I.out.rw_, hi.out, I.out.but⟩
            · subst hg
              subst hn
              subst hr
              rw [show ba ([] : List UInt8) = ⟨#[]⟩ from rfl] at c1
              go_wp2_with fail
              go_ret
              first | exact ⟨⟨_, rfl⟩, _, I.out.sm, ts, I.out.rw_, hi.out, I.out.but⟩ | exact ⟨_, _, ts, rfl, I.out.sm, I.out.rw_, hi.out, I.out.but⟩
          · subst he
            subst hg
            subst hn
            have t3 := nil_eq r hr
            have HF := Lib.hid (stfail_calls k ⟨1024, r, true, 0, l, 0⟩ 2 _ I.out.sm)
            have hi := Lib.hid hi
            go_wp2_with fail
            refine HF.out.mono ?_
            rintro x w7 ⟨rfl, hs7, hb7⟩
            have hs7 : SM k ⟨1024, r, true, 0, l, 2⟩ w7 := hs7
            clear c1 c2 c3 c5 c4 f1 f4
            have c5 := hs7.c5
            have c1 := hs7.c1
            have c4 := hs7.c4
            have f1 := hs7.fz 1
            have f4 := hs7.fz 4
            have SZ := Lib.hid ((hs7.set1 []).set4 (.slice none 0 0))
            have BZ := Lib.hid (((I.out.but.trans hb7 (fun i _ e => by omega)).setCell (p := ⟨k, 1, none⟩) (Nat.le_refl k) (.string (ba []))).setCell (p := ⟨k, 4, none⟩) (Nat.le_refl k) (.slice none 0 0))
            clear hs7 hb7
            dsimp only at c1 c4 c5
            go_wp2_with fail
            go_ret
            first | exact ⟨⟨_, rfl⟩, _, SZ.out, [], RW.nil _ _, hi.out, BZ.out⟩ | exact ⟨_, _, [], rfl, SZ.out, RW.nil _ _, hi.out, BZ.out⟩
        · have t0 : decide ((0 : Int) < n) = false := decide_eq_false h0
          rcases hend with ⟨he, hi, hg⟩ | ⟨he, hi, hg⟩ | ⟨he, hg, hn, hr, hi⟩
          · have t2 : (e != 0) = true := by simpa using he
            have hi := Lib.hid hi
            rcases hg with hg | ⟨hg, hn⟩
            · subst hg
              have SZ := Lib.hid ((I.out.sm.set1 []).set4 (.slice none 0 0))
              have BZ := Lib.hid ((I.out.but.setCell (p := ⟨k, 1, none⟩) (Nat.le_refl k) (.string (ba []))).setCell (p := ⟨k, 4, none⟩) (Nat.le_refl k) (.slice none 0 0))
              go_wp2_with fail
              go_ret
              first | exact ⟨⟨_, rfl⟩, _, SZ.out, [], RW.nil _ _, hi.out, BZ.out⟩ | exact ⟨_, _, [], rfl, SZ.out, RW.nil _ _, hi.out, BZ.out⟩
            · subst hg
              have t3 : (n == 0) = false := by simpa using hn
              have SZ := Lib.hid ((I.out.sm.set1 []).set4 (.slice none 0 0))
              have BZ := Lib.hid ((I.out.but.setCell (p := ⟨k, 1, none⟩) (Nat.le_refl k) (.string (ba []))).setCell (p := ⟨k, 4, none⟩) (Nat.le_refl k) (.slice none 0 0))
              go_wp2_with fail
              go_ret
              first | exact ⟨⟨_, rfl⟩, _, SZ.out, [], RW.nil _ _, hi.out, BZ.out⟩ | exact ⟨_, _, [], rfl, SZ.out, RW.nil _ _, hi.out, BZ.out⟩
          · subst he
            have hi := Lib.hid hi
            rcases hg with hg | ⟨hg, hn⟩ | ⟨hg, hn, hr⟩
            · subst hg
              go_wp2_with fail
              go_ret
              first | exact ⟨⟨_, rfl⟩, _, I.out.sm, ts, I.out.rw_, hi.out, I.out.but⟩ | exact ⟨_, _, ts, rfl, I.out.sm, I.out.rw_, hi.out, I.out.but⟩
            · subst hg
              have t3 : (n == 0) = false := by simpa using hn
              go_wp2_with fail
              go_ret
              first | exact ⟨⟨_, rfl⟩, _, I.out.sm, ts, I.out.rw_, hi.out, I.out.but⟩ | exact ⟨_, _, ts, rfl, I.out.sm, I.out.rw_, hi.out, I.out.but⟩
            · subst hg
              subst hn
              subst hr
              rw [show ba ([] : List UInt8) = ⟨#[]⟩ from rfl] at c1
              go_wp2_with fail
              go_ret
              first | exact ⟨⟨_, rfl⟩, _, I.out.sm, ts, I.out.rw_, hi.out, I.out.but⟩ | exact ⟨_, _, ts, rfl, I.out.sm, I.out.rw_, hi.out, I.out.but⟩
          · subst he
            subst hg
            subst hn
            have t3 := nil_eq r hr
            have HF := Lib.hid (stfail_calls k ⟨1024, r, true, 0, l, 0⟩ 2 _ I.out.sm)
            have hi := Lib.hid hi
            go_wp2_with fail
            refine HF.out.mono ?_
            rintro x w7 ⟨rfl, hs7, hb7⟩
            have hs7 : SM k ⟨1024, r, true, 0, l, 2⟩ w7 := hs7
            clear c1 c2 c3 c5 c4 f1 f4
            have c5 := hs7.c5
            have c1 := hs7.c1
            have c4 := hs7.c4
            have f1 := hs7.fz 1
            have f4 := hs7.fz 4
            have SZ := Lib.hid ((hs7.set1 []).set4 (.slice none 0 0))
            have BZ := Lib.hid (((I.out.but.trans hb7 (fun i _ e => by omega)).setCell (p := ⟨k, 1, none⟩) (Nat.le_refl k) (.string (ba []))).setCell (p := ⟨k, 4, none⟩) (Nat.le_refl k) (.slice none 0 0))
            clear hs7 hb7
            dsimp only at c1 c4 c5
            go_wp2_with fail
            go_ret
            first | exact ⟨⟨_, rfl⟩, _, SZ.out, [], RW.nil _ _, hi.out, BZ.out⟩ | exact ⟨_, _, [], rfl, SZ.out, RW.nil _ _, hi.out, BZ.out⟩
  · dsimp only at *
    subst hm
    subst hg
    have I3 := Lib.hid (show WI A k w ⟨1024, r ++ bs b, true, n, l, 0⟩ ts true (w.setCell ⟨k, 1, none⟩ (.string (ba (r ++ bs b)))) from ⟨HS.out, HR.out, by rw [hAA]; exact lop_more (bs b) hp hn, HB.out⟩)
    have hadd : ¬ 9223372036854775807 < (ba r).size + b.size := by
      have e1 := congrArg List.length hAA
      have e2 := hp.len
      rw [List.length_append, bs_len] at e1
      rw [ba_size]
      omega
    have c2' : (w.setCell ⟨k, 1, none⟩ (.string (ba (r ++ bs b)))).cell? ⟨k, 2, none⟩ = some (.bool true) := HS.out.c2
    clear HS HB HR hAA hp hn
    go_enter Try.func14, Try.ntmps14
    go_wp2_with fail
    generalize World.setCell w _ _ = W1 at *
    clear c1 c2 c5 f1 hap hadd c2'
    go_loopw [5] (fun s5 wr => ∃ (more : Bool) (s : Stm.St) (ts : List Tr), s5 = .bool more ∧ Hid (WI A k w s ts more wr)) (fun s5 wr => mes k s5 wr)
    case atStart => exact ⟨true, _, ts, rfl, I3⟩
    case round =>
      obtain ⟨more, s, ts, rfl, I⟩ := hrel
      have hks := I.out.sm.lt
      have hm := I.out.lop.1
      rcases I.out.lop.cases with ⟨rfl, h0, -, he, hg, K, hp, hn⟩ | ⟨hmore, hend⟩
      · obtain ⟨m, r, g, n, l, e⟩ := s
        dsimp only at h0 hm he hg hp hn
        subst hm
        subst he
        subst hg
        have c3 := I.out.sm.c3
        have HT := Lib.hid (taken_calls I.out.sm I.out.rw_ I.out.but hp hn h0 hLA)
        have hms := Lib.hid (mes_eq I.out.sm true)
        have t1 : decide ((0 : Int) < n) = true := decide_eq_true h0
        clear hp hn
        dsimp only at c3
        go_wp2_with fail
        refine HT.out.mono ?_
        rintro e w5 ⟨m5, s5, ts5, rfl, I5, hme⟩
        go_wp2_with fail
        go_roundw
        case rel => exact ⟨m5, s5, ts5, rfl, Lib.hid I5⟩
        case measure => rw [mes_eq I5.sm, hms.out]; simpa using hme
      · obtain ⟨m, r, g, n, l, e⟩ := s
        dsimp only at hm hmore hend
        subst hm
        have c1 := I.out.sm.c1
        have c2 := I.out.sm.c2
        have c3 := I.out.sm.c3
        have c4 := I.out.sm.c4
        have c5 := I.out.sm.c5
        have f1 := I.out.sm.fz 1
        have f4 := I.out.sm.fz 4
        dsimp only at c1 c2 c3 c4 c5
        rcases hmore with rfl | ⟨rfl, h0⟩
        · skip
          rcases hend with ⟨he, hi, hg⟩ | ⟨he, hi, hg⟩ | ⟨he, hg, hn, hr, hi⟩
          · have t2 : (e != 0) = true := by simpa using he
            have hi := Lib.hid hi
            rcases hg with hg | ⟨hg, hn⟩
            · subst hg
              have SZ := Lib.hid ((I.out.sm.set1 []).set4 (.slice none 0 0))
              have BZ := Lib.hid ((I.out.but.setCell (p := ⟨k, 1, none⟩) (Nat.le_refl k) (.string (ba []))).setCell (p := ⟨k, 4, none⟩) (Nat.le_refl k) (.slice none 0 0))
              go_wp2_with fail
              go_ret
              first | exact ⟨⟨_, rfl⟩, _, SZ.out, [], RW.nil _ _, hi.out, BZ.out⟩ | exact ⟨_, _, [], rfl, SZ.out, RW.nil _ _, hi.out, BZ.out⟩
            · subst hg
              have t3 : (n == 0) = false := by simpa using hn
              have SZ := Lib.hid ((I.out.sm.set1 []).set4 (.slice none 0 0))
              have BZ := Lib.hid ((I.out.but.setCell (p := ⟨k, 1, none⟩) (Nat.le_refl k) (.string (ba []))).setCell (p := ⟨k, 4, none⟩) (Nat.le_refl k) (.slice none 0 0))
              go_wp2_with fail
              go_ret
              first | exact ⟨⟨_, rfl⟩, _, SZ.out, [], RW.nil _ _, hi.out, BZ.out⟩ | exact ⟨_, _, [], rfl, SZ.out, RW.nil _ _, hi.out, BZ.out⟩
          · subst he
            have hi := Lib.hid hi
            rcases hg with hg | ⟨hg, hn⟩ | ⟨hg, hn, hr⟩
            · subst hg
              go_wp2_with fail
              go_ret
              first | exact ⟨⟨_, rfl⟩, _, I.out.sm, ts, I.out.rw_, hi.out, I.out.but⟩ | exact ⟨_, _, ts, rfl, I.out.sm, I.out.rw_, hi.out, I.out.but⟩
            · subst hg
              have t3 : (n == 0) = false := by simpa using hn
              go_wp2_with fail
              go_ret
              first | exact ⟨⟨_, rfl⟩, _, I.out.sm, ts, I.out.rw_, hi.out, I.out.but⟩ | exact ⟨_, _, ts, rfl, I.out.sm, I.out.rw_, hi.out, I.out.but⟩
            · subst hg
              subst hn
              subst hr
              rw [show ba ([] : List UInt8) = ⟨#[]⟩ from rfl] at c1
              go_wp2_with fail
              go_ret
              first | exact ⟨⟨_, rfl⟩, _, I.out.sm, ts, I.out.rw_, hi.out, I.out.but⟩ | exact ⟨_, _, ts, rfl, I.out.sm, I.out.rw_, hi.out, I.out.but⟩
          · subst he
            subst hg
            subst hn
            have t3 := nil_eq r hr
            have HF := Lib.hid (stfail_calls k ⟨1024, r, true, 0, l, 0⟩ 2 _ I.out.sm)
            have hi := Lib.hid hi
            go_wp2_with fail
            refine HF.out.mono ?_
            rintro x w7 ⟨rfl, hs7, hb7⟩
            have hs7 : SM k ⟨1024, r, true, 0, l, 2⟩ w7 := hs7
            clear c1 c2 c3 c5 c4 f1 f4
            have c5 := hs7.c5
            have c1 := hs7.c1
            have c4 := hs7.c4
            have f1 := hs7.fz 1
            have f4 := hs7.fz 4
            have SZ := Lib.hid ((hs7.set1 []).set4 (.slice none 0 0))
            have BZ := Lib.hid (((I.out.but.trans hb7 (fun i _ e => by omega)).setCell (p := ⟨k, 1, none⟩) (Nat.le_refl k) (.string (ba []))).setCell (p := ⟨k, 4, none⟩) (Nat.le_refl k) (.slice none 0 0))
            clear hs7 hb7
            dsimp only at c1 c4 c5
            go_wp2_with fail
            go_ret
            first | exact ⟨⟨_, rfl⟩, _, SZ.out, [], RW.nil _ _, hi.out, BZ.out⟩ | exact ⟨_, _, [], rfl, SZ.out, RW.nil _ _, hi.out, BZ.out⟩
        · have t0 : decide ((0 : Int) < n) = false := decide_eq_false h0
          rcases hend with ⟨he, hi, hg⟩ | ⟨he, hi, hg⟩ | ⟨he, hg, hn, hr, hi⟩
          · have t2 : (e != 0) = true := by simpa using he
            have hi := Lib.hid hi
            rcases hg with hg | ⟨hg, hn⟩
            · subst hg
              have SZ := Lib.hid ((I.out.sm.set1 []).set4 (.slice none 0 0))
              have BZ := Lib.hid ((I.out.but.setCell (p := ⟨k, 1, none⟩) (Nat.le_refl k) (.string (ba []))).setCell (p := ⟨k, 4, none⟩) (Nat.le_refl k) (.slice none 0 0))
              go_wp2_with fail
              go_ret
              first | exact ⟨⟨_, rfl⟩, _, SZ.out, [], RW.nil _ _, hi.out, BZ.out⟩ | exact ⟨_, _, [], rfl, SZ.out, RW.nil _ _, hi.out, BZ.out⟩
            · subst hg
              have t3 : (n == 0) = false := by simpa using hn
              have SZ := Lib.hid ((I.out.sm.set1 []).set4 (.slice none 0 0))
              have BZ := Lib.hid ((I.out.but.setCell (p := ⟨k, 1, none⟩) (Nat.le_refl k) (.string (ba []))).setCell (p := ⟨k, 4, none⟩) (Nat.le_refl k) (.slice none 0 0))
              go_wp2_with fail
              go_ret
              first | exact ⟨⟨_, rfl⟩, _, SZ.out, [], RW.nil _ _, hi.out, BZ.out⟩ | exact ⟨_, _, [], rfl, SZ.out, RW.nil _ _, hi.out, BZ.out⟩
          · subst he
            have hi := Lib.hid hi
            rcases hg with hg | ⟨hg, hn⟩ | ⟨hg, hn, hr⟩
            · subst hg
              go_wp2_with fail
              go_ret
              first | exact ⟨⟨_, rfl⟩, _, I.out.sm, ts, I.out.rw_, hi.out, I.out.but⟩ | exact ⟨_, _, ts, rfl, I.out.sm, I.out.rw_, hi.out, I.out.but⟩
            · subst hg
              have t3 : (n == 0) = false := by simpa using hn
              go_wp2_with fail
              go_ret
              first | exact ⟨⟨_, rfl⟩, _, I.out.sm, ts, I.out.rw_, hi.out, I.out.but⟩ | exact ⟨_, _, ts, rfl, I.out.sm, I.out.rw_, hi.out, I.out.but⟩
            · subst hg
              subst hn
              subst hr
              rw [show ba ([] : List UInt8) = ⟨#[]⟩ from rfl] at c1
              go_wp2_with fail
              go_ret
              first | exact ⟨⟨_, rfl⟩, _, I.out.sm, ts, I.out.rw_, hi.out, I.out.but⟩ | exact ⟨_, _, ts, rfl, I.out.sm, I.out.rw_, hi.out, I.out.but⟩
          · subst he
            subst hg
            subst hn
            have t3 := nil_eq r hr
            have HF := Lib.hid (stfail_calls k ⟨1024, r, true, 0, l, 0⟩ 2 _ I.out.sm)
            have hi := Lib.hid hi
            go_wp2_with fail
            refine HF.out.mono ?_
            rintro x w7 ⟨rfl, hs7, hb7⟩
            have hs7 : SM k ⟨1024, r, true, 0, l, 2⟩ w7 := hs7
            clear c1 c2 c3 c5 c4 f1 f4
            have c5 := hs7.c5
            have c1 := hs7.c1
            have c4 := hs7.c4
            have f1 := hs7.fz 1
            have f4 := hs7.fz 4
            have SZ := Lib.hid ((hs7.set1 []).set4 (.slice none 0 0))
            have BZ := Lib.hid (((I.out.but.trans hb7 (fun i _ e => by omega)).setCell (p := ⟨k, 1, none⟩) (Nat.le_refl k) (.string (ba []))).setCell (p := ⟨k, 4, none⟩) (Nat.le_refl k) (.slice none 0 0))
            clear hs7 hb7
            dsimp only at c1 c4 c5
            go_wp2_with fail
            go_ret
            first | exact ⟨⟨_, rfl⟩, _, SZ.out, [], RW.nil _ _, hi.out, BZ.out⟩ | exact ⟨_, _, [], rfl, SZ.out, RW.nil _ _, hi.out, BZ.out⟩
end Go.Proofs.Ytcaocnlchfbeaaa.Stm

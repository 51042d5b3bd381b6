/- The walk of a stream's take, whatever is taken. -/
import Derived.Test.YtcaocnlchfbeaaaStm
import Derived.Test.YtcaocnlchfbeaaaBa
import Derived.Deep.RegionHeld3
namespace Go.Proofs.Ytcaocnlchfbeaaa.Stm
open Go.RowKit Go.Proofs.Ytcaocnlchfbeaaa.Mk Go.Proofs.Ytcaocnlchfbeaaa.Cur
theorem ldS {w : World} {p : Addr} {v : Value} (h : w.cell? p = some v) : (Instr.loadAt 9 (.pointer (some p))).run Try.prog w = .ok v w := by go_simp
theorem stS {w : World} {p : Addr} {x : ByteArray} {u : Value} (h : w.cell? p = some u) (hf : w.frozen? p = false) : (Instr.storeAt 9 (.pointer (some p)) (.string x)).run Try.prog w = .ok () (w.setCell p (.string x)) := by go_simp
/-- what is left behind a take: of the stream as it was, as 'one' left it, and the cursor -/
def takeS (s : St) (d : C) : St := if d.e = 0 then { s with r := d.b } else if d.e = 1 then s else failS s d.e
theorem wp_callT {P : Program} {o : Oper} {a : Act} {w : World} {K : Act → World → Prop} {Q : Exit → Act → World → Prop} (f : FuncId) (args : Array Value) (hrun : (execOp a.eval o).run P w = .ok (.enter f args) w) {post : Ending → World → Prop} (hc : Calls P f args w post)
    (h : ∀ e w', post e w' → ∃ v, e = .returned v ∧ K (a.put o.dst v) w') : Oper.wp P o a w K Q := by
  unfold Oper.wp
  rw [hrun, Oper.upon_enter]
  refine hc.mono fun e w' hp => ?_
  obtain ⟨v, rfl, hk⟩ := h e w' hp
  exact hk
theorem rest_extract (l m : List UInt8) (h : ∃ t, l = t ++ m) : (ba l).extract (l.length - m.length) l.length = ba m := by
  obtain ⟨t, rfl⟩ := h
  apply ByteArray.ext
  apply Array.ext'
  simp [ba]
set_option maxHeartbeats 8000000 in
set_option maxRecDepth 100000 in
theorem take_calls (f : FuncId) (k : Nat) (s s' : St) (d : C) (S : Nat → Prop) (w : World) (h : SM k s w) (hr : s'.r = s.r) (hd : d.e = 0 → ∃ t, s.r = t ++ d.b) (hlen : s.r.length ≤ 140737488351232)
    (he : ∀ args w, (callFunc f args).run Try.prog w = .ok (.enter f args) w)
    (hone : ∀ b W, SM k s W → CU b ⟨s.r, 0⟩ W → b = w.heap.size → Below w.heap.size w W → Calls Try.prog f #[.pointer (some ⟨k, 0, none⟩), .pointer (some ⟨b, 0, none⟩)] W fun r W' => r = .returned (.tuple #[]) ∧ CU b d W' ∧ SM k s' W' ∧ But (fun i => i = b ∨ i = k ∨ S i) W W') :
    Calls Try.prog 56 #[.pointer (some ⟨k, 0, none⟩), .func (.func f) #[.pointer (some ⟨k, 0, none⟩)] #[]] w fun r w' => r = .returned (.bool (d.e == 0)) ∧ SM k (takeS s' d) w' ∧ But (fun i => i = k ∨ S i) w w' := by
  have hkl := h.lt
  have c1 := h.c1
  have H := Lib.hid h
  have HO := Lib.hid hone
  have hzz : (ba s.r).size = s.r.length := rfl
  clear hone h
  go_enter Try.func56, Try.ntmps56
  go_wp2_with fail
  refine (read_calls _ _).mono ?_
  rintro e w2 ⟨rfl, hu2, hb2⟩
  rw [bs_ba] at hu2
  have H2 := Lib.hid (H.out.keep hb2)
  have U2 := Lib.hid hu2
  have B2 := Lib.hid hb2
  clear hu2 hb2 c1
  go_wp2_with fail
  refine (HO.out w.heap.size w2 H2.out U2.out rfl B2.out).mono ?_
  rintro e w3 ⟨rfl, hu3, hs3, hb3⟩
  have hbt : But (fun i => i = k ∨ S i) w w3 := (But.of_below (S := fun i => i = k ∨ S i) B2.out).trans hb3 (fun i hi hs => by
    rcases hs with rfl | rfl | hs
    · omega
    · exact .inl rfl
    · exact .inr hs)
  have H3 := Lib.hid hs3
  have U3 := Lib.hid hu3
  have W3 := Lib.hid hbt
  have hne : w.heap.size ≠ k := by omega
  clear hu3 hs3 hb3 hbt H2 U2 B2 HO H he
  go_wp2_with fail
  refine (err_calls _ d _ U3.out).mono ?_
  rintro e w4 ⟨rfl, rfl⟩
  by_cases h0 : d.e = 0
  · have T0 := Lib.hid (show (d.e == 0) = true by simpa using h0)
    obtain ⟨t, ht⟩ := hd h0
    have HT : Hid (takeS s' d = { s' with r := d.b }) := Lib.hid (by unfold takeS; rw [if_pos h0])
    have hle : s.r.length = t.length + d.b.length := by rw [ht, List.length_append]
    have hex := rest_extract s.r d.b ⟨t, ht⟩
    rw [show s.r.length - d.b.length = t.length by omega] at hex
    have c1 := Lib.hid (show w4.cell? ⟨k, 1, none⟩ = some (.string (ba s.r)) by rw [← hr]; exact H3.out.c1)
    have f1 := Lib.hid (H3.out.fz 1)
    have HS := Lib.hid (H3.out.set1 d.b)
    rw [h0]
    have q1 : IntKind.i64.wrap ((s.r.length : Int) - (d.b.length : Int)) = (t.length : Int) := by rw [IntWalk.i64_in _ (by omega)]; omega
    have i1 : (t.length : Int) ≤ (s.r.length : Int) := by omega
    have i2 : t.length ≤ s.r.length := by omega
    clear h0 hd ht hle
    go_wp2_with fail
    have C1 := Lib.hid (show (World.drew w4).cell? ⟨k, 1, none⟩ = some (.string (ba s.r)) from c1.out)
    have F1 := Lib.hid (show (World.drew w4).frozen? ⟨k, 1, none⟩ = false from f1.out)
    have HU := Lib.hid (show CU w.heap.size d (World.drew w4) from U3.out)
    have HS := Lib.hid (show SM k { s' with r := d.b } ((World.drew w4).setCell ⟨k, 1, none⟩ (.string (ba d.b))) from HS.out)
    have W4 := Lib.hid (show But (fun i => i = k ∨ S i) w (World.drew w4) from ⟨W3.out.os, W3.out.tape, W3.out.output, W3.out.size, W3.out.block⟩)
    refine wp_region_any (by kernel_rfl) ?_
    change wpAny _ _ _ _ _ _ _ (World.drew _)
    clear c1 f1 W3
    generalize World.drew w4 = X0 at *
    refine wpAny_take (i := 0) (oi := ⟨some 23, _, _, _, _, _⟩) (v := .pointer (some ⟨k, 0, none⟩)) rfl (by kernel_rfl) (by kernel_rfl) (by kernel_rfl) (fun _ _ _ h => h) (Or.inl ⟨by rfl, by intro wx; go_simp⟩) ?_
    try simp only [Act.put, List.setIfInBounds_toArray, List.set_cons_zero, List.set_cons_succ]
    refine wpAny_take (i := 1) (oi := ⟨some 24, _, _, _, _, _⟩) (v := .pointer (some ⟨k, 0, none⟩)) rfl (by kernel_rfl) (by kernel_rfl) (by kernel_rfl) (fun _ _ _ h => h) (Or.inl ⟨by rfl, by intro wx; go_simp⟩) ?_
    try simp only [Act.put, List.setIfInBounds_toArray, List.set_cons_zero, List.set_cons_succ]
    refine wpAny_take (i := 2) (oi := ⟨some 25, _, _, _, _, _⟩) (v := .pointer (some ⟨k, 0, none⟩)) rfl (by kernel_rfl) (by kernel_rfl) (by kernel_rfl) (fun _ _ _ h => h) (Or.inl ⟨by rfl, by intro wx; go_simp⟩) ?_
    try simp only [Act.put, List.setIfInBounds_toArray, List.set_cons_zero, List.set_cons_succ]
    refine wpAny_take (i := 3) (oi := ⟨some 26, _, _, _, _, _⟩) (v := .pointer (some ⟨k, 1, none⟩)) rfl (by kernel_rfl) (by kernel_rfl) (by kernel_rfl) (fun _ _ _ h => h) (Or.inl ⟨by rfl, by intro wx; go_simp⟩) ?_
    try simp only [Act.put, List.setIfInBounds_toArray, List.set_cons_zero, List.set_cons_succ]
    refine wpAny_take (i := 5) (oi := ⟨some 28, _, _, _, _, _⟩) (v := .pointer (some ⟨k, 0, none⟩)) rfl (by kernel_rfl) (by kernel_rfl) (by kernel_rfl) (fun _ _ _ h => h) (Or.inl ⟨by rfl, by intro wx; go_simp⟩) ?_
    try simp only [Act.put, List.setIfInBounds_toArray, List.set_cons_zero, List.set_cons_succ]
    refine wpAny_take (i := 6) (oi := ⟨some 29, _, _, _, _, _⟩) (v := .pointer (some ⟨k, 0, none⟩)) rfl (by kernel_rfl) (by kernel_rfl) (by kernel_rfl) (fun _ _ _ h => h) (Or.inl ⟨by rfl, by intro wx; go_simp⟩) ?_
    try simp only [Act.put, List.setIfInBounds_toArray, List.set_cons_zero, List.set_cons_succ]
    refine wpAny_take (i := 7) (oi := ⟨some 30, _, _, _, _, _⟩) (v := .pointer (some ⟨k, 1, none⟩)) rfl (by kernel_rfl) (by kernel_rfl) (by kernel_rfl) (fun _ _ _ h => h) (Or.inl ⟨by rfl, by intro wx; go_simp⟩) ?_
    try simp only [Act.put, List.setIfInBounds_toArray, List.set_cons_zero, List.set_cons_succ]
    refine wpAny_take (i := 10) (oi := ⟨some 33, _, _, _, _, _⟩) (v := .pointer (some ⟨w.heap.size, 0, none⟩)) rfl (by kernel_rfl) (by kernel_rfl) (by kernel_rfl) (fun _ _ _ h => h) (Or.inl ⟨by rfl, by intro wx; go_simp⟩) ?_
    try simp only [Act.put, List.setIfInBounds_toArray, List.set_cons_zero, List.set_cons_succ]
    refine wpAny_ready (rs := [4, 8, 11]) (by kernel_rfl) (by simp) ?_
    refine AllReady.cons rfl (fun K hK => ?_) (AllReady.cons rfl (fun K hK => ?_) (AllReady.cons rfl (fun K hK => ?_) AllReady.nil))
    · refine step_load rfl 9 _ rfl _ rfl (.string (ba s.r)) (ldS C1.out) ?_
      refine hK (Act.put _ (some 27) _) _ ?_
      try simp only [Act.put, List.setIfInBounds_toArray, List.set_cons_zero, List.set_cons_succ]
      clear hK K
      refine wpAny_ready (rs := [8, 11]) (by kernel_rfl) (by simp) ?_
      refine AllReady.cons rfl (fun K hK => ?_) (AllReady.cons rfl (fun K hK => ?_) AllReady.nil)
      · refine step_load rfl 9 _ rfl _ rfl (.string (ba s.r)) (ldS C1.out) ?_
        refine hK (Act.put _ (some 31) _) _ ?_
        try simp only [Act.put, List.setIfInBounds_toArray, List.set_cons_zero, List.set_cons_succ]
        clear hK K
        refine wpAny_take (i := 9) (oi := ⟨some 32, _, _, _, _, _⟩) (v := .int .i64 (s.r.length : Int)) rfl (by kernel_rfl) (by kernel_rfl) (by kernel_rfl) (fun _ _ _ h => h) (Or.inl ⟨by rfl, by intro wx; go_simp⟩) ?_
        try simp only [Act.put, List.setIfInBounds_toArray, List.set_cons_zero, List.set_cons_succ]
        refine wpAny_ready (rs := [11]) (by kernel_rfl) (by simp) ?_
        refine AllReady.cons rfl (fun K hK => ?_) AllReady.nil
        · rw [if_pos (by kernel_rfl)]
          refine wp_callT _ _ (by go_simp) (left_calls _ d X0 HU.out) ?_
          rintro e w9 ⟨rfl, hw9⟩
          refine ⟨_, rfl, ?_⟩
          rw [hw9]
          clear hw9 w9
          refine hK (Act.put _ (some 34) _) _ ?_
          try simp only [Act.put, List.setIfInBounds_toArray, List.set_cons_zero, List.set_cons_succ]
          clear hK K
          refine wpAny_take (i := 12) (oi := ⟨some 35, _, _, _, _, _⟩) (v := .int .i64 (t.length : Int)) rfl (by kernel_rfl) (by kernel_rfl) (by kernel_rfl) (fun _ _ _ h => h) (Or.inl ⟨by rfl, by intro wx; go_simp⟩) ?_
          try simp only [Act.put, List.setIfInBounds_toArray, List.set_cons_zero, List.set_cons_succ]
          refine wpAny_take (i := 13) (oi := ⟨some 36, _, _, _, _, _⟩) (v := .string (ba d.b)) rfl (by kernel_rfl) (by kernel_rfl) (by kernel_rfl) (fun _ _ _ h => h) (Or.inl ⟨by rfl, by intro wx; go_simp⟩) ?_
          try simp only [Act.put, List.setIfInBounds_toArray, List.set_cons_zero, List.set_cons_succ]
          refine wpAny_take (i := 14) (oi := ⟨some 37, _, _, _, _, _⟩) (v := .pointer (some ⟨k, 0, none⟩)) rfl (by kernel_rfl) (by kernel_rfl) (by kernel_rfl) (fun _ _ _ h => h) (Or.inl ⟨by rfl, by intro wx; go_simp⟩) ?_
          try simp only [Act.put, List.setIfInBounds_toArray, List.set_cons_zero, List.set_cons_succ]
          refine wpAny_take (i := 15) (oi := ⟨some 38, _, _, _, _, _⟩) (v := .pointer (some ⟨k, 1, none⟩)) rfl (by kernel_rfl) (by kernel_rfl) (by kernel_rfl) (fun _ _ _ h => h) (Or.inl ⟨by rfl, by intro wx; go_simp⟩) ?_
          try simp only [Act.put, List.setIfInBounds_toArray, List.set_cons_zero, List.set_cons_succ]
          refine wpAny_ready (rs := [16]) (by kernel_rfl) (by simp) ?_
          refine AllReady.cons rfl (fun K hK => ?_) AllReady.nil
          · refine step_store rfl 9 _ _ rfl _ rfl (.string (ba d.b)) rfl _ (stS C1.out F1.out) ?_
            have hS4 := HS.out
            have hW4 := W4.out.setCell (p := ⟨k, 1, none⟩) (.inl rfl) (.string (ba d.b))
            generalize World.setCell X0 _ _ = V4 at *
            have Z4 := Lib.hid (And.intro hS4 hW4)
            clear hS4 hW4
            try dsimp only
            refine hK (Act.put _ none _) _ ?_
            try simp only [Act.put, List.setIfInBounds_toArray, List.set_cons_zero, List.set_cons_succ]
            clear hK K
            refine wpAny_done (by kernel_rfl) ?_ _
            go_wp2_with fail
            go_ret
            refine ⟨by rw [T0.out]; rfl, ?_, ?_⟩
            · rw [HT.out]
              first | exact Z1.out.1 | exact Z2.out.1 | exact Z3.out.1 | exact Z4.out.1 | exact Z5.out.1 | exact Z6.out.1 | exact Z7.out.1 | exact Z8.out.1 | exact Z9.out.1 | exact Z10.out.1 | exact Z11.out.1 | exact Z12.out.1 | exact Z13.out.1 | exact Z14.out.1 | exact Z15.out.1 | exact Z16.out.1 | exact Z17.out.1 | exact Z18.out.1 | exact Z19.out.1 | exact Z20.out.1 | exact Z21.out.1 | exact Z22.out.1 | exact Z23.out.1 | exact Z24.out.1
            · first | exact Z1.out.2 | exact Z2.out.2 | exact Z3.out.2 | exact Z4.out.2 | exact Z5.out.2 | exact Z6.out.2 | exact Z7.out.2 | exact Z8.out.2 | exact Z9.out.2 | exact Z10.out.2 | exact Z11.out.2 | exact Z12.out.2 | exact Z13.out.2 | exact Z14.out.2 | exact Z15.out.2 | exact Z16.out.2 | exact Z17.out.2 | exact Z18.out.2 | exact Z19.out.2 | exact Z20.out.2 | exact Z21.out.2 | exact Z22.out.2 | exact Z23.out.2 | exact Z24.out.2
      · rw [if_pos (by kernel_rfl)]
        refine wp_callT _ _ (by go_simp) (left_calls _ d X0 HU.out) ?_
        rintro e w9 ⟨rfl, hw9⟩
        refine ⟨_, rfl, ?_⟩
        rw [hw9]
        clear hw9 w9
        refine hK (Act.put _ (some 34) _) _ ?_
        try simp only [Act.put, List.setIfInBounds_toArray, List.set_cons_zero, List.set_cons_succ]
        clear hK K
        refine wpAny_ready (rs := [8]) (by kernel_rfl) (by simp) ?_
        refine AllReady.cons rfl (fun K hK => ?_) AllReady.nil
        · refine step_load rfl 9 _ rfl _ rfl (.string (ba s.r)) (ldS C1.out) ?_
          refine hK (Act.put _ (some 31) _) _ ?_
          try simp only [Act.put, List.setIfInBounds_toArray, List.set_cons_zero, List.set_cons_succ]
          clear hK K
          refine wpAny_take (i := 9) (oi := ⟨some 32, _, _, _, _, _⟩) (v := .int .i64 (s.r.length : Int)) rfl (by kernel_rfl) (by kernel_rfl) (by kernel_rfl) (fun _ _ _ h => h) (Or.inl ⟨by rfl, by intro wx; go_simp⟩) ?_
          try simp only [Act.put, List.setIfInBounds_toArray, List.set_cons_zero, List.set_cons_succ]
          refine wpAny_take (i := 12) (oi := ⟨some 35, _, _, _, _, _⟩) (v := .int .i64 (t.length : Int)) rfl (by kernel_rfl) (by kernel_rfl) (by kernel_rfl) (fun _ _ _ h => h) (Or.inl ⟨by rfl, by intro wx; go_simp⟩) ?_
          try simp only [Act.put, List.setIfInBounds_toArray, List.set_cons_zero, List.set_cons_succ]
          refine wpAny_take (i := 13) (oi := ⟨some 36, _, _, _, _, _⟩) (v := .string (ba d.b)) rfl (by kernel_rfl) (by kernel_rfl) (by kernel_rfl) (fun _ _ _ h => h) (Or.inl ⟨by rfl, by intro wx; go_simp⟩) ?_
          try simp only [Act.put, List.setIfInBounds_toArray, List.set_cons_zero, List.set_cons_succ]
          refine wpAny_take (i := 14) (oi := ⟨some 37, _, _, _, _, _⟩) (v := .pointer (some ⟨k, 0, none⟩)) rfl (by kernel_rfl) (by kernel_rfl) (by kernel_rfl) (fun _ _ _ h => h) (Or.inl ⟨by rfl, by intro wx; go_simp⟩) ?_
          try simp only [Act.put, List.setIfInBounds_toArray, List.set_cons_zero, List.set_cons_succ]
          refine wpAny_take (i := 15) (oi := ⟨some 38, _, _, _, _, _⟩) (v := .pointer (some ⟨k, 1, none⟩)) rfl (by kernel_rfl) (by kernel_rfl) (by kernel_rfl) (fun _ _ _ h => h) (Or.inl ⟨by rfl, by intro wx; go_simp⟩) ?_
          try simp only [Act.put, List.setIfInBounds_toArray, List.set_cons_zero, List.set_cons_succ]
          refine wpAny_ready (rs := [16]) (by kernel_rfl) (by simp) ?_
          refine AllReady.cons rfl (fun K hK => ?_) AllReady.nil
          · refine step_store rfl 9 _ _ rfl _ rfl (.string (ba d.b)) rfl _ (stS C1.out F1.out) ?_
            have hS7 := HS.out
            have hW7 := W4.out.setCell (p := ⟨k, 1, none⟩) (.inl rfl) (.string (ba d.b))
            generalize World.setCell X0 _ _ = V7 at *
            have Z7 := Lib.hid (And.intro hS7 hW7)
            clear hS7 hW7
            try dsimp only
            refine hK (Act.put _ none _) _ ?_
            try simp only [Act.put, List.setIfInBounds_toArray, List.set_cons_zero, List.set_cons_succ]
            clear hK K
            refine wpAny_done (by kernel_rfl) ?_ _
            go_wp2_with fail
            go_ret
            refine ⟨by rw [T0.out]; rfl, ?_, ?_⟩
            · rw [HT.out]
              first | exact Z1.out.1 | exact Z2.out.1 | exact Z3.out.1 | exact Z4.out.1 | exact Z5.out.1 | exact Z6.out.1 | exact Z7.out.1 | exact Z8.out.1 | exact Z9.out.1 | exact Z10.out.1 | exact Z11.out.1 | exact Z12.out.1 | exact Z13.out.1 | exact Z14.out.1 | exact Z15.out.1 | exact Z16.out.1 | exact Z17.out.1 | exact Z18.out.1 | exact Z19.out.1 | exact Z20.out.1 | exact Z21.out.1 | exact Z22.out.1 | exact Z23.out.1 | exact Z24.out.1
            · first | exact Z1.out.2 | exact Z2.out.2 | exact Z3.out.2 | exact Z4.out.2 | exact Z5.out.2 | exact Z6.out.2 | exact Z7.out.2 | exact Z8.out.2 | exact Z9.out.2 | exact Z10.out.2 | exact Z11.out.2 | exact Z12.out.2 | exact Z13.out.2 | exact Z14.out.2 | exact Z15.out.2 | exact Z16.out.2 | exact Z17.out.2 | exact Z18.out.2 | exact Z19.out.2 | exact Z20.out.2 | exact Z21.out.2 | exact Z22.out.2 | exact Z23.out.2 | exact Z24.out.2
    · refine step_load rfl 9 _ rfl _ rfl (.string (ba s.r)) (ldS C1.out) ?_
      refine hK (Act.put _ (some 31) _) _ ?_
      try simp only [Act.put, List.setIfInBounds_toArray, List.set_cons_zero, List.set_cons_succ]
      clear hK K
      refine wpAny_take (i := 9) (oi := ⟨some 32, _, _, _, _, _⟩) (v := .int .i64 (s.r.length : Int)) rfl (by kernel_rfl) (by kernel_rfl) (by kernel_rfl) (fun _ _ _ h => h) (Or.inl ⟨by rfl, by intro wx; go_simp⟩) ?_
      try simp only [Act.put, List.setIfInBounds_toArray, List.set_cons_zero, List.set_cons_succ]
      refine wpAny_ready (rs := [4, 11]) (by kernel_rfl) (by simp) ?_
      refine AllReady.cons rfl (fun K hK => ?_) (AllReady.cons rfl (fun K hK => ?_) AllReady.nil)
      · refine step_load rfl 9 _ rfl _ rfl (.string (ba s.r)) (ldS C1.out) ?_
        refine hK (Act.put _ (some 27) _) _ ?_
        try simp only [Act.put, List.setIfInBounds_toArray, List.set_cons_zero, List.set_cons_succ]
        clear hK K
        refine wpAny_ready (rs := [11]) (by kernel_rfl) (by simp) ?_
        refine AllReady.cons rfl (fun K hK => ?_) AllReady.nil
        · rw [if_pos (by kernel_rfl)]
          refine wp_callT _ _ (by go_simp) (left_calls _ d X0 HU.out) ?_
          rintro e w9 ⟨rfl, hw9⟩
          refine ⟨_, rfl, ?_⟩
          rw [hw9]
          clear hw9 w9
          refine hK (Act.put _ (some 34) _) _ ?_
          try simp only [Act.put, List.setIfInBounds_toArray, List.set_cons_zero, List.set_cons_succ]
          clear hK K
          refine wpAny_take (i := 12) (oi := ⟨some 35, _, _, _, _, _⟩) (v := .int .i64 (t.length : Int)) rfl (by kernel_rfl) (by kernel_rfl) (by kernel_rfl) (fun _ _ _ h => h) (Or.inl ⟨by rfl, by intro wx; go_simp⟩) ?_
          try simp only [Act.put, List.setIfInBounds_toArray, List.set_cons_zero, List.set_cons_succ]
          refine wpAny_take (i := 13) (oi := ⟨some 36, _, _, _, _, _⟩) (v := .string (ba d.b)) rfl (by kernel_rfl) (by kernel_rfl) (by kernel_rfl) (fun _ _ _ h => h) (Or.inl ⟨by rfl, by intro wx; go_simp⟩) ?_
          try simp only [Act.put, List.setIfInBounds_toArray, List.set_cons_zero, List.set_cons_succ]
          refine wpAny_take (i := 14) (oi := ⟨some 37, _, _, _, _, _⟩) (v := .pointer (some ⟨k, 0, none⟩)) rfl (by kernel_rfl) (by kernel_rfl) (by kernel_rfl) (fun _ _ _ h => h) (Or.inl ⟨by rfl, by intro wx; go_simp⟩) ?_
          try simp only [Act.put, List.setIfInBounds_toArray, List.set_cons_zero, List.set_cons_succ]
          refine wpAny_take (i := 15) (oi := ⟨some 38, _, _, _, _, _⟩) (v := .pointer (some ⟨k, 1, none⟩)) rfl (by kernel_rfl) (by kernel_rfl) (by kernel_rfl) (fun _ _ _ h => h) (Or.inl ⟨by rfl, by intro wx; go_simp⟩) ?_
          try simp only [Act.put, List.setIfInBounds_toArray, List.set_cons_zero, List.set_cons_succ]
          refine wpAny_ready (rs := [16]) (by kernel_rfl) (by simp) ?_
          refine AllReady.cons rfl (fun K hK => ?_) AllReady.nil
          · refine step_store rfl 9 _ _ rfl _ rfl (.string (ba d.b)) rfl _ (stS C1.out F1.out) ?_
            have hS11 := HS.out
            have hW11 := W4.out.setCell (p := ⟨k, 1, none⟩) (.inl rfl) (.string (ba d.b))
            generalize World.setCell X0 _ _ = V11 at *
            have Z11 := Lib.hid (And.intro hS11 hW11)
            clear hS11 hW11
            try dsimp only
            refine hK (Act.put _ none _) _ ?_
            try simp only [Act.put, List.setIfInBounds_toArray, List.set_cons_zero, List.set_cons_succ]
            clear hK K
            refine wpAny_done (by kernel_rfl) ?_ _
            go_wp2_with fail
            go_ret
            refine ⟨by rw [T0.out]; rfl, ?_, ?_⟩
            · rw [HT.out]
              first | exact Z1.out.1 | exact Z2.out.1 | exact Z3.out.1 | exact Z4.out.1 | exact Z5.out.1 | exact Z6.out.1 | exact Z7.out.1 | exact Z8.out.1 | exact Z9.out.1 | exact Z10.out.1 | exact Z11.out.1 | exact Z12.out.1 | exact Z13.out.1 | exact Z14.out.1 | exact Z15.out.1 | exact Z16.out.1 | exact Z17.out.1 | exact Z18.out.1 | exact Z19.out.1 | exact Z20.out.1 | exact Z21.out.1 | exact Z22.out.1 | exact Z23.out.1 | exact Z24.out.1
            · first | exact Z1.out.2 | exact Z2.out.2 | exact Z3.out.2 | exact Z4.out.2 | exact Z5.out.2 | exact Z6.out.2 | exact Z7.out.2 | exact Z8.out.2 | exact Z9.out.2 | exact Z10.out.2 | exact Z11.out.2 | exact Z12.out.2 | exact Z13.out.2 | exact Z14.out.2 | exact Z15.out.2 | exact Z16.out.2 | exact Z17.out.2 | exact Z18.out.2 | exact Z19.out.2 | exact Z20.out.2 | exact Z21.out.2 | exact Z22.out.2 | exact Z23.out.2 | exact Z24.out.2
      · rw [if_pos (by kernel_rfl)]
        refine wp_callT _ _ (by go_simp) (left_calls _ d X0 HU.out) ?_
        rintro e w9 ⟨rfl, hw9⟩
        refine ⟨_, rfl, ?_⟩
        rw [hw9]
        clear hw9 w9
        refine hK (Act.put _ (some 34) _) _ ?_
        try simp only [Act.put, List.setIfInBounds_toArray, List.set_cons_zero, List.set_cons_succ]
        clear hK K
        refine wpAny_take (i := 12) (oi := ⟨some 35, _, _, _, _, _⟩) (v := .int .i64 (t.length : Int)) rfl (by kernel_rfl) (by kernel_rfl) (by kernel_rfl) (fun _ _ _ h => h) (Or.inl ⟨by rfl, by intro wx; go_simp⟩) ?_
        try simp only [Act.put, List.setIfInBounds_toArray, List.set_cons_zero, List.set_cons_succ]
        refine wpAny_ready (rs := [4]) (by kernel_rfl) (by simp) ?_
        refine AllReady.cons rfl (fun K hK => ?_) AllReady.nil
        · refine step_load rfl 9 _ rfl _ rfl (.string (ba s.r)) (ldS C1.out) ?_
          refine hK (Act.put _ (some 27) _) _ ?_
          try simp only [Act.put, List.setIfInBounds_toArray, List.set_cons_zero, List.set_cons_succ]
          clear hK K
          refine wpAny_take (i := 13) (oi := ⟨some 36, _, _, _, _, _⟩) (v := .string (ba d.b)) rfl (by kernel_rfl) (by kernel_rfl) (by kernel_rfl) (fun _ _ _ h => h) (Or.inl ⟨by rfl, by intro wx; go_simp⟩) ?_
          try simp only [Act.put, List.setIfInBounds_toArray, List.set_cons_zero, List.set_cons_succ]
          refine wpAny_take (i := 14) (oi := ⟨some 37, _, _, _, _, _⟩) (v := .pointer (some ⟨k, 0, none⟩)) rfl (by kernel_rfl) (by kernel_rfl) (by kernel_rfl) (fun _ _ _ h => h) (Or.inl ⟨by rfl, by intro wx; go_simp⟩) ?_
          try simp only [Act.put, List.setIfInBounds_toArray, List.set_cons_zero, List.set_cons_succ]
          refine wpAny_take (i := 15) (oi := ⟨some 38, _, _, _, _, _⟩) (v := .pointer (some ⟨k, 1, none⟩)) rfl (by kernel_rfl) (by kernel_rfl) (by kernel_rfl) (fun _ _ _ h => h) (Or.inl ⟨by rfl, by intro wx; go_simp⟩) ?_
          try simp only [Act.put, List.setIfInBounds_toArray, List.set_cons_zero, List.set_cons_succ]
          refine wpAny_ready (rs := [16]) (by kernel_rfl) (by simp) ?_
          refine AllReady.cons rfl (fun K hK => ?_) AllReady.nil
          · refine step_store rfl 9 _ _ rfl _ rfl (.string (ba d.b)) rfl _ (stS C1.out F1.out) ?_
            have hS14 := HS.out
            have hW14 := W4.out.setCell (p := ⟨k, 1, none⟩) (.inl rfl) (.string (ba d.b))
            generalize World.setCell X0 _ _ = V14 at *
            have Z14 := Lib.hid (And.intro hS14 hW14)
            clear hS14 hW14
            try dsimp only
            refine hK (Act.put _ none _) _ ?_
            try simp only [Act.put, List.setIfInBounds_toArray, List.set_cons_zero, List.set_cons_succ]
            clear hK K
            refine wpAny_done (by kernel_rfl) ?_ _
            go_wp2_with fail
            go_ret
            refine ⟨by rw [T0.out]; rfl, ?_, ?_⟩
            · rw [HT.out]
              first | exact Z1.out.1 | exact Z2.out.1 | exact Z3.out.1 | exact Z4.out.1 | exact Z5.out.1 | exact Z6.out.1 | exact Z7.out.1 | exact Z8.out.1 | exact Z9.out.1 | exact Z10.out.1 | exact Z11.out.1 | exact Z12.out.1 | exact Z13.out.1 | exact Z14.out.1 | exact Z15.out.1 | exact Z16.out.1 | exact Z17.out.1 | exact Z18.out.1 | exact Z19.out.1 | exact Z20.out.1 | exact Z21.out.1 | exact Z22.out.1 | exact Z23.out.1 | exact Z24.out.1
            · first | exact Z1.out.2 | exact Z2.out.2 | exact Z3.out.2 | exact Z4.out.2 | exact Z5.out.2 | exact Z6.out.2 | exact Z7.out.2 | exact Z8.out.2 | exact Z9.out.2 | exact Z10.out.2 | exact Z11.out.2 | exact Z12.out.2 | exact Z13.out.2 | exact Z14.out.2 | exact Z15.out.2 | exact Z16.out.2 | exact Z17.out.2 | exact Z18.out.2 | exact Z19.out.2 | exact Z20.out.2 | exact Z21.out.2 | exact Z22.out.2 | exact Z23.out.2 | exact Z24.out.2
    · rw [if_pos (by kernel_rfl)]
      refine wp_callT _ _ (by go_simp) (left_calls _ d X0 HU.out) ?_
      rintro e w9 ⟨rfl, hw9⟩
      refine ⟨_, rfl, ?_⟩
      rw [hw9]
      clear hw9 w9
      refine hK (Act.put _ (some 34) _) _ ?_
      try simp only [Act.put, List.setIfInBounds_toArray, List.set_cons_zero, List.set_cons_succ]
      clear hK K
      refine wpAny_ready (rs := [4, 8]) (by kernel_rfl) (by simp) ?_
      refine AllReady.cons rfl (fun K hK => ?_) (AllReady.cons rfl (fun K hK => ?_) AllReady.nil)
      · refine step_load rfl 9 _ rfl _ rfl (.string (ba s.r)) (ldS C1.out) ?_
        refine hK (Act.put _ (some 27) _) _ ?_
        try simp only [Act.put, List.setIfInBounds_toArray, List.set_cons_zero, List.set_cons_succ]
        clear hK K
        refine wpAny_ready (rs := [8]) (by kernel_rfl) (by simp) ?_
        refine AllReady.cons rfl (fun K hK => ?_) AllReady.nil
        · refine step_load rfl 9 _ rfl _ rfl (.string (ba s.r)) (ldS C1.out) ?_
          refine hK (Act.put _ (some 31) _) _ ?_
          try simp only [Act.put, List.setIfInBounds_toArray, List.set_cons_zero, List.set_cons_succ]
          clear hK K
          refine wpAny_take (i := 9) (oi := ⟨some 32, _, _, _, _, _⟩) (v := .int .i64 (s.r.length : Int)) rfl (by kernel_rfl) (by kernel_rfl) (by kernel_rfl) (fun _ _ _ h => h) (Or.inl ⟨by rfl, by intro wx; go_simp⟩) ?_
          try simp only [Act.put, List.setIfInBounds_toArray, List.set_cons_zero, List.set_cons_succ]
          refine wpAny_take (i := 12) (oi := ⟨some 35, _, _, _, _, _⟩) (v := .int .i64 (t.length : Int)) rfl (by kernel_rfl) (by kernel_rfl) (by kernel_rfl) (fun _ _ _ h => h) (Or.inl ⟨by rfl, by intro wx; go_simp⟩) ?_
          try simp only [Act.put, List.setIfInBounds_toArray, List.set_cons_zero, List.set_cons_succ]
          refine wpAny_take (i := 13) (oi := ⟨some 36, _, _, _, _, _⟩) (v := .string (ba d.b)) rfl (by kernel_rfl) (by kernel_rfl) (by kernel_rfl) (fun _ _ _ h => h) (Or.inl ⟨by rfl, by intro wx; go_simp⟩) ?_
          try simp only [Act.put, List.setIfInBounds_toArray, List.set_cons_zero, List.set_cons_succ]
          refine wpAny_take (i := 14) (oi := ⟨some 37, _, _, _, _, _⟩) (v := .pointer (some ⟨k, 0, none⟩)) rfl (by kernel_rfl) (by kernel_rfl) (by kernel_rfl) (fun _ _ _ h => h) (Or.inl ⟨by rfl, by intro wx; go_simp⟩) ?_
          try simp only [Act.put, List.setIfInBounds_toArray, List.set_cons_zero, List.set_cons_succ]
          refine wpAny_take (i := 15) (oi := ⟨some 38, _, _, _, _, _⟩) (v := .pointer (some ⟨k, 1, none⟩)) rfl (by kernel_rfl) (by kernel_rfl) (by kernel_rfl) (fun _ _ _ h => h) (Or.inl ⟨by rfl, by intro wx; go_simp⟩) ?_
          try simp only [Act.put, List.setIfInBounds_toArray, List.set_cons_zero, List.set_cons_succ]
          refine wpAny_ready (rs := [16]) (by kernel_rfl) (by simp) ?_
          refine AllReady.cons rfl (fun K hK => ?_) AllReady.nil
          · refine step_store rfl 9 _ _ rfl _ rfl (.string (ba d.b)) rfl _ (stS C1.out F1.out) ?_
            have hS18 := HS.out
            have hW18 := W4.out.setCell (p := ⟨k, 1, none⟩) (.inl rfl) (.string (ba d.b))
            generalize World.setCell X0 _ _ = V18 at *
            have Z18 := Lib.hid (And.intro hS18 hW18)
            clear hS18 hW18
            try dsimp only
            refine hK (Act.put _ none _) _ ?_
            try simp only [Act.put, List.setIfInBounds_toArray, List.set_cons_zero, List.set_cons_succ]
            clear hK K
            refine wpAny_done (by kernel_rfl) ?_ _
            go_wp2_with fail
            go_ret
            refine ⟨by rw [T0.out]; rfl, ?_, ?_⟩
            · rw [HT.out]
              first | exact Z1.out.1 | exact Z2.out.1 | exact Z3.out.1 | exact Z4.out.1 | exact Z5.out.1 | exact Z6.out.1 | exact Z7.out.1 | exact Z8.out.1 | exact Z9.out.1 | exact Z10.out.1 | exact Z11.out.1 | exact Z12.out.1 | exact Z13.out.1 | exact Z14.out.1 | exact Z15.out.1 | exact Z16.out.1 | exact Z17.out.1 | exact Z18.out.1 | exact Z19.out.1 | exact Z20.out.1 | exact Z21.out.1 | exact Z22.out.1 | exact Z23.out.1 | exact Z24.out.1
            · first | exact Z1.out.2 | exact Z2.out.2 | exact Z3.out.2 | exact Z4.out.2 | exact Z5.out.2 | exact Z6.out.2 | exact Z7.out.2 | exact Z8.out.2 | exact Z9.out.2 | exact Z10.out.2 | exact Z11.out.2 | exact Z12.out.2 | exact Z13.out.2 | exact Z14.out.2 | exact Z15.out.2 | exact Z16.out.2 | exact Z17.out.2 | exact Z18.out.2 | exact Z19.out.2 | exact Z20.out.2 | exact Z21.out.2 | exact Z22.out.2 | exact Z23.out.2 | exact Z24.out.2
      · refine step_load rfl 9 _ rfl _ rfl (.string (ba s.r)) (ldS C1.out) ?_
        refine hK (Act.put _ (some 31) _) _ ?_
        try simp only [Act.put, List.setIfInBounds_toArray, List.set_cons_zero, List.set_cons_succ]
        clear hK K
        refine wpAny_take (i := 9) (oi := ⟨some 32, _, _, _, _, _⟩) (v := .int .i64 (s.r.length : Int)) rfl (by kernel_rfl) (by kernel_rfl) (by kernel_rfl) (fun _ _ _ h => h) (Or.inl ⟨by rfl, by intro wx; go_simp⟩) ?_
        try simp only [Act.put, List.setIfInBounds_toArray, List.set_cons_zero, List.set_cons_succ]
        refine wpAny_take (i := 12) (oi := ⟨some 35, _, _, _, _, _⟩) (v := .int .i64 (t.length : Int)) rfl (by kernel_rfl) (by kernel_rfl) (by kernel_rfl) (fun _ _ _ h => h) (Or.inl ⟨by rfl, by intro wx; go_simp⟩) ?_
        try simp only [Act.put, List.setIfInBounds_toArray, List.set_cons_zero, List.set_cons_succ]
        refine wpAny_ready (rs := [4]) (by kernel_rfl) (by simp) ?_
        refine AllReady.cons rfl (fun K hK => ?_) AllReady.nil
        · refine step_load rfl 9 _ rfl _ rfl (.string (ba s.r)) (ldS C1.out) ?_
          refine hK (Act.put _ (some 27) _) _ ?_
          try simp only [Act.put, List.setIfInBounds_toArray, List.set_cons_zero, List.set_cons_succ]
          clear hK K
          refine wpAny_take (i := 13) (oi := ⟨some 36, _, _, _, _, _⟩) (v := .string (ba d.b)) rfl (by kernel_rfl) (by kernel_rfl) (by kernel_rfl) (fun _ _ _ h => h) (Or.inl ⟨by rfl, by intro wx; go_simp⟩) ?_
          try simp only [Act.put, List.setIfInBounds_toArray, List.set_cons_zero, List.set_cons_succ]
          refine wpAny_take (i := 14) (oi := ⟨some 37, _, _, _, _, _⟩) (v := .pointer (some ⟨k, 0, none⟩)) rfl (by kernel_rfl) (by kernel_rfl) (by kernel_rfl) (fun _ _ _ h => h) (Or.inl ⟨by rfl, by intro wx; go_simp⟩) ?_
          try simp only [Act.put, List.setIfInBounds_toArray, List.set_cons_zero, List.set_cons_succ]
          refine wpAny_take (i := 15) (oi := ⟨some 38, _, _, _, _, _⟩) (v := .pointer (some ⟨k, 1, none⟩)) rfl (by kernel_rfl) (by kernel_rfl) (by kernel_rfl) (fun _ _ _ h => h) (Or.inl ⟨by rfl, by intro wx; go_simp⟩) ?_
          try simp only [Act.put, List.setIfInBounds_toArray, List.set_cons_zero, List.set_cons_succ]
          refine wpAny_ready (rs := [16]) (by kernel_rfl) (by simp) ?_
          refine AllReady.cons rfl (fun K hK => ?_) AllReady.nil
          · refine step_store rfl 9 _ _ rfl _ rfl (.string (ba d.b)) rfl _ (stS C1.out F1.out) ?_
            have hS21 := HS.out
            have hW21 := W4.out.setCell (p := ⟨k, 1, none⟩) (.inl rfl) (.string (ba d.b))
            generalize World.setCell X0 _ _ = V21 at *
            have Z21 := Lib.hid (And.intro hS21 hW21)
            clear hS21 hW21
            try dsimp only
            refine hK (Act.put _ none _) _ ?_
            try simp only [Act.put, List.setIfInBounds_toArray, List.set_cons_zero, List.set_cons_succ]
            clear hK K
            refine wpAny_done (by kernel_rfl) ?_ _
            go_wp2_with fail
            go_ret
            refine ⟨by rw [T0.out]; rfl, ?_, ?_⟩
            · rw [HT.out]
              first | exact Z1.out.1 | exact Z2.out.1 | exact Z3.out.1 | exact Z4.out.1 | exact Z5.out.1 | exact Z6.out.1 | exact Z7.out.1 | exact Z8.out.1 | exact Z9.out.1 | exact Z10.out.1 | exact Z11.out.1 | exact Z12.out.1 | exact Z13.out.1 | exact Z14.out.1 | exact Z15.out.1 | exact Z16.out.1 | exact Z17.out.1 | exact Z18.out.1 | exact Z19.out.1 | exact Z20.out.1 | exact Z21.out.1 | exact Z22.out.1 | exact Z23.out.1 | exact Z24.out.1
            · first | exact Z1.out.2 | exact Z2.out.2 | exact Z3.out.2 | exact Z4.out.2 | exact Z5.out.2 | exact Z6.out.2 | exact Z7.out.2 | exact Z8.out.2 | exact Z9.out.2 | exact Z10.out.2 | exact Z11.out.2 | exact Z12.out.2 | exact Z13.out.2 | exact Z14.out.2 | exact Z15.out.2 | exact Z16.out.2 | exact Z17.out.2 | exact Z18.out.2 | exact Z19.out.2 | exact Z20.out.2 | exact Z21.out.2 | exact Z22.out.2 | exact Z23.out.2 | exact Z24.out.2
  · have t0 : (d.e == 0) = false := by simpa using h0
    have T0 := Lib.hid t0
    by_cases h1 : d.e = 1
    · have HT : Hid (takeS s' d = s') := Lib.hid (by unfold takeS; rw [if_neg h0, if_pos h1])
      rw [h1]
      clear h0 h1 t0 hd
      go_wp2_with fail
      go_ret
      exact ⟨by rw [T0.out]; rfl, by rw [HT.out]; exact H3.out, W3.out⟩
    · have HT : Hid (takeS s' d = failS s' d.e) := Lib.hid (by unfold takeS; rw [if_neg h0, if_neg h1])
      have t1 : (d.e == 1) = false := by simpa using h1
      have HF := Lib.hid (stfail_calls k s' d.e w4 H3.out)
      clear h0 h1 hd
      go_wp2_with fail
      refine HF.out.mono ?_
      rintro e w5 ⟨rfl, hs5, hb5⟩
      have H5 := Lib.hid hs5
      have W5 := Lib.hid (W3.out.trans hb5 (fun i _ e => .inl e))
      clear hs5 hb5
      go_wp2_with fail
      go_ret
      exact ⟨by rw [T0.out]; rfl, by rw [HT.out]; exact H5.out, W5.out⟩
end Go.Proofs.Ytcaocnlchfbeaaa.Stm

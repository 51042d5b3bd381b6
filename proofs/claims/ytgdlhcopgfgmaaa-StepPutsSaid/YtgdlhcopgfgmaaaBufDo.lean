/- The walk of chapter 9's law: what a step puts, and what it is by the document. -/
import Derived.Test.YtgdlhcopgfgmaaaRaw03
namespace Go.Proofs.Ytgdlhcopgfgmaaa.Buf
open Go.RowKit Go.Proofs.Ytgdlhcopgfgmaaa.Mk
theorem wpList_buildTwo {P : Program} {ops : Array Oper} {rest : List Oper} {o : Oper} {a : Act} {w : World} {Q : Exit → Act → World → Prop} (hg : o.guard = none) (t e : TypeId) (s : Nat) (x y : Operand) (ho : o.op = .buildSlice t 2 #[(0, x), (1, y)])
    (cs ds : Array Value) (z : Value) (bytes : Nat) (hx : a.eval x = .agg cs) (hy : a.eval y = .agg ds) (hv : cs.size = s) (hv2 : ds.size = s)
    (hi : (P.info? e).map (fun i => (i.zero, i.size, i.bytes)) = some (some z, s, bytes)) (hu : P.underlying t = some (.slice e)) (hs : 0 < s) (hsmall : 2 * s ≤ 16777216)
    (h : wpList P ops Q rest (a.put o.dst (.slice (some ⟨w.heap.size, 0, none⟩) 2 2)) (w.alloc (.cells (cs.toList ++ ds.toList).toArray e))) : wpList P ops Q (o :: rest) a w := by
  refine wpList_buildWhole hg t e 2 s #[(0, x), (1, y)] ho [.agg cs, .agg ds] z bytes (by simp [hx, hy]) (fun v h => by
    simp at h
    rcases h with rfl | rfl
    · exact hv
    · exact hv2) rfl hi hu hs (by decide) hsmall ?_
  simpa [Value.cells] using h
theorem run_load_string {w : World} {p : Addr} {s : ByteArray} (h : w.cell? p = some (.string s)) : (Instr.loadAt 9 (.pointer (some p))).run Try.prog w = .ok (.string s) w := by
  have a9 := Try.isAgg9
  have z9 := Try.sizeOf9
  simp [go_sem, Instr.loadAt, Instr.sureAddr, h, a9, z9]
/-- a step's cells -/
def stepC (k : Int) (s : ByteArray) (n : Nat) (hh : H) : List Value := .int .i64 k :: .string s :: .int .u64 n :: hc hh
def stepV (k : Int) (s : ByteArray) (n : Nat) (hh : H) : Value := .agg (stepC k s n hh).toArray
/-- the bytes that a step puts -/
def doL (k : Int) (s : ByteArray) (n : Nat) (hh : H) : List UInt8 :=
  if k = 1 then bs s ++ bs s else if k = 2 then [UInt8.ofNat (n % 256)] else if k = 3 then Num.putL n else if k = 4 then hh ++ hh else Num.putL s.size ++ bs s
theorem ret_str {a b : ByteArray} (h : a = b) : Ending.returned (.string a) = .returned (.string b) := by rw [h]
set_option maxHeartbeats 4000000 in
set_option maxRecDepth 100000 in
theorem do1 (B : Nat) (q r : Option Nat) (l : List UInt8) (s : ByteArray) (n : Nat) (hh : H) (w : World) (h : QB B q r l w) (hlen : l.length + (s.size + s.size) ≤ 140737488355328) :
    Calls Try.prog 42 #[qv q, stepV 1 s n hh] w fun e w' => e = .returned (.string (s ++ s)) ∧ ∃ r', QB B q r' (l ++ (bs s ++ bs s)) w' ∧ QW q r r' w w' := by
  generalize hk : (1 : Int) = k
  have hk' := Lib.hid hk
  have hB0 : Below w.heap.size w (w.alloc (.cells (stepC k s n hh).toArray 77)) := (Below.refl _ _).alloc (Nat.le_refl _) _
  have h1 := h.keepB hB0
  have hq : q ≠ some w.heap.size := fun e => by have := (h.base.2 w.heap.size (.inl e.symm)).2; omega
  have hr : r ≠ some w.heap.size := fun e => by have := (h.base.2 w.heap.size (.inr e.symm)).2; omega
  have hcl := heap_new w (.cells (stepC k s n hh).toArray 77)
  have c0 : (w.alloc (.cells (stepC k s n hh).toArray 77)).cell? ⟨w.heap.size, 0, none⟩ = some (.int .i64 k) := by rw [cell_of_row _ _ _ _ _ _ hcl]; rfl
  have c1 : (w.alloc (.cells (stepC k s n hh).toArray 77)).cell? ⟨w.heap.size, 1, none⟩ = some (.string s) := by rw [cell_of_row _ _ _ _ _ _ hcl]; rfl
  have c2 : (w.alloc (.cells (stepC k s n hh).toArray 77)).cell? ⟨w.heap.size, 2, none⟩ = some (.int .u64 n) := by rw [cell_of_row _ _ _ _ _ _ hcl]; rfl
  have c3 : (w.alloc (.cells (stepC k s n hh).toArray 77)).rangeAt w.heap.size 3 (hc hh) := fun j u hj => by
    rw [cell_of_row _ _ _ _ _ _ hcl]
    unfold stepC
    rw [List.getElem?_toArray, Nat.add_comm 3 j]
    exact hj
  have hsz1 : w.heap.size < (w.alloc (.cells (stepC k s n hh).toArray 77)).heap.size := by simp
  have hargs : stepV k s n hh = .agg (stepC k s n hh).toArray := rfl
  rw [hargs]
  generalize hcs : (stepC k s n hh).toArray = cs at *
  subst hk
  have HR := Lib.hid (raw_new B q r l [s, s] (w.alloc (.cells cs 77)) ((w.alloc (.cells cs 77)).alloc (.cells #[.string s, .string s] 9)) (w.heap.size + 1) 2 9 h1
    ((Below.refl _ _).alloc (Nat.le_refl _) _) (by rw [cells_two, ← World.size_alloc w (.cells cs 77)]; exact heap_new _ _) (by simp) rfl (by simp) (by rw [cat_two, List.length_append, bs_len]; omega))
  rw [cat_two] at HR
  generalize hv : qv q = v at *
  have HB0 := Lib.hid hB0
  have C1 := Lib.hid c1
  have Hq := Lib.hid (And.intro hq hr)
  have hss : s.size + s.size ≤ 9223372036854775807 := by omega
  clear hB0 h1 hq hr hcl c2 c3 hsz1 hv hcs hk' hargs
  go_enter Try.func42, Try.ntmps42
  go_wp2_with fail
  refine HR.out.mono ?_
  rintro e w2 ⟨rfl, r', h3, h4⟩
  have d1 : w2.cell? ⟨w.heap.size, 1, none⟩ = some (.string s) := h4.cell C1.out Hq.out.1 Hq.out.2
  have H3 := Lib.hid (And.intro h3 ((QW.of_below (q := q) (r := r) HB0.out).trans h4))
  clear h3 h4
  go_wp2_with fail
  go_ret
  exact ⟨rfl, r', H3.out⟩
set_option maxHeartbeats 4000000 in
set_option maxRecDepth 100000 in
theorem do2 (B : Nat) (q r : Option Nat) (l : List UInt8) (k : Int) (hk : k = 2) (s : ByteArray) (n : Nat) (hh : H) (w : World) (h : QB B q r l w) (_hn : n < 18446744073709551616) (hlen : l.length + 1 ≤ 140737488355328) :
    Calls Try.prog 42 #[qv q, stepV k s n hh] w fun e w' => e = .returned (.string (ba [UInt8.ofNat (n % 256)])) ∧ ∃ r', QB B q r' (l ++ [UInt8.ofNat (n % 256)]) w' ∧ QW q r r' w w' := by
  have hB0 : Below w.heap.size w (w.alloc (.cells (stepC k s n hh).toArray 77)) := (Below.refl _ _).alloc (Nat.le_refl _) _
  have h1 := h.keepB hB0
  have hq : q ≠ some w.heap.size := fun e => by have := (h.base.2 w.heap.size (.inl e.symm)).2; omega
  have hr : r ≠ some w.heap.size := fun e => by have := (h.base.2 w.heap.size (.inr e.symm)).2; omega
  have hcl := heap_new w (.cells (stepC k s n hh).toArray 77)
  have c0 : (w.alloc (.cells (stepC k s n hh).toArray 77)).cell? ⟨w.heap.size, 0, none⟩ = some (.int .i64 k) := by rw [cell_of_row _ _ _ _ _ _ hcl]; rfl
  have c1 : (w.alloc (.cells (stepC k s n hh).toArray 77)).cell? ⟨w.heap.size, 1, none⟩ = some (.string s) := by rw [cell_of_row _ _ _ _ _ _ hcl]; rfl
  have c2 : (w.alloc (.cells (stepC k s n hh).toArray 77)).cell? ⟨w.heap.size, 2, none⟩ = some (.int .u64 n) := by rw [cell_of_row _ _ _ _ _ _ hcl]; rfl
  have c3 : (w.alloc (.cells (stepC k s n hh).toArray 77)).rangeAt w.heap.size 3 (hc hh) := fun j u hj => by
    rw [cell_of_row _ _ _ _ _ _ hcl]
    unfold stepC
    rw [List.getElem?_toArray, Nat.add_comm 3 j]
    exact hj
  have hsz1 : w.heap.size < (w.alloc (.cells (stepC k s n hh).toArray 77)).heap.size := by simp
  have hargs : stepV k s n hh = .agg (stepC k s n hh).toArray := rfl
  rw [hargs]
  generalize hcs : (stepC k s n hh).toArray = cs at *
  subst hk
  have hmod : ((n % 256 : Nat) : Int) = (n : Int) % 256 := by omega
  have HR := Lib.hid (bbyte_calls B q r l (n % 256) (w.alloc (.cells cs 77)) h1 (by omega) hlen)
  rw [hmod] at HR
  generalize hv : qv q = v at *
  have HB0 := Lib.hid hB0
  have C2 := Lib.hid c2
  have Hq := Lib.hid (And.intro hq hr)
  clear hB0 h1 hq hr hcl c1 hsz1 hv hcs hargs c3
  go_enter Try.func42, Try.ntmps42
  go_wp2_with fail
  refine HR.out.mono ?_
  rintro e w2 ⟨rfl, r', h3, h4⟩
  have d2 : w2.cell? ⟨w.heap.size, 2, none⟩ = some (.int .u64 n) := h4.cell C2.out Hq.out.1 Hq.out.2
  have H3 := Lib.hid (And.intro h3 ((QW.of_below (q := q) (r := r) HB0.out).trans h4))
  clear h3 h4
  have hSB : SB (w2.alloc (.cells #[.int .u8 ((n : Int) % 256)] 5)) (.slice (some ⟨w2.heap.size, 0, none⟩) 1 1) [UInt8.ofNat (n % 256)] :=
    ⟨by simp [maxLen], some ⟨w2.heap.size, 0, none⟩, 1, rfl, Nat.le_refl _, by simp [maxLen], fun _ => ⟨w2.heap.size, 0, rfl, fun j u hj => by
      have e : hc [UInt8.ofNat (n % 256)] = [.int .u8 ((n : Int) % 256)] := by
        rw [← hmod]
        simp only [hc, List.map_cons, List.map_nil, Num.cell_ofNat (n % 256) (by omega)]
      rw [e] at hj
      rw [cell_of_row _ _ _ _ _ _ (heap_alloc_last w2 _)]
      simpa using hj⟩⟩
  have hcv := run_string_bytes (P := Try.prog) UBs UBy USt hSB
  clear hSB hmod
  go_wp2_with fail
  go_ret
  obtain ⟨h3, h4⟩ := H3.out
  exact ⟨rfl, r', h3.keepB ((Below.refl _ _).alloc (Nat.le_refl _) _), h4.trans (QW.of_below ((Below.refl _ _).alloc (Nat.le_refl _) _))⟩
set_option maxHeartbeats 4000000 in
set_option maxRecDepth 100000 in
theorem do3 (B : Nat) (q r : Option Nat) (l : List UInt8) (k : Int) (hk : k = 3) (s : ByteArray) (n : Nat) (hh : H) (w : World) (h : QB B q r l w) (hn : n < 18446744073709551616) (hlen : l.length + 10 ≤ 140737488355328) :
    Calls Try.prog 42 #[qv q, stepV k s n hh] w fun e w' => e = .returned (.string (ba (Num.putL n))) ∧ ∃ r', QB B q r' (l ++ Num.putL n) w' ∧ QW q r r' w w' := by
  have hB0 : Below w.heap.size w (w.alloc (.cells (stepC k s n hh).toArray 77)) := (Below.refl _ _).alloc (Nat.le_refl _) _
  have h1 := h.keepB hB0
  have hq : q ≠ some w.heap.size := fun e => by have := (h.base.2 w.heap.size (.inl e.symm)).2; omega
  have hr : r ≠ some w.heap.size := fun e => by have := (h.base.2 w.heap.size (.inr e.symm)).2; omega
  have hcl := heap_new w (.cells (stepC k s n hh).toArray 77)
  have c0 : (w.alloc (.cells (stepC k s n hh).toArray 77)).cell? ⟨w.heap.size, 0, none⟩ = some (.int .i64 k) := by rw [cell_of_row _ _ _ _ _ _ hcl]; rfl
  have c1 : (w.alloc (.cells (stepC k s n hh).toArray 77)).cell? ⟨w.heap.size, 1, none⟩ = some (.string s) := by rw [cell_of_row _ _ _ _ _ _ hcl]; rfl
  have c2 : (w.alloc (.cells (stepC k s n hh).toArray 77)).cell? ⟨w.heap.size, 2, none⟩ = some (.int .u64 n) := by rw [cell_of_row _ _ _ _ _ _ hcl]; rfl
  have c3 : (w.alloc (.cells (stepC k s n hh).toArray 77)).rangeAt w.heap.size 3 (hc hh) := fun j u hj => by
    rw [cell_of_row _ _ _ _ _ _ hcl]
    unfold stepC
    rw [List.getElem?_toArray, Nat.add_comm 3 j]
    exact hj
  have hsz1 : w.heap.size < (w.alloc (.cells (stepC k s n hh).toArray 77)).heap.size := by simp
  have hargs : stepV k s n hh = .agg (stepC k s n hh).toArray := rfl
  rw [hargs]
  generalize hcs : (stepC k s n hh).toArray = cs at *
  subst hk
  have HR := Lib.hid (bnum_calls B q r l n (w.alloc (.cells cs 77)) h1 hn hlen)
  have HP := Lib.hid (fun w => Num.rput_calls n w hn)
  generalize Num.putL n = p at *
  generalize hv : qv q = v at *
  have HB0 := Lib.hid hB0
  have C2 := Lib.hid c2
  have Hq := Lib.hid (And.intro hq hr)
  clear hB0 h1 hq hr hcl c1 hsz1 hv hcs hargs c3 hn
  go_enter Try.func42, Try.ntmps42
  go_wp2_with fail
  refine HR.out.mono ?_
  rintro e w2 ⟨rfl, r', h3, h4⟩
  have d2 : w2.cell? ⟨w.heap.size, 2, none⟩ = some (.int .u64 n) := h4.cell C2.out Hq.out.1 Hq.out.2
  have H3 := Lib.hid (And.intro h3 ((QW.of_below (q := q) (r := r) HB0.out).trans h4))
  clear h3 h4
  go_wp2_with fail
  refine (HP.out _).mono ?_
  rintro e w3 ⟨rfl, hb3⟩
  go_wp2_with fail
  go_ret
  obtain ⟨h3, h4⟩ := H3.out
  exact ⟨rfl, r', h3.keepB hb3, h4.trans (QW.of_below hb3)⟩
set_option maxHeartbeats 4000000 in
set_option maxRecDepth 100000 in
theorem do4 (B : Nat) (q r : Option Nat) (l : List UInt8) (k : Int) (hk : k = 4) (s : ByteArray) (n : Nat) (hh : H) (w : World) (h : QB B q r l w) (hhl : hh.length = 32) (hlen : l.length + 64 ≤ 140737488355328) :
    Calls Try.prog 42 #[qv q, stepV k s n hh] w fun e w' => e = .returned (.string (ba (hh ++ hh))) ∧ ∃ r', QB B q r' (l ++ (hh ++ hh)) w' ∧ QW q r r' w w' := by
  have hB0 : Below w.heap.size w (w.alloc (.cells (stepC k s n hh).toArray 77)) := (Below.refl _ _).alloc (Nat.le_refl _) _
  have h1 := h.keepB hB0
  have hq : q ≠ some w.heap.size := fun e => by have := (h.base.2 w.heap.size (.inl e.symm)).2; omega
  have hr : r ≠ some w.heap.size := fun e => by have := (h.base.2 w.heap.size (.inr e.symm)).2; omega
  have hcl := heap_new w (.cells (stepC k s n hh).toArray 77)
  have c0 : (w.alloc (.cells (stepC k s n hh).toArray 77)).cell? ⟨w.heap.size, 0, none⟩ = some (.int .i64 k) := by rw [cell_of_row _ _ _ _ _ _ hcl]; rfl
  have c1 : (w.alloc (.cells (stepC k s n hh).toArray 77)).cell? ⟨w.heap.size, 1, none⟩ = some (.string s) := by rw [cell_of_row _ _ _ _ _ _ hcl]; rfl
  have c2 : (w.alloc (.cells (stepC k s n hh).toArray 77)).cell? ⟨w.heap.size, 2, none⟩ = some (.int .u64 n) := by rw [cell_of_row _ _ _ _ _ _ hcl]; rfl
  have c3 : (w.alloc (.cells (stepC k s n hh).toArray 77)).rangeAt w.heap.size 3 (hc hh) := fun j u hj => by
    rw [cell_of_row _ _ _ _ _ _ hcl]
    unfold stepC
    rw [List.getElem?_toArray, Nat.add_comm 3 j]
    exact hj
  have hsz1 : w.heap.size < (w.alloc (.cells (stepC k s n hh).toArray 77)).heap.size := by simp
  have hargs : stepV k s n hh = .agg (stepC k s n hh).toArray := rfl
  rw [hargs]
  generalize hcs : (stepC k s n hh).toArray = cs at *
  subst hk
  have hb2 : Below (w.alloc (.cells cs 77)).heap.size (w.alloc (.cells cs 77)) ((w.alloc (.cells cs 77)).alloc (.cells (hc hh ++ hc hh).toArray 24)) := (Below.refl _ _).alloc (Nat.le_refl _) _
  have hnew : ((w.alloc (.cells cs 77)).alloc (.cells (hc hh ++ hc hh).toArray 24)).heap[(w.alloc (.cells cs 77)).heap.size]? = some (.cells ([hh, hh].flatMap hc).toArray 24 (0, 0)) := by
    rw [heap_new]
    simp
  have hSL := SL.of_block (enc := hc) (sz := 32) (l := [hh, hh]) hnew (fun x hx => by rw [hc_len]; simp at hx; rw [hx, hhl]) (by simp) 2 rfl
  have HR := Lib.hid ((bhash_calls B q r l _ [hh, hh] _ (h1.keepB hb2) hSL (by simpa using hlen) (fun A n' c he b o hA => by
    cases he
    cases hA
    exact ⟨fun e => by have := (h.base.2 _ (.inl e.symm)).2; simp at this; omega, fun e => by have := (h.base.2 _ (.inr e.symm)).2; simp at this; omega⟩)).mono (R' := fun e w' => e = .returned (.tuple #[]) ∧ ∃ r', QB B q r' (l ++ (hh ++ hh)) w' ∧ QW q r r' (w.alloc (.cells cs 77)) w')
    (fun e w' hx => by
      obtain ⟨he, r', h3, h4⟩ := hx
      exact ⟨he, r', by simpa using h3, (QW.of_below hb2).trans h4⟩))
  have HP := Lib.hid (fun w => raw03_calls hh w hhl)
  unfold hv at HP
  generalize hv : qv q = v at *
  have HB0 := Lib.hid hB0
  have C3 := Lib.hid c3
  have i1 := IHl hhl
  have HL := Lib.hid hhl
  have Hq := Lib.hid (And.intro hq hr)
  rw [World.size_alloc] at HR
  have hvs : (hc hh).toArray.size = 32 := by simp [hc_len, hhl]
  have Hvs := Lib.hid hvs
  clear hvs
  clear hB0 h1 hq hr hcl c1 hsz1 hv hcs hargs c2 hhl hSL hnew hb2
  go_enter Try.func42, Try.ntmps42
  go_wp2_with (first | (refine wpList_load_mid rfl 24 _ rfl w.heap.size 3 rfl (hc hh) _ C3.out UH rfl (by assumption) ?_) | (refine wpList_buildTwo rfl 62 24 32 _ _ rfl (hc hh).toArray (hc hh).toArray _ 32 rfl rfl Hvs.out Hvs.out IHi UHs (by decide) (by decide) ?_))
  refine HR.out.mono ?_
  rintro e w2 ⟨rfl, r', h3, h4⟩
  have d3 : w2.rangeAt w.heap.size 3 (hc hh) := fun j u hj => h4.cell (C3.out j u hj) Hq.out.1 Hq.out.2
  have H3 := Lib.hid (And.intro h3 ((QW.of_below (q := q) (r := r) HB0.out).trans h4))
  clear h3 h4
  have L1 : ∀ wx, Below w2.heap.size w2 wx → (Instr.loadAt 24 (.pointer (some ⟨w.heap.size, 3, none⟩))).run Try.prog wx = .ok (.agg (hc hh).toArray) wx := fun wx hbx =>
    run_loadAt_mid wx _ 3 24 (hc hh) _ (range_below d3 hbx) UH rfl i1
  have hsz : ¬ 9223372036854775807 < (ba hh).size + (ba hh).size := by rw [ba_size, HL.out]; omega
  clear d3
  go_wp2_with fail
  refine wp_region_quiet_below (by kernel_rfl) (by kernel_rfl) ?_
  repeat (first | (refine wpQuiet_load rfl 24 _ rfl _ rfl _ (rg_fact L1) ?_) | ((refine wpQuiet_call rfl 53 _ ?_ _ (rg_of (fun wx _ => HP.out wx)) ?_); focus (intro wx; go_simp; done)) | go_big_quiet_step (fail) | quiet_step (fail))
  refine wpQuiet_nil ?_
  rintro _ ⟨rp, rfl⟩
  have hb3 := below_regrown w2 rp.d rp.os
  generalize Sort.grow (redrawn w2 rp.d) rp.os = w3 at *
  go_wp2_with fail
  go_ret
  obtain ⟨h3, h4⟩ := H3.out
  exact ⟨ret_str (ba_append _ _), r', h3.keepB hb3, h4.trans (QW.of_below hb3)⟩
set_option maxHeartbeats 4000000 in
set_option maxRecDepth 100000 in
theorem do5 (B : Nat) (q r : Option Nat) (l : List UInt8) (k : Int) (hk1 : (k == 1) = false) (hk2 : (k == 2) = false) (hk3 : (k == 3) = false) (hk4 : (k == 4) = false) (s : ByteArray) (n : Nat) (hh : H) (w : World) (h : QB B q r l w) (hlen : l.length + 10 + s.size ≤ 140737488355328) :
    Calls Try.prog 42 #[qv q, stepV k s n hh] w fun e w' => e = .returned (.string (ba (Num.putL s.size ++ bs s))) ∧ ∃ r', QB B q r' (l ++ (Num.putL s.size ++ bs s)) w' ∧ QW q r r' w w' := by
  have hB0 : Below w.heap.size w (w.alloc (.cells (stepC k s n hh).toArray 77)) := (Below.refl _ _).alloc (Nat.le_refl _) _
  have h1 := h.keepB hB0
  have hq : q ≠ some w.heap.size := fun e => by have := (h.base.2 w.heap.size (.inl e.symm)).2; omega
  have hr : r ≠ some w.heap.size := fun e => by have := (h.base.2 w.heap.size (.inr e.symm)).2; omega
  have hcl := heap_new w (.cells (stepC k s n hh).toArray 77)
  have c0 : (w.alloc (.cells (stepC k s n hh).toArray 77)).cell? ⟨w.heap.size, 0, none⟩ = some (.int .i64 k) := by rw [cell_of_row _ _ _ _ _ _ hcl]; rfl
  have c1 : (w.alloc (.cells (stepC k s n hh).toArray 77)).cell? ⟨w.heap.size, 1, none⟩ = some (.string s) := by rw [cell_of_row _ _ _ _ _ _ hcl]; rfl
  have c2 : (w.alloc (.cells (stepC k s n hh).toArray 77)).cell? ⟨w.heap.size, 2, none⟩ = some (.int .u64 n) := by rw [cell_of_row _ _ _ _ _ _ hcl]; rfl
  have c3 : (w.alloc (.cells (stepC k s n hh).toArray 77)).rangeAt w.heap.size 3 (hc hh) := fun j u hj => by
    rw [cell_of_row _ _ _ _ _ _ hcl]
    unfold stepC
    rw [List.getElem?_toArray, Nat.add_comm 3 j]
    exact hj
  have hsz1 : w.heap.size < (w.alloc (.cells (stepC k s n hh).toArray 77)).heap.size := by simp
  have hargs : stepV k s n hh = .agg (stepC k s n hh).toArray := rfl
  rw [hargs]
  generalize hcs : (stepC k s n hh).toArray = cs at *
  have HR := Lib.hid (btext_calls B q r l s (w.alloc (.cells cs 77)) h1 hlen)
  have HP := Lib.hid (fun w => Num.rput_calls s.size w (by omega))
  have hp10 := Num.putL_len10 s.size (by omega)
  generalize Num.putL s.size = p at *
  generalize hv : qv q = v at *
  have HB0 := Lib.hid hB0
  have C1 := Lib.hid c1
  have Hq := Lib.hid (And.intro hq hr)
  have hsz : s.size ≤ 9223372036854775807 := by omega
  clear hB0 h1 hq hr hcl c2 hsz1 hv hcs hargs c3
  go_enter Try.func42, Try.ntmps42
  go_wp2_with fail
  refine HR.out.mono ?_
  rintro e w2 ⟨rfl, r', h3, h4⟩
  have d1 : w2.cell? ⟨w.heap.size, 1, none⟩ = some (.string s) := h4.cell C1.out Hq.out.1 Hq.out.2
  have H3 := Lib.hid (And.intro h3 ((QW.of_below (q := q) (r := r) HB0.out).trans h4))
  clear h3 h4
  go_wp2_with fail
  have L1 : ∀ wx, Below w2.heap.size w2 wx → (Instr.loadAt 9 (.pointer (some ⟨w.heap.size, 1, none⟩))).run Try.prog wx = .ok (.string s) wx := fun wx hbx =>
    run_load_string ((hbx.cell (p := ⟨w.heap.size, 1, none⟩) (block_lt_of_cell d1)).trans d1)
  have hps : ¬ 9223372036854775807 < (ba p).size + s.size := by rw [ba_size]; omega
  refine wp_region_quiet_below (by kernel_rfl) (by kernel_rfl) ?_
  repeat (first | (refine wpQuiet_load rfl 9 _ rfl _ rfl _ (rg_fact L1) ?_) | ((refine wpQuiet_call rfl 69 _ ?_ _ (rg_of (fun wx _ => HP.out wx)) ?_); focus (intro wx; go_simp; done)) | go_big_quiet_step (fail) | quiet_step (fail))
  refine wpQuiet_nil ?_
  rintro _ ⟨rp, rfl⟩
  have hb3 := below_regrown w2 rp.d rp.os
  generalize Sort.grow (redrawn w2 rp.d) rp.os = w3 at *
  go_wp2_with fail
  go_ret
  obtain ⟨h3, h4⟩ := H3.out
  exact ⟨ret_str (by rw [← ba_append, ba_bs]), r', h3.keepB hb3, h4.trans (QW.of_below hb3)⟩
end Go.Proofs.Ytgdlhcopgfgmaaa.Buf

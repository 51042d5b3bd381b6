/- The walks of what a cursor takes: a byte, a number, a sum, a text. -/
import Derived.Deep.AppendLies
import Derived.Deep.RegionLaw
import Derived.Lib.BufferWrite
import Derived.Test.YtgdlhcopgfgmaaaCur
import Derived.Test.YtgdlhcopgfgmaaaRet
namespace Go.Proofs.Ytgdlhcopgfgmaaa.Cur
open Go.RowKit Go.Proofs.Ytgdlhcopgfgmaaa.Mk
theorem IH : (Try.prog.info? 24).map (·.size) = some 32 := by kernel_rfl
theorem IHi : (Try.prog.info? 24).map (fun i => (i.zero, i.size, i.bytes)) = some (some (hv (List.replicate 32 0)), 32, 32) := by kernel_rfl
theorem UHs : Try.prog.underlying 62 = some (.slice 24) := by kernel_rfl
theorem UH : Try.prog.underlying 24 = some (.array 32 5) := by kernel_rfl
theorem UB : Try.prog.underlying 5 = some (.int .u8) := by kernel_rfl
theorem IHl {h : List UInt8} (hl : h.length = 32) : (Try.prog.info? 24).map (·.size) = some (hc h).length := by rw [IH, hc_len, hl]
theorem IHa {h : List UInt8} (hl : h.length = 32) : (Try.prog.info? 24).map (·.size) = some (hc h).toArray.size := by rw [IH]; simp [hc_len, hl]
theorem eqH {x y : List UInt8} (hx : x.length = 32) (hy : y.length = 32) : ∀ wx, (binOp .eql 24 (.agg (hc x).toArray) (.agg (hc y).toArray)).run Try.prog wx = .ok (.bool (x == y)) wx :=
  fun wx => run_eql_bytes (P := Try.prog) wx 24 5 32 UH UB Try.sizeOf5 x y hx hy
theorem neH {x y : List UInt8} (hx : x.length = 32) (hy : y.length = 32) : ∀ wx, (binOp .neq 24 (.agg (hc x).toArray) (.agg (hc y).toArray)).run Try.prog wx = .ok (.bool (!(x == y))) wx :=
  fun wx => run_neq_bytes (P := Try.prog) wx 24 5 32 UH UB Try.sizeOf5 x y hx hy
theorem wpList_copy_run {P : Program} {ops : Array Oper} {rest : List Oper} {o : Oper} {a : Act} {w : World} {Q : Exit → Act → World → Prop} (hgd : o.guard = none) (d s : Operand) (t t' : TypeId)
    (ho : o.op = .call { callee := .builtin .copy, args := #[d, s], argTypes := #[t, t'] }) (v u : Value) (hd : a.eval d = v) (hs : a.eval s = u) {v' : Value} {w' : World}
    (hr : (Builtin.copy_ #[t, t'] o.type #[v, u]).run P w = .ok v' w') (h : wpList P ops Q rest (a.put o.dst v') w') : wpList P ops Q (o :: rest) a w := by
  refine wpList_plain hgd fun K hK => ?_
  unfold Oper.wp execOp
  simp only [ho, resolve, invoke, builtin, Sem.run_bind, Sem.run_pure, Result.andThen_ok, List.map_toArray, List.map_cons, List.map_nil, hd, hs, hr]
  exact hK _ _ h
theorem step_copy_run {P : Program} {ops : Array Oper} {o : Oper} {a : Act} {w : World} {K : Act → World → Prop} {Q : Exit → Act → World → Prop} {E : Prop} (hg : o.guard = none) (d s : Operand) (t t' : TypeId)
    (ho : o.op = .call { callee := .builtin .copy, args := #[d, s], argTypes := #[t, t'] }) (v u : Value) (hd : a.eval d = v) (hs : a.eval s = u) {v' : Value} {w' : World}
    (hr : (Builtin.copy_ #[t, t'] o.type #[v, u]).run P w = .ok v' w') (hK : K (a.put o.dst v') w') : if Region.wanted o (yielded ops a.tmps) = true then Oper.wp P o a w K Q else E := by
  rw [if_pos (by simp [Region.wanted, hg])]
  unfold Oper.wp execOp
  simp only [ho, resolve, invoke, builtin, Sem.run_bind, Sem.run_pure, Result.andThen_ok, List.map_toArray, List.map_cons, List.map_nil, hd, hs, hr]
  exact hK
theorem ret_num {a b : Int} {k : IntKind} (h : a = b) : Ending.returned (.int k a) = .returned (.int k b) := by rw [h]
theorem raw1_len (c : C) : (rawC c 1).1.length ≤ 1 := by
  unfold rawC
  split
  · simp
  split
  · simp
  split
  · simp
  · simp
    omega
set_option maxHeartbeats 2000000 in
theorem byte_calls (b : Nat) (c : C) (w : World) (h : CU b c w) (hl : c.b.length ≤ 9223372036854775807) :
    Calls Try.prog 29 #[.pointer (some ⟨b, 0, none⟩)] w fun r w' => r = .returned (.int .u8 (byteC c).1) ∧ CU b (byteC c).2 w' ∧ CW b w w' := by
  have HC := Lib.hid (cut_calls b c 1 w h hl (by omega))
  have hlen := raw1_len c
  have hb : byteC c = ((((rawC c 1).1.head?).map (·.toNat)).getD 0, (rawC c 1).2) := rfl
  rw [hb]
  clear h hl hb
  rw [show ((1 : Nat) : Int) = 1 from rfl] at HC
  generalize rawC c 1 = x at *
  obtain ⟨l, d⟩ := x
  match l, hlen with
  | [], _ =>
    go_enter Try.func29, Try.ntmps29
    go_wp2_with fail
    refine HC.out.mono ?_
    rintro r w1 ⟨rfl, h1⟩
    have H1 := Lib.hid h1
    clear h1
    rw [ba_nil]
    go_wp2_with fail
    go_ret
    exact ⟨rfl, H1.out⟩
  | [y], _ =>
    have hs : ((ba [y]).size : Int) = 1 := rfl
    have hy : (ba [y])[0]? = some y := rfl
    have ht : (ba [y]).toList.isEmpty = false := by rw [bs_toList]; rfl
    go_enter Try.func29, Try.ntmps29
    go_wp2_with fail
    refine HC.out.mono ?_
    rintro r w1 ⟨rfl, h1⟩
    have H1 := Lib.hid h1
    clear h1
    go_wp2_with fail
    go_ret
    exact ⟨rfl, H1.out⟩
set_option maxHeartbeats 2000000 in
theorem num_calls (b : Nat) (c : C) (m : Nat) (w : World) (h : CU b c w) (hl : c.b.length ≤ 9223372036854775807) :
    Calls Try.prog 30 #[.pointer (some ⟨b, 0, none⟩), .int .u64 m] w fun r w' => r = .returned (.int .u64 (numC c m).1) ∧ CU b (numC c m).2 w' ∧ CW b w w' := by
  obtain ⟨l, ce⟩ := c
  simp only at hl
  have c0 := h.c0
  have c1 := h.c1
  simp only at c0 c1
  have H := Lib.hid h
  clear h
  by_cases h0 : ce = 0
  · subst h0
    have HT := Lib.hid (fun w => Num.take_calls (ba l) w hl)
    rw [bs_ba] at HT
    have hlt := Num.takeR_lt l
    have hbad := num_bad l m
    have hbig := num_big l m
    have hok := num_ok l m
    have herr := Num.takeR_err l
    generalize Num.takeR l = x at *
    obtain ⟨x, n, e⟩ := x
    simp only at hlt hbad hbig hok
    unfold Num.takeV at HT
    simp only at HT
    by_cases he : e = 0
    · subst he
      by_cases hm : m < x
      · rw [hbig rfl hm]
        have t1 : decide ((m : Int) < (x : Int)) = true := by simpa using hm
        have t2 : decide (m < x) = true := by simpa using hm
        clear hbad hbig hok herr hlt hm
        go_enter Try.func30, Try.ntmps30
        go_wp2_with fail
        refine (HT.out _).mono ?_
        rintro r w1 ⟨rfl, hb1⟩
        have HF := Lib.hid (fail_calls b ⟨l, 0⟩ 3 w1 (H.out.keep hb1))
        rw [fail_some l 3 (by decide)] at HF
        have Hb1 := Lib.hid hb1
        clear hb1
        go_wp2_with fail
        refine HF.out.mono ?_
        rintro r w2 ⟨rfl, h2⟩
        have H2 := Lib.hid h2
        clear h2
        go_wp2_with fail
        go_ret
        exact ⟨rfl, H2.out.1, (But.of_below Hb1.out).trans H2.out.2 (fun _ _ e => e)⟩
      · rw [hok rfl hm]
        have t1 : decide ((m : Int) < (x : Int)) = false := by simpa using hm
        have t2 : decide (m < x) = false := by simpa using hm
        have hn : n ≤ l.length := hlt.2.2.1
        clear hbad hbig hok herr hlt hm
        go_enter Try.func30, Try.ntmps30
        go_wp2_with fail
        refine (HT.out _).mono ?_
        rintro r w1 ⟨rfl, hb1⟩
        have HF := Lib.hid (cut_calls b ⟨l, 0⟩ n w1 (H.out.keep hb1) hl (by omega))
        rw [raw_ok l n hn] at HF
        have Hb1 := Lib.hid hb1
        clear hb1
        go_wp2_with fail
        refine HF.out.mono ?_
        rintro r w2 ⟨rfl, h2⟩
        have H2 := Lib.hid h2
        clear h2
        go_wp2_with fail
        go_ret
        exact ⟨rfl, H2.out.1, (But.of_below Hb1.out).trans H2.out.2 (fun _ _ e => e)⟩
    · rw [hbad he]
      have t1 : ((e : Int) != 0) = true := by simpa using he
      have t2 : ((e : Int) == 0) = false := by simpa using he
      have he2 : (e : Int) ≠ 0 := by omega
      have HE := Lib.hid he2
      clear hbad hbig hok herr he he2
      go_enter Try.func30, Try.ntmps30
      go_wp2_with fail
      refine (HT.out _).mono ?_
      rintro r w1 ⟨rfl, hb1⟩
      have HF := Lib.hid (fail_calls b ⟨l, 0⟩ e w1 (H.out.keep hb1))
      rw [fail_some l e HE.out] at HF
      have Hb1 := Lib.hid hb1
      clear hb1
      go_wp2_with fail
      refine HF.out.mono ?_
      rintro r w2 ⟨rfl, h2⟩
      have H2 := Lib.hid h2
      clear h2
      go_wp2_with fail
      go_ret
      exact ⟨rfl, H2.out.1, (But.of_below Hb1.out).trans H2.out.2 (fun _ _ e => e)⟩
  · have t1 : (ce != 0) = true := by simpa using h0
    rw [num_err ⟨l, ce⟩ m h0]
    go_enter Try.func30, Try.ntmps30
    go_wp2_with fail
    go_ret
    exact ⟨rfl, H.out, But.refl _ _⟩
theorem num_u64 (c : C) (m : Nat) (hm : m ≤ 9223372036854775807) : (numC c m).1 ≤ 9223372036854775807 := Nat.le_trans (num_le c m) hm
set_option maxHeartbeats 2000000 in
theorem text_calls (b : Nat) (c : C) (n : Int) (w : World) (h : CU b c w) (hl : c.b.length ≤ 9223372036854775807) (hn : n ≤ 9223372036854775807) (hn0 : -9223372036854775808 ≤ n) :
    Calls Try.prog 31 #[.pointer (some ⟨b, 0, none⟩), .int .i64 n] w fun r w' => r = .returned (.string (ba (textC c n).1)) ∧ CU b (textC c n).2 w' ∧ CW b w w' := by
  have HN := Lib.hid (num_calls b c (max n 0).toNat w h hl)
  have hm : ((max n 0).toNat : Int) = max n 0 := Int.toNat_of_nonneg (by omega)
  rw [hm] at HN
  have hle := num_u64 c (max n 0).toNat (by omega)
  have hlen := num_len c (max n 0).toNat
  unfold textC
  clear h hm
  generalize numC c (max n 0).toNat = x at *
  obtain ⟨k, d⟩ := x
  simp only at HN hle hlen ⊢
  by_cases h0 : n < 0
  · have e : max n 0 = 0 := by omega
    rw [e] at HN
    clear e
    go_enter Try.func31, Try.ntmps31
    go_wp2_with fail
    refine HN.out.mono ?_
    rintro r w1 ⟨rfl, h1, hwa⟩
    have HC := Lib.hid (cut_calls b d k w1 h1 (by omega) hle)
    have HA := Lib.hid hwa
    clear h1 hwa
    go_wp2_with fail
    refine HC.out.mono ?_
    rintro r w2 ⟨rfl, h2, hw2⟩
    have H2 := Lib.hid (And.intro h2 hw2)
    clear h2 hw2
    go_wp2_with fail
    go_ret
    exact ⟨rfl, H2.out.1, HA.out.trans H2.out.2 (fun _ _ e => e)⟩
  · have e : max n 0 = n := by omega
    rw [e] at HN
    clear e
    go_enter Try.func31, Try.ntmps31
    go_wp2_with fail
    refine HN.out.mono ?_
    rintro r w1 ⟨rfl, h1, hwa⟩
    have HC := Lib.hid (cut_calls b d k w1 h1 (by omega) hle)
    have HA := Lib.hid hwa
    clear h1 hwa
    go_wp2_with fail
    refine HC.out.mono ?_
    rintro r w2 ⟨rfl, h2, hw2⟩
    have H2 := Lib.hid (And.intro h2 hw2)
    clear h2 hw2
    go_wp2_with fail
    go_ret
    exact ⟨rfl, H2.out.1, HA.out.trans H2.out.2 (fun _ _ e => e)⟩
theorem raw32_len (c : C) : (rawC c 32).1.length ≤ 32 := by
  unfold rawC
  split
  · simp
  split
  · simp
  split
  · simp
  · simp
    omega
theorem hash_len (c : C) : (hashC c).1.length = 32 := by
  have := raw32_len c
  unfold hashC
  simp
  omega
theorem rowByte : (Try.prog.info? 5).map (·.size) = some 1 := by kernel_rfl
theorem zeroH : hc (List.replicate 32 0) = List.replicate 32 (.int .u8 0) := by simp [hc]; rfl
set_option maxHeartbeats 4000000 in
set_option maxRecDepth 100000 in
theorem hash_calls (b : Nat) (c : C) (w : World) (h : CU b c w) (hl : c.b.length ≤ 9223372036854775807) :
    Calls Try.prog 27 #[.pointer (some ⟨b, 0, none⟩)] w fun r w' => r = .returned (hv (hashC c).1) ∧ CU b (hashC c).2 w' ∧ CW b w w' := by
  have hb := h.lt
  have hne : w.heap.size ≠ b := by omega
  have hne1 : w.heap.size + 1 ≠ b := by omega
  have H := Lib.hid h
  have HRa := Lib.hid (fun W (hW : CU b c W) => raw_calls b c 32 W hW hl (by omega))
  have hrl := raw32_len c
  have hlen2 : (hashC c).1.length = 32 := hash_len c
  have hh : hashC c = ((rawC c 32).1 ++ List.replicate (32 - (rawC c 32).1.length) 0, (rawC c 32).2) := rfl
  rw [hh] at hlen2 ⊢
  generalize rawC c 32 = x at *
  obtain ⟨s, d⟩ := x
  clear h hh
  go_enter Try.func27, Try.ntmps27
  go_wp2_with fail
  generalize hW : World.alloc (World.alloc w _) _ = W0
  have z0 : W0.heap[w.heap.size]? = some (.cells (hc (List.replicate 32 0)).toArray 24 (0, 0)) := by
    rw [← hW]
    exact (Below.heap_alloc _ _ _ (by simp)).trans (heap_new w _)
  have z1 : W0.heap[w.heap.size + 1]? = some (.cells (hc (List.replicate 32 0)).toArray 24 (0, 0)) := by
    rw [← hW]
    have := heap_new (w.alloc (.cells (hc (List.replicate 32 0)).toArray 24)) (.cells (hc (List.replicate 32 0)).toArray 24)
    rw [World.size_alloc] at this
    exact this
  have hB0 : Below w.heap.size w W0 := by
    rw [← hW]
    exact ((Below.refl _ _).alloc (Nat.le_refl _) _).alloc (by simp) _
  have hsz : W0.heap.size = w.heap.size + 2 := by rw [← hW]; simp
  clear hW
  have HR := Lib.hid (HRa.out W0.drew (H.out.keep hB0.drew))
  have Z0 := Lib.hid z0
  have Z1 := Lib.hid z1
  have HB0 := Lib.hid hB0
  have Hsz := Lib.hid hsz
  have Hlen2 := Lib.hid hlen2
  clear z0 z1 hB0 hsz hlen2
  have hrow : (((hc (List.replicate 32 0)).toArray.toList.take 0 ++ Lib.byteCells (ba s).data.toList ++ (hc (List.replicate 32 0)).toArray.toList.drop (0 + (ba s).size)).toArray) = (hc (s ++ List.replicate (32 - s.length) 0)).toArray := by
    rw [ba_size, Nat.zero_add, List.take_zero, List.nil_append]
    congr 1
    unfold hc
    rw [List.map_append, List.map_replicate, List.map_replicate, List.drop_replicate]
    rfl
  have HR2 := Lib.hid (HR.out.mono (R' := fun r w1 => r = .returned (.string (ba s)) ∧ Hid (CU b d w1 ∧ CW b W0.drew w1 ∧ w1.heap[w.heap.size]? = some (.cells (hc (List.replicate 32 0)).toArray 24 (0, 0)) ∧ w1.heap[w.heap.size + 1]? = some (.cells (hc (List.replicate 32 0)).toArray 24 (0, 0))) ∧
      Hid ((Builtin.copy_ #[89, 9] 3 #[.slice (some ⟨w.heap.size + 1, 0, none⟩) 32 32, .string (ba s)]).run Try.prog w1 = .ok (goInt (ba s).size) (w1.setRow (w.heap.size + 1) (hc (s ++ List.replicate (32 - s.length) 0)).toArray))) (fun r w1 hx => by
    obtain ⟨he, h1, hw1⟩ := hx
    have y0 : w1.heap[w.heap.size]? = some (.cells (hc (List.replicate 32 0)).toArray 24 (0, 0)) := (hw1.block _ (by show _ < W0.heap.size; rw [Hsz.out]; omega) hne).trans Z0.out
    have y1 : w1.heap[w.heap.size + 1]? = some (.cells (hc (List.replicate 32 0)).toArray 24 (0, 0)) := (hw1.block _ (by show _ < W0.heap.size; rw [Hsz.out]; omega) hne1).trans Z1.out
    have hcp := Lib.run_copy_row_string (P := Try.prog) w1 89 9 3 5 (w.heap.size + 1) 0 32 32 (ba s) _ 24 Try.underlying89 rowByte y1 hrl (by simp [hc_len]; exact hrl)
    rw [hrow] at hcp
    exact ⟨he, Lib.hid ⟨h1, hw1, y0, y1⟩, Lib.hid hcp⟩))
  clear hrow HR
  go_region_law (first | (refine step_copy_run rfl (.tmp 4) (.tmp 6) 89 9 rfl _ _ rfl rfl hcp.out ?_) | (go_simp; go_at_call 24; refine HR2.out.mono ?_; rintro r w1 ⟨rfl, hy, hcp⟩))
  have hx1 : (s ++ List.replicate (32 - s.length) 0).length = 32 := Hlen2.out
  generalize hX : s ++ List.replicate (32 - s.length) 0 = x at *
  have HX := Lib.hid hX
  clear hX
  have i3 := IHa hx1
  have g1 : (w1.setRow (w.heap.size + 1) (hc x).toArray).heap[w.heap.size + 1]? = some (.cells (hc x).toArray 24 (0, 0)) := setRow_heap _ _ _ _ _ _ hy.out.2.2.2
  have g0 : (w1.setRow (w.heap.size + 1) (hc x).toArray).heap[w.heap.size]? = some (.cells (hc (List.replicate 32 0)).toArray 24 (0, 0)) := (setRow_other _ _ _ _ (by omega)).trans hy.out.2.2.1
  have hk1 : ∀ k, k ≠ w.heap.size + 1 → (w1.setRow (w.heap.size + 1) (hc x).toArray).heap[k]? = w1.heap[k]? := fun k hk => setRow_other _ _ _ _ hk
  have hs1 : (w1.setRow (w.heap.size + 1) (hc x).toArray).heap.size = w1.heap.size := by simp [World.setRow]
  have hos : (w1.setRow (w.heap.size + 1) (hc x).toArray).os = w1.os ∧ (w1.setRow (w.heap.size + 1) (hc x).toArray).tape = w1.tape ∧ (w1.setRow (w.heap.size + 1) (hc x).toArray).output = w1.output := ⟨rfl, rfl, rfl⟩
  generalize w1.setRow (w.heap.size + 1) (hc x).toArray = W1 at *
  have G1 := Lib.hid g1
  have G0 := Lib.hid g0
  have HK1 := Lib.hid hk1
  have HS1 := Lib.hid hs1
  have HOS := Lib.hid hos
  have Hx1 := Lib.hid hx1
  clear g1 g0 hk1 hs1 hos hx1 hcp
  go_wp2_with (first | (refine wpList_load_row rfl 24 _ rfl _ rfl _ _ _ _ G1.out UH rfl i3 ?_) | (refine wpList_store_row rfl 24 _ _ rfl w.heap.size (hc x).toArray rfl rfl _ _ G0.out i3 (by simp [hc_len, Hx1.out]) (hc_one _) ?_))
  have r2 : (W1.setRow w.heap.size (hc x).toArray).heap[w.heap.size]? = some (.cells (hc x).toArray 24 (0, 0)) := setRow_heap _ _ _ _ _ _ G0.out
  have hload := run_loadVar_row (P := Try.prog) _ _ 24 24 _ _ _ r2 UH rfl i3
  refine bodyPost_ret (results_cell 2 24 ⟨w.heap.size, 0, none⟩ (hv x) rfl rfl hload) rfl ?_
  obtain ⟨h1, hw1, _, _⟩ := hy.out
  have hk2 : ∀ k, k < w.heap.size → (W1.setRow w.heap.size (hc x).toArray).heap[k]? = w1.heap[k]? := fun k hk => (setRow_other _ _ _ _ (by omega)).trans (HK1.out k (by omega))
  refine ⟨by rw [HX.out], (hk2 b hb).trans h1, ?_⟩
  have hB := HB0.out
  refine ⟨HOS.out.1.trans (hw1.os.trans hB.os), HOS.out.2.1.trans (hw1.tape.trans hB.tape), HOS.out.2.2.trans (hw1.output.trans hB.output), ?_, fun k hk hkb => ?_⟩
  · have e1 : (W1.setRow w.heap.size (hc x).toArray).heap.size = W1.heap.size := by simp [World.setRow]
    have e2 : W0.heap.size ≤ w1.heap.size := hw1.size
    rw [e1, HS1.out]
    have := hB.size
    omega
  · have e3 : w1.heap[k]? = W0.heap[k]? := hw1.block k (by show _ < W0.heap.size; rw [Hsz.out]; omega) hkb
    exact (hk2 k hk).trans (e3.trans (hB.block k hk))
end Go.Proofs.Ytgdlhcopgfgmaaa.Cur

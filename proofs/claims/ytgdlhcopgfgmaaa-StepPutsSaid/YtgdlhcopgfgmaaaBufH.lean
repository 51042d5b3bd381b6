/- The walk of a Buf's Hash, at a Buf and at nil; the document's Raw. -/
import Derived.Test.YtgdlhcopgfgmaaaBufM
namespace Go.Proofs.Ytgdlhcopgfgmaaa.Buf
open Go.RowKit Go.Proofs.Ytgdlhcopgfgmaaa.Mk
theorem IH : (Try.prog.info? 24).map (·.size) = some 32 := by kernel_rfl
theorem IHi : (Try.prog.info? 24).map (fun i => (i.zero, i.size, i.bytes)) = some (some (hv (List.replicate 32 0)), 32, 32) := by kernel_rfl
theorem UHs : Try.prog.underlying 62 = some (.slice 24) := by kernel_rfl
theorem UH : Try.prog.underlying 24 = some (.array 32 5) := by kernel_rfl
theorem UB : Try.prog.underlying 5 = some (.int .u8) := by kernel_rfl
theorem IHl {h : List UInt8} (hl : h.length = 32) : (Try.prog.info? 24).map (·.size) = some (hc h).length := by rw [IH, hc_len, hl]
theorem IHa {h : List UInt8} (hl : h.length = 32) : (Try.prog.info? 24).map (·.size) = some (hc h).toArray.size := by rw [IH]; simp [hc_len, hl]
theorem eqH {x y : List UInt8} (hx : x.length = 32) (hy : y.length = 32) : ∀ wx, (binOp .eql 24 (.agg (hc x).toArray) (.agg (hc y).toArray)).run Try.prog wx = .ok (.bool (x == y)) wx :=
  fun wx => run_eql_bytes (P := Try.prog) wx 24 5 32 UH UB Try.sizeOf5 x y hx hy
theorem neH {x y : List UInt8} (hx : x.length = 32) (hy : y.length = 32) : ∀ wx, (binOp .neq 24 (.agg (hc x).toArray) (.agg (hc y).toArray)).run Try.prog wx = .ok (.bool (!(x == y))) wx :=
  fun wx => run_neq_bytes (P := Try.prog) wx 24 5 32 UH UB Try.sizeOf5 x y hx hy
abbrev H := List UInt8
set_option maxHeartbeats 4000000 in
set_option maxRecDepth 100000 in
theorem bhash_calls (B : Nat) (q r : Option Nat) (l : List UInt8) (v : Value) (hs : List H) (w : World) (h : QB B q r l w) (hv : SL hc 32 w v hs) (hlen : l.length + hs.length * 32 ≤ 140737488355328)
    (hap : ∀ A n c, v = .slice A n c → ∀ b o, A = some ⟨b, o, none⟩ → q ≠ some b ∧ r ≠ some b) :
    Calls Try.prog 68 #[qv q, v] w fun e w' => e = .returned (.tuple #[]) ∧ ∃ r', QB B q r' (l ++ hs.flatten) w' ∧ QW q r r' w w' := by
  obtain ⟨hl32, hbd, A, c, rfl, hlc, hcm, hex⟩ := hv
  have HB0 := Lib.hid h
  have Hex := Lib.hid hex
  have Hap := Lib.hid (hap A hs.length c rfl)
  have H32 := Lib.hid hl32
  clear h hex hap hl32
  generalize hv : qv q = v
  have Hv := Lib.hid hv
  clear hv
  go_enter Try.func68, Try.ntmps68
  go_wp2_with fail
  go_loopw [5, 8] (fun _ s8 wr => ∃ k : Nat, k ≤ hs.length ∧ s8 = .int .i64 k ∧ Hid (∃ r', QB B q r' (l ++ (hs.take k).flatten) wr ∧ QW q r r' w wr)) (fun _ s8 _ => hs.length - (intOf s8).toNat)
  case atStart => exact ⟨0, by omega, rfl, Lib.hid ⟨r, by simpa using HB0.out, QW.refl _ _ _⟩⟩
  case round =>
    obtain ⟨k, hk, rfl, hr⟩ := hrel
    by_cases hkl : k < hs.length
    · obtain ⟨r', hB, hW⟩ := hr.out
      obtain ⟨b0, o0, rfl, hx⟩ := Hex.out (by omega)
      have hrange : wr.rangeAt b0 (o0 + k * 32) (hc hs[k]) := fun j u hj => by
        have := hx k hs[k] (List.getElem?_eq_getElem hkl) j u hj
        exact hW.cell this (Hap.out b0 o0 rfl).1 (Hap.out b0 o0 rfl).2
      have hl32 : hs[k].length = 32 := by rw [← hc_len]; exact H32.out _ (List.getElem_mem hkl)
      have hct : (hs.take (k + 1)).flatten = (hs.take k).flatten ++ hs[k] := by
        rw [List.take_succ_eq_append_getElem hkl, List.flatten_append]; simp
      have hcl : (hs.take k).flatten.length = k * 32 := by
        have : ∀ (m : List H), (∀ x ∈ m, x.length = 32) → m.flatten.length = m.length * 32 := by
          intro m
          induction m with
          | nil => intro _; rfl
          | cons x m ih =>
            intro hm
            rw [List.flatten_cons, List.length_append, ih (fun y hy => hm y (by simp [hy])), hm x (by simp), List.length_cons]
            omega
        rw [this _ (fun x hx => by rw [← hc_len]; exact H32.out x (List.mem_of_mem_take hx)), List.length_take]
        rw [Nat.min_eq_left (by omega)]
      have i1 := IHl hl32
      have i3 := IHa hl32
      have HBk := Lib.hid hB
      have HWk := Lib.hid hW
      have HT := Lib.hid hct
      have HL := Lib.hid hl32
      have hlen2 : (l ++ (hs.take k).flatten).length + 32 ≤ 140737488355328 := by rw [List.length_append, hcl]; omega
      clear hB hW hct hl32 hx hcl hr
      generalize hs[k] = x at *
      have hSB : SB (wr.alloc (.cells (hc x).toArray 24)) (.slice (some ⟨wr.heap.size, 0, none⟩) 32 32) x := ⟨by rw [HL.out]; simp [maxLen], some ⟨wr.heap.size, 0, none⟩, 32, by rw [HL.out], by rw [HL.out]; exact Nat.le_refl _, by simp [maxLen], fun _ => ⟨wr.heap.size, 0, rfl, range_row (heap_alloc_last wr _)⟩⟩
      have hcv := run_string_bytes (P := Try.prog) UBs UBy USt hSB
      clear hSB
      have HR := Lib.hid (raw_new B q r' (l ++ (hs.take k).flatten) [ba x] wr ((wr.alloc (.cells (hc x).toArray 24)).alloc (.cells #[.string (ba x)] 9)) (wr.heap.size + 1) 1 9 HBk.out
        (((Below.refl _ _).alloc (Nat.le_refl _) _).alloc (by simp) _) (by rw [cells_one, ← World.size_alloc wr (.cells (hc x).toArray 24)]; exact heap_new _ _) (by omega) rfl (by simp) (by rw [cat_one, bs_ba, HL.out]; exact hlen2))
      rw [cat_one, bs_ba, Hv.out] at HR
      clear hlen2
      go_wp2_with (first | (refine wpList_load_mid rfl 24 _ rfl b0 (o0 + k * 32) rfl (hc x) _ (by assumption) UH rfl (by assumption) ?_) | (refine wpList_store_last rfl 24 _ _ rfl _ (hc x).toArray rfl rfl (by assumption) (by simp [hc_len, HL.out]) (hc_one _) ?_))
      refine HR.out.mono ?_
      rintro e w2 ⟨rfl, h2⟩
      have H2 := Lib.hid h2
      clear h2
      go_wp2_with fail
      go_roundw
      case rel =>
        refine ⟨k + 1, by omega, by go_num, Lib.hid ?_⟩
        obtain ⟨r2, h3, h4⟩ := H2.out
        exact ⟨r2, by rw [HT.out, ← List.append_assoc]; exact h3, HWk.out.trans h4⟩
      case measure => simp [intOf] <;> omega
    · go_wp2_with fail
      go_end0
      obtain ⟨r', hB, hW⟩ := hr.out
      refine ⟨rfl, r', ?_, hW⟩
      rw [List.take_of_length_le (by omega)] at hB
      exact hB
end Go.Proofs.Ytgdlhcopgfgmaaa.Buf

/- The walk of common.All: the ids of a list that stand in another one, in its order. -/
import Derived.Test.YtcgibofjlicicaaCommonC
namespace Go.Proofs.Ytcgibofjlicicaa.Common
open Go.RowKit Go.Proofs.Ytcgibofjlicicaa.Mk
/-- the ids of a that stand in b -/
def allL (a b : List H) : List H := a.filter fun x => decide (0 ≤ firstI b x)
theorem all_snoc (a b : List H) (n : Nat) (h : n < a.length) : allL (a.take (n + 1)) b = allL (a.take n) b ++ (if 0 ≤ firstI b a[n] then [a[n]] else []) := by
  unfold allL
  rw [List.take_succ_eq_append_getElem h, List.filter_append]
  congr 1
  by_cases c : 0 ≤ firstI b a[n] <;> simp [c]
theorem all_len (a b : List H) : (allL a b).length ≤ a.length := List.length_filter_le _ _
theorem flat_len (l : List H) (h : ∀ x ∈ l, x.length = 32) : (l.flatMap hc).length = l.length * 32 := by
  induction l with
  | nil => rfl
  | cons x l ih => rw [List.flatMap_cons, List.length_append, ih (fun y hy => h y (by simp [hy])), hc_len, h x (by simp), List.length_cons]; omega
set_option maxHeartbeats 1000000 in
theorem all_calls (a b : List H) (va vb : Value) (w : World) (ha : SL hc 32 w va a) (hb : SL hc 32 w vb b) (hsm : a.length ≤ 4398046511104) :
    Calls Try.prog 21 #[va, vb] w fun e w' => ∃ v, e = .returned v ∧ SL hc 32 w' v (allL a b) ∧ Below w.heap.size w w' := by
  obtain ⟨hlen, hbd, A, c, rfl, hlc, hcm, hrd⟩ := ha
  obtain ⟨i0, hi, hz0, hz1, hz2⟩ := info_parts IHi
  go_enter Try.func21, Try.ntmps21
  go_wp2_with fail
  go_loopw [5, 7, 10] (fun s5 _ s10 wr => ∃ (n : Nat), n ≤ a.length ∧ s10 = .int .i64 n ∧ Hid (wr.ownsRow w.heap.size 30 32 s5 (allL (a.take n) b).length ((allL (a.take n) b).flatMap hc)) ∧ Below w.heap.size w wr) (fun _ _ i _ => a.length - (intOf i).toNat)
  case atStart => exact ⟨0, Nat.zero_le _, rfl, Lib.hid (World.ownsRow_nil _ _ _ _), Below.refl _ _⟩
  case round =>
    obtain ⟨n, hn, rfl, ho, hbw⟩ := hrel
    by_cases hlt : n < a.length
    · obtain ⟨b0, o, rfl, hrd2⟩ := hrd (by omega)
      have hr1 := range_below (hrd2 n a[n] (by simp)) hbw
      have hl1 : a[n].length = 32 := by rw [← hc_len]; exact hlen a[n] (by simp)
      have hb2 := hb.below hbw
      have hsn := Lib.hid (all_snoc a b n hlt)
      have hal := all_len (a.take n) b
      have htl : (a.take n).length ≤ n := List.length_take_le _ _
      clear hlen hrd hrd2
      generalize allL (a.take n) b = cur at *
      generalize a[n] = h at *
      have i1 := IHl hl1
      have i3 := IHa hl1
      have H1 := Lib.hid hl1
      clear hl1
      have hge := firstI_ge b h
      have hlt2 := firstI_lt b h
      have hbb := hb.bd
      have hcall := fun (wx : World) (hh : SL hc 32 wx vb b) => first_calls b h vb wx hh H1.out
      have Hcall := Lib.hid hcall
      clear hcall
      generalize firstI b h = r at *
      by_cases hr0 : 0 ≤ r
      all_goals
        go_wp2_with (first | (refine wpList_load_mid rfl 30 _ rfl b0 (o + n * 32) rfl (hc h) _ (by assumption) UH rfl (by assumption) ?_) | (refine wpList_store_last rfl 30 _ _ rfl _ (hc h).toArray rfl rfl (by assumption) (by simp [hc_len, H1.out]) (hc_one _) ?_) | (refine wpList_load_row rfl 30 _ rfl _ rfl _ _ _ _ (heap_alloc_last _ _) UH rfl i3 ?_))
        refine (Hcall.out _ (hb2.below ((Below.refl _ _).alloc (Nat.le_refl _) _))).mono ?_
        rintro e w1 ⟨rfl, hb1⟩
        have hb3 : Below wr.heap.size wr w1 := below_up ((Below.refl _ _).alloc (Nat.le_refl _) _) hb1
        have hz : wr.heap.size < w1.heap.size := by have := hb1.size; simp at this; omega
        have hblk : w1.heap[wr.heap.size]? = some (.cells (hc h).toArray 30 (0, 0)) := by
          rw [hb1.block _ (by simp)]; exact heap_alloc_last wr _
        have hsw := hbw.size
        have ho1 := Lib.hid (ho.out.kept (row := none) (w' := w1) ⟨hb3.os, hb3.tape, hb3.output, hb3.size, fun k hk _ => hb3.block k hk⟩ (by
          cases hob : u5.ownBlock with
          | none => exact .inl rfl
          | some k => exact .inr (by simp)))
        clear ho
      · go_wp2_with (first | (refine wpList_load_row rfl 30 _ rfl _ rfl _ _ _ _ hblk UH rfl i3 ?_) | (refine wpList_buildOne rfl 22 30 32 _ rfl (hc h).toArray _ 32 rfl (by simp [hc_len, H1.out]) IHi UHs (by decide) (by decide) ?_) | (at_builtin; refine wpList_append_own _ rfl _ _ 22 rfl w.heap.size 30 i0 _ 32 32 UHs hi hz0 hz1 hz2 rfl (by decide) _ _ _ rfl (ho1.out.alloc _) ⟨w1.heap.size, 0, none⟩ 1 1 (hc h) rfl ?c1 ?c2 ?c3 ?c4 ?c5 ?c6 ?_))
        case c1 => rw [hc_len, H1.out]
        case c2 => exact fun j u hj => by rw [Addr.add_mid]; exact range_row (heap_alloc_last w1 _) j u hj
        case c3 => exact hc_one' h
        case c4 => simp only [maxLen]; omega
        case c5 => omega
        case c6 => simp; omega
        intro v2 w2 ho2 hg2 _
        have hb5 : Below w.heap.size w w2 := ((below_up hbw hb3).alloc (by omega) _).grown hg2 (by simp; omega) (fun k hk => (ho1.out.lt k hk).1)
        have Ho2 := Lib.hid ho2
        clear ho2 hg2
        go_wp2_with fail
        go_roundw
        case rel => exact ⟨n + 1, by omega, by go_num, Lib.hid (by rw [hsn.out, if_pos hr0, List.length_append, List.flatMap_append]; simpa using Ho2.out), hb5⟩
        case measure => simp [intOf] <;> omega
      · go_wp2_with fail
        go_roundw
        case rel => exact ⟨n + 1, by omega, by go_num, Lib.hid (by rw [hsn.out, if_neg (by omega), List.append_nil]; exact ho1.out), below_up hbw hb3⟩
        case measure => simp [intOf] <;> omega
    · obtain rfl : n = a.length := by omega
      have hfin : SL hc 32 wr u5 (allL a b) := by
        have h1 := ho.out
        rw [List.take_length] at h1
        refine SL.of_owns h1 (fun x hx => ?_) ?_
        · exact hlen x (List.mem_filter.1 hx).1
        · have := all_len a b
          omega
      clear hlen hrd hb ho
      go_wp2_with fail
      go_ret
      exact ⟨_, rfl, hfin, hbw⟩
end Go.Proofs.Ytcgibofjlicicaa.Common

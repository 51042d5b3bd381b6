/- The walks of a Buf's Byte, Num and Text, at a Buf and at nil. -/
import Derived.Test.YtgdlhcopgfgmaaaBuf
import Derived.Test.YtgdlhcopgfgmaaaNumP
namespace Go.Proofs.Ytgdlhcopgfgmaaa.Buf
open Go.RowKit Go.Proofs.Ytgdlhcopgfgmaaa.Mk
theorem raw_new (B : Nat) (q r : Option Nat) (l : List UInt8) (ss : List ByteArray) (w w2 : World) (g n : Nat) (T : TypeId) (h : QB B q r l w) (hb : Below w.heap.size w w2)
    (hg : w2.heap[g]? = some (.cells (ss.flatMap encS).toArray T (0, 0))) (hgw : w.heap.size ≤ g) (hn : n = ss.length) (hbd : ss.length ≤ 140737488355328) (hlen : l.length + (cat ss).length ≤ 140737488355328) :
    Calls Try.prog 74 #[qv q, .slice (some ⟨g, 0, none⟩) n n] w2 fun e w' => e = .returned (.tuple #[]) ∧ ∃ r', QB B q r' (l ++ cat ss) w' ∧ QW q r r' w w' := by
  subst hn
  have h2 := h.keepB hb
  have hbase := h.base
  refine (raw_calls B q r l _ ss w2 h2 (SL.of_block hg (encS_len _) hbd _ rfl) hlen ?_).mono ?_
  · intro A n c he b o hA
    cases he
    cases hA
    exact ⟨fun e => by have := (hbase.2 g (.inl e.symm)).2; omega, fun e => by have := (hbase.2 g (.inr e.symm)).2; omega⟩
  · rintro e w' ⟨he, r', h3, h4⟩
    exact ⟨he, r', h3, (QW.of_below hb).trans h4⟩
theorem cells_one (s : ByteArray) : (([s] : List ByteArray).flatMap encS).toArray = #[.string s] := rfl
theorem cells_two (s t : ByteArray) : (([s, t] : List ByteArray).flatMap encS).toArray = #[.string s, .string t] := rfl
theorem cat_one (s : ByteArray) : cat [s] = bs s := by simp [cat]
theorem cat_two (s t : ByteArray) : cat [s, t] = bs s ++ bs t := by simp [cat]
set_option maxHeartbeats 2000000 in
theorem bbyte_calls (B : Nat) (q r : Option Nat) (l : List UInt8) (n : Nat) (w : World) (h : QB B q r l w) (hn : n < 256) (hlen : l.length + 1 ≤ 140737488355328) :
    Calls Try.prog 75 #[qv q, .int .u8 n] w fun e w' => e = .returned (.tuple #[]) ∧ ∃ r', QB B q r' (l ++ [UInt8.ofNat n]) w' ∧ QW q r r' w w' := by
  have hSB : SB (w.alloc (.cells #[.int .u8 (n : Int)] 5)) (.slice (some ⟨w.heap.size, 0, none⟩) 1 1) [UInt8.ofNat n] :=
    ⟨by simp [maxLen], some ⟨w.heap.size, 0, none⟩, 1, rfl, Nat.le_refl _, by simp [maxLen], fun _ => ⟨w.heap.size, 0, rfl, fun j u hj => by
      have e : hc [UInt8.ofNat n] = [.int .u8 (n : Int)] := by simp [hc, Num.cell_ofNat n hn]
      rw [e] at hj
      rw [cell_of_row _ _ _ _ _ _ (heap_alloc_last w _)]
      simpa using hj⟩⟩
  have hcv := run_string_bytes (P := Try.prog) UBs UBy USt hSB
  have HR := Lib.hid (raw_new B q r l [ba [UInt8.ofNat n]] w ((w.alloc (.cells #[.int .u8 (n : Int)] 5)).alloc (.cells #[.string (ba [UInt8.ofNat n])] 9)) (w.heap.size + 1) 1 9 h
    (((Below.refl _ _).alloc (Nat.le_refl _) _).alloc (by simp) _) (by rw [cells_one, ← World.size_alloc w (.cells #[.int .u8 (n : Int)] 5)]; exact heap_new _ _) (by omega) rfl (by simp) (by rw [cat_one, bs_ba]; simpa using hlen))
  rw [cat_one, bs_ba] at HR
  clear hSB h
  generalize qv q = v at *
  go_enter Try.func75, Try.ntmps75
  go_wp2_with fail
  refine HR.out.mono ?_
  rintro e w2 ⟨rfl, h2⟩
  have H2 := Lib.hid h2
  clear h2
  go_wp2_with fail
  go_end0
  exact ⟨rfl, H2.out⟩
set_option maxHeartbeats 2000000 in
theorem bnum_calls (B : Nat) (q r : Option Nat) (l : List UInt8) (x : Nat) (w : World) (h : QB B q r l w) (hx : x < 18446744073709551616) (hlen : l.length + 10 ≤ 140737488355328) :
    Calls Try.prog 66 #[qv q, .int .u64 x] w fun e w' => e = .returned (.tuple #[]) ∧ ∃ r', QB B q r' (l ++ Num.putL x) w' ∧ QW q r r' w w' := by
  have H := Lib.hid h
  have hp := Num.putL_len10 x hx
  have HP := Lib.hid (fun w => Num.put_calls x w hx)
  clear h hx
  generalize Num.putL x = p at *
  generalize hv : qv q = v
  have Hv := Lib.hid hv
  clear hv
  go_enter Try.func66, Try.ntmps66
  go_wp2_with fail
  refine (HP.out _).mono ?_
  rintro e w1 ⟨rfl, hb1⟩
  have HR := Lib.hid (raw_new B q r l [ba p] w (w1.alloc (.cells #[.string (ba p)] 9)) w1.heap.size 1 9 H.out (hb1.alloc hb1.size _) (by rw [cells_one]; exact heap_new _ _) hb1.size rfl (by simp) (by rw [cat_one, bs_ba]; omega))
  rw [cat_one, bs_ba, Hv.out] at HR
  go_wp2_with fail
  refine HR.out.mono ?_
  rintro e w2 ⟨rfl, h2⟩
  have H2 := Lib.hid h2
  clear h2
  go_wp2_with fail
  go_end0
  exact ⟨rfl, H2.out⟩
set_option maxHeartbeats 2000000 in
theorem btext_calls (B : Nat) (q r : Option Nat) (l : List UInt8) (s : ByteArray) (w : World) (h : QB B q r l w) (hlen : l.length + 10 + s.size ≤ 140737488355328) :
    Calls Try.prog 72 #[qv q, .string s] w fun e w' => e = .returned (.tuple #[]) ∧ ∃ r', QB B q r' (l ++ (Num.putL s.size ++ bs s)) w' ∧ QW q r r' w w' := by
  have H := Lib.hid h
  have hx : s.size < 18446744073709551616 := by omega
  have hp := Num.putL_len10 s.size hx
  have HP := Lib.hid (fun w => Num.put_calls s.size w hx)
  clear h hx
  generalize Num.putL s.size = p at *
  generalize hv : qv q = v
  have Hv := Lib.hid hv
  clear hv
  go_enter Try.func72, Try.ntmps72
  go_wp2_with fail
  refine (HP.out _).mono ?_
  rintro e w1 ⟨rfl, hb1⟩
  have HR := Lib.hid (raw_new B q r l [ba p, s] w (w1.alloc (.cells #[.string (ba p), .string s] 9)) w1.heap.size 2 9 H.out (hb1.alloc hb1.size _) (by rw [cells_two]; exact heap_new _ _) hb1.size rfl (by simp) (by rw [cat_two, bs_ba, List.length_append, bs_len]; omega))
  rw [cat_two, bs_ba, Hv.out] at HR
  go_wp2_with fail
  refine HR.out.mono ?_
  rintro e w2 ⟨rfl, h2⟩
  have H2 := Lib.hid h2
  clear h2
  go_wp2_with fail
  go_end0
  exact ⟨rfl, H2.out⟩
end Go.Proofs.Ytgdlhcopgfgmaaa.Buf

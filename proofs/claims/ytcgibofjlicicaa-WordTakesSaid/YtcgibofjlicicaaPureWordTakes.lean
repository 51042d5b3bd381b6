/- Taking 4 or 8 bytes at any place is the document's number: the plain statement under the row. No condition. -/
import Derived.Test.YtcgibofjlicicaaPWordTakesx
import Derived.Test.YtcgibofjlicicaaWordMath
namespace Go.Proofs.Ytcgibofjlicicaa.Pure
open Go.RowKit Go.Proofs.Ytcgibofjlicicaa.PWordTakes Go.Proofs.YtcgibofjlicicaaW.PrintWords Go.Proofs.YtcgibofjlicicaaW.PrintLast Go.Proofs.Ytcgibofjlicicaa.WM
theorem take_l0 (s : ByteArray) (a : Int) (hs : s.size ≤ 281474976710656) (_ha : -9223372036854775808 ≤ a) (n : Nat) (hn : n ≤ 8) : ∀ d k i : Nat, i + d = n → d < k →
    word_take.l0 k s a (tk s a i : Nat) (n : Nat) (i : Nat) = some ((tk s a n : Nat) : Int) := by
  intro d
  induction d with
  | zero =>
    intro k i h hk
    obtain ⟨k, rfl⟩ : ∃ m, k = m + 1 := ⟨k - 1, by omega⟩
    obtain rfl : i = n := by omega
    simp only [word_take.l0]
    rw [if_neg (by omega)]
  | succ d ih =>
    intro k i h hk
    obtain ⟨k, rfl⟩ : ∃ m, k = m + 1 := ⟨k - 1, by omega⟩
    have ht := tk_lt8 s a i (by omega)
    have hf := fb_lt s a i
    have e1 : wrap64 ((i : Int) + 1) = ((i + 1 : Nat) : Int) := by rw [w64 _ (by omega) (by omega)]; omega
    have fin := ih k (i + 1) (by omega) (by omega)
    simp only [word_take.l0]
    rw [if_pos (by omega), e1]
    by_cases c1 : a ≥ 0
    · by_cases c2 : a < (s.size : Int)
      · have e2 : wrap64 ((s.size : Int) - a) = (s.size : Int) - a := w64 _ (by omega) (by omega)
        rw [if_pos c1, if_pos c2, e2]
        by_cases c3 : (i : Int) < (s.size : Int) - a
        · have e3 : wrap64 (a + (i : Int)) = a + i := w64 _ (by omega) (by omega)
          have hb := bt_range s (a + i)
          have ef : fb s a i = (bt s (a + i)).toNat := by unfold fb; rw [if_pos c1, if_pos c2, if_pos c3]
          have eb : bt s (a + i) = ((fb s a i : Nat) : Int) := by rw [ef]; omega
          rw [if_pos c3, e3, if_pos (by omega), if_pos (by omega), eb, or_step _ _ ht hf]
          exact fin
        · have ef : fb s a i = 0 := by unfold fb; rw [if_pos c1, if_pos c2, if_neg c3]
          rw [if_neg c3, or_zero _ ht, ← ef]
          exact fin
      · have ef : fb s a i = 0 := by unfold fb; rw [if_pos c1, if_neg c2]
        rw [if_pos c1, if_neg c2, or_zero _ ht, ← ef]
        exact fin
    · have ef : fb s a i = 0 := by unfold fb; rw [if_neg c1]
      rw [if_neg c1, or_zero _ ht, ← ef]
      exact fin
theorem take_f (s : ByteArray) (a : Int) (hs : s.size ≤ 281474976710656) (ha : -9223372036854775808 ≤ a) (n : Nat) (hn : n ≤ 8) : word_take.f 100 s a (n : Nat) = some ((tk s a n : Nat) : Int) :=
  take_l0 s a hs ha n hn n 100 0 (by omega) (by omega)
theorem take32_f (s : ByteArray) (a : Int) (hs : s.size ≤ 281474976710656) (ha : -9223372036854775808 ≤ a) : word_Take32.f 100 s a = some ((tk s a 4 : Nat) : Int) := by
  unfold word_Take32.f
  rw [show (4 : Int) = ((4 : Nat) : Int) from rfl, take_f s a hs ha 4 (by decide)]
  have := tk_lt s a 4
  simp only [Option.bind_some]
  congr 1
  omega
theorem take64_f (s : ByteArray) (a : Int) (hs : s.size ≤ 281474976710656) (ha : -9223372036854775808 ≤ a) : word_Take64.f 100 s a = some ((tk s a 8 : Nat) : Int) := by
  unfold word_Take64.f
  rw [show (8 : Int) = ((8 : Nat) : Int) from rfl, take_f s a hs ha 8 (by decide)]
  rfl
theorem rtake_l0 (s : ByteArray) (a : Int) (hs : s.size ≤ 281474976710656) (_ha : -9223372036854775808 ≤ a) (n : Nat) (hn : n ≤ 8) : ∀ d k i : Nat, i + d = n → d < k →
    milepostref01_Take.l0 k s a (n : Nat) (tk s a i : Nat) (i : Nat) = some ((tk s a n : Nat) : Int) := by
  intro d
  induction d with
  | zero =>
    intro k i h hk
    obtain ⟨k, rfl⟩ : ∃ m, k = m + 1 := ⟨k - 1, by omega⟩
    obtain rfl : i = n := by omega
    simp only [milepostref01_Take.l0]
    rw [if_neg (by omega)]
  | succ d ih =>
    intro k i h hk
    obtain ⟨k, rfl⟩ : ∃ m, k = m + 1 := ⟨k - 1, by omega⟩
    have ht := tk_lt8 s a i (by omega)
    have hf := fb_lt s a i
    have e1 : wrap64 ((i : Int) + 1) = ((i + 1 : Nat) : Int) := by rw [w64 _ (by omega) (by omega)]; omega
    have fin := ih k (i + 1) (by omega) (by omega)
    simp only [milepostref01_Take.l0]
    rw [if_pos (by omega), e1]
    by_cases c1 : a ≥ 0
    · by_cases c2 : a < (s.size : Int)
      · have e2 : wrap64 ((s.size : Int) - a) = (s.size : Int) - a := w64 _ (by omega) (by omega)
        rw [if_pos c1, if_pos c2, e2]
        by_cases c3 : (i : Int) < (s.size : Int) - a
        · have e3 : wrap64 (a + (i : Int)) = a + i := w64 _ (by omega) (by omega)
          have hb := bt_range s (a + i)
          have ef : fb s a i = (bt s (a + i)).toNat := by unfold fb; rw [if_pos c1, if_pos c2, if_pos c3]
          have eb : bt s (a + i) = ((fb s a i : Nat) : Int) := by rw [ef]; omega
          rw [if_pos c3, e3, if_pos (by omega), if_pos (by omega), eb, add_step _ _ ht hf]
          exact fin
        · have ef : fb s a i = 0 := by unfold fb; rw [if_pos c1, if_pos c2, if_neg c3]
          rw [if_neg c3, or_zero _ ht, ← ef]
          exact fin
      · have ef : fb s a i = 0 := by unfold fb; rw [if_pos c1, if_neg c2]
        rw [if_pos c1, if_neg c2, or_zero _ ht, ← ef]
        exact fin
    · have ef : fb s a i = 0 := by unfold fb; rw [if_neg c1]
      rw [if_neg c1, or_zero _ ht, ← ef]
      exact fin
theorem rtake_f (s : ByteArray) (a : Int) (hs : s.size ≤ 281474976710656) (ha : -9223372036854775808 ≤ a) (n : Nat) (hn : n ≤ 8) : milepostref01_Take.f 100 s a (n : Nat) = some ((tk s a n : Nat) : Int) :=
  rtake_l0 s a hs ha n hn n 100 0 (by omega) (by omega)
theorem awake_f : milepostlaw01_awake.f 100 = some true := by decide +kernel
theorem WordTakes : milepostlaw01_WordTakes.Pure := by
  intro s a hs ha
  have ha2 : -9223372036854775808 ≤ a := (wf_i64 ha).1
  refine ⟨100, ?_⟩
  unfold milepostlaw01_WordTakes.f
  rw [take32_f s a (by omega) ha2, show (4 : Int) = ((4 : Nat) : Int) from rfl, rtake_f s a (by omega) ha2 4 (by decide), take64_f s a (by omega) ha2, show (8 : Int) = ((8 : Nat) : Int) from rfl, rtake_f s a (by omega) ha2 8 (by decide), awake_f]
  have := tk_lt s a 4
  simp only [Option.bind_some]
  rw [if_pos (by omega), if_pos trivial]
end Go.Proofs.Ytcgibofjlicicaa.Pure

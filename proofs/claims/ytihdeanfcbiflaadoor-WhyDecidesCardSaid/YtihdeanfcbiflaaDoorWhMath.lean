/- Plain laws of chapter 43: halves, rows, what is told of them, what they argue. No condition. -/
import Derived.Test.YtihdeanfcbiflaaDoorLgMath
import Derived.Test.YtihdeanfcbiflaaDoorLgTMath
namespace Go.Proofs.YtihdeanfcbiflaaDoor.Wh
open Go.RowKit Go.Proofs.YtihdeanfcbiflaaDoor.Mk Go.Proofs.YtihdeanfcbiflaaDoor.Ul Go.Proofs.YtihdeanfcbiflaaDoor.Wi Go.Proofs.YtihdeanfcbiflaaDoor.Lg
structure Hf where
  c : Int
  m : Bool
  v : Nat
structure Ro where
  l : Int
  a : Hf
  b : Hf
def hfC (h : Hf) : List Value := [.int .i64 h.c, .bool h.m] ++ FC 5 (lb h.v)
def roC (r : Ro) : List Value := [.int .i64 r.l] ++ (hfC r.a ++ hfC r.b)
theorem hfC_len (h : Hf) : (hfC h).length = 7 := by simp [hfC, FC_len]
theorem roC_len (r : Ro) : (roC r).length = 15 := by simp [roC, hfC_len]
def Hf.Ok (h : Hf) : Prop := h.v < (2 ^ 64) ^ 5 ∧ h.c ≤ 9223372036854775807 ∧ -9223372036854775808 ≤ h.c
def Ro.Ok (r : Ro) : Prop := r.a.Ok ∧ r.b.Ok ∧ r.l ≤ 9223372036854775807 ∧ -9223372036854775808 ≤ r.l
def itoaL (n : Int) : List UInt8 := if n < 0 then 45 :: decL n.natAbs else decL n.toNat
def wordsL (h : Hf) : List UInt8 := itoaL h.c ++ (if h.m then 32 :: decL h.v else [32, 45])
def lineL (r : Ro) : List UInt8 := itoaL r.l ++ [32] ++ wordsL r.a ++ [32] ++ wordsL r.b ++ [10]
def textL : List Ro → List UInt8
  | [] => []
  | r :: l => lineL r ++ textL l
theorem textL_app (l m : List Ro) : textL (l ++ m) = textL l ++ textL m := by
  induction l with
  | nil => rfl
  | cons r l ih => simp [textL, ih]
theorem decL_len {X n : Nat} (h : X < 10 ^ (n + 1)) : (decL X).length ≤ n + 1 := by
  unfold decL
  rw [List.length_reverse]
  exact d10_len n X h
theorem itoa_len {n : Int} (h1 : n ≤ 9223372036854775807) (h2 : -9223372036854775808 ≤ n) : (itoaL n).length ≤ 20 := by
  unfold itoaL
  split
  · have := decL_len (X := n.natAbs) (n := 18) (Nat.lt_of_le_of_lt (show n.natAbs ≤ 9223372036854775808 by omega) (by decide))
    simp only [List.length_cons]
    omega
  · have := decL_len (X := n.toNat) (n := 18) (Nat.lt_of_le_of_lt (show n.toNat ≤ 9223372036854775808 by omega) (by decide))
    omega
theorem dec5_len {X : Nat} (h : X < (2 ^ 64) ^ 5) : (decL X).length ≤ 97 := decL_len (n := 96) (Nat.lt_of_lt_of_le h (by decide))
theorem words_len {h : Hf} (k : h.Ok) : (wordsL h).length ≤ 118 := by
  have h1 := itoa_len k.2.1 k.2.2
  have h2 := dec5_len k.1
  unfold wordsL
  split
  · simp; omega
  · simp; omega
theorem line_len {r : Ro} (k : r.Ok) : (lineL r).length ≤ 260 := by
  have h1 := itoa_len k.2.2.1 k.2.2.2
  have h2 := words_len k.1
  have h3 := words_len k.2.1
  unfold lineL
  simp
  omega
theorem text_len : ∀ (l : List Ro), (∀ r ∈ l, r.Ok) → (textL l).length ≤ l.length * 260
  | [], _ => by simp [textL]
  | r :: l, h => by
    have h1 := line_len (h r (by simp))
    have h2 := text_len l (fun x hx => h x (by simp [hx]))
    simp [textL]
    omega
/-- the greatest value that may be argued -/
def argV (f : Ro → Hf) : List Ro → Nat → Nat
  | [], b => b
  | r :: l, b => argV f l (if (f r).m = true ∧ b < (f r).v then (f r).v else b)
theorem argV_app (f : Ro → Hf) (l m : List Ro) (b : Nat) : argV f (l ++ m) b = argV f m (argV f l b) := by
  induction l generalizing b with
  | nil => rfl
  | cons r l ih => simp [argV, ih]
theorem argV_lt {f : Ro → Hf} : ∀ {l : List Ro} {b : Nat}, (∀ r ∈ l, (f r).v < (2 ^ 64) ^ 5) → b < (2 ^ 64) ^ 5 → argV f l b < (2 ^ 64) ^ 5
  | [], _, _, h => h
  | r :: l, b, hl, h => by
    unfold argV
    refine argV_lt (fun x hx => hl x (by simp [hx])) ?_
    split
    · exact hl r (by simp)
    · exact h
end Go.Proofs.YtihdeanfcbiflaaDoor.Wh

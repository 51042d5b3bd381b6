/- Plain facts on chapter 40's lists: what stands behind the last common id. No condition. -/
import Derived.Test.YtcgibofjlicicaaCommonF
namespace Go.Proofs.Ytcgibofjlicicaa.Common
theorem firstI_mem (l : List H) (id : H) : 0 ≤ firstI l id ↔ id ∈ l := by
  induction l with
  | nil => simp [firstI]
  | cons x l ih =>
    unfold firstI
    by_cases h : (x == id) = true
    · rw [if_pos h]; simp [eq_of_beq h]
    · rw [if_neg h]
      have hne : id ≠ x := fun e => h (by rw [e]; exact beq_self_eq_true x)
      have := firstI_ge l id
      split
      · rename_i hl
        have : ¬ 0 ≤ firstI l id := by omega
        rw [ih] at this
        simp [hne, this]
      · rename_i hl
        have h2 : 0 ≤ firstI l id := by omega
        have h3 := ih.1 h2
        simp [h3]
        try omega
theorem stands_mem (l : List H) (id : H) : standsB l id = true ↔ id ∈ l := by
  unfold standsB; rw [decide_eq_true_iff, firstI_mem]
theorem stands_not (l : List H) (id : H) : standsB l id = false ↔ id ∉ l := by
  rw [← stands_mem]; simp
theorem firstI_get (l : List H) (id : H) (k : Nat) (h : firstI l id = (k : Int)) : l[k]? = some id := by
  induction l generalizing k with
  | nil => simp [firstI] at h <;> omega
  | cons x l ih =>
    unfold firstI at h
    by_cases hx : (x == id) = true
    · rw [if_pos hx] at h
      obtain rfl : k = 0 := by omega
      simp [eq_of_beq hx]
    · rw [if_neg hx] at h
      split at h
      · omega
      · obtain ⟨m, rfl⟩ : ∃ m, k = m + 1 := ⟨k - 1, by have := firstI_ge l id; omega⟩
        rw [List.getElem?_cons_succ]
        exact ih m (by omega)
theorem allL_mem (a b : List H) (x : H) : x ∈ allL a b ↔ x ∈ a ∧ x ∈ b := by
  unfold allL; rw [List.mem_filter, decide_eq_true_iff, firstI_mem]
theorem allL_append (a c b : List H) : allL (a ++ c) b = allL a b ++ allL c b := List.filter_append _ _
theorem allL_split (a b : List H) (i : Nat) : allL a b = allL (a.take i) b ++ allL (a.drop i) b := by
  rw [← allL_append, List.take_append_drop]
/-- the walk's count -/
def cnt (a b : List H) (i : Nat) : Nat := (allL (a.take i) b).length
theorem cnt_zero (a b : List H) : cnt a b 0 = 0 := rfl
theorem cnt_all (a b : List H) : cnt a b a.length = (allL a b).length := by unfold cnt; rw [List.take_length]
theorem cnt_yes (a b : List H) (i : Nat) (h : i < a.length) (hs : standsB b a[i] = true) : cnt a b (i + 1) = cnt a b i + 1 := by
  unfold cnt
  rw [all_snoc a b i h, if_pos (by unfold standsB at hs; simpa using hs)]
  simp
theorem cnt_no (a b : List H) (i : Nat) (h : i < a.length) (hs : standsB b a[i] = false) : cnt a b (i + 1) = cnt a b i := by
  unfold cnt
  rw [all_snoc a b i h, if_neg (by unfold standsB at hs; simpa using hs)]
  simp
theorem cnt_get (a b : List H) (i : Nat) (h : i < a.length) (hs : standsB b a[i] = true) : (allL a b)[cnt a b i]? = some a[i] := by
  have h1 : 0 ≤ firstI b a[i] := by unfold standsB at hs; simpa using hs
  rw [allL_split a b (i + 1), all_snoc a b i h, if_pos h1, List.append_assoc]
  unfold cnt
  rw [List.getElem?_append_right (Nat.le_refl _), Nat.sub_self]
  rfl
theorem cnt_lt (a b : List H) (i : Nat) (h : i < a.length) (hs : standsB b a[i] = true) : cnt a b i < (allL a b).length := (List.getElem?_eq_some_iff.1 (cnt_get a b i h hs)).1
/-- what Last is, of the first n -/
theorem lastU_tells (a b : List H) (n : Nat) (hn : n ≤ a.length) :
    (lastU a b n = (-1, -1) ∧ allL (a.take n) b = []) ∨ ∃ (i k : Nat), lastU a b n = ((i : Int), (k : Int)) ∧ i < n ∧ k < b.length ∧ (∃ x, a[i]? = some x ∧ b[k]? = some x ∧ (allL (a.take n) b).getLast? = some x) ∧ ∀ j x, i < j → j < n → a[j]? = some x → x ∉ b := by
  induction n with
  | zero => left; exact ⟨rfl, rfl⟩
  | succ n ih =>
    have hlt : n < a.length := by omega
    by_cases h : 0 ≤ firstI b a[n]
    · right
      obtain ⟨k, hk⟩ := Int.eq_ofNat_of_zero_le h
      refine ⟨n, k, ?_, Nat.lt_succ_self n, ?_, ⟨a[n], List.getElem?_eq_getElem hlt, firstI_get b a[n] k hk, ?_⟩, ?_⟩
      · rw [lastU_hit a b n hlt h, hk]
      · have := firstI_lt b a[n]; rw [hk] at this; exact Int.ofNat_lt.1 this
      · rw [all_snoc a b n hlt, if_pos h]; simp
      · intro j x h1 h2; omega
    · have h2 : firstI b a[n] < 0 := by omega
      have hnb : a[n] ∉ b := fun hm => h ((firstI_mem b a[n]).2 hm)
      rw [lastU_miss a b n hlt h2, all_snoc a b n hlt, if_neg h, List.append_nil]
      rcases ih (by omega) with ⟨e1, e2⟩ | ⟨i, k, e1, e2, e3, e4, e5⟩
      · exact .inl ⟨e1, e2⟩
      · refine .inr ⟨i, k, e1, by omega, e3, e4, fun j x h1 h3 hj => ?_⟩
        by_cases hjn : j = n
        · subst hjn
          rw [List.getElem?_eq_getElem hlt] at hj
          rw [← Option.some.inj hj]; exact hnb
        · exact e5 j x h1 (by omega) hj
theorem once_spec (l : List H) (n : Nat) (hn : n ≤ l.length) (h : onceN l n = true) : ∀ i j x, i < j → j < n → l[i]? = some x → l[j]? = some x → False := by
  induction n with
  | zero => intro i j x h1 h2; omega
  | succ n ih =>
    rw [onceN, Bool.and_eq_true] at h
    intro i j x h1 h2 hi hj
    by_cases hjn : j = n
    · subst hjn
      have hlt : j < l.length := by omega
      have h3 := h.2
      rw [List.getD_eq_getElem?_getD, hj] at h3
      simp only [Option.getD_some, Bool.not_eq_true', stands_not] at h3
      exact h3 (List.mem_iff_getElem?.2 ⟨i, by rw [List.getElem?_take, if_pos h1]; exact hi⟩)
    · exact ih (by omega) h.1 i j x h1 (by omega) hi hj
/-- behind the last common place of the second list there is no common id either -/
theorem behind_b (a b : List H) (i k : Nat) (hL : lastU a b a.length = ((i : Int), (k : Int))) (hob : onceN b b.length = true) (hord : (allL a b == allL b a) = true) :
    ∀ j x, k < j → b[j]? = some x → x ∉ a := by
  intro j x hj hx hxa
  have hjl : j < b.length := (List.getElem?_eq_some_iff.1 hx).1
  have hq := eq_of_beq hord
  rcases lastU_tells a b a.length (Nat.le_refl _) with ⟨e1, _⟩ | ⟨i', k', e1, _, hk', ⟨y, hy1, hy2, hy3⟩, _⟩
  · rw [e1] at hL; injection hL; omega
  · rw [e1] at hL
    injection hL with h1 h2
    obtain rfl : i' = i := by omega
    obtain rfl : k' = k := by omega
    rw [List.take_length] at hy3
    rcases lastU_tells b a b.length (Nat.le_refl _) with ⟨_, f2⟩ | ⟨p, q, f1, fp, fq, ⟨z, hz1, hz2, hz3⟩, f5⟩
    · rw [List.take_length] at f2
      have : x ∈ allL b a := (allL_mem b a x).2 ⟨List.mem_of_getElem? hx, hxa⟩
      rw [f2] at this; simp at this
    · rw [List.take_length, ← hq, hy3] at hz3
      obtain rfl : y = z := Option.some.inj hz3
      have hpk : p = k' := by
        rcases Nat.lt_trichotomy p k' with h | h | h
        · exact (once_spec b b.length (Nat.le_refl _) hob p k' y h hk' hz1 hy2).elim
        · exact h
        · exact (once_spec b b.length (Nat.le_refl _) hob k' p y h fp hy2 hz1).elim
      subst hpk
      exact f5 j x hj hjl hx hxa
/-- all that the walk wants of Last -/
theorem last_facts (a b : List H) : ∃ I K : Int, lastU a b a.length = (I, K) ∧ -1 ≤ I ∧ I < a.length ∧ -1 ≤ K ∧ K < b.length ∧ (I < 0 ↔ (allL a b).length = 0) ∧ (K < 0 ↔ (allL a b).length = 0) ∧
    (∀ (j : Nat) (x : H), I < j → a[j]? = some x → x ∉ b) ∧
    (onceN b b.length = true → (allL a b == allL b a) = true → ∀ (j : Nat) (x : H), K < j → b[j]? = some x → x ∉ a) := by
  rcases lastU_tells a b a.length (Nat.le_refl _) with ⟨e1, e2⟩ | ⟨p, k, e1, hp, hk, ⟨z, hz1, hz2, hz3⟩, hbh⟩
  · rw [List.take_length] at e2
    have hno : ∀ x, x ∈ a → x ∉ b := fun x hx hxb => by
      have := (allL_mem a b x).2 ⟨hx, hxb⟩
      rw [e2] at this; simp at this
    refine ⟨-1, -1, e1, by omega, by omega, by omega, by omega, by simp [e2], by simp [e2], fun j x _ hj => hno x (List.mem_of_getElem? hj), fun _ _ j x _ hj hxa => hno x hxa (List.mem_of_getElem? hj)⟩
  · rw [List.take_length] at hz3
    have hpos : 0 < (allL a b).length := by
      cases h : allL a b with
      | nil => rw [h] at hz3; simp at hz3
      | cons y l => simp
    refine ⟨p, k, e1, by omega, by omega, by omega, by omega, by omega, by omega, fun j x hj hx => hbh j x (by omega) (List.getElem?_eq_some_iff.1 hx).1 hx, fun hob hord j x hj hx => behind_b a b p k e1 hob hord j x (by omega) hx⟩
end Go.Proofs.Ytcgibofjlicicaa.Common

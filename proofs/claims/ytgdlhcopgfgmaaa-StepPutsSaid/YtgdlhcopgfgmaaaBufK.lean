/- The walks of chapter 9's laws: the example, the bound, a step. -/
import Derived.Test.YtgdlhcopgfgmaaaBufDo
namespace Go.Proofs.Ytgdlhcopgfgmaaa.Buf
open Go.RowKit Go.Proofs.Ytgdlhcopgfgmaaa.Mk
/-- a step -/
structure St where
  k : Int
  s : ByteArray
  n : Nat
  h : H
instance : Inhabited St := ⟨⟨0, .empty, 0, []⟩⟩
def St.c (x : St) : List Value := stepC x.k x.s x.n x.h
def St.v (x : St) : Value := .agg x.c.toArray
def St.l (x : St) : List UInt8 := doL x.k x.s x.n x.h
/-- a step that can be: 64 bits, 32 bytes -/
def St.Ok (x : St) : Prop := x.n < 18446744073709551616 ∧ x.h.length = 32 ∧ x.s.size ≤ 9223372036854775807
theorem St.c_len (x : St) (h : x.Ok) : x.c.length = 35 := by unfold St.c stepC; simp [hc_len, h.2.1]
theorem St.l_len (x : St) (h : x.Ok) : x.l.length ≤ 2 * x.s.size + 74 := by
  have h1 := Num.putL_len10 x.n h.1
  unfold St.l doL
  split
  · simp [bs_len]; omega
  split
  · simp
  split
  · omega
  split
  · rw [List.length_append, h.2.1]; omega
  · have h2 := Num.putL_len10 x.s.size (by have := h.2.2; omega)
    rw [List.length_append, bs_len]; omega
theorem do_calls (B : Nat) (q r : Option Nat) (l : List UInt8) (x : St) (w : World) (h : QB B q r l w) (hx : x.Ok) (hlen : l.length + (2 * x.s.size + 74) ≤ 140737488355328) :
    Calls Try.prog 42 #[qv q, x.v] w fun e w' => e = .returned (.string (ba x.l)) ∧ ∃ r', QB B q r' (l ++ x.l) w' ∧ QW q r r' w w' := by
  obtain ⟨k, s, n, hh⟩ := x
  show Calls Try.prog 42 #[qv q, stepV k s n hh] w fun e w' => e = .returned (.string (ba (doL k s n hh))) ∧ ∃ r', QB B q r' (l ++ doL k s n hh) w' ∧ QW q r r' w w'
  have hn : n < 18446744073709551616 := hx.1
  have hl : hh.length = 32 := hx.2.1
  simp only at hlen
  unfold doL
  by_cases h1 : k = 1
  · rw [if_pos h1]
    subst h1
    rw [show ba (bs s ++ bs s) = s ++ s by rw [← ba_append, ba_bs]]
    exact do1 B q r l s n hh w h (by omega)
  rw [if_neg h1]
  by_cases h2 : k = 2
  · rw [if_pos h2]
    exact do2 B q r l k h2 s n hh w h hn (by omega)
  rw [if_neg h2]
  by_cases h3 : k = 3
  · rw [if_pos h3]
    exact do3 B q r l k h3 s n hh w h hn (by omega)
  rw [if_neg h3]
  by_cases h4 : k = 4
  · rw [if_pos h4]
    exact do4 B q r l k h4 s n hh w h hl (by omega)
  rw [if_neg h4]
  exact do5 B q r l k (by simpa using h1) (by simpa using h2) (by simpa using h3) (by simpa using h4) s n hh w h (by omega)
/-- two Bufs whose blocks are apart -/
def Apart (b z : Nat) (rb rz : Option Nat) : Prop := b ≠ z ∧ rb ≠ some z ∧ rz ≠ some b ∧ ∀ g, rb = some g → rz ≠ some g
theorem Apart.symm {b z : Nat} {rb rz : Option Nat} (h : Apart b z rb rz) : Apart z b rz rb := ⟨fun e => h.1 e.symm, h.2.2.1, h.2.1, fun g hg e => h.2.2.2 g e hg⟩
theorem Apart.step {B B2 b z : Nat} {rb rb' rz : Option Nat} {lb lz : List UInt8} {w w' : World} (ha : Apart b z rb rz) (_hb : QB B (some b) rb lb w) (hz : QB B2 (some z) rz lz w) (hw : QW (some b) rb rb' w w') : QB B2 (some z) rz lz w' ∧ Apart b z rb' rz := by
  constructor
  · refine BU.keep hz hw.1 ?_ ?_
    · rintro (e | e)
      · exact ha.1 (Option.some.inj e).symm
      · exact ha.2.1 e.symm
    · intro g hg
      rintro (e | e)
      · exact ha.2.2.1 (by rw [hg, e])
      · exact ha.2.2.2 g e.symm hg
  · rcases hw.2 with e | ⟨g, e, hg⟩
    · rw [e]; exact ha
    · have h1 := BU.lt hz
      refine ⟨ha.1, by rw [e]; intro e2; cases e2; omega, ha.2.2.1, ?_⟩
      intro g2 hg2 hrz
      subst hrz
      have h2 := BU.row hz
      rw [e] at hg2
      cases hg2
      omega
theorem QB.weaken {B B' : Nat} {q r : Option Nat} {l : List UInt8} {w : World} (h : QB B q r l w) (hb : B' ≤ B) : QB B' q r l w := by
  cases q with
  | none => exact ⟨h.1, Nat.le_trans hb h.2⟩
  | some b =>
    obtain ⟨p, v, h1, h2, h3, h4, h5⟩ := h
    refine ⟨p, v, h1, Nat.le_trans hb h2, h3, ⟨h4.1, ?_⟩, h5⟩
    rcases h4.2 with h6 | ⟨g, cap, cur, fz, e1, e2, e3⟩
    · exact .inl h6
    · exact .inr ⟨g, cap, cur, fz, e1, Nat.le_trans hb e2, e3⟩
set_option maxHeartbeats 2000000 in
theorem awake_calls (w : World) : Calls Try.prog 40 #[] w fun e w' => e = .returned (.bool true) ∧ Below w.heap.size w w' := by
  go_enter Try.func40, Try.ntmps40
  go_wp2_with fail
  refine (new_calls _).mono ?_
  rintro e w1 ⟨rfl, h1, hb1⟩
  have G1 := Lib.hid h1
  have H1 := Lib.hid (bnum_calls w.heap.size _ none [] 300 w1 h1 (by decide) (by simp))
  clear h1
  generalize hv : qv (some w.heap.size) = v at *
  have Hv := Lib.hid hv
  clear hv
  go_wp2_with fail
  refine H1.out.mono ?_
  rintro e w2 ⟨rfl, r2, h2, hw2⟩
  rw [Num.putL_more 300 (by decide), Num.putL_one 2 (by decide)] at h2
  have hb2 : Below w.heap.size w w2 := hb1.trans (hw2.below G1.out)
  have G2 := Lib.hid h2
  have H2 := Lib.hid (btext_calls w.heap.size _ r2 _ ⟨#[97]⟩ w2 h2 (by decide))
  rw [Hv.out] at H2
  clear h2 hw2
  go_wp2_with fail
  refine H2.out.mono ?_
  rintro e w3 ⟨rfl, r3, h3, hw3⟩
  have hb3 : Below w.heap.size w w3 := hb2.trans (hw3.below G2.out)
  rw [show (ByteArray.mk #[97]).size = 1 from rfl, Num.putL_one 1 (by decide)] at h3
  have h3' : QB w.heap.size (some w.heap.size) r3 [172, 2, 1, 97] w3 := h3
  have G3 := Lib.hid h3'
  have H3 := Lib.hid (bytes_calls w.heap.size _ r3 _ w3 h3')
  rw [Hv.out, if_neg (by simp)] at H3
  have hba : ba [172, 2, 1, 97] = ⟨#[172, 2, 1, 97]⟩ := rfl
  rw [hba] at H3
  clear h3 h3' hw3 hba
  go_wp2_with fail
  refine H3.out.mono ?_
  rintro e w4 ⟨rfl, h4, hw4⟩
  have hb4 : Below w.heap.size w w4 := hb3.trans (hw4.below G3.out)
  have H4 := Lib.hid (blen_calls w.heap.size _ r3 _ w4 h4)
  rw [Hv.out, if_neg (by simp), show (([172, 2, 1, 97] : List UInt8).length : Int) = 4 from rfl] at H4
  clear h4 hw4
  go_wp2_with fail
  refine H4.out.mono ?_
  rintro e w5 ⟨rfl, rfl⟩
  go_wp2_with fail
  go_ret
  exact ⟨rfl, hb4⟩
theorem UStep : Try.prog.underlying 71 = some (.slice 77) := by kernel_rfl
/-- how many bytes of text steps have -/
def sizes (l : List St) : Nat := (l.map (·.s.size)).sum
theorem sizes_take (l : List St) (k : Nat) (h : k < l.length) : sizes (l.take (k + 1)) = sizes (l.take k) + l[k].s.size := by
  unfold sizes
  rw [List.take_succ_eq_append_getElem h, List.map_append, List.sum_append]
  simp
def Much (l : List St) (w : World) (e : Ending) (w' : World) : Prop := (∃ b, e = .returned (.bool b) ∧ (b = false → l.length ≤ 100 ∧ sizes l ≤ 5000)) ∧ Below w.heap.size w w'
set_option maxHeartbeats 4000000 in
set_option maxRecDepth 100000 in
theorem much_calls (v : Value) (l : List St) (w : World) (hv : SL St.c 35 w v l) :
    Calls Try.prog 39 #[v] w (Much l w) := by
  obtain ⟨_, hbd, A, c, rfl, hlc, hcm, hex⟩ := hv
  have Hex := Lib.hid hex
  clear hex
  go_enter Try.func39, Try.ntmps39
  go_wp2_with fail
  go_loopw [3, 4] (fun s3 s4 wr => ∃ (k n : Nat), k ≤ l.length ∧ k ≤ 101 ∧ s4 = .int .i64 k ∧ s3 = .int .i64 n ∧ n ≤ k * 2000 ∧ Hid (n = sizes (l.take k)) ∧ Below w.heap.size w wr) (fun _ s4 _ => l.length - (intOf s4).toNat)
  case atStart => exact ⟨0, 0, by omega, by omega, rfl, rfl, by omega, Lib.hid rfl, Below.refl _ _⟩
  case round =>
    obtain ⟨k, n, hk, hk101, rfl, rfl, hn, hs, hbw⟩ := hrel
    by_cases hkl : k < l.length
    · by_cases hk1 : k < 101
      · obtain ⟨b0, o0, rfl, hx⟩ := Hex.out (by omega)
        have hcell : w.cell? ⟨b0, o0 + k * 35 + 1, none⟩ = some (.string l[k].s) := hx k l[k] (List.getElem?_eq_getElem hkl) 1 (.string l[k].s) rfl
        have hcell2 : wr.cell? ⟨b0, o0 + k * 35 + 1, none⟩ = some (.string l[k].s) := (hbw.cell (p := ⟨b0, o0 + k * 35 + 1, none⟩) (block_lt_of_cell hcell)).trans hcell
        have hst := Lib.hid (sizes_take l k hkl)
        clear hx hcell
        generalize l[k].s = s at *
        have i1 : ¬ (k : Int) < 0 := by omega
        by_cases h2000 : 2000 < s.size
        · go_wp2_with fail
          go_ret
          exact ⟨⟨true, rfl, fun e => by cases e⟩, hbw⟩
        · go_wp2_with fail
          go_roundw
          case rel => exact ⟨k + 1, n + s.size, by omega, by omega, by go_num, by go_num, by omega, Lib.hid (by rw [hst.out, ← hs.out]), hbw⟩
          case measure => simp [intOf] <;> omega
      · have hk101 : k = 101 := by omega
        have h100 : 100 < l.length := by omega
        go_wp2_with fail
        go_ret
        exact ⟨⟨true, rfl, fun e => by cases e⟩, hbw⟩
    · have hkl : k = l.length := by omega
      have hs2 := hs.out
      rw [List.take_of_length_le (by omega)] at hs2
      have Hs2 := Lib.hid hs2
      have Hkl := Lib.hid hkl
      clear hs2 hkl
      by_cases h100 : 100 < l.length
      · go_wp2_with fail
        go_ret
        exact ⟨⟨true, rfl, fun e => by cases e⟩, hbw⟩
      · go_wp2_with fail
        go_ret
        refine ⟨⟨_, rfl, fun e => ?_⟩, hbw⟩
        have e2 : ¬ (5000 : Int) < n := by simpa using (Bool.or_eq_false_iff.1 e).2
        exact ⟨by omega, by rw [← Hs2.out]; omega⟩
theorem rowStep : (Try.prog.underlying 77).map (·.isRow) = some true := by kernel_rfl
theorem sizeStep : (Try.prog.info? 77).map (·.size) = some 35 := by kernel_rfl
/-- what the first k steps put -/
def allL (l : List St) (k : Nat) : List UInt8 := (l.take k).flatMap St.l
theorem allL_succ (l : List St) (k : Nat) (h : k < l.length) : allL l (k + 1) = allL l k ++ l[k].l := by
  unfold allL
  rw [List.take_succ_eq_append_getElem h, List.flatMap_append]
  simp
theorem allL_len (l : List St) (hok : ∀ x ∈ l, x.Ok) : ∀ k, k ≤ l.length → (allL l k).length ≤ 2 * sizes (l.take k) + 74 * k := by
  intro k
  induction k with
  | zero => intro _; simp [allL]
  | succ k ih =>
    intro hk
    have h1 := ih (by omega)
    have h2 := St.l_len l[k] (hok _ (List.getElem_mem _))
    rw [allL_succ l k (by omega), List.length_append, sizes_take l k (by omega)]
    omega
theorem sizes_take_le (l : List St) (k : Nat) : sizes (l.take k) ≤ sizes l := by
  have h : sizes l = sizes (l.take k) + sizes (l.drop k) := by
    unfold sizes
    conv => lhs; rw [← List.take_append_drop k l]
    rw [List.map_append, List.sum_append]
  omega
theorem size_le (l : List St) (k : Nat) (h : k < l.length) : l[k].s.size ≤ sizes l := by
  have h1 := sizes_take l k h
  have h2 := sizes_take_le l (k + 1)
  omega
end Go.Proofs.Ytgdlhcopgfgmaaa.Buf

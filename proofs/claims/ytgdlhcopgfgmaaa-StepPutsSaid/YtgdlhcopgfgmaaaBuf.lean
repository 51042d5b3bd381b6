/- The walks of a Buf's methods, at a Buf and at nil. -/
import Derived.StillTailTactics
import Derived.BigQuiet
import Derived.Test.YtgdlhcopgfgmaaaBldX
namespace Go.Proofs.Ytgdlhcopgfgmaaa.Buf
open Go.RowKit Go.Proofs.Ytgdlhcopgfgmaaa.Mk
/-- a receiver: nil, or the Buf in a block -/
def qv (q : Option Nat) : Value := .pointer (q.map fun b => ⟨b, 0, none⟩)
theorem qv_none : qv none = .pointer none := rfl
theorem qv_some (b : Nat) : qv (some b) = .pointer (some ⟨b, 0, none⟩) := rfl
/-- what it holds; nil holds nothing to speak of -/
def QB (B : Nat) (q r : Option Nat) (l : List UInt8) (w : World) : Prop :=
  match q with
  | none => r = none ∧ B ≤ w.heap.size
  | some b => BU B b r (hc l) w
/-- what a write through it may turn -/
def QW (q r r' : Option Nat) (w w' : World) : Prop := But (fun k => some k = q ∨ some k = r) w w' ∧ (r' = r ∨ ∃ k, r' = some k ∧ w.heap.size ≤ k)
theorem QW.refl (q r : Option Nat) (w : World) : QW q r r w w := ⟨But.refl _ _, .inl rfl⟩
theorem QW.trans {q r1 r2 r3 : Option Nat} {w1 w2 w3 : World} (h : QW q r1 r2 w1 w2) (k : QW q r2 r3 w2 w3) : QW q r1 r3 w1 w3 := by
  refine ⟨h.1.trans k.1 ?_, ?_⟩
  · intro i hi hs
    rcases hs with hs | hs
    · exact .inl hs
    · rcases h.2 with e | ⟨g, e, hg⟩
      · exact .inr (by rw [← e]; exact hs)
      · rw [e] at hs
        cases hs
        omega
  · rcases k.2 with e | ⟨g, e, hg⟩
    · rw [e]; exact h.2
    · exact .inr ⟨g, e, Nat.le_trans h.1.size hg⟩
theorem QW.of_below {q r : Option Nat} {w w' : World} (h : Below w.heap.size w w') : QW q r r w w' := ⟨But.of_below h, .inl rfl⟩
theorem QW.of_wr {b : Nat} {r r' : Option Nat} {w w' : World} (h : Wr b r r' w w') : QW (some b) r r' w w' := ⟨h.1.mono (fun i _ hi => hi.imp (fun e => by rw [e]) id), h.2⟩
theorem QB.keepB {B : Nat} {q r : Option Nat} {l : List UInt8} {w w' : World} (h : QB B q r l w) (hk : Below w.heap.size w w') : QB B q r l w' := by
  cases q with
  | none => exact ⟨h.1, Nat.le_trans h.2 hk.size⟩
  | some b => exact BU.keepB h hk
theorem QB.base {B : Nat} {q r : Option Nat} {l : List UInt8} {w : World} (h : QB B q r l w) : B ≤ w.heap.size ∧ (∀ k, some k = q ∨ some k = r → B ≤ k ∧ k < w.heap.size) := by
  cases q with
  | none => exact ⟨h.2, fun k hk => by rw [h.1] at hk; simp at hk⟩
  | some b =>
    have h1 := BU.lt h
    refine ⟨by omega, fun k hk => ?_⟩
    rcases hk with e | e
    · cases e; exact ⟨h1.2, h1.1⟩
    · subst e
      have := BU.row h
      exact ⟨this.2, this.1⟩
theorem QW.below {B : Nat} {q r r' : Option Nat} {l : List UInt8} {w w' : World} (h : QW q r r' w w') (hb : QB B q r l w) : Below B w w' :=
  h.1.below hb.base.1 (fun i hi => (hb.base.2 i hi).1)
/-- what lies in other blocks lies on -/
theorem QW.cell {q r r' : Option Nat} {w w' : World} {b o : Nat} {v : Value} (h : QW q r r' w w') (hc : w.cell? ⟨b, o, none⟩ = some v) (hq : q ≠ some b) (hr : r ≠ some b) : w'.cell? ⟨b, o, none⟩ = some v := by
  have hb := h.1.block b (block_lt_of_cell hc) (fun e => e.elim (fun e => hq e.symm) (fun e => hr e.symm))
  rw [World.cell?_of_block (w := w) (a := ⟨b, o, none⟩) hb]
  exact hc
set_option maxHeartbeats 1000000 in
theorem new_calls (w : World) : Calls Try.prog 41 #[] w fun e w' => e = .returned (qv (some w.heap.size)) ∧ QB w.heap.size (some w.heap.size) none [] w' ∧ Below w.heap.size w w' := by
  go_enter Try.func41, Try.ntmps41
  go_wp2_with fail
  go_ret
  refine ⟨rfl, ⟨.pointer none, .slice none 0 0, .inl rfl, Nat.le_refl _, heap_new _ _, World.ownsRowF_nil _ _ _ _, rfl⟩, (Below.refl _ _).alloc (Nat.le_refl _) _⟩
set_option maxHeartbeats 1000000 in
theorem blen_calls (B : Nat) (q r : Option Nat) (l : List UInt8) (w : World) (h : QB B q r l w) :
    Calls Try.prog 73 #[qv q] w fun e w' => e = .returned (.int .i64 (if q = none then 0 else (l.length : Int))) ∧ w' = w := by
  cases q with
  | none =>
    rw [qv_none]
    go_enter Try.func73, Try.ntmps73
    go_wp2_with fail
    go_ret
    exact ⟨rfl, rfl⟩
  | some b =>
    have HL := Lib.hid (len_calls B b r (hc l) w h)
    rw [qv_some]
    go_enter Try.func73, Try.ntmps73
    go_wp2_with fail
    refine HL.out.mono ?_
    rintro e w1 ⟨rfl, rfl⟩
    go_wp2_with fail
    go_ret
    exact ⟨by rw [hc_len]; rfl, rfl⟩
set_option maxHeartbeats 1000000 in
theorem bytes_calls (B : Nat) (q r : Option Nat) (l : List UInt8) (w : World) (h : QB B q r l w) :
    Calls Try.prog 43 #[qv q] w fun e w' => e = .returned (.string (if q = none then .empty else ba l)) ∧ QB B q r l w' ∧ QW q r r w w' := by
  cases q with
  | none =>
    have H := Lib.hid h
    clear h
    rw [qv_none]
    go_enter Try.func43, Try.ntmps43
    go_wp2_with fail
    go_ret
    exact ⟨rfl, H.out, QW.refl _ _ _⟩
  | some b =>
    have HL := Lib.hid (string_calls B b r l w h)
    clear h
    rw [qv_some]
    go_enter Try.func43, Try.ntmps43
    go_wp2_with fail
    refine HL.out.mono ?_
    rintro e w1 ⟨rfl, h1, h2⟩
    go_wp2_with fail
    go_ret
    exact ⟨rfl, h1, QW.of_wr h2⟩
def encS (s : ByteArray) : List Value := [.string s]
theorem encS_len (l : List ByteArray) : ∀ x ∈ l, (encS x).length = 1 := fun _ _ => rfl
/-- all the bytes of texts -/
def cat (l : List ByteArray) : List UInt8 := l.flatMap bs
theorem cat_take (l : List ByteArray) (k : Nat) (h : k < l.length) : cat (l.take (k + 1)) = cat (l.take k) ++ bs l[k] := by
  unfold cat
  rw [List.take_succ_eq_append_getElem h, List.flatMap_append]
  simp
theorem cat_take_le (l : List ByteArray) (k : Nat) : (cat (l.take k)).length ≤ (cat l).length := by
  have h : l = l.take k ++ l.drop k := (List.take_append_drop k l).symm
  have h2 : (cat l).length = (cat (l.take k)).length + (cat (l.drop k)).length := by
    conv => lhs; rw [h]
    unfold cat
    rw [List.flatMap_append, List.length_append]
  omega
set_option maxHeartbeats 4000000 in
set_option maxRecDepth 100000 in
theorem raw_calls (B : Nat) (q r : Option Nat) (l : List UInt8) (v : Value) (ss : List ByteArray) (w : World) (h : QB B q r l w) (hs : SL encS 1 w v ss) (hlen : l.length + (cat ss).length ≤ 140737488355328)
    (hap : ∀ A n c, v = .slice A n c → ∀ b o, A = some ⟨b, o, none⟩ → q ≠ some b ∧ r ≠ some b) :
    Calls Try.prog 74 #[qv q, v] w fun e w' => e = .returned (.tuple #[]) ∧ ∃ r', QB B q r' (l ++ cat ss) w' ∧ QW q r r' w w' := by
  obtain ⟨_, hbd, A, c, rfl, hlc, hcm, hex⟩ := hs
  cases q with
  | none =>
    have H := Lib.hid h
    clear h hex
    rw [qv_none]
    go_enter Try.func74, Try.ntmps74
    go_wp2_with fail
    go_loop [4] (fun s4 => s4 = .int .i64 0) (fun _ => 0)
    case atStart => rfl
    case round =>
      obtain rfl := hrel
      go_wp2_with fail
      go_end0
      exact ⟨rfl, r, H.out, QW.refl _ _ _⟩
  | some b =>
    have H := Lib.hid h
    have Hex := Lib.hid hex
    have Hap := Lib.hid (hap A ss.length c rfl)
    clear h hex hap
    rw [qv_some]
    go_enter Try.func74, Try.ntmps74
    go_wp2_with fail
    go_loopw [4] (fun s4 wr => ∃ k : Nat, k ≤ ss.length ∧ s4 = .int .i64 k ∧ Hid (∃ r', QB B (some b) r' (l ++ cat (ss.take k)) wr ∧ QW (some b) r r' w wr)) (fun s4 _ => ss.length - (intOf s4).toNat)
    case atStart => exact ⟨0, by omega, rfl, Lib.hid ⟨r, by simpa [cat] using H.out, QW.refl _ _ _⟩⟩
    case round =>
      obtain ⟨k, hk, rfl, hr⟩ := hrel
      by_cases hkl : k < ss.length
      · obtain ⟨r', hB, hW⟩ := hr.out
        obtain ⟨b0, o0, rfl, hx⟩ := Hex.out (by omega)
        have hcell : w.cell? ⟨b0, o0 + k, none⟩ = some (.string ss[k]) := by
          have := hx k ss[k] (List.getElem?_eq_getElem hkl) 0 (.string ss[k]) rfl
          rwa [Nat.mul_one, Nat.add_zero] at this
        have hcell2 : wr.cell? ⟨b0, o0 + k, none⟩ = some (.string ss[k]) := hW.cell hcell (Hap.out b0 o0 rfl).1 (Hap.out b0 o0 rfl).2
        have hct := cat_take ss k hkl
        have hcl := cat_take_le ss (k + 1)
        have hl1 : (l ++ cat (ss.take k)).length + (ss[k]).size ≤ 140737488355328 := by
          rw [hct, List.length_append, bs_len] at hcl
          rw [List.length_append]
          omega
        have HW := Lib.hid (write_calls B b r' (hc (l ++ cat (ss.take k))) ss[k] wr.drew (BU.keepB hB (Below.refl _ _).drew) (by rw [hc_len]; exact hl1))
        have HB := Lib.hid hB
        have HQ := Lib.hid hW
        have HT := Lib.hid hct
        clear hB hW hx hcell hct hcl hl1 hr
        generalize ss[k] = s at *
        have i1 : ¬ (k : Int) < 0 := by omega
        go_wp2_with fail
        go_still_tail 7, (by kernel_rfl)
        change wpList _ _ _ _ _ wr.drew
        go_wp2_with fail
        refine HW.out.mono ?_
        rintro e w2 ⟨rfl, r2, hB2, hW2⟩
        have HB2 := Lib.hid hB2
        have HW2 := Lib.hid hW2
        clear hB2 hW2
        go_wp2_with fail
        go_roundw
        case rel =>
          refine ⟨k + 1, by omega, by go_num, Lib.hid ⟨r2, ?_, ?_⟩⟩
          · have hb := HB2.out
            rw [HT.out, ← List.append_assoc]
            have e1 : hc (l ++ cat (ss.take k)) ++ hc (bs s) = hc (l ++ cat (ss.take k) ++ bs s) := by simp [hc]
            rw [e1] at hb
            exact hb
          · exact HQ.out.trans ((QW.of_below (Below.refl _ _).drew).trans (QW.of_wr HW2.out))
        case measure => simp [intOf] <;> omega
      · go_wp2_with fail
        go_end0
        obtain ⟨r', hB, hW⟩ := hr.out
        refine ⟨rfl, r', ?_, hW⟩
        rw [List.take_of_length_le (by omega)] at hB
        exact hB
end Go.Proofs.Ytgdlhcopgfgmaaa.Buf

/- The walks of chapter 32's much and of the law StreamWhole. -/
import Derived.Test.YtcaocnlchfbeaaaStmD
import Derived.Test.YtcaocnlchfbeaaaRow1
namespace Go.Proofs.Ytcaocnlchfbeaaa.Stm
open Go.RowKit Go.Proofs.Ytcaocnlchfbeaaa.Mk Go.Proofs.Ytcaocnlchfbeaaa.Op Go.Proofs.Ytcaocnlchfbeaaa.Hd Go.Proofs.Ytcaocnlchfbeaaa.St Go.Proofs.Ytcaocnlchfbeaaa.Cur Go.Proofs.Ytcaocnlchfbeaaa.Stp Go.Proofs.Ytcaocnlchfbeaaa.Tk Go.Proofs.Ytcaocnlchfbeaaa.Pf
def sS (s : ByteArray) : Value := .string s
/-- so many bytes -/
def tot : List ByteArray → Nat
  | [] => 0
  | s :: l => s.size + tot l
/-- all bytes -/
def allB : List ByteArray → List UInt8
  | [] => []
  | s :: l => bs s ++ allB l
theorem tot_app (l m : List ByteArray) : tot (l ++ m) = tot l + tot m := by
  induction l with
  | nil => simp [tot]
  | cons s l ih => simp [tot, ih]; omega
theorem allB_app (l m : List ByteArray) : allB (l ++ m) = allB l ++ allB m := by
  induction l with
  | nil => rfl
  | cons s l ih => simp [allB, ih]
theorem allB_len (l : List ByteArray) : (allB l).length = tot l := by
  induction l with
  | nil => rfl
  | cons s l ih => simp [allB, tot, ih, bs_len]
theorem take_more {l : List ByteArray} {i : Nat} (h : i < l.length) : l.take (i + 1) = l.take i ++ [l[i]] := by rw [List.take_append_getElem]
theorem tot_take (l : List ByteArray) (i : Nat) : tot (l.take i) ≤ tot l := by
  have h := tot_app (l.take i) (l.drop i)
  rw [List.take_append_drop] at h
  omega
def isM (l : List ByteArray) (e : Ending) : Prop := ∃ b, e = .returned (.bool b) ∧ (b = false → l.length ≤ 50 ∧ tot l ≤ 4000)
set_option maxHeartbeats 8000000 in
set_option maxRecDepth 100000 in
theorem much32_calls (v : Value) (l : List ByteArray) (w : World) (h : SL (E1 sS) 1 w v l) (hz : ∀ s ∈ l, s.size ≤ 140737488351232) :
    Calls Try.prog 30 #[v] w fun e w' => isM l e ∧ w' = w := by
  have hlb : l.length ≤ 140737488355328 := h.bd
  obtain ⟨A, c, rfl, hlc, hcm, hx⟩ := h.cell1
  have HX := Lib.hid hx
  have HZ := Lib.hid hz
  clear h hx hz
  go_enter Try.func30, Try.ntmps30
  go_wp2_with fail
  go_loopw [3, 4] (fun s3 s4 wr => ∃ (i : Nat), s4 = .int .i64 (i : Int) ∧ i ≤ l.length ∧ i ≤ 60 ∧ s3 = .int .i64 ((min (tot (l.take i)) 1048576 : Nat) : Int) ∧ w = wr) (fun _ s4 _ => l.length - (intOf s4).toNat)
  case atStart => exact ⟨0, rfl, by omega, by omega, rfl, rfl⟩
  case round =>
    obtain ⟨i, rfl, hi, h60, rfl, rfl⟩ := hrel
    by_cases hlt : i < l.length ∧ i < 60
    · obtain ⟨hlt, h6⟩ := hlt
      obtain ⟨b, o, rfl, hr⟩ := HX.out (by omega)
      have c1 := hr i _ (List.getElem?_eq_getElem hlt)
      unfold sS at c1
      have hsz := HZ.out l[i] (List.getElem_mem hlt)
      have t2 : decide ((i : Int) < (l.length : Int)) = true := decide_eq_true (by omega)
      have t3 : decide ((i : Int) < 60) = true := decide_eq_true (by omega)
      have HT := Lib.hid (show tot (l.take (i + 1)) = tot (l.take i) + l[i].size by rw [take_more hlt, tot_app]; simp [tot])
      have hr2 : l[i].size ≤ 140737488351232 := hsz
      generalize tot (l.take i) = T at *
      generalize l[i] = s at *
      have i1 : (i : Int) < (l.length : Int) := by omega
      obtain ⟨M, hM⟩ : ∃ M, M = min T 1048576 := ⟨_, rfl⟩
      have hM2 : M ≤ 1048576 := by omega
      have HM := Lib.hid hM
      rw [← hM]
      clear hr hsz hM
      go_wp2_with fail
      refine ⟨⟨i + 1, by go_num, by omega, by omega, ?_, trivial⟩, by simp [intOf] <;> omega⟩
      rw [HT.out, show min (T + s.size) 1048576 = min (M + s.size) 1048576 by have := HM.out; omega]
      simp
      split <;> omega
    · have h2 : (¬ i < l.length) ∨ (i < l.length ∧ ¬ i < 60) := by omega
      have HE : Hid (l.length ≤ 50 → i = l.length) := Lib.hid (fun h => by omega)
      have HT := Lib.hid (fun h : l.length ≤ 50 => show tot (l.take i) = tot l by rw [HE.out h, List.take_length])
      generalize tot (l.take i) = T at *
      have h3 : 50 < l.length ∨ (l.length ≤ 50 ∧ 4000 < min T 1048576) ∨ (l.length ≤ 50 ∧ min T 1048576 ≤ 4000) := by omega
      generalize hm : min T 1048576 = M at *
      have HM := Lib.hid hm
      clear hlt HX HZ hm
      rcases h2 with h2 | ⟨h2, h4⟩
      · have t1 : decide ((i : Int) < (l.length : Int)) = false := decide_eq_false (by omega)
        rcases h3 with h3 | ⟨h3, h5⟩ | ⟨h3, h5⟩
        · have t5 : decide ((50 : Int) < (l.length : Int)) = true := decide_eq_true (by omega)
          go_wp2_with fail
          go_ret
          exact ⟨⟨_, rfl, fun h => by cases h⟩, rfl⟩
        · have t5 : decide ((50 : Int) < (l.length : Int)) = false := decide_eq_false (by omega)
          have t6 : decide ((4000 : Int) < (M : Int)) = true := decide_eq_true (by omega)
          go_wp2_with fail
          go_ret
          exact ⟨⟨_, rfl, fun h => by cases h⟩, rfl⟩
        · have t5 : decide ((50 : Int) < (l.length : Int)) = false := decide_eq_false (by omega)
          have t6 : decide ((4000 : Int) < (M : Int)) = false := decide_eq_false (by omega)
          go_wp2_with fail
          go_ret
          exact ⟨⟨_, rfl, fun _ => ⟨h3, by have e1 := HT.out h3; have e2 := HM.out; omega⟩⟩, rfl⟩
      · have t1 : decide ((i : Int) < (l.length : Int)) = true := decide_eq_true (by omega)
        have t2 : decide ((i : Int) < 60) = false := decide_eq_false (by omega)
        have t5 : decide ((50 : Int) < (l.length : Int)) = true := decide_eq_true (by omega)
        go_wp2_with fail
        go_ret
        exact ⟨⟨_, rfl, fun h => by cases h⟩, rfl⟩
theorem Inv.len {A : List UInt8} {s : Stm.St} {l : List HO} (h : Inv A s l) (he : s.e = 0) : l.length ≤ 1024 := by
  obtain ⟨hm, ⟨he', hb⟩ | ⟨_, hg, hr, hn, hl, hne⟩ | ⟨_, hg, K, hp, hn, hq⟩⟩ := h
  · exact absurd he he'
  · rw [hl]
    exact Nat.zero_le _
  · have h1 := hp.le
    have h2 := hp.lk
    omega
/-- what Done hands back, and whether all came -/
theorem done_calls (k : Nat) (A : List UInt8) (s : Stm.St) (ts : List Tr) (w : World) (h : SM k s w) (hrw : RW (k + 1) w s.l ts) (hi : Inv A s (ts.map Tr.ho)) :
    Calls Try.prog 13 #[.pointer (some ⟨k, 0, none⟩)] w fun r w' => ∃ v, r = .returned (.tuple #[v, .int .i64 (decP A).2]) ∧ SS w' v (decP A).1 ∧ Below w.heap.size w w' := by
  rcases hi.dec with ⟨he, hd, _⟩ | ⟨he, hw, hd⟩ | ⟨he, hw, hd⟩
  · rw [hd]
    exact (done_err k s w h he).mono fun r w' ⟨h1, h2⟩ => ⟨_, h1, SS.nil _, h2⟩
  · rw [hd]
    exact (done_short k s w h he hw).mono fun r w' ⟨h1, h2⟩ => ⟨_, h1, SS.nil _, h2⟩
  · rw [hd]
    exact done_whole k s ts w h hrw (by have := hi.len he; rwa [List.length_map] at this) he hw
theorem Inv.whole {A : List UInt8} {s : Stm.St} {l : List HO} (h : Inv A s l) : wholeS s = ((decP A).2 == 0) := by
  rcases h.dec with ⟨he, hd, hw⟩ | ⟨he, hw, hd⟩ | ⟨he, hw, hd⟩
  · rw [hw, hd]
    simpa using he
  · rw [hw, hd]
    rfl
  · rw [hw, hd]
    rfl
/-- what a round of the law keeps -/
structure LI (k : Nat) (A : List UInt8) (w : World) (s : Stm.St) (ts : List Tr) (W : World) : Prop where
  sm : SM k s W
  rw_ : RW (k + 1) W s.l ts
  inv : Inv A s (ts.map Tr.ho)
  bel : Below w.heap.size w W
set_option maxHeartbeats 8000000 in
set_option maxRecDepth 100000 in
theorem lawWhole_calls (v : Value) (l : List ByteArray) (w : World) (h : SL (E1 sS) 1 w v l) (hz : ∀ s ∈ l, s.size ≤ 140737488351232) :
    Calls Try.prog 6 #[v] w fun e w' => e = .returned (.bool true) ∧ Below w.heap.size w w' := by
  have HA := Lib.hid (fun wx => awake32_calls wx)
  have HM := Lib.hid (much32_calls v l w h hz)
  have hlb : l.length ≤ 140737488355328 := h.bd
  have HX := Lib.hid (fun wx (hx : Below w.heap.size w wx) => (h.below hx).cell1)
  obtain ⟨A0, c0, rfl, -, -, -⟩ := h.cell1
  clear h hz
  go_enter Try.func6, Try.ntmps6
  go_wp2_with fail
  refine HM.out.mono ?_
  rintro e w1 ⟨⟨b1, rfl, hb1⟩, hw1⟩
  rw [hw1]
  clear hw1 HM
  cases b1 with
  | true =>
    clear HX
    go_wp2_with fail
    refine (HA.out _).mono ?_
    rintro e wa ⟨rfl, hba⟩
    have BA := Lib.hid (hba)
    clear hba HA
    go_wp2_with fail
    go_ret
    exact ⟨rfl, BA.out⟩
  | false =>
    obtain ⟨h50, h4000⟩ := hb1 rfl
    clear hb1
    go_wp2_with fail
    refine (new1024_calls w).mono ?_
    rintro e w2 ⟨rfl, hs2, hb2⟩
    obtain ⟨k, hk⟩ : ∃ k, k = w.heap.size := ⟨_, rfl⟩
    rw [← hk] at hs2
    rw [← hk]
    have L2 := Lib.hid (show LI k [] w ⟨1024, [], false, 0, nS, 0⟩ [] w2 from ⟨hs2, RW.nil _ _, inv0 _, hb2⟩)
    have HK := Lib.hid hk
    clear hs2 hb2 hk
    go_wp2_with fail
    go_loopw [4, 5] (fun s4 s5 wr => ∃ (i : Nat) (s : Stm.St) (ts : List Tr), s5 = .int .i64 (i : Int) ∧ i ≤ l.length ∧ s4 = .string (ba (allB (l.take i))) ∧ Hid (LI k (allB (l.take i)) w s ts wr)) (fun _ s5 _ => l.length - (intOf s5).toNat)
    case atStart => exact ⟨0, _, [], rfl, by omega, rfl, L2⟩
    case round =>
      obtain ⟨i, s, ts, rfl, hi, rfl, I⟩ := hrel
      by_cases hlt : i < l.length
      · obtain ⟨_, _, he, _, _, hr⟩ := HX.out wr I.out.bel
        cases he
        obtain ⟨b, o, hA0, hq⟩ := hr (by omega)
        subst hA0
        have c1 := hq i _ (List.getElem?_eq_getElem hlt)
        unfold sS at c1
        have t2 : decide ((i : Int) < (l.length : Int)) = true := decide_eq_true (by omega)
        have i1 : (i : Int) < (l.length : Int) := by omega
        have e1 : tot (l.take (i + 1)) = tot (l.take i) + l[i].size := by rw [take_more hlt, tot_app]; simp [tot]
        have e2 := tot_take l (i + 1)
        have e3 := allB_len (l.take i)
        have HT := Lib.hid (show allB (l.take (i + 1)) = allB (l.take i) ++ bs l[i] by rw [take_more hlt, allB_app]; simp [allB])
        generalize allB (l.take i) = A at *
        generalize l[i] = s1 at *
        have hap := app_bs A s1
        have hadd : ¬ 9223372036854775807 < (ba A).size + s1.size := by rw [ba_size]; omega
        have HW := Lib.hid (write_calls k A s ts wr I.out.sm I.out.rw_ I.out.inv s1 (by omega))
        clear hr hq e1 e2 e3
        go_wp2_with fail
        refine HW.out.mono ?_
        rintro e w5 ⟨x, s5, ts5, rfl, g1, g2, g3, g4⟩
        have I5 := Lib.hid (show LI k (allB (l.take (i + 1))) w s5 ts5 w5 from ⟨g1, g2, HT.out ▸ g3, I.out.bel.trans (g4.below I.out.bel.size (fun i e => by rw [← HK.out]; exact e))⟩)
        clear g1 g2 g3 g4 hap hadd c1 HW I
        go_wp2_with fail
        go_roundw
        case rel => exact ⟨i + 1, s5, ts5, by go_num, by omega, by rw [HT.out], I5⟩
        case measure => simp [intOf] <;> omega
      · obtain rfl : i = l.length := by omega
        rw [List.take_length] at *
        have t2 : decide ((l.length : Int) < (l.length : Int)) = false := decide_eq_false (by omega)
        have hA := allB_len l
        generalize allB l = A at *
        have HD := Lib.hid (done_calls k A s ts wr I.out.sm I.out.rw_ I.out.inv)
        have HC := Lib.hid (fun wx => Pf.decode_calls (ba A) wx (by rw [ba_size]; omega))
        rw [bs_ba] at HC
        have HQ := Lib.hid I.out.inv.whole
        generalize decP A = y at *
        obtain ⟨l2, e2⟩ := y
        dsimp only at HD HC HQ
        clear hlt hA
        go_wp2_with fail
        refine HD.out.mono ?_
        rintro e w5 ⟨v5, rfl, hs5, hb5⟩
        have S5 := Lib.hid (show SS w5 v5 l2 ∧ SM k s w5 ∧ Below w.heap.size w w5 from ⟨hs5, I.out.sm.keep hb5, below_up I.out.bel hb5⟩)
        clear hs5 hb5 I HD
        go_wp2_with fail
        refine (HC.out w5).mono ?_
        rintro e w6 ⟨v6, rfl, hs6, hb6⟩
        have HSa := Lib.hid (rsameL_calls v5 v6 l2 l2 w6 (S5.out.1.below hb6) hs6)
        rw [sameL_self] at HSa
        have S6 := Lib.hid (show SM k s w6 ∧ Below w.heap.size w w6 from ⟨S5.out.2.1.keep hb6, below_up S5.out.2.2 hb6⟩)
        clear hs6 hb6 S5 HC
        go_wp2_with fail
        refine HSa.out.mono ?_
        rintro e w7 ⟨rfl, hb7⟩
        have S7 := Lib.hid (show SM k s w7 ∧ Below w.heap.size w w7 from ⟨S6.out.1.keep hb7, below_up S6.out.2 hb7⟩)
        have HWh := Lib.hid (whole_calls k s w7 S7.out.1)
        rw [HQ.out] at HWh
        clear hb7 S6 HSa HQ
        go_wp2_with fail
        refine HWh.out.mono ?_
        rintro e w8 ⟨rfl, hw8⟩
        rw [hw8]
        clear hw8 HWh
        have BW := Lib.hid S7.out.2
        clear S7
        go_wp2_with fail
        refine (HA.out _).mono ?_
        rintro e wa ⟨rfl, hba⟩
        have BA := Lib.hid (below_up BW.out hba)
        clear hba HA
        go_wp2_with fail
        go_ret
        exact ⟨rfl, BA.out⟩
end Go.Proofs.Ytcaocnlchfbeaaa.Stm

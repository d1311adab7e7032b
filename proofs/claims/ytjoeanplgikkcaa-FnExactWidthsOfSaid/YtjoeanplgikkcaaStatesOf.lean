/- StatesOf: the program's and the reference's. No conditions. -/
import Derived.Test.YtjoeanplgikkcaaStates
namespace Go.Proofs.Ytjoeanplgikkcaa
open Go.RowKit

def StatesOf_v (xs : List (Int × Int)) (x : Int × Int) : List Int × Bool := if (partB xs && unitR x.1 x.2) = true then (stL xs x, true) else ([], false)
theorem partB_len {xs : List (Int × Int)} (h : partB xs = true) : 2 ≤ xs.length ∧ xs.length ≤ 9 := by
  unfold partB at h
  rw [Bool.and_eq_true] at h
  have := inB_true.1 h.1
  omega
theorem partB_bd {xs : List (Int × Int)} (h : partB xs = true) : ∀ i, i < xs.length → BdR (nthR xs i).1 (nthR xs i).2 := by
  unfold partB at h
  rw [Bool.and_eq_true, Bool.and_eq_true] at h
  exact fun i hi => unitR_bd (unitsB_nth h.2.1 hi)
theorem StatesOf_len (xs : List (Int × Int)) (x : Int × Int) : szIntS (StatesOf_v xs x).1 ≤ 1099511627776 := by
  unfold StatesOf_v szIntS
  split
  · rename_i h
    rw [Bool.and_eq_true] at h
    have h1 := partB_len h.1
    have h2 : (stL xs x).length ≤ xs.length - 1 := stK_len xs x _
    show (stL xs x).length ≤ _
    omega
  · simp

set_option maxHeartbeats 800000 in
theorem specStatesOf_any (v : Value) (xs : List (Int × Int)) (x : Int × Int) (w : World) (hv : RatsV w v xs) (hm : szRatS xs ≤ 1099511627776) (_hi : I64R x) :
    Calls Try.prog 58 #[v, .agg #[.int .i64 x.1, .int .i64 x.2]] w (RetOB Own (StatesOf_v xs x) w) := by
  have c1 := fun w' (hB : Below w.heap.size w w') => mkGood_any v xs w' (hv.below hB) hm
  have c2 := fun w' => raUnit_any x.1 x.2 w'
  have c3 := fun w' (hB : Below w.heap.size w w') (hp : partB xs = true) (hu : unitR x.1 x.2 = true) => mkStates_any v xs x w' (hv.below hB) hm (unitR_bd hu) (partB_bd hp)
  have e1 : (partB xs && unitR x.1 x.2) = true → StatesOf_v xs x = (stL xs x, true) := fun h => if_pos h
  have e2 : ¬ (partB xs && unitR x.1 x.2) = true → StatesOf_v xs x = ([], false) := fun h => if_neg h
  generalize StatesOf_v xs x = R at *
  generalize stL xs x = L at *
  generalize partB xs = P at *
  generalize unitR x.1 x.2 = U at *
  obtain ⟨p, q⟩ := x
  simp only at c2 c3
  show Calls _ _ #[v, .agg #[.int .i64 p, .int .i64 q]] w _
  obtain ⟨w0, hw0⟩ : ∃ W, w.alloc (.cells #[.int .i64 p, .int .i64 q] 54) = W := ⟨_, rfl⟩
  have hB0 : Below w.heap.size w w0 := by rw [← hw0]; exact (Below.refl _ _).alloc (Nat.le_refl _) _
  have hz0 : w.heap.size < w0.heap.size := by rw [← hw0]; simp
  have hx0 : w0.cell? ⟨w.heap.size, 0, none⟩ = some (.int .i64 p) := by rw [← hw0]; simp [go_sem]
  have hx1 : w0.cell? ⟨w.heap.size, 1, none⟩ = some (.int .i64 q) := by rw [← hw0]; simp [go_sem]
  clear hv
  have c1' := Lib.hid c1
  have c2' := Lib.hid c2
  have c3' := Lib.hid c3
  have e1' := Lib.hid e1
  have e2' := Lib.hid e2
  have hw0' := Lib.hid hw0
  clear c1 c2 c3 e1 e2 hw0
  cases P
  · have hR : R = ([], false) := e2'.out (by simp)
    subst hR
    clear e1' e2' c3'
    go_enter Try.func58, Try.ntmps58
    go_wp2_with fail
    rw [hw0'.out]
    go_wp2_with fail
    refine (c1'.out _ hB0).mono ?_
    rintro e w1 ⟨rfl, hB1⟩
    have hb1 := hB0.trans (hB1.mono hB0.size)
    go_wp2
    go_ret2
    exact ⟨_, rfl, Own.nil _ _ _, hb1⟩
  · cases U
    · have hR : R = ([], false) := e2'.out (by simp)
      subst hR
      clear e1' e2' c3'
      go_enter Try.func58, Try.ntmps58
      go_wp2_with fail
      rw [hw0'.out]
      go_wp2_with fail
      refine (c1'.out _ hB0).mono ?_
      rintro e w1 ⟨rfl, hB1⟩
      have hb1 := hB0.trans (hB1.mono hB0.size)
      replace hx0 := (hB1.cell (p := ⟨w.heap.size, 0, none⟩) hz0).trans hx0
      replace hx1 := (hB1.cell (p := ⟨w.heap.size, 1, none⟩) hz0).trans hx1
      clear hB1
      go_wp2_with fail
      refine (c2'.out _).mono ?_
      rintro e w2 ⟨rfl, hB2⟩
      have hb2 := hb1.trans (hB2.mono hb1.size)
      go_wp2
      go_ret2
      exact ⟨_, rfl, Own.nil _ _ _, hb2⟩
    · have hR : R = (L, true) := e1'.out rfl
      subst hR
      have c4 := fun w' h => c3'.out w' h rfl rfl
      clear e1' e2' c3'
      have c4' := Lib.hid c4
      clear c4
      go_enter Try.func58, Try.ntmps58
      go_wp2_with fail
      rw [hw0'.out]
      go_wp2_with fail
      refine (c1'.out _ hB0).mono ?_
      rintro e w1 ⟨rfl, hB1⟩
      have hb1 := hB0.trans (hB1.mono hB0.size)
      replace hx0 := (hB1.cell (p := ⟨w.heap.size, 0, none⟩) hz0).trans hx0
      replace hx1 := (hB1.cell (p := ⟨w.heap.size, 1, none⟩) hz0).trans hx1
      have hz1 := Nat.lt_of_lt_of_le hz0 hB1.size
      clear hB1
      go_wp2_with fail
      refine (c2'.out _).mono ?_
      rintro e w2 ⟨rfl, hB2⟩
      have hb2 := hb1.trans (hB2.mono hb1.size)
      replace hx0 := (hB2.cell (p := ⟨w.heap.size, 0, none⟩) hz1).trans hx0
      replace hx1 := (hB2.cell (p := ⟨w.heap.size, 1, none⟩) hz1).trans hx1
      have hs2 := hb2.size
      clear hB2
      go_wp2_with fail
      refine (c4'.out _ hb2).mono ?_
      rintro e w3 ⟨u, rfl, hu, hB3⟩
      have hb3 := hb2.trans (hB3.mono hb2.size)
      have hu' := Lib.hid hu
      clear hu
      go_wp2
      go_ret2
      exact ⟨_, rfl, hu'.out.mono hs2 (Nat.le_refl _), hb3⟩
set_option maxHeartbeats 800000 in
theorem implStatesOf_any (v : Value) (xs : List (Int × Int)) (x : Int × Int) (w : World) (hv : RatsV w v xs) (hm : szRatS xs ≤ 1099511627776) (_hi : I64R x) :
    Calls Try.prog 59 #[v, .agg #[.int .i64 x.1, .int .i64 x.2]] w (RetOB Own (StatesOf_v xs x) w) := by
  have c1 := fun w' (hB : Below w.heap.size w w') => isPartition_any v xs w' (hv.below hB) hm
  have c2 := fun w' => isUnit_any x.1 x.2 w'
  have c3 := fun w' (hB : Below w.heap.size w w') (hp : partB xs = true) (hu : unitR x.1 x.2 = true) => statesOf_any v xs x w' (hv.below hB) hm (unitR_bd hu) (partB_bd hp)
  have e1 : (partB xs && unitR x.1 x.2) = true → StatesOf_v xs x = (stL xs x, true) := fun h => if_pos h
  have e2 : ¬ (partB xs && unitR x.1 x.2) = true → StatesOf_v xs x = ([], false) := fun h => if_neg h
  generalize StatesOf_v xs x = R at *
  generalize stL xs x = L at *
  generalize partB xs = P at *
  generalize unitR x.1 x.2 = U at *
  obtain ⟨p, q⟩ := x
  simp only at c2 c3
  show Calls _ _ #[v, .agg #[.int .i64 p, .int .i64 q]] w _
  obtain ⟨w0, hw0⟩ : ∃ W, w.alloc (.cells #[.int .i64 p, .int .i64 q] 54) = W := ⟨_, rfl⟩
  have hB0 : Below w.heap.size w w0 := by rw [← hw0]; exact (Below.refl _ _).alloc (Nat.le_refl _) _
  have hz0 : w.heap.size < w0.heap.size := by rw [← hw0]; simp
  have hx0 : w0.cell? ⟨w.heap.size, 0, none⟩ = some (.int .i64 p) := by rw [← hw0]; simp [go_sem]
  have hx1 : w0.cell? ⟨w.heap.size, 1, none⟩ = some (.int .i64 q) := by rw [← hw0]; simp [go_sem]
  clear hv
  have c1' := Lib.hid c1
  have c2' := Lib.hid c2
  have c3' := Lib.hid c3
  have e1' := Lib.hid e1
  have e2' := Lib.hid e2
  have hw0' := Lib.hid hw0
  clear c1 c2 c3 e1 e2 hw0
  cases P
  · have hR : R = ([], false) := e2'.out (by simp)
    subst hR
    clear e1' e2' c3'
    go_enter Try.func59, Try.ntmps59
    go_wp2_with fail
    rw [hw0'.out]
    go_wp2_with fail
    refine (c1'.out _ hB0).mono ?_
    rintro e w1 ⟨rfl, hB1⟩
    have hb1 := hB0.trans (hB1.mono hB0.size)
    go_wp2
    go_ret2
    exact ⟨_, rfl, Own.nil _ _ _, hb1⟩
  · cases U
    · have hR : R = ([], false) := e2'.out (by simp)
      subst hR
      clear e1' e2' c3'
      go_enter Try.func59, Try.ntmps59
      go_wp2_with fail
      rw [hw0'.out]
      go_wp2_with fail
      refine (c1'.out _ hB0).mono ?_
      rintro e w1 ⟨rfl, hB1⟩
      have hb1 := hB0.trans (hB1.mono hB0.size)
      replace hx0 := (hB1.cell (p := ⟨w.heap.size, 0, none⟩) hz0).trans hx0
      replace hx1 := (hB1.cell (p := ⟨w.heap.size, 1, none⟩) hz0).trans hx1
      clear hB1
      go_wp2_with fail
      refine (c2'.out _).mono ?_
      rintro e w2 ⟨rfl, hB2⟩
      have hb2 := hb1.trans (hB2.mono hb1.size)
      go_wp2
      go_ret2
      exact ⟨_, rfl, Own.nil _ _ _, hb2⟩
    · have hR : R = (L, true) := e1'.out rfl
      subst hR
      have c4 := fun w' h => c3'.out w' h rfl rfl
      clear e1' e2' c3'
      have c4' := Lib.hid c4
      clear c4
      go_enter Try.func59, Try.ntmps59
      go_wp2_with fail
      rw [hw0'.out]
      go_wp2_with fail
      refine (c1'.out _ hB0).mono ?_
      rintro e w1 ⟨rfl, hB1⟩
      have hb1 := hB0.trans (hB1.mono hB0.size)
      replace hx0 := (hB1.cell (p := ⟨w.heap.size, 0, none⟩) hz0).trans hx0
      replace hx1 := (hB1.cell (p := ⟨w.heap.size, 1, none⟩) hz0).trans hx1
      have hz1 := Nat.lt_of_lt_of_le hz0 hB1.size
      clear hB1
      go_wp2_with fail
      refine (c2'.out _).mono ?_
      rintro e w2 ⟨rfl, hB2⟩
      have hb2 := hb1.trans (hB2.mono hb1.size)
      replace hx0 := (hB2.cell (p := ⟨w.heap.size, 0, none⟩) hz1).trans hx0
      replace hx1 := (hB2.cell (p := ⟨w.heap.size, 1, none⟩) hz1).trans hx1
      have hs2 := hb2.size
      clear hB2
      go_wp2_with fail
      refine (c4'.out _ hb2).mono ?_
      rintro e w3 ⟨u, rfl, hu, hB3⟩
      have hb3 := hb2.trans (hB3.mono hb2.size)
      have hu' := Lib.hid hu
      clear hu
      go_wp2
      go_ret2
      exact ⟨_, rfl, hu'.out.mono hs2 (Nat.le_refl _), hb3⟩

end Go.Proofs.Ytjoeanplgikkcaa

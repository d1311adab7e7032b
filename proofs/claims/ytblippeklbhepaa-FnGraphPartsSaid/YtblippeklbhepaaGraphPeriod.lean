/- GraphPeriod and IsPrimitive: the reference's and the program's. No conditions. -/
import Derived.Test.YtblippeklbhepaaPeriod
namespace Go.Proofs.Ytblippeklbhepaa
open Go.RowKit

/-- What both GraphPeriod functions return. -/
def GraphPeriod_v (g : List (List Int)) : Int × Bool := if graphB g = true ∧ transB g = true then (((perG g : Nat) : Int), true) else (0, false)
theorem GraphPeriod_no1 {g : List (List Int)} (h : graphB g = false) : GraphPeriod_v g = (0, false) := by simp [GraphPeriod_v, h]
theorem GraphPeriod_no2 {g : List (List Int)} (h : transB g = false) : GraphPeriod_v g = (0, false) := by simp [GraphPeriod_v, h]
theorem GraphPeriod_yes {g : List (List Int)} (h : graphB g = true) (h2 : transB g = true) : GraphPeriod_v g = (((perG g : Nat) : Int), true) := by simp [GraphPeriod_v, h, h2]
/-- What both IsPrimitive functions return. -/
def IsPrimitive_v (g : List (List Int)) : Bool × Bool := if graphB g = true then (transB g && decide (perG g = 1), true) else (false, false)
theorem IsPrimitive_no {g : List (List Int)} (h : graphB g = false) : IsPrimitive_v g = (false, false) := by simp [IsPrimitive_v, h]
theorem IsPrimitive_yes {g : List (List Int)} (h : graphB g = true) : IsPrimitive_v g = (transB g && decide (perG g = 1), true) := by simp [IsPrimitive_v, h]

theorem specGraphPeriod_any (v : Value) (g : List (List Int)) (w : World) (hv : RowsV w v g) (hm : szIntSS g ≤ 1099511627776) :
    Calls Try.prog 46 #[v] w (Ret (.tuple #[.int .i64 (GraphPeriod_v g).1, .bool (GraphPeriod_v g).2]) w) := by
  have c1 := grGood_any v g w hv hm
  have c1' := Lib.hid c1
  clear c1
  cases h : graphB g
  · rw [h] at c1'
    rw [GraphPeriod_no1 h]
    clear h hv
    go_enter Try.func46, Try.ntmps46
    go_wp2_with fail
    refine (c1'.out).mono ?_
    rintro e w_ ⟨rfl, rfl⟩
    go_wp2
    go_ret2
    exact ⟨rfl, Below.refl _ _⟩
  · rw [h] at c1'
    have c2 := fun w' hB => grTransitive_any v g w' (hv.below hB) h
    cases hT : transB g
    · rw [GraphPeriod_no2 hT]
      rw [hT] at c2
      have c2' := Lib.hid c2
      clear c2
      clear h hv hT
      go_enter Try.func46, Try.ntmps46
      go_wp2_with fail
      refine (c1'.out).mono ?_
      rintro e w_ ⟨rfl, rfl⟩
      go_wp2_with fail
      refine (c2'.out _ (Below.refl _ _)).mono ?_
      rintro e w2 ⟨rfl, hB2⟩
      have hB0 : Below w.heap.size w _ := Below.refl _ _
      have hB3 := hB0.trans (hB2.mono hB0.size)
      go_wp2
      go_ret2
      exact ⟨rfl, hB3⟩
    · rw [GraphPeriod_yes h hT]
      rw [hT] at c2
      have c3 := fun w' hB => grPeriod_any v g w' (hv.below hB) h hT
      generalize perG g = p at *
      have c2' := Lib.hid c2
      have c3' := Lib.hid c3
      clear c2 c3
      clear h hv hT
      go_enter Try.func46, Try.ntmps46
      go_wp2_with fail
      refine (c1'.out).mono ?_
      rintro e w_ ⟨rfl, rfl⟩
      go_wp2_with fail
      refine (c2'.out _ (Below.refl _ _)).mono ?_
      rintro e w2 ⟨rfl, hB2⟩
      have hB0 : Below w.heap.size w _ := Below.refl _ _
      have hB3 := hB0.trans (hB2.mono hB0.size)
      go_wp2_with fail
      refine (c3'.out _ hB3).mono ?_
      rintro e w3 ⟨rfl, hB4⟩
      have hB5 := hB3.trans (hB4.mono hB3.size)
      go_wp2
      go_ret2
      exact ⟨rfl, hB5⟩
set_option maxHeartbeats 400000 in
theorem specIsPrimitive_any (v : Value) (g : List (List Int)) (w : World) (hv : RowsV w v g) (hm : szIntSS g ≤ 1099511627776) :
    Calls Try.prog 48 #[v] w (Ret (.tuple #[.bool (IsPrimitive_v g).1, .bool (IsPrimitive_v g).2]) w) := by
  have c1 := grGood_any v g w hv hm
  have c1' := Lib.hid c1
  clear c1
  cases h : graphB g
  · rw [h] at c1'
    rw [IsPrimitive_no h]
    clear h hv
    go_enter Try.func48, Try.ntmps48
    go_wp2_with fail
    refine (c1'.out).mono ?_
    rintro e w_ ⟨rfl, rfl⟩
    go_wp2
    go_ret2
    exact ⟨rfl, Below.refl _ _⟩
  · rw [h] at c1'
    rw [IsPrimitive_yes h]
    have c2 := fun w' hB => grTransitive_any v g w' (hv.below hB) h
    cases hT : transB g
    · rw [hT] at c2
      rw [Bool.false_and]
      have c2' := Lib.hid c2
      clear c2
      clear h hv hT
      go_enter Try.func48, Try.ntmps48
      go_wp2_with fail
      refine (c1'.out).mono ?_
      rintro e w_ ⟨rfl, rfl⟩
      go_wp2_with fail
      refine (c2'.out _ (Below.refl _ _)).mono ?_
      rintro e w2 ⟨rfl, hB2⟩
      have hB0 : Below w.heap.size w _ := Below.refl _ _
      have hB3 := hB0.trans (hB2.mono hB0.size)
      go_wp2
      go_ret2
      exact ⟨rfl, hB3⟩
    · rw [hT] at c2
      rw [Bool.true_and]
      have c3 := fun w' hB => grPeriod_any v g w' (hv.below hB) h hT
      have e1 : ((perG g : Int) == 1) = decide (perG g = 1) := by rw [Bool.eq_iff_iff, beq_iff_eq, decide_eq_true_iff]; omega
      generalize perG g = p at *
      generalize decide (p = 1) = D at *
      have c2' := Lib.hid c2
      have c3' := Lib.hid c3
      clear c2 c3
      clear h hv hT
      go_enter Try.func48, Try.ntmps48
      go_wp2_with fail
      refine (c1'.out).mono ?_
      rintro e w_ ⟨rfl, rfl⟩
      go_wp2_with fail
      refine (c2'.out _ (Below.refl _ _)).mono ?_
      rintro e w2 ⟨rfl, hB2⟩
      have hB0 : Below w.heap.size w _ := Below.refl _ _
      have hB3 := hB0.trans (hB2.mono hB0.size)
      go_wp2_with fail
      refine (c3'.out _ hB3).mono ?_
      rintro e w3 ⟨rfl, hB4⟩
      have hB5 := hB3.trans (hB4.mono hB3.size)
      go_wp2
      go_ret2
      exact ⟨rfl, hB5⟩
theorem implGraphPeriod_any (v : Value) (g : List (List Int)) (w : World) (hv : RowsV w v g) (hm : szIntSS g ≤ 1099511627776) :
    Calls Try.prog 45 #[v] w (Ret (.tuple #[.int .i64 (GraphPeriod_v g).1, .bool (GraphPeriod_v g).2]) w) := by
  have c1 := isGraph_any v g w hv hm
  have c1' := Lib.hid c1
  clear c1
  cases h : graphB g
  · rw [h] at c1'
    rw [GraphPeriod_no1 h]
    clear h hv
    go_enter Try.func45, Try.ntmps45
    go_wp2_with fail
    refine (c1'.out).mono ?_
    rintro e w1 ⟨rfl, hB⟩
    go_wp2
    go_ret2
    exact ⟨rfl, hB⟩
  · rw [h] at c1'
    have c2 := fun w' hB => isTransitive_any v g w' (hv.below hB) h
    cases hT : transB g
    · rw [GraphPeriod_no2 hT]
      rw [hT] at c2
      have c2' := Lib.hid c2
      clear c2
      clear h hv hT
      go_enter Try.func45, Try.ntmps45
      go_wp2_with fail
      refine (c1'.out).mono ?_
      rintro e w1 ⟨rfl, hB⟩
      go_wp2_with fail
      refine (c2'.out _ hB).mono ?_
      rintro e w2 ⟨rfl, hB2⟩
      have hB0 : Below w.heap.size w _ := hB
      have hB3 := hB0.trans (hB2.mono hB0.size)
      go_wp2
      go_ret2
      exact ⟨rfl, hB3⟩
    · rw [GraphPeriod_yes h hT]
      rw [hT] at c2
      have c3 := fun w' hB => graphPeriod_any v g w' (hv.below hB) h hT
      generalize perG g = p at *
      have c2' := Lib.hid c2
      have c3' := Lib.hid c3
      clear c2 c3
      clear h hv hT
      go_enter Try.func45, Try.ntmps45
      go_wp2_with fail
      refine (c1'.out).mono ?_
      rintro e w1 ⟨rfl, hB⟩
      go_wp2_with fail
      refine (c2'.out _ hB).mono ?_
      rintro e w2 ⟨rfl, hB2⟩
      have hB0 : Below w.heap.size w _ := hB
      have hB3 := hB0.trans (hB2.mono hB0.size)
      go_wp2_with fail
      refine (c3'.out _ hB3).mono ?_
      rintro e w3 ⟨rfl, hB4⟩
      have hB5 := hB3.trans (hB4.mono hB3.size)
      go_wp2
      go_ret2
      exact ⟨rfl, hB5⟩
set_option maxHeartbeats 400000 in
theorem implIsPrimitive_any (v : Value) (g : List (List Int)) (w : World) (hv : RowsV w v g) (hm : szIntSS g ≤ 1099511627776) :
    Calls Try.prog 47 #[v] w (Ret (.tuple #[.bool (IsPrimitive_v g).1, .bool (IsPrimitive_v g).2]) w) := by
  have c1 := isGraph_any v g w hv hm
  have c1' := Lib.hid c1
  clear c1
  cases h : graphB g
  · rw [h] at c1'
    rw [IsPrimitive_no h]
    clear h hv
    go_enter Try.func47, Try.ntmps47
    go_wp2_with fail
    refine (c1'.out).mono ?_
    rintro e w1 ⟨rfl, hB⟩
    go_wp2
    go_ret2
    exact ⟨rfl, hB⟩
  · rw [h] at c1'
    rw [IsPrimitive_yes h]
    have c2 := fun w' hB => isTransitive_any v g w' (hv.below hB) h
    cases hT : transB g
    · rw [hT] at c2
      rw [Bool.false_and]
      have c2' := Lib.hid c2
      clear c2
      clear h hv hT
      go_enter Try.func47, Try.ntmps47
      go_wp2_with fail
      refine (c1'.out).mono ?_
      rintro e w1 ⟨rfl, hB⟩
      go_wp2_with fail
      refine (c2'.out _ hB).mono ?_
      rintro e w2 ⟨rfl, hB2⟩
      have hB0 : Below w.heap.size w _ := hB
      have hB3 := hB0.trans (hB2.mono hB0.size)
      go_wp2
      go_ret2
      exact ⟨rfl, hB3⟩
    · rw [hT] at c2
      rw [Bool.true_and]
      have c3 := fun w' hB => graphPeriod_any v g w' (hv.below hB) h hT
      have e1 : ((perG g : Int) == 1) = decide (perG g = 1) := by rw [Bool.eq_iff_iff, beq_iff_eq, decide_eq_true_iff]; omega
      generalize perG g = p at *
      generalize decide (p = 1) = D at *
      have c2' := Lib.hid c2
      have c3' := Lib.hid c3
      clear c2 c3
      clear h hv hT
      go_enter Try.func47, Try.ntmps47
      go_wp2_with fail
      refine (c1'.out).mono ?_
      rintro e w1 ⟨rfl, hB⟩
      go_wp2_with fail
      refine (c2'.out _ hB).mono ?_
      rintro e w2 ⟨rfl, hB2⟩
      have hB0 : Below w.heap.size w _ := hB
      have hB3 := hB0.trans (hB2.mono hB0.size)
      go_wp2_with fail
      refine (c3'.out _ hB3).mono ?_
      rintro e w3 ⟨rfl, hB4⟩
      have hB5 := hB3.trans (hB4.mono hB3.size)
      go_wp2
      go_ret2
      exact ⟨rfl, hB5⟩

end Go.Proofs.Ytblippeklbhepaa

/- CoversInterval: the program's and the reference's. No conditions but small sizes. -/
import Derived.Test.YtfhhofecfllbfaaGreatShrS
import Derived.Test.YtfhhofecfllbfaaGreatShrI
namespace Go.Proofs.YtfhhofecfllbfaaGreat
open Go.RowKit

def CoversInterval_v (f : List Quad) (i k : Quad) : Bool × Bool := if mapB f = true ∧ ivB i = true ∧ ivB k = true then covR f i k else (false, false)
theorem cvi_yes {f : List Quad} {i k : Quad} (h : mapB f = true ∧ ivB i = true ∧ ivB k = true) : CoversInterval_v f i k = covR f i k := by unfold CoversInterval_v; rw [if_pos h]
theorem cvi_no {f : List Quad} {i k : Quad} (h : ¬ (mapB f = true ∧ ivB i = true ∧ ivB k = true)) : CoversInterval_v f i k = (false, false) := by unfold CoversInterval_v; rw [if_neg h]

theorem below_gr {w0 w w' : World} {g : Nat} (hb : Below w0.heap.size w0 w) (hg : w0.heap.size ≤ g) (h : w.grownBy w' (some g)) : Below w0.heap.size w0 w' :=
  hb.grown h hb.size (fun j hj => by have := Option.some.inj hj; omega)

set_option linter.unusedSimpArgs false in
set_option linter.unusedVariables false in
set_option maxHeartbeats 4000000 in
theorem implCoversIv_any (v : Value) (f : List Quad) (i k : Quad) (w : World) (hv : QuadV w v f) (hm : f.length ≤ 1099511627776) :
    Calls Tryz.prog 22 #[v, quadV i, quadV k] w (Ret (.tuple #[.bool (CoversInterval_v f i k).1, .bool (CoversInterval_v f i k).2]) w) := by
  have c1 := fun w' (hB : Below w.heap.size w w') => isMap_any v f w' (hv.below hB) hm
  have c2 := fun w' => isInterval_any i w'
  have c3 := fun w' => isInterval_any k w'
  have hyes := cvi_yes (f := f) (i := i) (k := k)
  have hno := cvi_no (f := f) (i := i) (k := k)
  have hcr : covR f i k = if imgOk f i.1 i.2 = true then (covB f i k, true) else (false, false) := rfl
  have hw0 := Nat.le_refl w.heap.size
  have c4 := fun (hq : mapB f = true ∧ ivB i = true ∧ ivB k = true) (g : Nat) w' hB hg0 hc => covers_any g false v f i k w w' hv hB hg0 (mapB_true hq.1) (ivB_true hq.2.1).1 (ivB_true hq.2.1).2.1 (ivB_true hq.2.2).1 (ivB_true hq.2.2).2.1 hc
  have c5 := fun (hq : mapB f = true ∧ ivB i = true ∧ ivB k = true) w' (hB : Below w.heap.size w w') => ivCovers_any v f i k w' (hv.below hB) (mapB_true hq.1) (ivB_true hq.2.1).1 (ivB_true hq.2.1).2.1 (ivB_true hq.2.2).1 (ivB_true hq.2.2).2.1
  generalize CoversInterval_v f i k = V at *
  generalize covR f i k = CR at *
  generalize imgOk f i.1 i.2 = IG at *
  generalize covB f i k = CB at *
  generalize mapB f = A at *
  generalize ivB i = B at *
  generalize ivB k = C at *
  obtain ⟨⟨p0, p1⟩, ⟨p2, p3⟩⟩ := i
  obtain ⟨⟨q0, q1⟩, ⟨q2, q3⟩⟩ := k
  obtain ⟨w1, hw1⟩ : ∃ W, (w.alloc (.cells #[.int .i64 p0, .int .i64 p1, .int .i64 p2, .int .i64 p3] 44)).alloc (.cells #[.int .i64 q0, .int .i64 q1, .int .i64 q2, .int .i64 q3] 44) = W := ⟨_, rfl⟩
  have hB1 : Below w.heap.size w w1 := by rw [← hw1]; exact ((Below.refl _ _).alloc (Nat.le_refl _) _).alloc (by simp) _
  have xi : BoxQ w1 w.heap.size ((p0, p1), (p2, p3)) := by rw [← hw1]; refine ⟨?_, ?_, ?_, ?_⟩ <;> simp [go_sem]
  have xk : BoxQ w1 (w.heap.size + 1) ((q0, q1), (q2, q3)) := by rw [← hw1]; refine ⟨?_, ?_, ?_, ?_⟩ <;> simp [go_sem]
  clear hv
  have c1' := Lib.hid c1
  have c2' := Lib.hid c2
  have c3' := Lib.hid c3
  have c4' := Lib.hid c4
  have c5' := Lib.hid c5
  have hyes' := Lib.hid hyes
  have hno' := Lib.hid hno
  have hw1' := Lib.hid hw1
  have xi' := Lib.hid xi
  have xk' := Lib.hid xk
  have hcr' := Lib.hid hcr
  clear c1 c2 c3 c4 c5 hyes hno hw1 xi xk hcr
  show Calls _ _ #[_, .agg #[.int .i64 p0, .int .i64 p1, .int .i64 p2, .int .i64 p3], .agg #[.int .i64 q0, .int .i64 q1, .int .i64 q2, .int .i64 q3]] w _
  go_enter Tryz.func22, Tryz.ntmps22
  go_wp2_with fail
  rw [hw1'.out]
  go_wp2_with fail
  refine (c1'.out _ hB1).mono ?_
  rintro e w2 ⟨rfl, hB2⟩
  have hb2 := hB1.trans (hB2.mono hB1.size)
  have xi2 := xi'.out.below hB2
  have xk2 := xk'.out.below hB2
  clear hB2 hB1 xi' xk' hw1' c1'
  cases A
  · have hV := hno'.out (fun h => by cases h.1)
    subst hV
    clear xi2 xk2
    have hb2' := Lib.hid hb2
    clear hb2
    go_wp2
    go_ret2
    exact ⟨rfl, hb2'.out⟩
  · obtain ⟨a0, a1, a2, a3⟩ := id xi2
    simp only at a0 a1 a2 a3
    have hb2' := Lib.hid hb2
    have xi2' := Lib.hid xi2
    have xk2' := Lib.hid xk2
    clear hb2 xi2 xk2
    go_wp2_with fail
    refine (c2'.out _).mono ?_
    rintro e w3 ⟨rfl, hB3⟩
    have hb3 := hb2'.out.trans (hB3.mono hb2'.out.size)
    have xi3 := xi2'.out.below hB3
    have xk3 := xk2'.out.below hB3
    clear hB3 hb2' xi2' xk2' c2' a0 a1 a2 a3
    cases B
    · have hV := hno'.out (fun h => by cases h.2.1)
      subst hV
      clear xi3 xk3
      have hb3' := Lib.hid hb3
      clear hb3
      go_wp2
      go_ret2
      exact ⟨rfl, hb3'.out⟩
    · obtain ⟨a0, a1, a2, a3⟩ := id xk3
      simp only at a0 a1 a2 a3
      have hb3' := Lib.hid hb3
      have xi3' := Lib.hid xi3
      have xk3' := Lib.hid xk3
      clear hb3 xi3 xk3
      go_wp2_with fail
      refine (c3'.out _).mono ?_
      rintro e w4 ⟨rfl, hB4⟩
      have hb4 := hb3'.out.trans (hB4.mono hb3'.out.size)
      have xi4 := xi3'.out.below hB4
      have xk4 := xk3'.out.below hB4
      clear hB4 hb3' xi3' xk3' c3' a0 a1 a2 a3
      cases C
      · have hV := hno'.out (fun h => by cases h.2.2)
        subst hV
        clear xi4 xk4
        have hb4' := Lib.hid hb4
        clear hb4
        go_wp2
        go_ret2
        exact ⟨rfl, hb4'.out⟩
      · have hV := hyes'.out ⟨by simp, by simp, by simp⟩
        subst hV
        obtain ⟨a0, a1, a2, a3⟩ := id xi4
        obtain ⟨b0, b1, b2, b3⟩ := id xk4
        simp only at a0 a1 a2 a3 b0 b1 b2 b3
        obtain ⟨g, hg⟩ : ∃ g, w4.heap.size = g := ⟨_, rfl⟩
        obtain ⟨w5, hw5⟩ : ∃ W, w4.alloc (.cells #[.bool false] 92) = W := ⟨_, rfl⟩
        have hc5 : CalcAt w5 g false := by rw [← hg, ← hw5]; exact ⟨by simp [go_sem], by simp [go_sem]⟩
        have hb5 : Below w.heap.size w w5 := by rw [← hw5]; exact hb4.alloc hb4.size _
        have hg0 : w.heap.size ≤ g := by rw [← hg]; exact hb4.size
        have c6 := c4'.out ⟨by simp, by simp, by simp⟩ g w5 hb5 hg0 hc5
        clear c4' c5' xi4 xk4
        have hw5' := Lib.hid hw5
        have c6' := Lib.hid c6
        have hb5' := Lib.hid hb5
        have hb4' := Lib.hid hb4
        clear hw5 c6 hb5 hb4
        have hl0 : w.heap.size < g := by have h : w.heap.size < w4.heap.size := World.block_lt_of_cell? _ _ a0; omega
        have hl1 : w.heap.size + 1 < g := by have h : w.heap.size + 1 < w4.heap.size := World.block_lt_of_cell? _ _ b0; omega
        have hl2 : ¬ w.heap.size = g := by omega
        have hl3 : ¬ w.heap.size + 1 = g := by omega
        go_wp2_with fail
        rw [hw5'.out]
        refine c6'.out.mono ?_
        rintro e w6 ⟨rfl, hg6, hc6⟩
        have hb6 := below_gr hb5'.out hg0 hg6
        have k0 := hc6.1
        have hcr2 := hcr'.out
        clear a0 a1 a2 a3 b0 b1 b2 b3 hc6 hg6
        cases IG
        · rw [if_neg (by decide)] at hcr2
          subst hcr2
          replace k0 : w6.cell? ⟨g, 0, none⟩ = some (.bool true) := k0
          have hb6' := Lib.hid hb6
          clear hb6
          go_wp2
          go_ret2
          exact ⟨rfl, hb6'.out⟩
        · rw [if_pos rfl] at hcr2
          subst hcr2
          replace k0 : w6.cell? ⟨g, 0, none⟩ = some (.bool false) := k0
          have hb6' := Lib.hid hb6
          clear hb6
          go_wp2
          go_ret2
          exact ⟨rfl, hb6'.out⟩
set_option linter.unusedSimpArgs false in
set_option linter.unusedVariables false in
set_option maxHeartbeats 4000000 in
theorem specCoversIv_any (v : Value) (f : List Quad) (i k : Quad) (w : World) (hv : QuadV w v f) (hm : f.length ≤ 1099511627776) :
    Calls Tryz.prog 23 #[v, quadV i, quadV k] w (Ret (.tuple #[.bool (CoversInterval_v f i k).1, .bool (CoversInterval_v f i k).2]) w) := by
  have c1 := fun w' (hB : Below w.heap.size w w') => imGood_any v f w' (hv.below hB) hm
  have c2 := fun w' => ivGood_any i w'
  have c3 := fun w' => ivGood_any k w'
  have hyes := cvi_yes (f := f) (i := i) (k := k)
  have hno := cvi_no (f := f) (i := i) (k := k)
  have hcr : covR f i k = if imgOk f i.1 i.2 = true then (covB f i k, true) else (false, false) := rfl
  have hw0 := Nat.le_refl w.heap.size
  have c4 := fun (hq : mapB f = true ∧ ivB i = true ∧ ivB k = true) (g : Nat) w' hB hg0 hc => covers_any g false v f i k w w' hv hB hg0 (mapB_true hq.1) (ivB_true hq.2.1).1 (ivB_true hq.2.1).2.1 (ivB_true hq.2.2).1 (ivB_true hq.2.2).2.1 hc
  have c5 := fun (hq : mapB f = true ∧ ivB i = true ∧ ivB k = true) w' (hB : Below w.heap.size w w') => ivCovers_any v f i k w' (hv.below hB) (mapB_true hq.1) (ivB_true hq.2.1).1 (ivB_true hq.2.1).2.1 (ivB_true hq.2.2).1 (ivB_true hq.2.2).2.1
  generalize CoversInterval_v f i k = V at *
  generalize covR f i k = CR at *
  generalize imgOk f i.1 i.2 = IG at *
  generalize covB f i k = CB at *
  generalize mapB f = A at *
  generalize ivB i = B at *
  generalize ivB k = C at *
  obtain ⟨⟨p0, p1⟩, ⟨p2, p3⟩⟩ := i
  obtain ⟨⟨q0, q1⟩, ⟨q2, q3⟩⟩ := k
  obtain ⟨w1, hw1⟩ : ∃ W, (w.alloc (.cells #[.int .i64 p0, .int .i64 p1, .int .i64 p2, .int .i64 p3] 44)).alloc (.cells #[.int .i64 q0, .int .i64 q1, .int .i64 q2, .int .i64 q3] 44) = W := ⟨_, rfl⟩
  have hB1 : Below w.heap.size w w1 := by rw [← hw1]; exact ((Below.refl _ _).alloc (Nat.le_refl _) _).alloc (by simp) _
  have xi : BoxQ w1 w.heap.size ((p0, p1), (p2, p3)) := by rw [← hw1]; refine ⟨?_, ?_, ?_, ?_⟩ <;> simp [go_sem]
  have xk : BoxQ w1 (w.heap.size + 1) ((q0, q1), (q2, q3)) := by rw [← hw1]; refine ⟨?_, ?_, ?_, ?_⟩ <;> simp [go_sem]
  clear hv
  have c1' := Lib.hid c1
  have c2' := Lib.hid c2
  have c3' := Lib.hid c3
  have c4' := Lib.hid c4
  have c5' := Lib.hid c5
  have hyes' := Lib.hid hyes
  have hno' := Lib.hid hno
  have hw1' := Lib.hid hw1
  have xi' := Lib.hid xi
  have xk' := Lib.hid xk
  have hcr' := Lib.hid hcr
  clear c1 c2 c3 c4 c5 hyes hno hw1 xi xk hcr
  show Calls _ _ #[_, .agg #[.int .i64 p0, .int .i64 p1, .int .i64 p2, .int .i64 p3], .agg #[.int .i64 q0, .int .i64 q1, .int .i64 q2, .int .i64 q3]] w _
  go_enter Tryz.func23, Tryz.ntmps23
  go_wp2_with fail
  rw [hw1'.out]
  go_wp2_with fail
  refine (c1'.out _ hB1).mono ?_
  rintro e w2 ⟨rfl, hB2⟩
  have hb2 := hB1.trans (hB2.mono hB1.size)
  have xi2 := xi'.out.below hB2
  have xk2 := xk'.out.below hB2
  clear hB2 hB1 xi' xk' hw1' c1'
  cases A
  · have hV := hno'.out (fun h => by cases h.1)
    subst hV
    clear xi2 xk2
    have hb2' := Lib.hid hb2
    clear hb2
    go_wp2
    go_ret2
    exact ⟨rfl, hb2'.out⟩
  · obtain ⟨a0, a1, a2, a3⟩ := id xi2
    simp only at a0 a1 a2 a3
    have hb2' := Lib.hid hb2
    have xi2' := Lib.hid xi2
    have xk2' := Lib.hid xk2
    clear hb2 xi2 xk2
    go_wp2_with fail
    refine (c2'.out _).mono ?_
    rintro e w3 ⟨rfl, hB3⟩
    have hb3 := hb2'.out.trans (hB3.mono hb2'.out.size)
    have xi3 := xi2'.out.below hB3
    have xk3 := xk2'.out.below hB3
    clear hB3 hb2' xi2' xk2' c2' a0 a1 a2 a3
    cases B
    · have hV := hno'.out (fun h => by cases h.2.1)
      subst hV
      clear xi3 xk3
      have hb3' := Lib.hid hb3
      clear hb3
      go_wp2
      go_ret2
      exact ⟨rfl, hb3'.out⟩
    · obtain ⟨a0, a1, a2, a3⟩ := id xk3
      simp only at a0 a1 a2 a3
      have hb3' := Lib.hid hb3
      have xi3' := Lib.hid xi3
      have xk3' := Lib.hid xk3
      clear hb3 xi3 xk3
      go_wp2_with fail
      refine (c3'.out _).mono ?_
      rintro e w4 ⟨rfl, hB4⟩
      have hb4 := hb3'.out.trans (hB4.mono hb3'.out.size)
      have xi4 := xi3'.out.below hB4
      have xk4 := xk3'.out.below hB4
      clear hB4 hb3' xi3' xk3' c3' a0 a1 a2 a3
      cases C
      · have hV := hno'.out (fun h => by cases h.2.2)
        subst hV
        clear xi4 xk4
        have hb4' := Lib.hid hb4
        clear hb4
        go_wp2
        go_ret2
        exact ⟨rfl, hb4'.out⟩
      · have hV := hyes'.out ⟨by simp, by simp, by simp⟩
        subst hV
        obtain ⟨a0, a1, a2, a3⟩ := id xi4
        obtain ⟨b0, b1, b2, b3⟩ := id xk4
        simp only at a0 a1 a2 a3 b0 b1 b2 b3
        have c6 := c5'.out ⟨by simp, by simp, by simp⟩ w4 hb4
        clear c4' c5' xi4 xk4 hcr'
        have c6' := Lib.hid c6
        have hb4' := Lib.hid hb4
        clear c6 hb4
        go_wp2_with fail
        refine c6'.out.mono ?_
        rintro e w6 ⟨rfl, hB6⟩
        have hb6 := hb4'.out.trans (hB6.mono hb4'.out.size)
        clear a0 a1 a2 a3 b0 b1 b2 b3 hB6
        have hb6' := Lib.hid hb6
        clear hb6
        go_wp2
        go_ret2
        exact ⟨rfl, hb6'.out⟩
end Go.Proofs.YtfhhofecfllbfaaGreat

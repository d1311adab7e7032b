/- Fractions: compared, made in lowest terms. No conditions but bounds. -/
import Derived.Test.YtnggopbehohjnaaRat
namespace Go.Proofs.Ytnggopbehohjnaa
open Go.RowKit

/-- Numerator and denominator of a size that the program keeps. -/
def BdR (n d : Int) : Prop := (1 ≤ d ∧ d ≤ 1000000000) ∧ (-1000000000 ≤ n ∧ n ≤ 1000000000)
theorem BdR.prod {n d n' d' : Int} (h : BdR n d) (h' : BdR n' d') : -1000000000000000000 ≤ n * d' ∧ n * d' ≤ 1000000000000000000 := by
  obtain ⟨⟨h1, h2⟩, h3, h4⟩ := h'
  obtain ⟨_, h5, h6⟩ := h
  have a1 : n * d' ≤ 1000000000 * d' := Int.mul_le_mul_of_nonneg_right h6 (by omega)
  have a2 : -1000000000 * d' ≤ n * d' := Int.mul_le_mul_of_nonneg_right h5 (by omega)
  omega
/-- -1, 0 or 1 as the first fraction is less, equal or greater. -/
def cmpN (n d n' d' : Int) : Int := sgn (n * d' - n' * d)
def ltB (n d n' d' : Int) : Bool := decide (n * d' < n' * d)
theorem cmpN_lt (n d n' d' : Int) : decide (cmpN n d n' d' < 0) = ltB n d n' d' := by
  unfold cmpN ltB sgn
  by_cases h : n * d' < n' * d
  · rw [if_neg (by omega), if_pos (by omega), decide_eq_true h]; rfl
  · rw [decide_eq_false h]
    by_cases h2 : 0 < n * d' - n' * d
    · rw [if_pos h2]; rfl
    · rw [if_neg h2, if_neg (by omega)]; rfl

set_option maxHeartbeats 400000 in
theorem compare_any (n d n' d' : Int) (w : World) (h1 : BdR n d) (h2 : BdR n' d') :
    Calls Try.prog 28 #[.agg #[.int .i64 n, .int .i64 d], .agg #[.int .i64 n', .int .i64 d']] w (Ret (.int .i64 (cmpN n d n' d')) w) := by
  have hB1 : Below w.heap.size w (w.alloc (.cells #[.int .i64 n, .int .i64 d] 33)) := (Below.refl _ _).alloc (Nat.le_refl _) _
  have hB : Below w.heap.size w ((w.alloc (.cells #[.int .i64 n, .int .i64 d] 33)).alloc (.cells #[.int .i64 n', .int .i64 d'] 33)) := hB1.alloc (by simp) _
  have p1 := h1.prod h2
  have p2 := h2.prod h1
  unfold cmpN
  obtain ⟨x, hx⟩ : ∃ x, n * d' = x := ⟨_, rfl⟩
  obtain ⟨y, hy⟩ : ∃ y, n' * d = y := ⟨_, rfl⟩
  rw [hx] at p1 ⊢
  rw [hy] at p2 ⊢
  clear h1 h2 hB1
  by_cases hlt : x < y
  · rw [show sgn (x - y) = -1 by unfold sgn; rw [if_neg (by omega), if_pos (by omega)]]
    go_enter Try.func28, Try.ntmps28
    go_wp2_with fail
    go_quiet (fail)
    go_wp2
    go_ret
    exact ⟨rfl, below_drewN hB _⟩
  · by_cases hgt : y < x
    · rw [show sgn (x - y) = 1 by unfold sgn; rw [if_pos (by omega)]]
      go_enter Try.func28, Try.ntmps28
      go_wp2_with fail
      go_quiet (fail)
      go_wp2
      go_ret
      exact ⟨rfl, below_drewN hB _⟩
    · rw [show sgn (x - y) = 0 by unfold sgn; rw [if_neg (by omega), if_neg (by omega)]]
      go_enter Try.func28, Try.ntmps28
      go_wp2_with fail
      go_quiet (fail)
      go_wp2
      go_ret
      exact ⟨rfl, below_drewN hB _⟩
theorem less_any (n d n' d' : Int) (w : World) (h1 : BdR n d) (h2 : BdR n' d') :
    Calls Try.prog 36 #[.agg #[.int .i64 n, .int .i64 d], .agg #[.int .i64 n', .int .i64 d']] w (Ret (.bool (ltB n d n' d')) w) := by
  have hB1 : Below w.heap.size w (w.alloc (.cells #[.int .i64 n, .int .i64 d] 33)) := (Below.refl _ _).alloc (Nat.le_refl _) _
  have hB : Below w.heap.size w ((w.alloc (.cells #[.int .i64 n, .int .i64 d] 33)).alloc (.cells #[.int .i64 n', .int .i64 d'] 33)) := hB1.alloc (by simp) _
  have c1 := fun w => compare_any n d n' d' w h1 h2
  have hl := cmpN_lt n d n' d'
  generalize ltB n d n' d' = L at *
  generalize cmpN n d n' d' = C at *
  have c1' := Lib.hid c1
  clear c1
  clear h1 h2 hB1
  cases L
  · have hC : ¬ C < 0 := by simpa using hl
    go_enter Try.func36, Try.ntmps36
    go_wp2_with fail
    refine (c1'.out _).mono ?_
    rintro e w1 ⟨rfl, hB2⟩
    go_wp2
    go_ret
    exact ⟨rfl, hB.trans (hB2.mono hB.size)⟩
  · have hC : C < 0 := by simpa using hl
    go_enter Try.func36, Try.ntmps36
    go_wp2_with fail
    refine (c1'.out _).mono ?_
    rintro e w1 ⟨rfl, hB2⟩
    go_wp2
    go_ret
    exact ⟨rfl, hB.trans (hB2.mono hB.size)⟩
theorem raCmp_any (n d n' d' : Int) (w : World) (h1 : BdR n d) (h2 : BdR n' d') :
    Calls Try.prog 20 #[.agg #[.int .i64 n, .int .i64 d], .agg #[.int .i64 n', .int .i64 d']] w (Ret (.int .i64 (cmpN n d n' d')) w) := by
  have hB1 : Below w.heap.size w (w.alloc (.cells #[.int .i64 n, .int .i64 d] 33)) := (Below.refl _ _).alloc (Nat.le_refl _) _
  have hB : Below w.heap.size w ((w.alloc (.cells #[.int .i64 n, .int .i64 d] 33)).alloc (.cells #[.int .i64 n', .int .i64 d'] 33)) := hB1.alloc (by simp) _
  have p1 := h1.prod h2
  have p2 := h2.prod h1
  unfold cmpN
  obtain ⟨x, hx⟩ : ∃ x, n * d' = x := ⟨_, rfl⟩
  obtain ⟨y, hy⟩ : ∃ y, n' * d = y := ⟨_, rfl⟩
  rw [hx] at p1 ⊢
  rw [hy] at p2 ⊢
  clear h1 h2 hB1
  go_enter Try.func20, Try.ntmps20
  go_wp2_with fail
  refine (l1Sign_any _ _).mono ?_
  rintro e w_ ⟨rfl, rfl⟩
  go_wp2
  go_ret
  exact ⟨rfl, hB⟩

/-- A fraction of 0..1. -/
def unitR (n d : Int) : Bool := goodR n d && inB n 0 d
theorem raUnit_any (n d : Int) (w : World) : Calls Try.prog 19 #[.agg #[.int .i64 n, .int .i64 d]] w (Ret (.bool (unitR n d)) w) := by
  have hB : Below w.heap.size w (w.alloc (.cells #[.int .i64 n, .int .i64 d] 33)) := (Below.refl _ _).alloc (Nat.le_refl _) _
  have c1 := fun w => raGood_any n d w
  unfold unitR
  have c1' := Lib.hid c1
  clear c1
  cases h : goodR n d
  · rw [h] at c1'
    rw [Bool.false_and]
    clear h
    go_enter Try.func19, Try.ntmps19
    go_wp2_with fail
    refine (c1'.out _).mono ?_
    rintro e w1 ⟨rfl, hB2⟩
    go_wp2
    go_ret
    exact ⟨rfl, hB.trans (hB2.mono hB.size)⟩
  · rw [h] at c1'
    rw [Bool.true_and]
    clear h
    go_enter Try.func19, Try.ntmps19
    go_wp2_with fail
    refine (c1'.out _).mono ?_
    rintro e w1 ⟨rfl, hB2⟩
    have q1 := hB2.cell (p := ⟨w.heap.size, 0, none⟩) (by simp)
    have q2 := hB2.cell (p := ⟨w.heap.size, 1, none⟩) (by simp)
    rw [World.cell?_alloc_at _ _ _ _ rfl] at q1 q2
    have hB3 := hB.trans (hB2.mono hB.size)
    clear hB hB2
    go_wp2_with fail
    refine (l1In_any _ _ _ _).mono ?_
    rintro e w_ ⟨rfl, rfl⟩
    go_wp2
    go_ret
    exact ⟨rfl, hB3⟩
theorem isUnit_any (n d : Int) (w : World) : Calls Try.prog 35 #[.agg #[.int .i64 n, .int .i64 d]] w (Ret (.bool (unitR n d)) w) := by
  have hB : Below w.heap.size w (w.alloc (.cells #[.int .i64 n, .int .i64 d] 33)) := (Below.refl _ _).alloc (Nat.le_refl _) _
  have c1 := fun w => isRat_any n d w
  unfold unitR
  have c1' := Lib.hid c1
  clear c1
  cases h : goodR n d
  · rw [h] at c1'
    rw [Bool.false_and]
    clear h
    go_enter Try.func35, Try.ntmps35
    go_wp2_with fail
    refine (c1'.out _).mono ?_
    rintro e w1 ⟨rfl, hB2⟩
    go_wp2
    go_ret
    exact ⟨rfl, hB.trans (hB2.mono hB.size)⟩
  · rw [h] at c1'
    rw [Bool.true_and]
    clear h
    by_cases h0 : 0 ≤ n
    · by_cases h1 : n ≤ d
      · rw [inB_true.2 ⟨h0, h1⟩]
        go_enter Try.func35, Try.ntmps35
        go_wp2_with fail
        refine (c1'.out _).mono ?_
        rintro e w1 ⟨rfl, hB2⟩
        have q1 := hB2.cell (p := ⟨w.heap.size, 0, none⟩) (by simp)
        have q2 := hB2.cell (p := ⟨w.heap.size, 1, none⟩) (by simp)
        rw [World.cell?_alloc_at _ _ _ _ rfl] at q1 q2
        have hB3 := hB.trans (hB2.mono hB.size)
        clear hB hB2
        go_wp2
        go_ret
        exact ⟨rfl, hB3⟩
      · rw [inB_false.2 (by omega)]
        go_enter Try.func35, Try.ntmps35
        go_wp2_with fail
        refine (c1'.out _).mono ?_
        rintro e w1 ⟨rfl, hB2⟩
        have q1 := hB2.cell (p := ⟨w.heap.size, 0, none⟩) (by simp)
        have q2 := hB2.cell (p := ⟨w.heap.size, 1, none⟩) (by simp)
        rw [World.cell?_alloc_at _ _ _ _ rfl] at q1 q2
        have hB3 := hB.trans (hB2.mono hB.size)
        have hd : decide (n ≤ d) = false := decide_eq_false (by omega)
        clear hB hB2
        go_wp2
        go_ret
        exact ⟨rfl, hB3⟩
    · rw [inB_false.2 (by omega)]
      go_enter Try.func35, Try.ntmps35
      go_wp2_with fail
      refine (c1'.out _).mono ?_
      rintro e w1 ⟨rfl, hB2⟩
      have q1 := hB2.cell (p := ⟨w.heap.size, 0, none⟩) (by simp)
      rw [World.cell?_alloc_at _ _ _ _ rfl] at q1
      have hB3 := hB.trans (hB2.mono hB.size)
      have hd : decide (0 ≤ n) = false := decide_eq_false (by omega)
      clear hB hB2
      go_wp2
      go_ret
      exact ⟨rfl, hB3⟩

/-- In lowest terms. -/
def lowN (x y : Int) : Int := if y < 0 then x.tdiv (-gcdI x y) else x.tdiv (gcdI x y)
def lowD (x y : Int) : Int := if y < 0 then y.tdiv (-gcdI x y) else y.tdiv (gcdI x y)
/-- A fraction in lowest terms, if it is valid. -/
def mkR (x y : Int) : (Int × Int) × Bool := if goodR (lowN x y) (lowD x y) = true then ((lowN x y, lowD x y), true) else ((0, 0), false)
theorem gcdI_pos {x y : Int} (h : y ≠ 0) : 0 < gcdI x y := by
  unfold gcdI
  have := Nat.gcd_pos_of_pos_right x.natAbs (show 0 < y.natAbs by omega)
  omega
theorem gcdI_le {x y : Int} (h : y ≠ 0) : gcdI x y ≤ y.natAbs := by
  unfold gcdI
  have := Nat.gcd_le_right x.natAbs (show 0 < y.natAbs by omega)
  omega

/-- What lay there before reads as before. -/
theorem bcell {W w1 : World} (hb : Below W.heap.size W w1) : (∀ b o, b < W.heap.size → w1.cell? ⟨b, o, none⟩ = W.cell? ⟨b, o, none⟩) ∧ (∀ b o, b < W.heap.size → w1.frozen? ⟨b, o, none⟩ = W.frozen? ⟨b, o, none⟩) :=
  ⟨fun b o h => hb.cell (p := ⟨b, o, none⟩) h, fun b o h => hb.frozen (p := ⟨b, o, none⟩) h⟩
theorem tdiv_bd (x g : Int) : (x.tdiv g).natAbs ≤ x.natAbs := by
  rw [Int.natAbs_tdiv]; exact Nat.div_le_self _ _
theorem mkR_no {x y : Int} (h : goodR (lowN x y) (lowD x y) = false) : mkR x y = ((0, 0), false) := by simp [mkR, h]
theorem mkR_yes {x y : Int} (h : goodR (lowN x y) (lowD x y) = true) : mkR x y = ((lowN x y, lowD x y), true) := by simp [mkR, h]


end Go.Proofs.Ytnggopbehohjnaa

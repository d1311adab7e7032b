/- Several texts in one: MulDiv Cops Slope Line Cval. No conditions but those that each theorem states. -/
import Derived.Test.YtjkgilenhoomoaaGreatPkD
import Derived.Deep.RegionHeld3
import Derived.Test.YtjkgilenhoomoaaGreatPkE
import Derived.Maps.Range

namespace Go.Proofs.YtjkgilenhoomoaaGreat
open Go.RowKit

theorem prodNN {x y : Int} (hx : -1000000000 ≤ x ∧ x ≤ 1000000000) (hy : -1000000000 ≤ y ∧ y ≤ 1000000000) : -1000000000000000000 ≤ x * y ∧ x * y ≤ 1000000000000000000 := by
  have h1 : (x * y).natAbs = x.natAbs * y.natAbs := Int.natAbs_mul x y
  have h2 : x.natAbs * y.natAbs ≤ 1000000000 * 1000000000 := Nat.mul_le_mul (by omega) (by omega)
  omega

set_option maxHeartbeats 800000 in
theorem raMul_core (n d n' d' : Int) (w : World) (ha : BdR n d) (hb : BdR n' d') (h0 : d * d' ≠ 0) (_hne : True) :
    Calls Tryz.prog 63 #[.agg #[.int .i64 n, .int .i64 d], .agg #[.int .i64 n', .int .i64 d']] w (Ret (.tuple #[ratV (mkR (n * n') (d * d')).1, .bool (mkR (n * n') (d * d')).2]) w) := by
  have p1 : -1000000000000000000 ≤ n * n' ∧ n * n' ≤ 1000000000000000000 := prodNN (by have := ha.2; omega) (by have := hb.1; have := hb.2; omega)
  have p3 : -1000000000000000000 ≤ d * d' ∧ d * d' ≤ 1000000000000000000 := prodNN (by have := ha.1; omega) (by have := hb.1; have := hb.2; omega)
  have c1 := fun w => raMake_any (n * n') (d * d') w (by omega) (by omega) h0
  obtain ⟨x, hx⟩ : ∃ x, n * n' = x := ⟨_, rfl⟩
  obtain ⟨z, hz⟩ : ∃ z, d * d' = z := ⟨_, rfl⟩
  rw [hx] at p1 c1 ⊢
  rw [hz] at p3 c1 h0 ⊢
  skip
  generalize mkR x z = R at *
  obtain ⟨⟨r1, r2⟩, r3⟩ := R
  have hB : Below w.heap.size w (((w.alloc (.cells #[.int .i64 n, .int .i64 d] 42)).alloc (.cells #[.int .i64 n', .int .i64 d'] 42)).alloc (.cells #[.int .i64 0, .int .i64 0] 42)) :=
    (((Below.refl _ _).alloc (Nat.le_refl _) _).alloc (by simp) _).alloc (by simp; omega) _
  clear ha hb
  have c1' := Lib.hid c1
  have h0' := Lib.hid h0
  clear c1 h0
  go_enter Tryz.func63, Tryz.ntmps63
  go_wp2_with fail
  refine (c1'.out _).mono ?_
  rintro e w1 ⟨rfl, hB1⟩
  obtain ⟨hc1, hf1⟩ := bcell hB1
  have hz1 : w.heap.size + 1 + 1 < w1.heap.size := by have := hB1.size; simp at this; omega
  have hB2 := hB.trans (hB1.mono hB.size)
  have q0 : w1.cell? ⟨w.heap.size + 1 + 1, 0, none⟩ = some (.int .i64 0) := by rw [hc1 _ _ (by simp)]; simp [go_sem]
  have q1 : w1.cell? ⟨w.heap.size + 1 + 1, 1, none⟩ = some (.int .i64 0) := by rw [hc1 _ _ (by simp)]; simp [go_sem]
  have q2 : w1.frozen? ⟨w.heap.size + 1 + 1, 0, none⟩ = false := by rw [hf1 _ _ (by simp)]; simp [go_sem]
  have q3 : w1.frozen? ⟨w.heap.size + 1 + 1, 1, none⟩ = false := by rw [hf1 _ _ (by simp)]; simp [go_sem]
  clear hB hB1 hc1 hf1
  go_wp2
  refine bodyPost_ret (v := .tuple #[ratV (r1, r2), .bool r3]) (by simp [results, Tryz.results63, go_sem, q0, q1, ratV]) rfl ⟨rfl, ?_⟩
  exact (hB2.setCell (p := ⟨w.heap.size + 1 + 1, 0, none⟩) (by show w.heap.size ≤ w.heap.size + 1 + 1; omega) _).setCell (p := ⟨w.heap.size + 1 + 1, 1, none⟩) (by show w.heap.size ≤ w.heap.size + 1 + 1; omega) _
set_option maxHeartbeats 800000 in
theorem raDiv_core (n d n' d' : Int) (w : World) (ha : BdR n d) (hb : BdR n' d') (h0 : d * n' ≠ 0) (hne : n' ≠ 0) :
    Calls Tryz.prog 60 #[.agg #[.int .i64 n, .int .i64 d], .agg #[.int .i64 n', .int .i64 d']] w (Ret (.tuple #[ratV (mkR (n * d') (d * n')).1, .bool (mkR (n * d') (d * n')).2]) w) := by
  have p1 : -1000000000000000000 ≤ n * d' ∧ n * d' ≤ 1000000000000000000 := prodNN (by have := ha.2; omega) (by have := hb.1; have := hb.2; omega)
  have p3 : -1000000000000000000 ≤ d * n' ∧ d * n' ≤ 1000000000000000000 := prodNN (by have := ha.1; omega) (by have := hb.1; have := hb.2; omega)
  have c1 := fun w => raMake_any (n * d') (d * n') w (by omega) (by omega) h0
  obtain ⟨x, hx⟩ : ∃ x, n * d' = x := ⟨_, rfl⟩
  obtain ⟨z, hz⟩ : ∃ z, d * n' = z := ⟨_, rfl⟩
  rw [hx] at p1 c1 ⊢
  rw [hz] at p3 c1 h0 ⊢
  have e0 : (n' == 0) = false := by rw [beq_eq_false_iff_ne]; exact hne
  generalize mkR x z = R at *
  obtain ⟨⟨r1, r2⟩, r3⟩ := R
  have hB : Below w.heap.size w (((w.alloc (.cells #[.int .i64 n, .int .i64 d] 42)).alloc (.cells #[.int .i64 n', .int .i64 d'] 42)).alloc (.cells #[.int .i64 0, .int .i64 0] 42)) :=
    (((Below.refl _ _).alloc (Nat.le_refl _) _).alloc (by simp) _).alloc (by simp; omega) _
  clear ha hb
  have c1' := Lib.hid c1
  have h0' := Lib.hid h0
  clear c1 h0
  go_enter Tryz.func60, Tryz.ntmps60
  go_wp2_with fail
  refine (c1'.out _).mono ?_
  rintro e w1 ⟨rfl, hB1⟩
  obtain ⟨hc1, hf1⟩ := bcell hB1
  have hz1 : w.heap.size + 1 + 1 < w1.heap.size := by have := hB1.size; simp at this; omega
  have hB2 := hB.trans (hB1.mono hB.size)
  have q0 : w1.cell? ⟨w.heap.size + 1 + 1, 0, none⟩ = some (.int .i64 0) := by rw [hc1 _ _ (by simp)]; simp [go_sem]
  have q1 : w1.cell? ⟨w.heap.size + 1 + 1, 1, none⟩ = some (.int .i64 0) := by rw [hc1 _ _ (by simp)]; simp [go_sem]
  have q2 : w1.frozen? ⟨w.heap.size + 1 + 1, 0, none⟩ = false := by rw [hf1 _ _ (by simp)]; simp [go_sem]
  have q3 : w1.frozen? ⟨w.heap.size + 1 + 1, 1, none⟩ = false := by rw [hf1 _ _ (by simp)]; simp [go_sem]
  clear hB hB1 hc1 hf1
  go_wp2
  refine bodyPost_ret (v := .tuple #[ratV (r1, r2), .bool r3]) (by simp [results, Tryz.results60, go_sem, q0, q1, ratV]) rfl ⟨rfl, ?_⟩
  exact (hB2.setCell (p := ⟨w.heap.size + 1 + 1, 0, none⟩) (by show w.heap.size ≤ w.heap.size + 1 + 1; omega) _).setCell (p := ⟨w.heap.size + 1 + 1, 1, none⟩) (by show w.heap.size ≤ w.heap.size + 1 + 1; omega) _
theorem raMul_any (a b : Int × Int) (w : World) (ha : BdR a.1 a.2) (hb : BdR b.1 b.2) :
    Calls Tryz.prog 63 #[.agg #[.int .i64 a.1, .int .i64 a.2], .agg #[.int .i64 b.1, .int .i64 b.2]] w (Ret (.tuple #[ratV (mulR a b).1, .bool (mulR a b).2]) w) :=
  raMul_core a.1 a.2 b.1 b.2 w ha hb (Int.mul_ne_zero (by have := ha.1; omega) (by have := hb.1; omega)) trivial
theorem raDiv_any (a b : Int × Int) (w : World) (ha : BdR a.1 a.2) (hb : BdR b.1 b.2) (h0 : b.1 ≠ 0) :
    Calls Tryz.prog 60 #[.agg #[.int .i64 a.1, .int .i64 a.2], .agg #[.int .i64 b.1, .int .i64 b.2]] w (Ret (.tuple #[ratV (divR a b).1, .bool (divR a b).2]) w) := by
  have e : divR a b = mkR (a.1 * b.2) (a.2 * b.1) := if_neg h0
  rw [e]
  exact raDiv_core a.1 a.2 b.1 b.2 w ha hb (Int.mul_ne_zero (by have := ha.1; omega) h0) h0

set_option maxHeartbeats 1600000 in
theorem MultiplyRats_core (n d n' d' : Int) (w : World) (ga : goodR n d = true) (gb : goodR n' d' = true) (_hne : True) (h00 : d * d' ≠ 0) :
    Calls Tryz.prog 95 #[.agg #[.int .i64 n, .int .i64 d], .agg #[.int .i64 n', .int .i64 d']] w (Ret (.tuple #[ratV (mkR (n * n') (d * d')).1, .bool (mkR (n * n') (d * d')).2]) w) := by
  have ha : BdR n d := goodR_bd ga
  have hb : BdR n' d' := goodR_bd gb
  have p1 : -1000000000000000000 ≤ n * n' ∧ n * n' ≤ 1000000000000000000 := prodNN (by have := ha.2; omega) (by have := hb.1; have := hb.2; omega)
  have p3 : -1000000000000000000 ≤ d * d' ∧ d * d' ≤ 1000000000000000000 := prodNN (by have := ha.1; omega) (by have := hb.1; have := hb.2; omega)
  have c1 := fun w => lowest_any (n * n') (d * d') w (by omega) (by omega) h00
  obtain ⟨x, hx⟩ : ∃ x, n * n' = x := ⟨_, rfl⟩
  obtain ⟨z, hz⟩ : ∃ z, d * d' = z := ⟨_, rfl⟩
  rw [hx] at p1 c1 ⊢
  rw [hz] at p3 c1 h00 ⊢
  generalize mkR x z = R at *
  obtain ⟨⟨r1, r2⟩, r3⟩ := R
  obtain ⟨W, hW⟩ : ∃ W, ((((w.alloc (.cells #[.int .i64 n, .int .i64 d] 42)).alloc (.cells #[.int .i64 n', .int .i64 d'] 42)).alloc (.cells #[.int .i64 0, .int .i64 0] 42)).alloc (.cells #[.int .i64 n, .int .i64 d, .int .i64 n', .int .i64 d'] 42)) = W := ⟨_, rfl⟩
  have hB : Below w.heap.size w W := by rw [← hW]; exact ((((Below.refl _ _).alloc (Nat.le_refl _) _).alloc (by simp) _).alloc (by simp; omega) _).alloc (by simp; omega) _
  have hzz : w.heap.size + 1 + 1 + 1 < W.heap.size := by rw [← hW]; simp
  have hv : RatsV W (.slice (some ⟨w.heap.size + 1 + 1 + 1, 0, none⟩) 2 2) [(n, d), (n', d')] := by
    refine RatsV.mk (xs := [(n, d), (n', d')]) ⟨Nat.le_refl _, fun e => by cases e⟩ (by unfold maxLen; simp) (fun i hi => ⟨_, 0, rfl, ?_⟩)
    rw [← hW]
    have : i = 0 ∨ i = 1 := by simp at hi; omega
    rcases this with rfl | rfl
    · exact ⟨by simp [go_sem, nthR], by simp [go_sem, nthR]⟩
    · exact ⟨by simp [go_sem, nthR], by simp [go_sem, nthR]⟩
  have c0 := areRats_true _ _ _ hv (by simp) (fun i hi => by
    have : i = 0 ∨ i = 1 := by simp at hi; omega
    rcases this with rfl | rfl
    · exact ga
    · exact gb)
  have k0 : W.cell? ⟨w.heap.size, 0, none⟩ = some (.int .i64 n) := by rw [← hW]; simp [go_sem]
  have k1 : W.cell? ⟨w.heap.size, 1, none⟩ = some (.int .i64 d) := by rw [← hW]; simp [go_sem]
  have k2 : W.cell? ⟨w.heap.size + 1, 0, none⟩ = some (.int .i64 n') := by rw [← hW]; simp [go_sem]
  have k3 : W.cell? ⟨w.heap.size + 1, 1, none⟩ = some (.int .i64 d') := by rw [← hW]; simp [go_sem]
  have k4 : W.cell? ⟨w.heap.size + 1 + 1, 0, none⟩ = some (.int .i64 0) := by rw [← hW]; simp [go_sem]
  have k5 : W.cell? ⟨w.heap.size + 1 + 1, 1, none⟩ = some (.int .i64 0) := by rw [← hW]; simp [go_sem]
  have k6 : W.frozen? ⟨w.heap.size + 1 + 1, 0, none⟩ = false := by rw [← hW]; simp [go_sem]
  have k7 : W.frozen? ⟨w.heap.size + 1 + 1, 1, none⟩ = false := by rw [← hW]; simp [go_sem]
  skip
  clear ha hb ga gb hv
  have c0' := Lib.hid c0
  have c1' := Lib.hid c1
  have hW' := Lib.hid hW
  have h00' := Lib.hid h00
  clear c0 c1 hW h00
  go_enter Tryz.func95, Tryz.ntmps95
  go_wp2_with fail
  rw [hW'.out]
  go_wp2_with fail
  refine (c0'.out).mono ?_
  rintro e w1 ⟨rfl, hB1⟩
  obtain ⟨hc1, hf1⟩ := bcell hB1
  have hb1 := hB.trans (hB1.mono hB.size)
  have hz1 := Nat.lt_of_lt_of_le hzz hB1.size
  rw [← hc1 _ _ (by omega)] at k0 k1 k2 k3 k4 k5
  rw [← hf1 _ _ (by omega)] at k6 k7
  clear hB hzz hB1 hc1 hf1
  go_wp2_with fail
  refine (c1'.out _).mono ?_
  rintro e w2 ⟨rfl, hB2⟩
  obtain ⟨hc2, hf2⟩ := bcell hB2
  have hb2 := hb1.trans (hB2.mono hb1.size)
  have hz2 := Nat.lt_of_lt_of_le hz1 hB2.size
  rw [← hc2 _ _ (by omega)] at k4 k5
  rw [← hf2 _ _ (by omega)] at k6 k7
  clear k0 k1 k2 k3 hB2 hc2 hf2 hb1 hz1
  go_wp2
  refine bodyPost_ret (v := .tuple #[ratV (r1, r2), .bool r3]) (by simp [results, Tryz.results95, go_sem, k4, k5, ratV]) rfl ⟨rfl, ?_⟩
  exact (hb2.setCell (p := ⟨w.heap.size + 1 + 1, 0, none⟩) (by show w.heap.size ≤ w.heap.size + 1 + 1; omega) _).setCell (p := ⟨w.heap.size + 1 + 1, 1, none⟩) (by show w.heap.size ≤ w.heap.size + 1 + 1; omega) _
set_option maxHeartbeats 1600000 in
theorem DivideRats_core (n d n' d' : Int) (w : World) (ga : goodR n d = true) (gb : goodR n' d' = true) (hne : n' ≠ 0) (h00 : d * n' ≠ 0) :
    Calls Tryz.prog 93 #[.agg #[.int .i64 n, .int .i64 d], .agg #[.int .i64 n', .int .i64 d']] w (Ret (.tuple #[ratV (mkR (n * d') (d * n')).1, .bool (mkR (n * d') (d * n')).2]) w) := by
  have ha : BdR n d := goodR_bd ga
  have hb : BdR n' d' := goodR_bd gb
  have p1 : -1000000000000000000 ≤ n * d' ∧ n * d' ≤ 1000000000000000000 := prodNN (by have := ha.2; omega) (by have := hb.1; have := hb.2; omega)
  have p3 : -1000000000000000000 ≤ d * n' ∧ d * n' ≤ 1000000000000000000 := prodNN (by have := ha.1; omega) (by have := hb.1; have := hb.2; omega)
  have c1 := fun w => lowest_any (n * d') (d * n') w (by omega) (by omega) h00
  obtain ⟨x, hx⟩ : ∃ x, n * d' = x := ⟨_, rfl⟩
  obtain ⟨z, hz⟩ : ∃ z, d * n' = z := ⟨_, rfl⟩
  rw [hx] at p1 c1 ⊢
  rw [hz] at p3 c1 h00 ⊢
  generalize mkR x z = R at *
  obtain ⟨⟨r1, r2⟩, r3⟩ := R
  obtain ⟨W, hW⟩ : ∃ W, ((((w.alloc (.cells #[.int .i64 n, .int .i64 d] 42)).alloc (.cells #[.int .i64 n', .int .i64 d'] 42)).alloc (.cells #[.int .i64 0, .int .i64 0] 42)).alloc (.cells #[.int .i64 n, .int .i64 d, .int .i64 n', .int .i64 d'] 42)) = W := ⟨_, rfl⟩
  have hB : Below w.heap.size w W := by rw [← hW]; exact ((((Below.refl _ _).alloc (Nat.le_refl _) _).alloc (by simp) _).alloc (by simp; omega) _).alloc (by simp; omega) _
  have hzz : w.heap.size + 1 + 1 + 1 < W.heap.size := by rw [← hW]; simp
  have hv : RatsV W (.slice (some ⟨w.heap.size + 1 + 1 + 1, 0, none⟩) 2 2) [(n, d), (n', d')] := by
    refine RatsV.mk (xs := [(n, d), (n', d')]) ⟨Nat.le_refl _, fun e => by cases e⟩ (by unfold maxLen; simp) (fun i hi => ⟨_, 0, rfl, ?_⟩)
    rw [← hW]
    have : i = 0 ∨ i = 1 := by simp at hi; omega
    rcases this with rfl | rfl
    · exact ⟨by simp [go_sem, nthR], by simp [go_sem, nthR]⟩
    · exact ⟨by simp [go_sem, nthR], by simp [go_sem, nthR]⟩
  have c0 := areRats_true _ _ _ hv (by simp) (fun i hi => by
    have : i = 0 ∨ i = 1 := by simp at hi; omega
    rcases this with rfl | rfl
    · exact ga
    · exact gb)
  have k0 : W.cell? ⟨w.heap.size, 0, none⟩ = some (.int .i64 n) := by rw [← hW]; simp [go_sem]
  have k1 : W.cell? ⟨w.heap.size, 1, none⟩ = some (.int .i64 d) := by rw [← hW]; simp [go_sem]
  have k2 : W.cell? ⟨w.heap.size + 1, 0, none⟩ = some (.int .i64 n') := by rw [← hW]; simp [go_sem]
  have k3 : W.cell? ⟨w.heap.size + 1, 1, none⟩ = some (.int .i64 d') := by rw [← hW]; simp [go_sem]
  have k4 : W.cell? ⟨w.heap.size + 1 + 1, 0, none⟩ = some (.int .i64 0) := by rw [← hW]; simp [go_sem]
  have k5 : W.cell? ⟨w.heap.size + 1 + 1, 1, none⟩ = some (.int .i64 0) := by rw [← hW]; simp [go_sem]
  have k6 : W.frozen? ⟨w.heap.size + 1 + 1, 0, none⟩ = false := by rw [← hW]; simp [go_sem]
  have k7 : W.frozen? ⟨w.heap.size + 1 + 1, 1, none⟩ = false := by rw [← hW]; simp [go_sem]
  have e0 : (n' == 0) = false := by rw [beq_eq_false_iff_ne]; exact hne
  clear ha hb ga gb hv
  have c0' := Lib.hid c0
  have c1' := Lib.hid c1
  have hW' := Lib.hid hW
  have h00' := Lib.hid h00
  clear c0 c1 hW h00
  go_enter Tryz.func93, Tryz.ntmps93
  go_wp2_with fail
  rw [hW'.out]
  go_wp2_with fail
  refine (c0'.out).mono ?_
  rintro e w1 ⟨rfl, hB1⟩
  obtain ⟨hc1, hf1⟩ := bcell hB1
  have hb1 := hB.trans (hB1.mono hB.size)
  have hz1 := Nat.lt_of_lt_of_le hzz hB1.size
  rw [← hc1 _ _ (by omega)] at k0 k1 k2 k3 k4 k5
  rw [← hf1 _ _ (by omega)] at k6 k7
  clear hB hzz hB1 hc1 hf1
  go_wp2_with fail
  refine (c1'.out _).mono ?_
  rintro e w2 ⟨rfl, hB2⟩
  obtain ⟨hc2, hf2⟩ := bcell hB2
  have hb2 := hb1.trans (hB2.mono hb1.size)
  have hz2 := Nat.lt_of_lt_of_le hz1 hB2.size
  rw [← hc2 _ _ (by omega)] at k4 k5
  rw [← hf2 _ _ (by omega)] at k6 k7
  clear k0 k1 k2 k3 hB2 hc2 hf2 hb1 hz1
  go_wp2
  refine bodyPost_ret (v := .tuple #[ratV (r1, r2), .bool r3]) (by simp [results, Tryz.results93, go_sem, k4, k5, ratV]) rfl ⟨rfl, ?_⟩
  exact (hb2.setCell (p := ⟨w.heap.size + 1 + 1, 0, none⟩) (by show w.heap.size ≤ w.heap.size + 1 + 1; omega) _).setCell (p := ⟨w.heap.size + 1 + 1, 1, none⟩) (by show w.heap.size ≤ w.heap.size + 1 + 1; omega) _
theorem MultiplyRats_any (a b : Int × Int) (w : World) (ga : goodR a.1 a.2 = true) (gb : goodR b.1 b.2 = true) :
    Calls Tryz.prog 95 #[.agg #[.int .i64 a.1, .int .i64 a.2], .agg #[.int .i64 b.1, .int .i64 b.2]] w (Ret (.tuple #[ratV (mulR a b).1, .bool (mulR a b).2]) w) :=
  MultiplyRats_core a.1 a.2 b.1 b.2 w ga gb trivial (den_ne ga gb)
theorem DivideRats_any (a b : Int × Int) (w : World) (ga : goodR a.1 a.2 = true) (gb : goodR b.1 b.2 = true) (h0 : b.1 ≠ 0) :
    Calls Tryz.prog 93 #[.agg #[.int .i64 a.1, .int .i64 a.2], .agg #[.int .i64 b.1, .int .i64 b.2]] w (Ret (.tuple #[ratV (divR a b).1, .bool (divR a b).2]) w) := by
  have e : divR a b = mkR (a.1 * b.2) (a.2 * b.1) := if_neg h0
  rw [e]
  exact DivideRats_core a.1 a.2 b.1 b.2 w ga gb h0 (Int.mul_ne_zero (by have := good_den ga; omega) h0)

end Go.Proofs.YtjkgilenhoomoaaGreat

namespace Go.Proofs.YtjkgilenhoomoaaGreat
open Go.RowKit

set_option maxHeartbeats 1600000 in
theorem cadd_ok (g : Nat) (a b : Int × Int) (w : World) (ga : goodR a.1 a.2 = true) (gb : goodR b.1 b.2 = true) (hok : (addR a b).2 = true) :
    Calls Tryz.prog 67 #[.pointer (some ⟨g, 0, none⟩), .agg #[.int .i64 a.1, .int .i64 a.2], .agg #[.int .i64 b.1, .int .i64 b.2]] w (Ret (ratV (addR a b).1) w) := by
  have c1 := fun w => AddRats_any a b w ga gb
  generalize addR a b = R at *
  obtain ⟨n, d⟩ := a
  obtain ⟨n', d'⟩ := b
  show Calls _ _ #[_, .agg #[.int .i64 n, .int .i64 d], .agg #[.int .i64 n', .int .i64 d']] w _
  obtain ⟨⟨r1, r2⟩, r3⟩ := R
  simp only at c1 hok
  subst hok
  have c2 := fun w => keep_ok g r1 r2 w
  have hB : Below w.heap.size w (((w.alloc (.cells #[.int .i64 n, .int .i64 d] 42)).alloc (.cells #[.int .i64 n', .int .i64 d'] 42)).alloc (.cells #[.int .i64 0, .int .i64 0] 42)) :=
    (((Below.refl _ _).alloc (Nat.le_refl _) _).alloc (by simp) _).alloc (by simp; omega) _
  clear ga gb
  have c1' := Lib.hid c1
  have c2' := Lib.hid c2
  clear c1 c2
  go_enter Tryz.func67, Tryz.ntmps67
  go_wp2_with fail
  refine (c1'.out _).mono ?_
  rintro e w1 ⟨rfl, hB1⟩
  obtain ⟨hc1, hf1⟩ := bcell hB1
  have hz1 : w.heap.size + 1 + 1 < w1.heap.size := by have := hB1.size; simp at this; omega
  have hb1 := hB.trans (hB1.mono hB.size)
  have q0 : w1.cell? ⟨w.heap.size + 1 + 1, 0, none⟩ = some (.int .i64 0) := by rw [hc1 _ _ (by simp)]; simp [go_sem]
  have q1 : w1.cell? ⟨w.heap.size + 1 + 1, 1, none⟩ = some (.int .i64 0) := by rw [hc1 _ _ (by simp)]; simp [go_sem]
  have q2 : w1.frozen? ⟨w.heap.size + 1 + 1, 0, none⟩ = false := by rw [hf1 _ _ (by simp)]; simp [go_sem]
  have q3 : w1.frozen? ⟨w.heap.size + 1 + 1, 1, none⟩ = false := by rw [hf1 _ _ (by simp)]; simp [go_sem]
  clear hB hB1 hc1 hf1
  go_wp2_with fail
  refine (c2'.out _).mono ?_
  rintro e w2 ⟨rfl, hB2⟩
  obtain ⟨hc2, hf2⟩ := bcell hB2
  have hb2 := hb1.trans (hB2.mono hb1.size)
  rw [← hc2 _ _ hz1] at q0 q1
  rw [← hf2 _ _ hz1] at q2 q3
  have hz2 := Nat.lt_of_lt_of_le hz1 hB2.size
  clear hb1 hB2 hc2 hf2 hz1
  go_wp2
  refine bodyPost_ret (v := ratV (r1, r2)) (by simp [results, Tryz.results67, go_sem, q0, q1, ratV]) rfl ⟨rfl, ?_⟩
  exact (hb2.setCell (p := ⟨w.heap.size + 1 + 1, 0, none⟩) (by show w.heap.size ≤ w.heap.size + 1 + 1; omega) _).setCell (p := ⟨w.heap.size + 1 + 1, 1, none⟩) (by show w.heap.size ≤ w.heap.size + 1 + 1; omega) _

set_option maxHeartbeats 1600000 in
theorem cadd_bad (g : Nat) (bd : Bool) (a b : Int × Int) (w : World) (ga : goodR a.1 a.2 = true) (gb : goodR b.1 b.2 = true) (hok : (addR a b).2 = false) (hc : w.cell? ⟨g, 0, none⟩ = some (.bool bd)) (hf : w.frozen? ⟨g, 0, none⟩ = false) :
    Calls Tryz.prog 67 #[.pointer (some ⟨g, 0, none⟩), .agg #[.int .i64 a.1, .int .i64 a.2], .agg #[.int .i64 b.1, .int .i64 b.2]] w
      (fun e w' => e = .returned (ratV (0, 1)) ∧ Below w.heap.size (w.setCell ⟨g, 0, none⟩ (.bool true)) w') := by
  have hg := World.block_lt_of_cell? w _ hc
  simp only at hg
  have c1 := fun w => AddRats_any a b w ga gb
  generalize addR a b = R at *
  obtain ⟨n, d⟩ := a
  obtain ⟨n', d'⟩ := b
  show Calls _ _ #[_, .agg #[.int .i64 n, .int .i64 d], .agg #[.int .i64 n', .int .i64 d']] w _
  obtain ⟨⟨r1, r2⟩, r3⟩ := R
  simp only at c1 hok
  subst hok
  have c2 := fun w h1 h2 => keep_bad g bd r1 r2 w h1 h2
  have hB : Below w.heap.size w (((w.alloc (.cells #[.int .i64 n, .int .i64 d] 42)).alloc (.cells #[.int .i64 n', .int .i64 d'] 42)).alloc (.cells #[.int .i64 0, .int .i64 0] 42)) :=
    (((Below.refl _ _).alloc (Nat.le_refl _) _).alloc (by simp) _).alloc (by simp; omega) _
  clear ga gb
  have c1' := Lib.hid c1
  have c2' := Lib.hid c2
  clear c1 c2
  go_enter Tryz.func67, Tryz.ntmps67
  go_wp2_with fail
  refine (c1'.out _).mono ?_
  rintro e w1 ⟨rfl, hB1⟩
  obtain ⟨hc1, hf1⟩ := bcell hB1
  have hz1 : w.heap.size + 1 + 1 < w1.heap.size := by have := hB1.size; simp at this; omega
  have hb1 := hB.trans (hB1.mono hB.size)
  have q0 : w1.cell? ⟨w.heap.size + 1 + 1, 0, none⟩ = some (.int .i64 0) := by rw [hc1 _ _ (by simp)]; simp [go_sem]
  have q1 : w1.cell? ⟨w.heap.size + 1 + 1, 1, none⟩ = some (.int .i64 0) := by rw [hc1 _ _ (by simp)]; simp [go_sem]
  have q2 : w1.frozen? ⟨w.heap.size + 1 + 1, 0, none⟩ = false := by rw [hf1 _ _ (by simp)]; simp [go_sem]
  have q3 : w1.frozen? ⟨w.heap.size + 1 + 1, 1, none⟩ = false := by rw [hf1 _ _ (by simp)]; simp [go_sem]
  clear hB hB1 hc1 hf1
  have x0 := (hb1.cell (p := ⟨g, 0, none⟩) hg).trans hc
  have x1 := (hb1.frozen (p := ⟨g, 0, none⟩) hg).trans hf
  have hb1' := below_setCell_both hb1 (p := ⟨g, 0, none⟩) hg (.bool true)
  go_wp2_with fail
  refine (c2'.out _ x0 x1).mono ?_
  rintro e w2 ⟨rfl, hB2⟩
  obtain ⟨V, hV⟩ : ∃ V, w1.setCell ⟨g, 0, none⟩ (.bool true) = V := ⟨_, rfl⟩
  have hT : ∀ b o, b ≠ g → V.cell? ⟨b, o, none⟩ = w1.cell? ⟨b, o, none⟩ ∧ V.frozen? ⟨b, o, none⟩ = w1.frozen? ⟨b, o, none⟩ := by
    intro b o hb
    have : (V.heap[b]? : Option Obj) = w1.heap[b]? := by
      rw [← hV]; simp only [World.setCell]; rw [Array.getElem?_modify, if_neg (Ne.symm hb)]
    unfold World.cell? World.frozen?
    simp only [this]
    exact ⟨trivial, trivial⟩
  have hzV : w1.heap.size = V.heap.size := by rw [← hV]; simp [World.setCell]
  rw [hV] at hb1' hB2
  have hb2 := hb1'.trans (hB2.mono (by omega))
  rw [hzV] at hB2 hz1
  obtain ⟨hc2, hf2⟩ := bcell hB2
  replace q0 := (hc2 _ _ hz1).trans ((hT (w.heap.size + 1 + 1) 0 (by omega)).1.trans q0)
  replace q1 := (hc2 _ _ hz1).trans ((hT (w.heap.size + 1 + 1) 1 (by omega)).1.trans q1)
  replace q2 := (hf2 _ _ hz1).trans ((hT (w.heap.size + 1 + 1) 0 (by omega)).2.trans q2)
  replace q3 := (hf2 _ _ hz1).trans ((hT (w.heap.size + 1 + 1) 1 (by omega)).2.trans q3)
  have hz2 := Nat.lt_of_lt_of_le hz1 hB2.size
  clear hb1 hb1' hB2 hc2 hf2 hz1 hT hV x0 x1 hc hf hzV
  go_wp2
  refine bodyPost_ret (v := ratV (0, 1)) (by simp [results, Tryz.results67, go_sem, q0, q1, ratV]) rfl ⟨rfl, ?_⟩
  exact (hb2.setCell (p := ⟨w.heap.size + 1 + 1, 0, none⟩) (by show w.heap.size ≤ w.heap.size + 1 + 1; omega) _).setCell (p := ⟨w.heap.size + 1 + 1, 1, none⟩) (by show w.heap.size ≤ w.heap.size + 1 + 1; omega) _


theorem cadd_any (g : Nat) (bd : Bool) (a b : Int × Int) (w : World) (ga : goodR a.1 a.2 = true) (gb : goodR b.1 b.2 = true) (hc : CalcAt w g bd) :
    Calls Tryz.prog 67 #[.pointer (some ⟨g, 0, none⟩), .agg #[.int .i64 a.1, .int .i64 a.2], .agg #[.int .i64 b.1, .int .i64 b.2]] w (RetC g (bd || !(addR a b).2) (ratV (orZ (addR a b))) w) := by
  cases h : (addR a b).2
  · refine (cadd_bad g bd a b w ga gb h hc.1 hc.2).mono ?_
    intro e w' hr
    have := RetC.bad hc hr
    unfold orZ
    rw [h]
    cases bd <;> exact this
  · refine (cadd_ok g a b w ga gb h).mono ?_
    intro e w' hr
    have := RetC.ok hc hr
    unfold orZ
    rw [h]
    cases bd <;> exact this

set_option maxHeartbeats 1600000 in
theorem cmul_ok (g : Nat) (a b : Int × Int) (w : World) (ga : goodR a.1 a.2 = true) (gb : goodR b.1 b.2 = true) (hok : (mulR a b).2 = true) :
    Calls Tryz.prog 72 #[.pointer (some ⟨g, 0, none⟩), .agg #[.int .i64 a.1, .int .i64 a.2], .agg #[.int .i64 b.1, .int .i64 b.2]] w (Ret (ratV (mulR a b).1) w) := by
  have c1 := fun w => MultiplyRats_any a b w ga gb
  generalize mulR a b = R at *
  obtain ⟨n, d⟩ := a
  obtain ⟨n', d'⟩ := b
  show Calls _ _ #[_, .agg #[.int .i64 n, .int .i64 d], .agg #[.int .i64 n', .int .i64 d']] w _
  obtain ⟨⟨r1, r2⟩, r3⟩ := R
  simp only at c1 hok
  subst hok
  have c2 := fun w => keep_ok g r1 r2 w
  have hB : Below w.heap.size w (((w.alloc (.cells #[.int .i64 n, .int .i64 d] 42)).alloc (.cells #[.int .i64 n', .int .i64 d'] 42)).alloc (.cells #[.int .i64 0, .int .i64 0] 42)) :=
    (((Below.refl _ _).alloc (Nat.le_refl _) _).alloc (by simp) _).alloc (by simp; omega) _
  clear ga gb
  have c1' := Lib.hid c1
  have c2' := Lib.hid c2
  clear c1 c2
  go_enter Tryz.func72, Tryz.ntmps72
  go_wp2_with fail
  refine (c1'.out _).mono ?_
  rintro e w1 ⟨rfl, hB1⟩
  obtain ⟨hc1, hf1⟩ := bcell hB1
  have hz1 : w.heap.size + 1 + 1 < w1.heap.size := by have := hB1.size; simp at this; omega
  have hb1 := hB.trans (hB1.mono hB.size)
  have q0 : w1.cell? ⟨w.heap.size + 1 + 1, 0, none⟩ = some (.int .i64 0) := by rw [hc1 _ _ (by simp)]; simp [go_sem]
  have q1 : w1.cell? ⟨w.heap.size + 1 + 1, 1, none⟩ = some (.int .i64 0) := by rw [hc1 _ _ (by simp)]; simp [go_sem]
  have q2 : w1.frozen? ⟨w.heap.size + 1 + 1, 0, none⟩ = false := by rw [hf1 _ _ (by simp)]; simp [go_sem]
  have q3 : w1.frozen? ⟨w.heap.size + 1 + 1, 1, none⟩ = false := by rw [hf1 _ _ (by simp)]; simp [go_sem]
  clear hB hB1 hc1 hf1
  go_wp2_with fail
  refine (c2'.out _).mono ?_
  rintro e w2 ⟨rfl, hB2⟩
  obtain ⟨hc2, hf2⟩ := bcell hB2
  have hb2 := hb1.trans (hB2.mono hb1.size)
  rw [← hc2 _ _ hz1] at q0 q1
  rw [← hf2 _ _ hz1] at q2 q3
  have hz2 := Nat.lt_of_lt_of_le hz1 hB2.size
  clear hb1 hB2 hc2 hf2 hz1
  go_wp2
  refine bodyPost_ret (v := ratV (r1, r2)) (by simp [results, Tryz.results72, go_sem, q0, q1, ratV]) rfl ⟨rfl, ?_⟩
  exact (hb2.setCell (p := ⟨w.heap.size + 1 + 1, 0, none⟩) (by show w.heap.size ≤ w.heap.size + 1 + 1; omega) _).setCell (p := ⟨w.heap.size + 1 + 1, 1, none⟩) (by show w.heap.size ≤ w.heap.size + 1 + 1; omega) _

set_option maxHeartbeats 1600000 in
theorem cmul_bad (g : Nat) (bd : Bool) (a b : Int × Int) (w : World) (ga : goodR a.1 a.2 = true) (gb : goodR b.1 b.2 = true) (hok : (mulR a b).2 = false) (hc : w.cell? ⟨g, 0, none⟩ = some (.bool bd)) (hf : w.frozen? ⟨g, 0, none⟩ = false) :
    Calls Tryz.prog 72 #[.pointer (some ⟨g, 0, none⟩), .agg #[.int .i64 a.1, .int .i64 a.2], .agg #[.int .i64 b.1, .int .i64 b.2]] w
      (fun e w' => e = .returned (ratV (0, 1)) ∧ Below w.heap.size (w.setCell ⟨g, 0, none⟩ (.bool true)) w') := by
  have hg := World.block_lt_of_cell? w _ hc
  simp only at hg
  have c1 := fun w => MultiplyRats_any a b w ga gb
  generalize mulR a b = R at *
  obtain ⟨n, d⟩ := a
  obtain ⟨n', d'⟩ := b
  show Calls _ _ #[_, .agg #[.int .i64 n, .int .i64 d], .agg #[.int .i64 n', .int .i64 d']] w _
  obtain ⟨⟨r1, r2⟩, r3⟩ := R
  simp only at c1 hok
  subst hok
  have c2 := fun w h1 h2 => keep_bad g bd r1 r2 w h1 h2
  have hB : Below w.heap.size w (((w.alloc (.cells #[.int .i64 n, .int .i64 d] 42)).alloc (.cells #[.int .i64 n', .int .i64 d'] 42)).alloc (.cells #[.int .i64 0, .int .i64 0] 42)) :=
    (((Below.refl _ _).alloc (Nat.le_refl _) _).alloc (by simp) _).alloc (by simp; omega) _
  clear ga gb
  have c1' := Lib.hid c1
  have c2' := Lib.hid c2
  clear c1 c2
  go_enter Tryz.func72, Tryz.ntmps72
  go_wp2_with fail
  refine (c1'.out _).mono ?_
  rintro e w1 ⟨rfl, hB1⟩
  obtain ⟨hc1, hf1⟩ := bcell hB1
  have hz1 : w.heap.size + 1 + 1 < w1.heap.size := by have := hB1.size; simp at this; omega
  have hb1 := hB.trans (hB1.mono hB.size)
  have q0 : w1.cell? ⟨w.heap.size + 1 + 1, 0, none⟩ = some (.int .i64 0) := by rw [hc1 _ _ (by simp)]; simp [go_sem]
  have q1 : w1.cell? ⟨w.heap.size + 1 + 1, 1, none⟩ = some (.int .i64 0) := by rw [hc1 _ _ (by simp)]; simp [go_sem]
  have q2 : w1.frozen? ⟨w.heap.size + 1 + 1, 0, none⟩ = false := by rw [hf1 _ _ (by simp)]; simp [go_sem]
  have q3 : w1.frozen? ⟨w.heap.size + 1 + 1, 1, none⟩ = false := by rw [hf1 _ _ (by simp)]; simp [go_sem]
  clear hB hB1 hc1 hf1
  have x0 := (hb1.cell (p := ⟨g, 0, none⟩) hg).trans hc
  have x1 := (hb1.frozen (p := ⟨g, 0, none⟩) hg).trans hf
  have hb1' := below_setCell_both hb1 (p := ⟨g, 0, none⟩) hg (.bool true)
  go_wp2_with fail
  refine (c2'.out _ x0 x1).mono ?_
  rintro e w2 ⟨rfl, hB2⟩
  obtain ⟨V, hV⟩ : ∃ V, w1.setCell ⟨g, 0, none⟩ (.bool true) = V := ⟨_, rfl⟩
  have hT : ∀ b o, b ≠ g → V.cell? ⟨b, o, none⟩ = w1.cell? ⟨b, o, none⟩ ∧ V.frozen? ⟨b, o, none⟩ = w1.frozen? ⟨b, o, none⟩ := by
    intro b o hb
    have : (V.heap[b]? : Option Obj) = w1.heap[b]? := by
      rw [← hV]; simp only [World.setCell]; rw [Array.getElem?_modify, if_neg (Ne.symm hb)]
    unfold World.cell? World.frozen?
    simp only [this]
    exact ⟨trivial, trivial⟩
  have hzV : w1.heap.size = V.heap.size := by rw [← hV]; simp [World.setCell]
  rw [hV] at hb1' hB2
  have hb2 := hb1'.trans (hB2.mono (by omega))
  rw [hzV] at hB2 hz1
  obtain ⟨hc2, hf2⟩ := bcell hB2
  replace q0 := (hc2 _ _ hz1).trans ((hT (w.heap.size + 1 + 1) 0 (by omega)).1.trans q0)
  replace q1 := (hc2 _ _ hz1).trans ((hT (w.heap.size + 1 + 1) 1 (by omega)).1.trans q1)
  replace q2 := (hf2 _ _ hz1).trans ((hT (w.heap.size + 1 + 1) 0 (by omega)).2.trans q2)
  replace q3 := (hf2 _ _ hz1).trans ((hT (w.heap.size + 1 + 1) 1 (by omega)).2.trans q3)
  have hz2 := Nat.lt_of_lt_of_le hz1 hB2.size
  clear hb1 hb1' hB2 hc2 hf2 hz1 hT hV x0 x1 hc hf hzV
  go_wp2
  refine bodyPost_ret (v := ratV (0, 1)) (by simp [results, Tryz.results72, go_sem, q0, q1, ratV]) rfl ⟨rfl, ?_⟩
  exact (hb2.setCell (p := ⟨w.heap.size + 1 + 1, 0, none⟩) (by show w.heap.size ≤ w.heap.size + 1 + 1; omega) _).setCell (p := ⟨w.heap.size + 1 + 1, 1, none⟩) (by show w.heap.size ≤ w.heap.size + 1 + 1; omega) _


theorem cmul_any (g : Nat) (bd : Bool) (a b : Int × Int) (w : World) (ga : goodR a.1 a.2 = true) (gb : goodR b.1 b.2 = true) (hc : CalcAt w g bd) :
    Calls Tryz.prog 72 #[.pointer (some ⟨g, 0, none⟩), .agg #[.int .i64 a.1, .int .i64 a.2], .agg #[.int .i64 b.1, .int .i64 b.2]] w (RetC g (bd || !(mulR a b).2) (ratV (orZ (mulR a b))) w) := by
  cases h : (mulR a b).2
  · refine (cmul_bad g bd a b w ga gb h hc.1 hc.2).mono ?_
    intro e w' hr
    have := RetC.bad hc hr
    unfold orZ
    rw [h]
    cases bd <;> exact this
  · refine (cmul_ok g a b w ga gb h).mono ?_
    intro e w' hr
    have := RetC.ok hc hr
    unfold orZ
    rw [h]
    cases bd <;> exact this

set_option maxHeartbeats 1600000 in
theorem cdiv_ok (g : Nat) (a b : Int × Int) (w : World) (ga : goodR a.1 a.2 = true) (gb : goodR b.1 b.2 = true) (h0 : b.1 ≠ 0) (hok : (divR a b).2 = true) :
    Calls Tryz.prog 68 #[.pointer (some ⟨g, 0, none⟩), .agg #[.int .i64 a.1, .int .i64 a.2], .agg #[.int .i64 b.1, .int .i64 b.2]] w (Ret (ratV (divR a b).1) w) := by
  have c1 := fun w => DivideRats_any a b w ga gb h0
  generalize divR a b = R at *
  obtain ⟨n, d⟩ := a
  obtain ⟨n', d'⟩ := b
  show Calls _ _ #[_, .agg #[.int .i64 n, .int .i64 d], .agg #[.int .i64 n', .int .i64 d']] w _
  obtain ⟨⟨r1, r2⟩, r3⟩ := R
  simp only at c1 hok
  subst hok
  have c2 := fun w => keep_ok g r1 r2 w
  have hB : Below w.heap.size w (((w.alloc (.cells #[.int .i64 n, .int .i64 d] 42)).alloc (.cells #[.int .i64 n', .int .i64 d'] 42)).alloc (.cells #[.int .i64 0, .int .i64 0] 42)) :=
    (((Below.refl _ _).alloc (Nat.le_refl _) _).alloc (by simp) _).alloc (by simp; omega) _
  clear ga gb h0
  have c1' := Lib.hid c1
  have c2' := Lib.hid c2
  clear c1 c2
  go_enter Tryz.func68, Tryz.ntmps68
  go_wp2_with fail
  refine (c1'.out _).mono ?_
  rintro e w1 ⟨rfl, hB1⟩
  obtain ⟨hc1, hf1⟩ := bcell hB1
  have hz1 : w.heap.size + 1 + 1 < w1.heap.size := by have := hB1.size; simp at this; omega
  have hb1 := hB.trans (hB1.mono hB.size)
  have q0 : w1.cell? ⟨w.heap.size + 1 + 1, 0, none⟩ = some (.int .i64 0) := by rw [hc1 _ _ (by simp)]; simp [go_sem]
  have q1 : w1.cell? ⟨w.heap.size + 1 + 1, 1, none⟩ = some (.int .i64 0) := by rw [hc1 _ _ (by simp)]; simp [go_sem]
  have q2 : w1.frozen? ⟨w.heap.size + 1 + 1, 0, none⟩ = false := by rw [hf1 _ _ (by simp)]; simp [go_sem]
  have q3 : w1.frozen? ⟨w.heap.size + 1 + 1, 1, none⟩ = false := by rw [hf1 _ _ (by simp)]; simp [go_sem]
  clear hB hB1 hc1 hf1
  go_wp2_with fail
  refine (c2'.out _).mono ?_
  rintro e w2 ⟨rfl, hB2⟩
  obtain ⟨hc2, hf2⟩ := bcell hB2
  have hb2 := hb1.trans (hB2.mono hb1.size)
  rw [← hc2 _ _ hz1] at q0 q1
  rw [← hf2 _ _ hz1] at q2 q3
  have hz2 := Nat.lt_of_lt_of_le hz1 hB2.size
  clear hb1 hB2 hc2 hf2 hz1
  go_wp2
  refine bodyPost_ret (v := ratV (r1, r2)) (by simp [results, Tryz.results68, go_sem, q0, q1, ratV]) rfl ⟨rfl, ?_⟩
  exact (hb2.setCell (p := ⟨w.heap.size + 1 + 1, 0, none⟩) (by show w.heap.size ≤ w.heap.size + 1 + 1; omega) _).setCell (p := ⟨w.heap.size + 1 + 1, 1, none⟩) (by show w.heap.size ≤ w.heap.size + 1 + 1; omega) _

set_option maxHeartbeats 1600000 in
theorem cdiv_bad (g : Nat) (bd : Bool) (a b : Int × Int) (w : World) (ga : goodR a.1 a.2 = true) (gb : goodR b.1 b.2 = true) (h0 : b.1 ≠ 0) (hok : (divR a b).2 = false) (hc : w.cell? ⟨g, 0, none⟩ = some (.bool bd)) (hf : w.frozen? ⟨g, 0, none⟩ = false) :
    Calls Tryz.prog 68 #[.pointer (some ⟨g, 0, none⟩), .agg #[.int .i64 a.1, .int .i64 a.2], .agg #[.int .i64 b.1, .int .i64 b.2]] w
      (fun e w' => e = .returned (ratV (0, 1)) ∧ Below w.heap.size (w.setCell ⟨g, 0, none⟩ (.bool true)) w') := by
  have hg := World.block_lt_of_cell? w _ hc
  simp only at hg
  have c1 := fun w => DivideRats_any a b w ga gb h0
  generalize divR a b = R at *
  obtain ⟨n, d⟩ := a
  obtain ⟨n', d'⟩ := b
  show Calls _ _ #[_, .agg #[.int .i64 n, .int .i64 d], .agg #[.int .i64 n', .int .i64 d']] w _
  obtain ⟨⟨r1, r2⟩, r3⟩ := R
  simp only at c1 hok
  subst hok
  have c2 := fun w h1 h2 => keep_bad g bd r1 r2 w h1 h2
  have hB : Below w.heap.size w (((w.alloc (.cells #[.int .i64 n, .int .i64 d] 42)).alloc (.cells #[.int .i64 n', .int .i64 d'] 42)).alloc (.cells #[.int .i64 0, .int .i64 0] 42)) :=
    (((Below.refl _ _).alloc (Nat.le_refl _) _).alloc (by simp) _).alloc (by simp; omega) _
  clear ga gb h0
  have c1' := Lib.hid c1
  have c2' := Lib.hid c2
  clear c1 c2
  go_enter Tryz.func68, Tryz.ntmps68
  go_wp2_with fail
  refine (c1'.out _).mono ?_
  rintro e w1 ⟨rfl, hB1⟩
  obtain ⟨hc1, hf1⟩ := bcell hB1
  have hz1 : w.heap.size + 1 + 1 < w1.heap.size := by have := hB1.size; simp at this; omega
  have hb1 := hB.trans (hB1.mono hB.size)
  have q0 : w1.cell? ⟨w.heap.size + 1 + 1, 0, none⟩ = some (.int .i64 0) := by rw [hc1 _ _ (by simp)]; simp [go_sem]
  have q1 : w1.cell? ⟨w.heap.size + 1 + 1, 1, none⟩ = some (.int .i64 0) := by rw [hc1 _ _ (by simp)]; simp [go_sem]
  have q2 : w1.frozen? ⟨w.heap.size + 1 + 1, 0, none⟩ = false := by rw [hf1 _ _ (by simp)]; simp [go_sem]
  have q3 : w1.frozen? ⟨w.heap.size + 1 + 1, 1, none⟩ = false := by rw [hf1 _ _ (by simp)]; simp [go_sem]
  clear hB hB1 hc1 hf1
  have x0 := (hb1.cell (p := ⟨g, 0, none⟩) hg).trans hc
  have x1 := (hb1.frozen (p := ⟨g, 0, none⟩) hg).trans hf
  have hb1' := below_setCell_both hb1 (p := ⟨g, 0, none⟩) hg (.bool true)
  go_wp2_with fail
  refine (c2'.out _ x0 x1).mono ?_
  rintro e w2 ⟨rfl, hB2⟩
  obtain ⟨V, hV⟩ : ∃ V, w1.setCell ⟨g, 0, none⟩ (.bool true) = V := ⟨_, rfl⟩
  have hT : ∀ b o, b ≠ g → V.cell? ⟨b, o, none⟩ = w1.cell? ⟨b, o, none⟩ ∧ V.frozen? ⟨b, o, none⟩ = w1.frozen? ⟨b, o, none⟩ := by
    intro b o hb
    have : (V.heap[b]? : Option Obj) = w1.heap[b]? := by
      rw [← hV]; simp only [World.setCell]; rw [Array.getElem?_modify, if_neg (Ne.symm hb)]
    unfold World.cell? World.frozen?
    simp only [this]
    exact ⟨trivial, trivial⟩
  have hzV : w1.heap.size = V.heap.size := by rw [← hV]; simp [World.setCell]
  rw [hV] at hb1' hB2
  have hb2 := hb1'.trans (hB2.mono (by omega))
  rw [hzV] at hB2 hz1
  obtain ⟨hc2, hf2⟩ := bcell hB2
  replace q0 := (hc2 _ _ hz1).trans ((hT (w.heap.size + 1 + 1) 0 (by omega)).1.trans q0)
  replace q1 := (hc2 _ _ hz1).trans ((hT (w.heap.size + 1 + 1) 1 (by omega)).1.trans q1)
  replace q2 := (hf2 _ _ hz1).trans ((hT (w.heap.size + 1 + 1) 0 (by omega)).2.trans q2)
  replace q3 := (hf2 _ _ hz1).trans ((hT (w.heap.size + 1 + 1) 1 (by omega)).2.trans q3)
  have hz2 := Nat.lt_of_lt_of_le hz1 hB2.size
  clear hb1 hb1' hB2 hc2 hf2 hz1 hT hV x0 x1 hc hf hzV
  go_wp2
  refine bodyPost_ret (v := ratV (0, 1)) (by simp [results, Tryz.results68, go_sem, q0, q1, ratV]) rfl ⟨rfl, ?_⟩
  exact (hb2.setCell (p := ⟨w.heap.size + 1 + 1, 0, none⟩) (by show w.heap.size ≤ w.heap.size + 1 + 1; omega) _).setCell (p := ⟨w.heap.size + 1 + 1, 1, none⟩) (by show w.heap.size ≤ w.heap.size + 1 + 1; omega) _


theorem cdiv_any (g : Nat) (bd : Bool) (a b : Int × Int) (w : World) (ga : goodR a.1 a.2 = true) (gb : goodR b.1 b.2 = true) (h0 : b.1 ≠ 0) (hc : CalcAt w g bd) :
    Calls Tryz.prog 68 #[.pointer (some ⟨g, 0, none⟩), .agg #[.int .i64 a.1, .int .i64 a.2], .agg #[.int .i64 b.1, .int .i64 b.2]] w (RetC g (bd || !(divR a b).2) (ratV (orZ (divR a b))) w) := by
  cases h : (divR a b).2
  · refine (cdiv_bad g bd a b w ga gb h0 h hc.1 hc.2).mono ?_
    intro e w' hr
    have := RetC.bad hc hr
    unfold orZ
    rw [h]
    cases bd <;> exact this
  · refine (cdiv_ok g a b w ga gb h0 h).mono ?_
    intro e w' hr
    have := RetC.ok hc hr
    unfold orZ
    rw [h]
    cases bd <;> exact this

end Go.Proofs.YtjkgilenhoomoaaGreat

namespace Go.Proofs.YtjkgilenhoomoaaGreat
open Go.RowKit
set_option maxRecDepth 100000

/-- Below block E all but block g reads as before. -/
def SameBut (g E : Nat) (w w' : World) : Prop := ∀ a : Addr, a.block < E → a.block ≠ g → w'.cell? a = w.cell? a
theorem SameBut.grown {g E : Nat} {w w' : World} (h : w.grownBy w' (some g)) (hE : E ≤ w.heap.size) : SameBut g E w w' := fun a ha hg => h.cell_far a (by omega) (fun e => hg (Option.some.inj e))
theorem SameBut.set {g E : Nat} {w w' : World} (h : SameBut g E w w') {b o : Nat} (hb : E ≤ b) (u : Value) : SameBut g E w (w'.setCell ⟨b, o, none⟩ u) := fun a ha hg => by
  have hne : a.block ≠ b := by omega
  have h2 : (w'.setCell ⟨b, o, none⟩ u).cell? a = w'.cell? a := World.cell?_of_block (Below.heap_setCell _ _ _ _ (by simpa using hne))
  rw [h2]; exact h a ha hg
theorem SameBut.keep {g E : Nat} {w w' : World} (h : SameBut g E w w') {b o : Nat} {v : Value} (hc : w.cell? ⟨b, o, none⟩ = some v) (hb : b < E) (hg : b ≠ g) : w'.cell? ⟨b, o, none⟩ = some v := (h ⟨b, o, none⟩ hb hg).trans hc
theorem gdrew {w w' : World} {r : Option Nat} (h : w.grownBy w' r) : w.grownBy w'.drew r := ⟨h.os, h.tape, h.output, h.size, h.block⟩
theorem grow_set {w w' : World} {g : Nat} (h : w.grownBy w' (some g)) {b o : Nat} (hb : w.heap.size ≤ b) (u : Value) : w.grownBy (w'.setCell ⟨b, o, none⟩ u) (some g) :=
  h.andThen (grownBy_setCell_some w' b o u) (fun j hj => .inl (by have := Option.some.inj hj; omega))
theorem CalcAt.set {w : World} {g : Nat} {bd : Bool} (h : CalcAt w g bd) {b o : Nat} (hb : b ≠ g) (u : Value) : CalcAt (w.setCell ⟨b, o, none⟩ u) g bd := h.grown (grownBy_setCell_some w b o u) (fun e => hb (Option.some.inj e))
theorem gfrozen {w w' : World} {r : Option Nat} (h : w.grownBy w' r) {a : Addr} {v : Value} (hc : w.cell? a = some v) (hf : w.frozen? a = false) (hr : r ≠ some a.block) : w'.frozen? a = false :=
  (h.frozen_far a (World.block_lt_of_cell? _ _ hc) (fun e => hr e.symm)).trans hf
theorem gcell {w w' : World} {r : Option Nat} (h : w.grownBy w' r) {a : Addr} {v : Value} (hc : w.cell? a = some v) (hr : r ≠ some a.block) : w'.cell? a = some v :=
  (h.cell_far a (World.block_lt_of_cell? _ _ hc) (fun e => hr e.symm)).trans hc

set_option linter.unusedSimpArgs false in
set_option maxHeartbeats 4000000 in
theorem cslope_any (g : Nat) (bd : Bool) (p q : Quad) (w : World) (h1 : coordR p.1 = true) (h2 : coordR p.2 = true) (h3 : coordR q.1 = true) (h4 : coordR q.2 = true) (hl : ltB p.1.1 p.1.2 q.1.1 q.1.2 = true) (hc : CalcAt w g bd) :
    Calls Tryz.prog 55 #[.pointer (some ⟨g, 0, none⟩), quadV p, quadV q] w (RetC g bd (ratV (slopeR p q)) w) := by
  obtain ⟨o3, _, _, k1, k2, hne⟩ := slope_ok h1 h2 h3 h4 hl
  obtain ⟨o1, _⟩ := subR_coord h3 h1
  obtain ⟨o2, _⟩ := subR_coord h4 h2
  have c1 := fun w (hc : CalcAt w g bd) => csub_any g bd q.2 p.2 w (unitR_good (coordR_unit h4)) (unitR_good (coordR_unit h2)) hc
  have c2 := fun w (hc : CalcAt w g bd) => csub_any g bd q.1 p.1 w (unitR_good (coordR_unit h3)) (unitR_good (coordR_unit h1)) hc
  have c3 := fun w (hc : CalcAt w g bd) => cdiv_any g bd (subR q.2 p.2).1 (subR q.1 p.1).1 w k2 k1 hne hc
  rw [orZ_ok o2, o2] at c1
  rw [orZ_ok o1, o1] at c2
  rw [orZ_ok o3, o3] at c3
  simp only [Bool.not_true, Bool.or_false] at c1 c2 c3
  have hs : slopeR p q = (divR (subR q.2 p.2).1 (subR q.1 p.1).1).1 := rfl
  rw [hs]
  generalize (divR (subR q.2 p.2).1 (subR q.1 p.1).1).1 = S at *
  generalize (subR q.2 p.2).1 = D2 at *
  generalize (subR q.1 p.1).1 = D1 at *
  clear hs o1 o2 o3 k1 k2 hne h1 h2 h3 h4 hl
  obtain ⟨⟨a0, a1⟩, ⟨a2, a3⟩⟩ := p
  obtain ⟨⟨b0, b1⟩, ⟨b2, b3⟩⟩ := q
  obtain ⟨s1, s2⟩ := S
  obtain ⟨d1, d2⟩ := D1
  obtain ⟨d3, d4⟩ := D2
  show Calls _ _ #[_, .agg #[.int .i64 a0, .int .i64 a1, .int .i64 a2, .int .i64 a3], .agg #[.int .i64 b0, .int .i64 b1, .int .i64 b2, .int .i64 b3]] w (RetC g bd (ratV (s1, s2)) w)
  simp only at c1 c2 c3
  have hgl := hc.lt
  obtain ⟨w1, hw1⟩ : ∃ W, ((w.alloc (.cells #[.int .i64 a0, .int .i64 a1, .int .i64 a2, .int .i64 a3] 48)).alloc (.cells #[.int .i64 b0, .int .i64 b1, .int .i64 b2, .int .i64 b3] 48)).alloc (.cells #[.int .i64 0, .int .i64 0] 42) = W := ⟨_, rfl⟩
  have hB : Below w.heap.size w w1 := by rw [← hw1]; exact (((Below.refl _ _).alloc (Nat.le_refl _) _).alloc (by simp) _).alloc (by simp; omega) _
  have hz : w.heap.size + 3 = w1.heap.size := by rw [← hw1]; simp
  have x1 : w1.cell? ⟨w.heap.size, 0, none⟩ = some (.int .i64 a0) ∧ w1.cell? ⟨w.heap.size, 1, none⟩ = some (.int .i64 a1) ∧ w1.cell? ⟨w.heap.size, 2, none⟩ = some (.int .i64 a2) ∧ w1.cell? ⟨w.heap.size, 3, none⟩ = some (.int .i64 a3) := by rw [← hw1]; simp [go_sem]
  have x2 : w1.cell? ⟨w.heap.size + 1, 0, none⟩ = some (.int .i64 b0) ∧ w1.cell? ⟨w.heap.size + 1, 1, none⟩ = some (.int .i64 b1) ∧ w1.cell? ⟨w.heap.size + 1, 2, none⟩ = some (.int .i64 b2) ∧ w1.cell? ⟨w.heap.size + 1, 3, none⟩ = some (.int .i64 b3) := by rw [← hw1]; simp [go_sem]
  have y0 : w1.cell? ⟨w.heap.size + 1 + 1, 0, none⟩ = some (.int .i64 0) := by rw [← hw1]; simp [go_sem]
  have y1 : w1.cell? ⟨w.heap.size + 1 + 1, 1, none⟩ = some (.int .i64 0) := by rw [← hw1]; simp [go_sem]
  have y2 : w1.frozen? ⟨w.heap.size + 1 + 1, 0, none⟩ = false := by rw [← hw1]; simp [go_sem]
  have y3 : w1.frozen? ⟨w.heap.size + 1 + 1, 1, none⟩ = false := by rw [← hw1]; simp [go_sem]
  have at' : ∀ w', SameBut g (w.heap.size + 2) w1 w' → (w'.cell? ⟨w.heap.size, 0, none⟩ = some (.int .i64 a0) ∧ w'.cell? ⟨w.heap.size, 1, none⟩ = some (.int .i64 a1) ∧ w'.cell? ⟨w.heap.size, 2, none⟩ = some (.int .i64 a2) ∧ w'.cell? ⟨w.heap.size, 3, none⟩ = some (.int .i64 a3)) ∧ w'.cell? ⟨w.heap.size + 1, 0, none⟩ = some (.int .i64 b0) ∧ w'.cell? ⟨w.heap.size + 1, 1, none⟩ = some (.int .i64 b1) ∧ w'.cell? ⟨w.heap.size + 1, 2, none⟩ = some (.int .i64 b2) ∧ w'.cell? ⟨w.heap.size + 1, 3, none⟩ = some (.int .i64 b3) :=
    fun w' h => ⟨⟨h.keep x1.1 (by omega) (by omega), h.keep x1.2.1 (by omega) (by omega), h.keep x1.2.2.1 (by omega) (by omega), h.keep x1.2.2.2 (by omega) (by omega)⟩, h.keep x2.1 (by omega) (by omega), h.keep x2.2.1 (by omega) (by omega), h.keep x2.2.2.1 (by omega) (by omega), h.keep x2.2.2.2 (by omega) (by omega)⟩
  have hk1 : w1.grownBy w1.drew (some g) := gdrew (World.grownBy.refl _ _)
  have hcd : CalcAt w1.drew g bd := (hc.grown ⟨hB.os, hB.tape, hB.output, hB.size, fun k hk _ => hB.block k hk⟩ (r := none) (by simp)).drew
  have hg1 : w.grownBy w1 (some g) := ⟨hB.os, hB.tape, hB.output, hB.size, fun k hk _ => hB.block k hk⟩
  have hrg : (some g : Option Nat) ≠ some (w.heap.size + 1 + 1) := fun e => by have := Option.some.inj e; omega
  have hE : w.heap.size + 2 ≤ w1.heap.size := by omega
  clear x1 x2 hc
  have c1' := Lib.hid c1
  have c2' := Lib.hid c2
  have c3' := Lib.hid c3
  have hw1' := Lib.hid hw1
  have at'' := Lib.hid at'
  have hz' := Lib.hid hz
  clear c1 c2 c3 hw1 at' hz
  go_enter Tryz.func55, Tryz.ntmps55
  go_wp2_with fail
  rw [hw1'.out]
  refine wp_region_held_drew (S := (fun w' => (w'.cell? ⟨w.heap.size, 0, none⟩ = some (.int .i64 a0) ∧ w'.cell? ⟨w.heap.size, 1, none⟩ = some (.int .i64 a1) ∧ w'.cell? ⟨w.heap.size, 2, none⟩ = some (.int .i64 a2) ∧ w'.cell? ⟨w.heap.size, 3, none⟩ = some (.int .i64 a3)) ∧ w'.cell? ⟨w.heap.size + 1, 0, none⟩ = some (.int .i64 b0) ∧ w'.cell? ⟨w.heap.size + 1, 1, none⟩ = some (.int .i64 b1) ∧ w'.cell? ⟨w.heap.size + 1, 2, none⟩ = some (.int .i64 b2) ∧ w'.cell? ⟨w.heap.size + 1, 3, none⟩ = some (.int .i64 b3))) (by kernel_rfl) (by (try dsimp only); (first | exact at''.out _ (SameBut.grown hk1 hE) | exact at''.out _ (SameBut.grown hk2 hE) | exact at''.out _ (SameBut.grown hk3 hE) | exact at''.out _ (SameBut.grown hk4 hE) | exact at''.out _ hk5)) (fun hHeld => ?_)
  refine ly_q 0 (v := ?_) hHeld ?_
  try simp only [Act.put, lyA, lyB, lyC]
  refine ly_q 1 (v := ?_) hHeld ?_
  try simp only [Act.put, lyA, lyB, lyC]
  refine ly_q 2 (v := ?_) hHeld ?_
  try simp only [Act.put, lyA, lyB, lyC]
  refine ly_q 3 (v := ?_) hHeld ?_
  try simp only [Act.put, lyA, lyB, lyC]
  refine ly_q 4 (v := ?_) hHeld ?_
  try simp only [Act.put, lyA, lyB, lyC]
  refine ly_q 5 (v := ?_) hHeld ?_
  try simp only [Act.put, lyA, lyB, lyC]
  refine ly_q 7 (v := ?_) hHeld ?_
  try simp only [Act.put, lyA, lyB, lyC]
  refine ly_q 8 (v := ?_) hHeld ?_
  try simp only [Act.put, lyA, lyB, lyC]
  refine ly_q 9 (v := ?_) hHeld ?_
  try simp only [Act.put, lyA, lyB, lyC]
  refine ly_q 10 (v := ?_) hHeld ?_
  try simp only [Act.put, lyA, lyB, lyC]
  refine ly_q 11 (v := ?_) hHeld ?_
  try simp only [Act.put, lyA, lyB, lyC]
  refine ly_a 6 (fun KK hKK => ?_)
  go_simp
  refine (c1'.out _ hcd).mono ?_
  rintro e w2 ⟨rfl, hg2, hc2⟩
  have hk2 := hk1.trans hg2
  try dsimp only
  refine hKK.out _ _ (by (try dsimp only); (first | exact at''.out _ (SameBut.grown hk1 hE) | exact at''.out _ (SameBut.grown hk2 hE) | exact at''.out _ (SameBut.grown hk3 hE) | exact at''.out _ (SameBut.grown hk4 hE) | exact at''.out _ hk5)) (fun hHeld => ?_)
  clear hKK KK
  try simp only [Act.put, lyA, lyB, lyC]
  refine ly_a 12 (fun KK hKK => ?_)
  go_simp
  refine (c2'.out _ hc2).mono ?_
  rintro e w3 ⟨rfl, hg3, hc3⟩
  have hk3 := hk2.trans hg3
  try dsimp only
  refine hKK.out _ _ (by (try dsimp only); (first | exact at''.out _ (SameBut.grown hk1 hE) | exact at''.out _ (SameBut.grown hk2 hE) | exact at''.out _ (SameBut.grown hk3 hE) | exact at''.out _ (SameBut.grown hk4 hE) | exact at''.out _ hk5)) (fun hHeld => ?_)
  clear hKK KK
  try simp only [Act.put, lyA, lyB, lyC]
  refine ly_a 13 (fun KK hKK => ?_)
  go_simp
  refine (c3'.out _ hc3).mono ?_
  rintro e w4 ⟨rfl, hg4, hc4⟩
  have hk4 := hk3.trans hg4
  have q0 := gcell hk4 y0 hrg
  have q1 := gcell hk4 y1 hrg
  have q2 := gfrozen hk4 y0 y2 hrg
  have q3 := gfrozen hk4 y1 y3 hrg
  try dsimp only
  refine hKK.out _ _ (by (try dsimp only); (first | exact at''.out _ (SameBut.grown hk1 hE) | exact at''.out _ (SameBut.grown hk2 hE) | exact at''.out _ (SameBut.grown hk3 hE) | exact at''.out _ (SameBut.grown hk4 hE) | exact at''.out _ hk5)) (fun hHeld => ?_)
  clear hKK KK
  try simp only [Act.put, lyA, lyB, lyC]
  refine ly_a 14 (fun KK hKK => ?_)
  go_simp
  have hk5 := ((SameBut.grown hk4 hE).set (b := w.heap.size + 1 + 1) (o := 0) (Nat.le_refl _) (.int .i64 s1)).set (b := w.heap.size + 1 + 1) (o := 1) (Nat.le_refl _) (.int .i64 s2)
  try dsimp only
  refine hKK.out _ _ (by (try dsimp only); (first | exact at''.out _ (SameBut.grown hk1 hE) | exact at''.out _ (SameBut.grown hk2 hE) | exact at''.out _ (SameBut.grown hk3 hE) | exact at''.out _ (SameBut.grown hk4 hE) | exact at''.out _ hk5)) (fun hHeld => ?_)
  clear hKK KK
  try simp only [Act.put, lyA, lyB, lyC]
  refine wpAnyH_done (by kernel_rfl) ?_ _
  have hgf := grow_set (grow_set (hg1.trans hk4) (b := w.heap.size + 1 + 1) (o := 0) (by omega) (.int .i64 s1)) (b := w.heap.size + 1 + 1) (o := 1) (by omega) (.int .i64 s2)
  have hcf := (hc4.set (b := w.heap.size + 1 + 1) (o := 0) (by omega) (.int .i64 s1)).set (b := w.heap.size + 1 + 1) (o := 1) (by omega) (.int .i64 s2)
  clear hHeld hk5 hk4 hk3 hk2 hk1
  go_wp2
  exact bodyPost_ret (v := ratV (s1, s2)) (by simp [results, Tryz.results55, go_sem, q0, q1, ratV]) rfl ⟨rfl, hgf, hcf⟩

end Go.Proofs.YtjkgilenhoomoaaGreat

namespace Go.Proofs.YtjkgilenhoomoaaGreat
open Go.RowKit
set_option maxRecDepth 100000

set_option linter.unusedSimpArgs false in
set_option maxHeartbeats 4000000 in
theorem cline_any (g : Nat) (bd : Bool) (p : Quad) (s x : Int × Int) (w : World) (h1 : goodR p.1.1 p.1.2 = true) (h2 : goodR p.2.1 p.2.2 = true) (h3 : goodR s.1 s.2 = true) (h4 : goodR x.1 x.2 = true) (hc : CalcAt w g bd) :
    Calls Tryz.prog 54 #[.pointer (some ⟨g, 0, none⟩), quadV p, .agg #[.int .i64 s.1, .int .i64 s.2], .agg #[.int .i64 x.1, .int .i64 x.2]] w (RetC g (bd || !lineOk p s x) (ratV (lineZ p s x)) w) := by
  have c1 := fun w (hc : CalcAt w g bd) => csub_any g bd x p.1 w h4 h1 hc
  have c2 := fun w hc => cmul_any g (bd || !(subR x p.1).2) s (orZ (subR x p.1)) w h3 (subR_good _ _) hc
  have c3 := fun w hc => cadd_any g (bd || !(subR x p.1).2 || !(mulR s (orZ (subR x p.1))).2) p.2 (orZ (mulR s (orZ (subR x p.1)))) w h2 (mulR_good _ _) hc
  have hfl : (bd || !(subR x p.1).2 || !(mulR s (orZ (subR x p.1))).2 || !(addR p.2 (orZ (mulR s (orZ (subR x p.1))))).2) = (bd || !lineOk p s x) := by
    unfold lineOk
    simp only [Bool.not_and, Bool.or_assoc]
  have hval : orZ (addR p.2 (orZ (mulR s (orZ (subR x p.1))))) = lineZ p s x := rfl
  rw [hfl, hval] at c3
  generalize (bd || !lineOk p s x) = b3 at *
  generalize (bd || !(subR x p.1).2 || !(mulR s (orZ (subR x p.1))).2) = b2 at *
  generalize (bd || !(subR x p.1).2) = b1 at *
  generalize lineZ p s x = L at *
  generalize orZ (mulR s (orZ (subR x p.1))) = M at *
  generalize orZ (subR x p.1) = D at *
  clear hfl hval h1 h2 h3 h4
  obtain ⟨⟨a0, a1⟩, ⟨a2, a3⟩⟩ := p
  obtain ⟨s1, s2⟩ := s
  obtain ⟨x1, x2⟩ := x
  obtain ⟨l1, l2⟩ := L
  obtain ⟨m1, m2⟩ := M
  obtain ⟨d1, d2⟩ := D
  show Calls _ _ #[_, .agg #[.int .i64 a0, .int .i64 a1, .int .i64 a2, .int .i64 a3], .agg #[.int .i64 s1, .int .i64 s2], .agg #[.int .i64 x1, .int .i64 x2]] w _
  simp only at c1 c2 c3
  have hgl := hc.lt
  obtain ⟨w1, hw1⟩ : ∃ W, (((w.alloc (.cells #[.int .i64 a0, .int .i64 a1, .int .i64 a2, .int .i64 a3] 48)).alloc (.cells #[.int .i64 s1, .int .i64 s2] 42)).alloc (.cells #[.int .i64 x1, .int .i64 x2] 42)).alloc (.cells #[.int .i64 0, .int .i64 0] 42) = W := ⟨_, rfl⟩
  have hB : Below w.heap.size w w1 := by rw [← hw1]; exact ((((Below.refl _ _).alloc (Nat.le_refl _) _).alloc (by simp) _).alloc (by simp; omega) _).alloc (by simp; omega) _
  have hz : w.heap.size + 4 = w1.heap.size := by rw [← hw1]; simp
  have u1 : w1.cell? ⟨w.heap.size, 0, none⟩ = some (.int .i64 a0) ∧ w1.cell? ⟨w.heap.size, 1, none⟩ = some (.int .i64 a1) ∧ w1.cell? ⟨w.heap.size, 2, none⟩ = some (.int .i64 a2) ∧ w1.cell? ⟨w.heap.size, 3, none⟩ = some (.int .i64 a3) := by rw [← hw1]; simp [go_sem]
  have u2 : w1.cell? ⟨w.heap.size + 1, 0, none⟩ = some (.int .i64 s1) ∧ w1.cell? ⟨w.heap.size + 1, 1, none⟩ = some (.int .i64 s2) ∧ w1.cell? ⟨w.heap.size + 1 + 1, 0, none⟩ = some (.int .i64 x1) ∧ w1.cell? ⟨w.heap.size + 1 + 1, 1, none⟩ = some (.int .i64 x2) := by rw [← hw1]; simp [go_sem]
  have y0 : w1.cell? ⟨w.heap.size + 1 + 1 + 1, 0, none⟩ = some (.int .i64 0) := by rw [← hw1]; simp [go_sem]
  have y1 : w1.cell? ⟨w.heap.size + 1 + 1 + 1, 1, none⟩ = some (.int .i64 0) := by rw [← hw1]; simp [go_sem]
  have y2 : w1.frozen? ⟨w.heap.size + 1 + 1 + 1, 0, none⟩ = false := by rw [← hw1]; simp [go_sem]
  have y3 : w1.frozen? ⟨w.heap.size + 1 + 1 + 1, 1, none⟩ = false := by rw [← hw1]; simp [go_sem]
  have at' : ∀ w', SameBut g (w.heap.size + 3) w1 w' → (w'.cell? ⟨w.heap.size, 0, none⟩ = some (.int .i64 a0) ∧ w'.cell? ⟨w.heap.size, 1, none⟩ = some (.int .i64 a1) ∧ w'.cell? ⟨w.heap.size, 2, none⟩ = some (.int .i64 a2) ∧ w'.cell? ⟨w.heap.size, 3, none⟩ = some (.int .i64 a3)) ∧ w'.cell? ⟨w.heap.size + 1, 0, none⟩ = some (.int .i64 s1) ∧ w'.cell? ⟨w.heap.size + 1, 1, none⟩ = some (.int .i64 s2) ∧ w'.cell? ⟨w.heap.size + 1 + 1, 0, none⟩ = some (.int .i64 x1) ∧ w'.cell? ⟨w.heap.size + 1 + 1, 1, none⟩ = some (.int .i64 x2) :=
    fun w' h => ⟨⟨h.keep u1.1 (by omega) (by omega), h.keep u1.2.1 (by omega) (by omega), h.keep u1.2.2.1 (by omega) (by omega), h.keep u1.2.2.2 (by omega) (by omega)⟩, h.keep u2.1 (by omega) (by omega), h.keep u2.2.1 (by omega) (by omega), h.keep u2.2.2.1 (by omega) (by omega), h.keep u2.2.2.2 (by omega) (by omega)⟩
  have hk1 : w1.grownBy w1.drew (some g) := gdrew (World.grownBy.refl _ _)
  have hcd : CalcAt w1.drew g bd := (hc.grown ⟨hB.os, hB.tape, hB.output, hB.size, fun k hk _ => hB.block k hk⟩ (r := none) (by simp)).drew
  have hg1 : w.grownBy w1 (some g) := ⟨hB.os, hB.tape, hB.output, hB.size, fun k hk _ => hB.block k hk⟩
  have hrg : (some g : Option Nat) ≠ some (w.heap.size + 1 + 1 + 1) := fun e => by have := Option.some.inj e; omega
  have hE : w.heap.size + 3 ≤ w1.heap.size := by omega
  clear u1 u2 hc
  have c1' := Lib.hid c1
  have c2' := Lib.hid c2
  have c3' := Lib.hid c3
  have hw1' := Lib.hid hw1
  have at'' := Lib.hid at'
  have hz' := Lib.hid hz
  clear c1 c2 c3 hw1 at' hz
  go_enter Tryz.func54, Tryz.ntmps54
  go_wp2_with fail
  rw [hw1'.out]
  refine wp_region_held_drew (S := (fun w' => (w'.cell? ⟨w.heap.size, 0, none⟩ = some (.int .i64 a0) ∧ w'.cell? ⟨w.heap.size, 1, none⟩ = some (.int .i64 a1) ∧ w'.cell? ⟨w.heap.size, 2, none⟩ = some (.int .i64 a2) ∧ w'.cell? ⟨w.heap.size, 3, none⟩ = some (.int .i64 a3)) ∧ w'.cell? ⟨w.heap.size + 1, 0, none⟩ = some (.int .i64 s1) ∧ w'.cell? ⟨w.heap.size + 1, 1, none⟩ = some (.int .i64 s2) ∧ w'.cell? ⟨w.heap.size + 1 + 1, 0, none⟩ = some (.int .i64 x1) ∧ w'.cell? ⟨w.heap.size + 1 + 1, 1, none⟩ = some (.int .i64 x2))) (by kernel_rfl) (by (try dsimp only); (first | exact at''.out _ (SameBut.grown hk1 hE) | exact at''.out _ (SameBut.grown hk2 hE) | exact at''.out _ (SameBut.grown hk3 hE) | exact at''.out _ (SameBut.grown hk4 hE) | exact at''.out _ hk5)) (fun hHeld => ?_)
  refine ly_q 0 (v := ?_) hHeld ?_
  try simp only [Act.put, lyA, lyB, lyC]
  refine ly_q 1 (v := ?_) hHeld ?_
  try simp only [Act.put, lyA, lyB, lyC]
  refine ly_q 2 (v := ?_) hHeld ?_
  try simp only [Act.put, lyA, lyB, lyC]
  refine ly_q 3 (v := ?_) hHeld ?_
  try simp only [Act.put, lyA, lyB, lyC]
  refine ly_q 4 (v := ?_) hHeld ?_
  try simp only [Act.put, lyA, lyB, lyC]
  refine ly_q 5 (v := ?_) hHeld ?_
  try simp only [Act.put, lyA, lyB, lyC]
  refine ly_q 6 (v := ?_) hHeld ?_
  try simp only [Act.put, lyA, lyB, lyC]
  refine ly_q 7 (v := ?_) hHeld ?_
  try simp only [Act.put, lyA, lyB, lyC]
  refine ly_q 8 (v := ?_) hHeld ?_
  try simp only [Act.put, lyA, lyB, lyC]
  refine ly_a 9 (fun KK hKK => ?_)
  go_simp
  refine (c1'.out _ hcd).mono ?_
  rintro e w2 ⟨rfl, hg2, hc2⟩
  have hk2 := hk1.trans hg2
  try dsimp only
  refine hKK.out _ _ (by (try dsimp only); (first | exact at''.out _ (SameBut.grown hk1 hE) | exact at''.out _ (SameBut.grown hk2 hE) | exact at''.out _ (SameBut.grown hk3 hE) | exact at''.out _ (SameBut.grown hk4 hE) | exact at''.out _ hk5)) (fun hHeld => ?_)
  clear hKK KK
  try simp only [Act.put, lyA, lyB, lyC]
  refine ly_a 10 (fun KK hKK => ?_)
  go_simp
  refine (c2'.out _ hc2).mono ?_
  rintro e w3 ⟨rfl, hg3, hc3⟩
  have hk3 := hk2.trans hg3
  try dsimp only
  refine hKK.out _ _ (by (try dsimp only); (first | exact at''.out _ (SameBut.grown hk1 hE) | exact at''.out _ (SameBut.grown hk2 hE) | exact at''.out _ (SameBut.grown hk3 hE) | exact at''.out _ (SameBut.grown hk4 hE) | exact at''.out _ hk5)) (fun hHeld => ?_)
  clear hKK KK
  try simp only [Act.put, lyA, lyB, lyC]
  refine ly_a 11 (fun KK hKK => ?_)
  go_simp
  refine (c3'.out _ hc3).mono ?_
  rintro e w4 ⟨rfl, hg4, hc4⟩
  have hk4 := hk3.trans hg4
  have q0 := gcell hk4 y0 hrg
  have q1 := gcell hk4 y1 hrg
  have q2 := gfrozen hk4 y0 y2 hrg
  have q3 := gfrozen hk4 y1 y3 hrg
  try dsimp only
  refine hKK.out _ _ (by (try dsimp only); (first | exact at''.out _ (SameBut.grown hk1 hE) | exact at''.out _ (SameBut.grown hk2 hE) | exact at''.out _ (SameBut.grown hk3 hE) | exact at''.out _ (SameBut.grown hk4 hE) | exact at''.out _ hk5)) (fun hHeld => ?_)
  clear hKK KK
  try simp only [Act.put, lyA, lyB, lyC]
  refine ly_a 12 (fun KK hKK => ?_)
  go_simp
  have hk5 := ((SameBut.grown hk4 hE).set (b := w.heap.size + 1 + 1 + 1) (o := 0) (Nat.le_refl _) (.int .i64 l1)).set (b := w.heap.size + 1 + 1 + 1) (o := 1) (Nat.le_refl _) (.int .i64 l2)
  try dsimp only
  refine hKK.out _ _ (by (try dsimp only); (first | exact at''.out _ (SameBut.grown hk1 hE) | exact at''.out _ (SameBut.grown hk2 hE) | exact at''.out _ (SameBut.grown hk3 hE) | exact at''.out _ (SameBut.grown hk4 hE) | exact at''.out _ hk5)) (fun hHeld => ?_)
  clear hKK KK
  try simp only [Act.put, lyA, lyB, lyC]
  refine wpAnyH_done (by kernel_rfl) ?_ _
  have hgf := grow_set (grow_set (hg1.trans hk4) (b := w.heap.size + 1 + 1 + 1) (o := 0) (by omega) (.int .i64 l1)) (b := w.heap.size + 1 + 1 + 1) (o := 1) (by omega) (.int .i64 l2)
  have hcf := (hc4.set (b := w.heap.size + 1 + 1 + 1) (o := 0) (by omega) (.int .i64 l1)).set (b := w.heap.size + 1 + 1 + 1) (o := 1) (by omega) (.int .i64 l2)
  clear hHeld hk5 hk4 hk3 hk2 hk1
  go_wp2
  exact bodyPost_ret (v := ratV (l1, l2)) (by simp [results, Tryz.results54, go_sem, q0, q1, ratV]) rfl ⟨rfl, hgf, hcf⟩

/-- The program's way to the piece. -/
theorem piece_idx {f : List Quad} (hf : MapP f) {x : Int × Int} (hx : unitR x.1 x.2 = true) : ∃ k : Nat, idx4 (fun q => !(ltB q.1.1 q.1.2 x.1 x.2)) f = k ∧ k ≤ f.length ∧ pieceN f x = k - 1 := by
  obtain ⟨h1, h2, h3⟩ := pieceN_spec hf.len.1 x
  obtain ⟨p1, p2, p3⟩ := piece_in hf hx
  have hg := unitR_good hx
  have hgi := fun i (hi : i < f.length) => unitR_good (coordR_unit (hf.coord i hi).1)
  generalize pieceN f x = i at *
  have hno : ltB (nth4 f (i + 1)).1.1 (nth4 f (i + 1)).1.2 x.1 x.2 = false := (ltB_qvf (hgi _ p1) hg).2 p3
  cases h0 : ltB (nth4 f 0).1.1 (nth4 f 0).1.2 x.1 x.2
  · refine ⟨0, idx4_hit (by omega) (fun j hj => absurd hj (Nat.not_lt_zero j)) (by simp [h0]), Nat.zero_le _, ?_⟩
    apply Decidable.byContradiction
    intro q
    have a1 := (ltB_qv (hgi 1 (by omega)) hg).1 (h2 1 (by omega) (by omega))
    have a2 := (ltB_qv (hgi 0 (by omega)) (hgi 1 (by omega))).1 (hf.rise 0 (by omega))
    have a3 := (ltB_qvf (hgi 0 (by omega)) hg).1 h0
    grind
  · refine ⟨i + 1, idx4_hit p1 (fun j hj => ?_) (by simp [hno]), by omega, by omega⟩
    by_cases e : j = 0
    · subst e; simp [h0]
    · simp [h2 j (by omega) (by omega)]

theorem ret_int {a b : Int} (h : a = b) : Ending.returned (.int .i64 a) = Ending.returned (.int .i64 b) := by rw [h]
set_option maxHeartbeats 400000 in
theorem pieceAt1_any (q : Quad) (x : Int × Int) (b : Nat) (w : World) (hq : goodR q.1.1 q.1.2 = true) (hx : goodR x.1 x.2 = true) (h0 : w.cell? ⟨b, 0, none⟩ = some (.int .i64 x.1)) (h1 : w.cell? ⟨b, 1, none⟩ = some (.int .i64 x.2)) :
    Calls Tryz.prog 71 #[quadV q, .pointer (some ⟨b, 0, none⟩)] w (Ret (.bool (!(ltB q.1.1 q.1.2 x.1 x.2))) w) := by
  have c1 := fun w => less_any q.1.1 q.1.2 x.1 x.2 w (good_bd hq) (good_bd hx)
  generalize ltB q.1.1 q.1.2 x.1 x.2 = L at *
  obtain ⟨⟨q0, q1⟩, ⟨q2, q3⟩⟩ := q
  obtain ⟨x0, x1⟩ := x
  show Calls _ _ #[.agg #[.int .i64 q0, .int .i64 q1, .int .i64 q2, .int .i64 q3], _] w _
  simp only at c1 h0 h1
  have hB : Below w.heap.size w (w.alloc (.cells #[.int .i64 q0, .int .i64 q1, .int .i64 q2, .int .i64 q3] 48)) := (Below.refl _ _).alloc (Nat.le_refl _) _
  have l0 := World.block_lt_of_cell? _ _ h0
  simp only at l0
  clear hq hx
  have y0 := bkeep hB h0
  have y1 := bkeep hB h1
  have c1' := Lib.hid c1
  clear c1
  go_enter Tryz.func71, Tryz.ntmps71
  go_wp2_with fail
  refine (c1'.out _).mono ?_
  rintro e w1 ⟨rfl, hB1⟩
  have hb1 := hB.trans (hB1.mono hB.size)
  go_wp2
  go_ret
  exact ⟨rfl, hb1⟩
theorem pieceAt_any (v : Value) (f : List Quad) (x : Int × Int) (w : World) (hv : QuadV w v f) (hf : MapP f) (hx : unitR x.1 x.2 = true) :
    Calls Tryz.prog 53 #[v, .agg #[.int .i64 x.1, .int .i64 x.2]] w (Ret (.int .i64 (pieceN f x : Nat)) w) := by
  have hl := hf.len
  obtain ⟨k, hk, hk2, hk3⟩ := piece_idx hf hx
  obtain ⟨w0, hw0⟩ : ∃ W, w.alloc (.cells #[.int .i64 x.1, .int .i64 x.2] 42) = W := ⟨_, rfl⟩
  have hB : Below w.heap.size w w0 := by rw [← hw0]; exact (Below.refl _ _).alloc (Nat.le_refl _) _
  have y0 : w0.cell? ⟨w.heap.size, 0, none⟩ = some (.int .i64 x.1) := by rw [← hw0]; simp [go_sem]
  have y1 : w0.cell? ⟨w.heap.size, 1, none⟩ = some (.int .i64 x.2) := by rw [← hw0]; simp [go_sem]
  have ci := indexFuncP_any v f 71 #[.pointer (some ⟨w.heap.size, 0, none⟩)] (fun q => !(ltB q.1.1 q.1.2 x.1 x.2)) w0 (enters_of Tryz.func71 (by kernel_rfl) rfl) (fun i w' hi hB' => pieceAt1_any (nth4 f i) x w.heap.size w' (unitR_good (coordR_unit (hf.coord i hi).1)) (unitR_good hx) (bkeep hB' y0) (bkeep hB' y1)) (hv.below hB) (by omega)
  rw [hk] at ci
  rw [hk3]
  clear hk hk3 hv hf hx y0 y1
  obtain ⟨x0, x1⟩ := x
  show Calls _ _ #[v, .agg #[.int .i64 x0, .int .i64 x1]] w _
  simp only at hw0
  have ci' := Lib.hid ci
  have hw0' := Lib.hid hw0
  clear ci hw0
  go_enter Tryz.func53, Tryz.ntmps53
  go_wp2_with fail
  rw [hw0'.out]
  refine ci'.out.mono ?_
  rintro e w1 ⟨rfl, hB1⟩
  have hb1 := hB.trans (hB1.mono hB.size)
  go_wp2
  all_goals
    go_ret
    exact ⟨ret_int (by omega), hb1⟩

end Go.Proofs.YtjkgilenhoomoaaGreat

namespace Go.Proofs.YtjkgilenhoomoaaGreat
open Go.RowKit
set_option maxRecDepth 100000

/-- A list that came in ahead of the calculator stays. -/
theorem quad_stays {w0 w w' : World} {v : Value} {f : List Quad} {g : Nat} (_hv : QuadV w0 v f) (hb : Below w0.heap.size w0 w) (hg : w0.heap.size ≤ g) (h : w.grownBy w' (some g)) : Below w0.heap.size w0 w' :=
  hb.grown h hb.size (fun j hj => by have := Option.some.inj hj; omega)

set_option linter.unusedSimpArgs false in
set_option maxHeartbeats 4000000 in
theorem cvalue_any (g : Nat) (bd : Bool) (v : Value) (f : List Quad) (x : Int × Int) (w0 w : World) (hv : QuadV w0 v f) (hb0 : Below w0.heap.size w0 w) (hg0 : w0.heap.size ≤ g) (hf : MapP f) (hx : unitR x.1 x.2 = true) (hc : CalcAt w g bd) :
    Calls Tryz.prog 37 #[.pointer (some ⟨g, 0, none⟩), v, .agg #[.int .i64 x.1, .int .i64 x.2]] w (RetC g (bd || !atOk f x) (ratV (atZ f x)) w) := by
  obtain ⟨pi1, pi2, pi3⟩ := piece_in hf hx
  have hl := hf.len
  have cp := fun w' (h : Below w0.heap.size w0 w') => pieceAt_any v f x w' (hv.below h) hf hx
  have hi := hf.coord (pieceN f x) (by omega)
  have hj := hf.coord (pieceN f x + 1) pi1
  have hr := hf.rise (pieceN f x) pi1
  have cs := fun w' hc => cslope_any g bd (nth4 f (pieceN f x)) (nth4 f (pieceN f x + 1)) w' hi.1 hi.2 hj.1 hj.2 hr hc
  have cl := fun w' hc => cline_any g bd (nth4 f (pieceN f x)) (slopeR (nth4 f (pieceN f x)) (nth4 f (pieceN f x + 1))) x w' (unitR_good (coordR_unit hi.1)) (unitR_good (coordR_unit hi.2)) (slope_ok hi.1 hi.2 hj.1 hj.2 hr).2.1 (unitR_good hx) hc
  change ∀ w' hc, Calls _ _ _ w' (RetC g (bd || !atOk f x) (ratV (atZ f x)) w') at cl
  have hgl := hc.lt
  have hw0 := hb0.size
  obtain ⟨ao, cap, rfl, _, _, H⟩ := hv.form
  obtain ⟨b, off, e, p0, p1, p2, p3⟩ := H (pieceN f x) (by omega)
  cases e
  obtain ⟨_, _, e, q0, q1, q2, q3⟩ := H (pieceN f x + 1) pi1
  cases e
  have lb := World.block_lt_of_cell? _ _ p0
  simp only at lb
  generalize atOk f x = OK at *
  generalize atZ f x = Z at *
  generalize slopeR (nth4 f (pieceN f x)) (nth4 f (pieceN f x + 1)) = S at *
  clear H hi hj hr pi2 pi3
  obtain ⟨i, hi⟩ : ∃ i, pieceN f x = i := ⟨_, rfl⟩
  obtain ⟨j, hj⟩ : ∃ j, i + 1 = j := ⟨_, rfl⟩
  rw [hi] at p0 p1 p2 p3 q0 q1 q2 q3 pi1 cp cs cl
  rw [hj] at q0 q1 q2 q3 pi1 cs
  obtain ⟨n, hn⟩ : ∃ n, f.length = n := ⟨_, rfl⟩
  rw [hn] at pi1 cp hv hl ⊢
  obtain ⟨P, hP⟩ : ∃ P, nth4 f i = P := ⟨_, rfl⟩
  obtain ⟨Q, hQ⟩ : ∃ Q, nth4 f j = Q := ⟨_, rfl⟩
  rw [hP] at p0 p1 p2 p3 cs cl
  rw [hQ] at q0 q1 q2 q3 cs
  obtain ⟨⟨a0, a1⟩, ⟨a2, a3⟩⟩ := P
  obtain ⟨⟨b0, b1⟩, ⟨b2, b3⟩⟩ := Q
  obtain ⟨x0, x1⟩ := x
  obtain ⟨z0, z1⟩ := Z
  obtain ⟨s0, s1⟩ := S
  simp only at p0 p1 p2 p3 q0 q1 q2 q3 cp cs cl
  show Calls _ _ #[_, _, .agg #[.int .i64 x0, .int .i64 x1]] w _
  obtain ⟨w1, hw1⟩ : ∃ W, (w.alloc (.cells #[.int .i64 x0, .int .i64 x1] 42)).alloc (.cells #[.int .i64 0, .int .i64 0] 42) = W := ⟨_, rfl⟩
  have hB : Below w.heap.size w w1 := by rw [← hw1]; exact ((Below.refl _ _).alloc (Nat.le_refl _) _).alloc (by simp) _
  have hz : w.heap.size + 2 = w1.heap.size := by rw [← hw1]; simp
  have u0 : w1.cell? ⟨w.heap.size, 0, none⟩ = some (.int .i64 x0) := by rw [← hw1]; simp [go_sem]
  have u1 : w1.cell? ⟨w.heap.size, 1, none⟩ = some (.int .i64 x1) := by rw [← hw1]; simp [go_sem]
  have y0 : w1.cell? ⟨w.heap.size + 1, 0, none⟩ = some (.int .i64 0) := by rw [← hw1]; simp [go_sem]
  have y1 : w1.cell? ⟨w.heap.size + 1, 1, none⟩ = some (.int .i64 0) := by rw [← hw1]; simp [go_sem]
  have y2 : w1.frozen? ⟨w.heap.size + 1, 0, none⟩ = false := by rw [← hw1]; simp [go_sem]
  have y3 : w1.frozen? ⟨w.heap.size + 1, 1, none⟩ = false := by rw [← hw1]; simp [go_sem]
  have hb1 := hb0.trans (hB.mono hw0)
  replace p0 := bkeep hb1 p0
  replace p1 := bkeep hb1 p1
  replace p2 := bkeep hb1 p2
  replace p3 := bkeep hb1 p3
  replace q0 := bkeep hb1 q0
  replace q1 := bkeep hb1 q1
  replace q2 := bkeep hb1 q2
  replace q3 := bkeep hb1 q3
  have hc1 : CalcAt w1 g bd := hc.below hB
  have hg1 : w.grownBy w1 (some g) := bgrow hB _
  have cp1 := cp w1 hb1
  have hwi : IntKind.i64.wrap ((i : Int) + 1) = (j : Int) := by rw [IntKind.wrap_i64]; omega
  have f1 : (0 : Int) ≤ (j : Int) := by omega
  have f2 : (j : Int) < (n : Int) := by omega
  have f3 : (0 : Int) ≤ (i : Int) := by omega
  have f4 : (i : Int) < (n : Int) := by omega
  have f5 : i < n := by omega
  have hrg : (some g : Option Nat) ≠ some (w.heap.size + 1) := fun e => by have := Option.some.inj e; omega
  have hE : w.heap.size + 1 ≤ w1.heap.size := by omega
  have at' : ∀ w', SameBut g (w.heap.size + 1) w1 w' → ((w'.cell? ⟨b, off + i * 4, none⟩ = some (.int .i64 a0) ∧ w'.cell? ⟨b, off + i * 4 + 1, none⟩ = some (.int .i64 a1) ∧ w'.cell? ⟨b, off + i * 4 + 2, none⟩ = some (.int .i64 a2) ∧ w'.cell? ⟨b, off + i * 4 + 3, none⟩ = some (.int .i64 a3)) ∧ w'.cell? ⟨b, off + j * 4, none⟩ = some (.int .i64 b0) ∧ w'.cell? ⟨b, off + j * 4 + 1, none⟩ = some (.int .i64 b1) ∧ w'.cell? ⟨b, off + j * 4 + 2, none⟩ = some (.int .i64 b2) ∧ w'.cell? ⟨b, off + j * 4 + 3, none⟩ = some (.int .i64 b3)) ∧ w'.cell? ⟨w.heap.size, 0, none⟩ = some (.int .i64 x0) ∧ w'.cell? ⟨w.heap.size, 1, none⟩ = some (.int .i64 x1) :=
    fun w' h => ⟨⟨⟨h.keep p0 (by omega) (by omega), h.keep p1 (by omega) (by omega), h.keep p2 (by omega) (by omega), h.keep p3 (by omega) (by omega)⟩, h.keep q0 (by omega) (by omega), h.keep q1 (by omega) (by omega), h.keep q2 (by omega) (by omega), h.keep q3 (by omega) (by omega)⟩, h.keep u0 (by omega) (by omega), h.keep u1 (by omega) (by omega)⟩
  clear p0 p1 p2 p3 q0 q1 q2 q3 cp hv hc hx hf
  have hj' := Lib.hid hj
  have hn' := Lib.hid hn
  clear hj hn
  have cp1' := Lib.hid cp1
  have cs' := Lib.hid cs
  have cl' := Lib.hid cl
  have hw1' := Lib.hid hw1
  have at'' := Lib.hid at'
  have hz' := Lib.hid hz
  have hi' := Lib.hid hi
  have hP' := Lib.hid hP
  have hQ' := Lib.hid hQ
  clear cp1 cs cl hw1 at' hz hi hP hQ
  go_enter Tryz.func37, Tryz.ntmps37
  go_wp2_with fail
  rw [hw1'.out]
  go_wp2_with fail
  refine (cp1'.out).mono ?_
  rintro e w2 ⟨rfl, hB2⟩
  have hkc : w1.grownBy w2 (some g) := bgrow hB2 _
  have hk1 : w1.grownBy w2.drew (some g) := gdrew hkc
  have hcd : CalcAt w2.drew g bd := (hc1.below hB2).drew
  go_wp2_with fail
  refine wp_region_held_drew (S := (fun w' => ((w'.cell? ⟨b, off + i * 4, none⟩ = some (.int .i64 a0) ∧ w'.cell? ⟨b, off + i * 4 + 1, none⟩ = some (.int .i64 a1) ∧ w'.cell? ⟨b, off + i * 4 + 2, none⟩ = some (.int .i64 a2) ∧ w'.cell? ⟨b, off + i * 4 + 3, none⟩ = some (.int .i64 a3)) ∧ w'.cell? ⟨b, off + j * 4, none⟩ = some (.int .i64 b0) ∧ w'.cell? ⟨b, off + j * 4 + 1, none⟩ = some (.int .i64 b1) ∧ w'.cell? ⟨b, off + j * 4 + 2, none⟩ = some (.int .i64 b2) ∧ w'.cell? ⟨b, off + j * 4 + 3, none⟩ = some (.int .i64 b3)) ∧ w'.cell? ⟨w.heap.size, 0, none⟩ = some (.int .i64 x0) ∧ w'.cell? ⟨w.heap.size, 1, none⟩ = some (.int .i64 x1))) (by kernel_rfl) (by (try dsimp only); (first | exact at''.out _ (SameBut.grown hk1 hE) | exact at''.out _ (SameBut.grown hk3 hE) | exact at''.out _ (SameBut.grown hk4 hE) | exact at''.out _ hk5)) (fun hHeld => ?_)
  refine ly_q 0 (v := ?_) hHeld ?_
  try simp only [Act.put, lyA, lyB, lyC]
  refine ly_q 1 (v := ?_) hHeld ?_
  try simp only [Act.put, lyA, lyB, lyC]
  refine ly_q 2 (v := ?_) hHeld ?_
  try simp only [Act.put, lyA, lyB, lyC]
  refine ly_q 3 (v := ?_) hHeld ?_
  try simp only [Act.put, lyA, lyB, lyC]
  refine ly_q 4 (v := ?_) hHeld ?_
  try simp only [Act.put, lyA, lyB, lyC]
  refine ly_q 5 (v := ?_) hHeld ?_
  try simp only [Act.put, lyA, lyB, lyC]
  refine ly_q 6 (v := ?_) hHeld ?_
  try simp only [Act.put, lyA, lyB, lyC]
  refine ly_q 7 (v := ?_) hHeld ?_
  try simp only [Act.put, lyA, lyB, lyC]
  refine ly_q 8 (v := ?_) hHeld ?_
  try simp only [Act.put, lyA, lyB, lyC]
  refine ly_q 9 (v := ?_) hHeld ?_
  try simp only [Act.put, lyA, lyB, lyC]
  refine ly_q 10 (v := ?_) hHeld ?_
  try simp only [Act.put, lyA, lyB, lyC]
  refine ly_q 11 (v := ?_) hHeld ?_
  try simp only [Act.put, lyA, lyB, lyC]
  refine ly_q 12 (v := ?_) hHeld ?_
  try simp only [Act.put, lyA, lyB, lyC]
  refine ly_q 13 (v := ?_) hHeld ?_
  try simp only [Act.put, lyA, lyB, lyC]
  refine ly_q 14 (v := ?_) hHeld ?_
  try simp only [Act.put, lyA, lyB, lyC]
  refine ly_q 16 (v := ?_) hHeld ?_
  try simp only [Act.put, lyA, lyB, lyC]
  refine ly_a 15 (fun KK hKK => ?_)
  go_simp
  refine (cs'.out _ hcd).mono ?_
  rintro e w3 ⟨rfl, hg3, hc3⟩
  have hk3 := hk1.trans hg3
  try dsimp only
  refine hKK.out _ _ (by (try dsimp only); (first | exact at''.out _ (SameBut.grown hk1 hE) | exact at''.out _ (SameBut.grown hk3 hE) | exact at''.out _ (SameBut.grown hk4 hE) | exact at''.out _ hk5)) (fun hHeld => ?_)
  clear hKK KK
  try simp only [Act.put, lyA, lyB, lyC]
  refine ly_a 17 (fun KK hKK => ?_)
  go_simp
  refine (cl'.out _ hc3).mono ?_
  rintro e w4 ⟨rfl, hg4, hc4⟩
  have hk4 := hk3.trans hg4
  have r0 := gcell hk4 y0 hrg
  have r1 := gcell hk4 y1 hrg
  have r2 := gfrozen hk4 y0 y2 hrg
  have r3 := gfrozen hk4 y1 y3 hrg
  try dsimp only
  refine hKK.out _ _ (by (try dsimp only); (first | exact at''.out _ (SameBut.grown hk1 hE) | exact at''.out _ (SameBut.grown hk3 hE) | exact at''.out _ (SameBut.grown hk4 hE) | exact at''.out _ hk5)) (fun hHeld => ?_)
  clear hKK KK
  try simp only [Act.put, lyA, lyB, lyC]
  refine ly_a 18 (fun KK hKK => ?_)
  go_simp
  have hk5 := ((SameBut.grown hk4 hE).set (b := w.heap.size + 1) (o := 0) (Nat.le_refl _) (.int .i64 z0)).set (b := w.heap.size + 1) (o := 1) (Nat.le_refl _) (.int .i64 z1)
  try dsimp only
  refine hKK.out _ _ (by (try dsimp only); (first | exact at''.out _ (SameBut.grown hk1 hE) | exact at''.out _ (SameBut.grown hk3 hE) | exact at''.out _ (SameBut.grown hk4 hE) | exact at''.out _ hk5)) (fun hHeld => ?_)
  clear hKK KK
  try simp only [Act.put, lyA, lyB, lyC]
  refine wpAnyH_done (by kernel_rfl) ?_ _
  have hgf := grow_set (grow_set (hg1.trans hk4) (b := w.heap.size + 1) (o := 0) (by omega) (.int .i64 z0)) (b := w.heap.size + 1) (o := 1) (by omega) (.int .i64 z1)
  have hcf := (hc4.set (b := w.heap.size + 1) (o := 0) (by omega) (.int .i64 z0)).set (b := w.heap.size + 1) (o := 1) (by omega) (.int .i64 z1)
  clear hHeld hk5 hk4 hk3 hk1
  go_wp2
  exact bodyPost_ret (v := ratV (z0, z1)) (by simp [results, Tryz.results37, go_sem, r0, r1, ratV]) rfl ⟨rfl, hgf, hcf⟩

end Go.Proofs.YtjkgilenhoomoaaGreat

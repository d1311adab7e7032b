/- Products and quotients of fractions; the calculator's sum, product, quotient. No conditions but bounds. -/
import Derived.Test.YtfcanpebagpdbaaQ
import Derived.Test.YtfcanpebagpdbaaCalcAt
import Derived.Deep.RegionHeld3
namespace Go.Proofs.Ytfcanpebagpdbaa
open Go.RowKit

theorem prodNN {x y : Int} (hx : -1000000000 ≤ x ∧ x ≤ 1000000000) (hy : -1000000000 ≤ y ∧ y ≤ 1000000000) : -1000000000000000000 ≤ x * y ∧ x * y ≤ 1000000000000000000 := by
  have h1 : (x * y).natAbs = x.natAbs * y.natAbs := Int.natAbs_mul x y
  have h2 : x.natAbs * y.natAbs ≤ 1000000000 * 1000000000 := Nat.mul_le_mul (by omega) (by omega)
  omega

set_option maxHeartbeats 800000 in
theorem raMul_core (n d n' d' : Int) (w : World) (ha : BdR n d) (hb : BdR n' d') (h0 : d * d' ≠ 0) (_hne : True) :
    Calls Try.prog 134 #[.agg #[.int .i64 n, .int .i64 d], .agg #[.int .i64 n', .int .i64 d']] w (Ret (.tuple #[ratV (mkR (n * n') (d * d')).1, .bool (mkR (n * n') (d * d')).2]) w) := by
  have p1 : -1000000000000000000 ≤ n * n' ∧ n * n' ≤ 1000000000000000000 := prodNN (by have := ha.2; omega) (by have := hb.1; have := hb.2; omega)
  have p3 : -1000000000000000000 ≤ d * d' ∧ d * d' ≤ 1000000000000000000 := prodNN (by have := ha.1; omega) (by have := hb.1; have := hb.2; omega)
  have c1 := fun w => raMake_any (n * n') (d * d') w (by omega) (by omega) h0
  obtain ⟨x, hx⟩ : ∃ x, n * n' = x := ⟨_, rfl⟩
  obtain ⟨z, hz⟩ : ∃ z, d * d' = z := ⟨_, rfl⟩
  rw [hx] at p1 c1 ⊢
  rw [hz] at p3 c1 h0 ⊢
  skip
  generalize mkR x z = R at *
  obtain ⟨⟨r1, r2⟩, r3⟩ := R
  have hB : Below w.heap.size w (((w.alloc (.cells #[.int .i64 n, .int .i64 d] 34)).alloc (.cells #[.int .i64 n', .int .i64 d'] 34)).alloc (.cells #[.int .i64 0, .int .i64 0] 34)) :=
    (((Below.refl _ _).alloc (Nat.le_refl _) _).alloc (by simp) _).alloc (by simp; omega) _
  clear ha hb
  have c1' := Lib.hid c1
  have h0' := Lib.hid h0
  clear c1 h0
  go_enter Try.func134, Try.ntmps134
  go_wp2_with fail
  refine (c1'.out _).mono ?_
  rintro e w1 ⟨rfl, hB1⟩
  obtain ⟨hc1, hf1⟩ := bcell hB1
  have hz1 : w.heap.size + 1 + 1 < w1.heap.size := by have := hB1.size; simp at this; omega
  have hB2 := hB.trans (hB1.mono hB.size)
  have q0 : w1.cell? ⟨w.heap.size + 1 + 1, 0, none⟩ = some (.int .i64 0) := by rw [hc1 _ _ (by simp)]; simp [go_sem]
  have q1 : w1.cell? ⟨w.heap.size + 1 + 1, 1, none⟩ = some (.int .i64 0) := by rw [hc1 _ _ (by simp)]; simp [go_sem]
  have q2 : w1.frozen? ⟨w.heap.size + 1 + 1, 0, none⟩ = false := by rw [hf1 _ _ (by simp)]; simp [go_sem]
  have q3 : w1.frozen? ⟨w.heap.size + 1 + 1, 1, none⟩ = false := by rw [hf1 _ _ (by simp)]; simp [go_sem]
  clear hB hB1 hc1 hf1
  go_wp2
  refine bodyPost_ret (v := .tuple #[ratV (r1, r2), .bool r3]) (by simp [results, Try.results134, go_sem, q0, q1, ratV]) rfl ⟨rfl, ?_⟩
  exact (hB2.setCell (p := ⟨w.heap.size + 1 + 1, 0, none⟩) (by show w.heap.size ≤ w.heap.size + 1 + 1; omega) _).setCell (p := ⟨w.heap.size + 1 + 1, 1, none⟩) (by show w.heap.size ≤ w.heap.size + 1 + 1; omega) _
set_option maxHeartbeats 800000 in
theorem raDiv_core (n d n' d' : Int) (w : World) (ha : BdR n d) (hb : BdR n' d') (h0 : d * n' ≠ 0) (hne : n' ≠ 0) :
    Calls Try.prog 154 #[.agg #[.int .i64 n, .int .i64 d], .agg #[.int .i64 n', .int .i64 d']] w (Ret (.tuple #[ratV (mkR (n * d') (d * n')).1, .bool (mkR (n * d') (d * n')).2]) w) := by
  have p1 : -1000000000000000000 ≤ n * d' ∧ n * d' ≤ 1000000000000000000 := prodNN (by have := ha.2; omega) (by have := hb.1; have := hb.2; omega)
  have p3 : -1000000000000000000 ≤ d * n' ∧ d * n' ≤ 1000000000000000000 := prodNN (by have := ha.1; omega) (by have := hb.1; have := hb.2; omega)
  have c1 := fun w => raMake_any (n * d') (d * n') w (by omega) (by omega) h0
  obtain ⟨x, hx⟩ : ∃ x, n * d' = x := ⟨_, rfl⟩
  obtain ⟨z, hz⟩ : ∃ z, d * n' = z := ⟨_, rfl⟩
  rw [hx] at p1 c1 ⊢
  rw [hz] at p3 c1 h0 ⊢
  have e0 : (n' == 0) = false := by rw [beq_eq_false_iff_ne]; exact hne
  generalize mkR x z = R at *
  obtain ⟨⟨r1, r2⟩, r3⟩ := R
  have hB : Below w.heap.size w (((w.alloc (.cells #[.int .i64 n, .int .i64 d] 34)).alloc (.cells #[.int .i64 n', .int .i64 d'] 34)).alloc (.cells #[.int .i64 0, .int .i64 0] 34)) :=
    (((Below.refl _ _).alloc (Nat.le_refl _) _).alloc (by simp) _).alloc (by simp; omega) _
  clear ha hb
  have c1' := Lib.hid c1
  have h0' := Lib.hid h0
  clear c1 h0
  go_enter Try.func154, Try.ntmps154
  go_wp2_with fail
  refine (c1'.out _).mono ?_
  rintro e w1 ⟨rfl, hB1⟩
  obtain ⟨hc1, hf1⟩ := bcell hB1
  have hz1 : w.heap.size + 1 + 1 < w1.heap.size := by have := hB1.size; simp at this; omega
  have hB2 := hB.trans (hB1.mono hB.size)
  have q0 : w1.cell? ⟨w.heap.size + 1 + 1, 0, none⟩ = some (.int .i64 0) := by rw [hc1 _ _ (by simp)]; simp [go_sem]
  have q1 : w1.cell? ⟨w.heap.size + 1 + 1, 1, none⟩ = some (.int .i64 0) := by rw [hc1 _ _ (by simp)]; simp [go_sem]
  have q2 : w1.frozen? ⟨w.heap.size + 1 + 1, 0, none⟩ = false := by rw [hf1 _ _ (by simp)]; simp [go_sem]
  have q3 : w1.frozen? ⟨w.heap.size + 1 + 1, 1, none⟩ = false := by rw [hf1 _ _ (by simp)]; simp [go_sem]
  clear hB hB1 hc1 hf1
  go_wp2
  refine bodyPost_ret (v := .tuple #[ratV (r1, r2), .bool r3]) (by simp [results, Try.results154, go_sem, q0, q1, ratV]) rfl ⟨rfl, ?_⟩
  exact (hB2.setCell (p := ⟨w.heap.size + 1 + 1, 0, none⟩) (by show w.heap.size ≤ w.heap.size + 1 + 1; omega) _).setCell (p := ⟨w.heap.size + 1 + 1, 1, none⟩) (by show w.heap.size ≤ w.heap.size + 1 + 1; omega) _
theorem raMul_any (a b : Int × Int) (w : World) (ha : BdR a.1 a.2) (hb : BdR b.1 b.2) :
    Calls Try.prog 134 #[.agg #[.int .i64 a.1, .int .i64 a.2], .agg #[.int .i64 b.1, .int .i64 b.2]] w (Ret (.tuple #[ratV (mulR a b).1, .bool (mulR a b).2]) w) :=
  raMul_core a.1 a.2 b.1 b.2 w ha hb (Int.mul_ne_zero (by have := ha.1; omega) (by have := hb.1; omega)) trivial
theorem raDiv_any (a b : Int × Int) (w : World) (ha : BdR a.1 a.2) (hb : BdR b.1 b.2) (h0 : b.1 ≠ 0) :
    Calls Try.prog 154 #[.agg #[.int .i64 a.1, .int .i64 a.2], .agg #[.int .i64 b.1, .int .i64 b.2]] w (Ret (.tuple #[ratV (divR a b).1, .bool (divR a b).2]) w) := by
  have e : divR a b = mkR (a.1 * b.2) (a.2 * b.1) := if_neg h0
  rw [e]
  exact raDiv_core a.1 a.2 b.1 b.2 w ha hb (Int.mul_ne_zero (by have := ha.1; omega) h0) h0

set_option maxHeartbeats 1600000 in
theorem MultiplyRats_core (n d n' d' : Int) (w : World) (ga : goodR n d = true) (gb : goodR n' d' = true) (_hne : True) (h00 : d * d' ≠ 0) :
    Calls Try.prog 163 #[.agg #[.int .i64 n, .int .i64 d], .agg #[.int .i64 n', .int .i64 d']] w (Ret (.tuple #[ratV (mkR (n * n') (d * d')).1, .bool (mkR (n * n') (d * d')).2]) w) := by
  have ha : BdR n d := goodR_bd ga
  have hb : BdR n' d' := goodR_bd gb
  have p1 : -1000000000000000000 ≤ n * n' ∧ n * n' ≤ 1000000000000000000 := prodNN (by have := ha.2; omega) (by have := hb.1; have := hb.2; omega)
  have p3 : -1000000000000000000 ≤ d * d' ∧ d * d' ≤ 1000000000000000000 := prodNN (by have := ha.1; omega) (by have := hb.1; have := hb.2; omega)
  have c1 := fun w => lowest_any (n * n') (d * d') w (by omega) (by omega) h00
  obtain ⟨x, hx⟩ : ∃ x, n * n' = x := ⟨_, rfl⟩
  obtain ⟨z, hz⟩ : ∃ z, d * d' = z := ⟨_, rfl⟩
  rw [hx] at p1 c1 ⊢
  rw [hz] at p3 c1 h00 ⊢
  generalize mkR x z = R at *
  obtain ⟨⟨r1, r2⟩, r3⟩ := R
  obtain ⟨W, hW⟩ : ∃ W, ((((w.alloc (.cells #[.int .i64 n, .int .i64 d] 34)).alloc (.cells #[.int .i64 n', .int .i64 d'] 34)).alloc (.cells #[.int .i64 0, .int .i64 0] 34)).alloc (.cells #[.int .i64 n, .int .i64 d, .int .i64 n', .int .i64 d'] 34)) = W := ⟨_, rfl⟩
  have hB : Below w.heap.size w W := by rw [← hW]; exact ((((Below.refl _ _).alloc (Nat.le_refl _) _).alloc (by simp) _).alloc (by simp; omega) _).alloc (by simp; omega) _
  have hzz : w.heap.size + 1 + 1 + 1 < W.heap.size := by rw [← hW]; simp
  have hv : RatsV W (.slice (some ⟨w.heap.size + 1 + 1 + 1, 0, none⟩) 2 2) [(n, d), (n', d')] := by
    refine RatsV.mk (xs := [(n, d), (n', d')]) ⟨Nat.le_refl _, fun e => by cases e⟩ (by unfold maxLen; simp) (fun i hi => ⟨_, 0, rfl, ?_⟩)
    rw [← hW]
    have : i = 0 ∨ i = 1 := by simp at hi; omega
    rcases this with rfl | rfl
    · exact ⟨by simp [go_sem, nthR], by simp [go_sem, nthR]⟩
    · exact ⟨by simp [go_sem, nthR], by simp [go_sem, nthR]⟩
  have c0 := areRats_true _ _ _ hv (by simp) (fun i hi => by
    have : i = 0 ∨ i = 1 := by simp at hi; omega
    rcases this with rfl | rfl
    · exact ga
    · exact gb)
  have k0 : W.cell? ⟨w.heap.size, 0, none⟩ = some (.int .i64 n) := by rw [← hW]; simp [go_sem]
  have k1 : W.cell? ⟨w.heap.size, 1, none⟩ = some (.int .i64 d) := by rw [← hW]; simp [go_sem]
  have k2 : W.cell? ⟨w.heap.size + 1, 0, none⟩ = some (.int .i64 n') := by rw [← hW]; simp [go_sem]
  have k3 : W.cell? ⟨w.heap.size + 1, 1, none⟩ = some (.int .i64 d') := by rw [← hW]; simp [go_sem]
  have k4 : W.cell? ⟨w.heap.size + 1 + 1, 0, none⟩ = some (.int .i64 0) := by rw [← hW]; simp [go_sem]
  have k5 : W.cell? ⟨w.heap.size + 1 + 1, 1, none⟩ = some (.int .i64 0) := by rw [← hW]; simp [go_sem]
  have k6 : W.frozen? ⟨w.heap.size + 1 + 1, 0, none⟩ = false := by rw [← hW]; simp [go_sem]
  have k7 : W.frozen? ⟨w.heap.size + 1 + 1, 1, none⟩ = false := by rw [← hW]; simp [go_sem]
  skip
  clear ha hb ga gb hv
  have c0' := Lib.hid c0
  have c1' := Lib.hid c1
  have hW' := Lib.hid hW
  have h00' := Lib.hid h00
  clear c0 c1 hW h00
  go_enter Try.func163, Try.ntmps163
  go_wp2_with fail
  rw [hW'.out]
  go_wp2_with fail
  refine (c0'.out).mono ?_
  rintro e w1 ⟨rfl, hB1⟩
  obtain ⟨hc1, hf1⟩ := bcell hB1
  have hb1 := hB.trans (hB1.mono hB.size)
  have hz1 := Nat.lt_of_lt_of_le hzz hB1.size
  rw [← hc1 _ _ (by omega)] at k0 k1 k2 k3 k4 k5
  rw [← hf1 _ _ (by omega)] at k6 k7
  clear hB hzz hB1 hc1 hf1
  go_wp2_with fail
  refine (c1'.out _).mono ?_
  rintro e w2 ⟨rfl, hB2⟩
  obtain ⟨hc2, hf2⟩ := bcell hB2
  have hb2 := hb1.trans (hB2.mono hb1.size)
  have hz2 := Nat.lt_of_lt_of_le hz1 hB2.size
  rw [← hc2 _ _ (by omega)] at k4 k5
  rw [← hf2 _ _ (by omega)] at k6 k7
  clear k0 k1 k2 k3 hB2 hc2 hf2 hb1 hz1
  go_wp2
  refine bodyPost_ret (v := .tuple #[ratV (r1, r2), .bool r3]) (by simp [results, Try.results163, go_sem, k4, k5, ratV]) rfl ⟨rfl, ?_⟩
  exact (hb2.setCell (p := ⟨w.heap.size + 1 + 1, 0, none⟩) (by show w.heap.size ≤ w.heap.size + 1 + 1; omega) _).setCell (p := ⟨w.heap.size + 1 + 1, 1, none⟩) (by show w.heap.size ≤ w.heap.size + 1 + 1; omega) _
set_option maxHeartbeats 1600000 in
theorem DivideRats_core (n d n' d' : Int) (w : World) (ga : goodR n d = true) (gb : goodR n' d' = true) (hne : n' ≠ 0) (h00 : d * n' ≠ 0) :
    Calls Try.prog 165 #[.agg #[.int .i64 n, .int .i64 d], .agg #[.int .i64 n', .int .i64 d']] w (Ret (.tuple #[ratV (mkR (n * d') (d * n')).1, .bool (mkR (n * d') (d * n')).2]) w) := by
  have ha : BdR n d := goodR_bd ga
  have hb : BdR n' d' := goodR_bd gb
  have p1 : -1000000000000000000 ≤ n * d' ∧ n * d' ≤ 1000000000000000000 := prodNN (by have := ha.2; omega) (by have := hb.1; have := hb.2; omega)
  have p3 : -1000000000000000000 ≤ d * n' ∧ d * n' ≤ 1000000000000000000 := prodNN (by have := ha.1; omega) (by have := hb.1; have := hb.2; omega)
  have c1 := fun w => lowest_any (n * d') (d * n') w (by omega) (by omega) h00
  obtain ⟨x, hx⟩ : ∃ x, n * d' = x := ⟨_, rfl⟩
  obtain ⟨z, hz⟩ : ∃ z, d * n' = z := ⟨_, rfl⟩
  rw [hx] at p1 c1 ⊢
  rw [hz] at p3 c1 h00 ⊢
  generalize mkR x z = R at *
  obtain ⟨⟨r1, r2⟩, r3⟩ := R
  obtain ⟨W, hW⟩ : ∃ W, ((((w.alloc (.cells #[.int .i64 n, .int .i64 d] 34)).alloc (.cells #[.int .i64 n', .int .i64 d'] 34)).alloc (.cells #[.int .i64 0, .int .i64 0] 34)).alloc (.cells #[.int .i64 n, .int .i64 d, .int .i64 n', .int .i64 d'] 34)) = W := ⟨_, rfl⟩
  have hB : Below w.heap.size w W := by rw [← hW]; exact ((((Below.refl _ _).alloc (Nat.le_refl _) _).alloc (by simp) _).alloc (by simp; omega) _).alloc (by simp; omega) _
  have hzz : w.heap.size + 1 + 1 + 1 < W.heap.size := by rw [← hW]; simp
  have hv : RatsV W (.slice (some ⟨w.heap.size + 1 + 1 + 1, 0, none⟩) 2 2) [(n, d), (n', d')] := by
    refine RatsV.mk (xs := [(n, d), (n', d')]) ⟨Nat.le_refl _, fun e => by cases e⟩ (by unfold maxLen; simp) (fun i hi => ⟨_, 0, rfl, ?_⟩)
    rw [← hW]
    have : i = 0 ∨ i = 1 := by simp at hi; omega
    rcases this with rfl | rfl
    · exact ⟨by simp [go_sem, nthR], by simp [go_sem, nthR]⟩
    · exact ⟨by simp [go_sem, nthR], by simp [go_sem, nthR]⟩
  have c0 := areRats_true _ _ _ hv (by simp) (fun i hi => by
    have : i = 0 ∨ i = 1 := by simp at hi; omega
    rcases this with rfl | rfl
    · exact ga
    · exact gb)
  have k0 : W.cell? ⟨w.heap.size, 0, none⟩ = some (.int .i64 n) := by rw [← hW]; simp [go_sem]
  have k1 : W.cell? ⟨w.heap.size, 1, none⟩ = some (.int .i64 d) := by rw [← hW]; simp [go_sem]
  have k2 : W.cell? ⟨w.heap.size + 1, 0, none⟩ = some (.int .i64 n') := by rw [← hW]; simp [go_sem]
  have k3 : W.cell? ⟨w.heap.size + 1, 1, none⟩ = some (.int .i64 d') := by rw [← hW]; simp [go_sem]
  have k4 : W.cell? ⟨w.heap.size + 1 + 1, 0, none⟩ = some (.int .i64 0) := by rw [← hW]; simp [go_sem]
  have k5 : W.cell? ⟨w.heap.size + 1 + 1, 1, none⟩ = some (.int .i64 0) := by rw [← hW]; simp [go_sem]
  have k6 : W.frozen? ⟨w.heap.size + 1 + 1, 0, none⟩ = false := by rw [← hW]; simp [go_sem]
  have k7 : W.frozen? ⟨w.heap.size + 1 + 1, 1, none⟩ = false := by rw [← hW]; simp [go_sem]
  have e0 : (n' == 0) = false := by rw [beq_eq_false_iff_ne]; exact hne
  clear ha hb ga gb hv
  have c0' := Lib.hid c0
  have c1' := Lib.hid c1
  have hW' := Lib.hid hW
  have h00' := Lib.hid h00
  clear c0 c1 hW h00
  go_enter Try.func165, Try.ntmps165
  go_wp2_with fail
  rw [hW'.out]
  go_wp2_with fail
  refine (c0'.out).mono ?_
  rintro e w1 ⟨rfl, hB1⟩
  obtain ⟨hc1, hf1⟩ := bcell hB1
  have hb1 := hB.trans (hB1.mono hB.size)
  have hz1 := Nat.lt_of_lt_of_le hzz hB1.size
  rw [← hc1 _ _ (by omega)] at k0 k1 k2 k3 k4 k5
  rw [← hf1 _ _ (by omega)] at k6 k7
  clear hB hzz hB1 hc1 hf1
  go_wp2_with fail
  refine (c1'.out _).mono ?_
  rintro e w2 ⟨rfl, hB2⟩
  obtain ⟨hc2, hf2⟩ := bcell hB2
  have hb2 := hb1.trans (hB2.mono hb1.size)
  have hz2 := Nat.lt_of_lt_of_le hz1 hB2.size
  rw [← hc2 _ _ (by omega)] at k4 k5
  rw [← hf2 _ _ (by omega)] at k6 k7
  clear k0 k1 k2 k3 hB2 hc2 hf2 hb1 hz1
  go_wp2
  refine bodyPost_ret (v := .tuple #[ratV (r1, r2), .bool r3]) (by simp [results, Try.results165, go_sem, k4, k5, ratV]) rfl ⟨rfl, ?_⟩
  exact (hb2.setCell (p := ⟨w.heap.size + 1 + 1, 0, none⟩) (by show w.heap.size ≤ w.heap.size + 1 + 1; omega) _).setCell (p := ⟨w.heap.size + 1 + 1, 1, none⟩) (by show w.heap.size ≤ w.heap.size + 1 + 1; omega) _
theorem MultiplyRats_any (a b : Int × Int) (w : World) (ga : goodR a.1 a.2 = true) (gb : goodR b.1 b.2 = true) :
    Calls Try.prog 163 #[.agg #[.int .i64 a.1, .int .i64 a.2], .agg #[.int .i64 b.1, .int .i64 b.2]] w (Ret (.tuple #[ratV (mulR a b).1, .bool (mulR a b).2]) w) :=
  MultiplyRats_core a.1 a.2 b.1 b.2 w ga gb trivial (den_ne ga gb)
theorem DivideRats_any (a b : Int × Int) (w : World) (ga : goodR a.1 a.2 = true) (gb : goodR b.1 b.2 = true) (h0 : b.1 ≠ 0) :
    Calls Try.prog 165 #[.agg #[.int .i64 a.1, .int .i64 a.2], .agg #[.int .i64 b.1, .int .i64 b.2]] w (Ret (.tuple #[ratV (divR a b).1, .bool (divR a b).2]) w) := by
  have e : divR a b = mkR (a.1 * b.2) (a.2 * b.1) := if_neg h0
  rw [e]
  exact DivideRats_core a.1 a.2 b.1 b.2 w ga gb h0 (Int.mul_ne_zero (by have := good_den ga; omega) h0)

end Go.Proofs.Ytfcanpebagpdbaa

/- The value of a map: the reference's. No conditions but valid maps. -/
import Derived.Test.YtfcanpebagpdbaaLine
namespace Go.Proofs.Ytfcanpebagpdbaa
open Go.RowKit

set_option maxHeartbeats 1600000 in
theorem imSlope_any (p q : Quad) (w : World) (h1 : coordR p.1 = true) (h2 : coordR p.2 = true) (h3 : coordR q.1 = true) (h4 : coordR q.2 = true) (hl : ltB p.1.1 p.1.2 q.1.1 q.1.2 = true) :
    Calls Try.prog 135 #[quadV p, quadV q] w (Ret (ratV (slopeR p q)) w) := by
  obtain ⟨o3, _, _, k1, k2, hne⟩ := slope_ok h1 h2 h3 h4 hl
  obtain ⟨o1, _⟩ := subR_coord h3 h1
  obtain ⟨o2, _⟩ := subR_coord h4 h2
  have c1 := fun w => raSub_any q.2 p.2 w (good_bd (unitR_good (coordR_unit h4))) (good_bd (unitR_good (coordR_unit h2)))
  have c2 := fun w => raSub_any q.1 p.1 w (good_bd (unitR_good (coordR_unit h3))) (good_bd (unitR_good (coordR_unit h1)))
  have c3 := fun w => raDiv_any (subR q.2 p.2).1 (subR q.1 p.1).1 w (good_bd k2) (good_bd k1) hne
  rw [o2] at c1
  rw [o1] at c2
  rw [o3] at c3
  have hs : slopeR p q = (divR (subR q.2 p.2).1 (subR q.1 p.1).1).1 := rfl
  rw [hs]
  generalize (divR (subR q.2 p.2).1 (subR q.1 p.1).1).1 = S at *
  generalize (subR q.2 p.2).1 = D2 at *
  generalize (subR q.1 p.1).1 = D1 at *
  clear hs o1 o2 o3 k1 k2 hne h1 h2 h3 h4 hl
  obtain ⟨⟨a0, a1⟩, ⟨a2, a3⟩⟩ := p
  obtain ⟨⟨b0, b1⟩, ⟨b2, b3⟩⟩ := q
  obtain ⟨s1, s2⟩ := S
  obtain ⟨d1, d2⟩ := D1
  obtain ⟨d3, d4⟩ := D2
  show Calls _ _ #[.agg #[.int .i64 a0, .int .i64 a1, .int .i64 a2, .int .i64 a3], .agg #[.int .i64 b0, .int .i64 b1, .int .i64 b2, .int .i64 b3]] w (Ret (ratV (s1, s2)) w)
  simp only at c1 c2 c3
  obtain ⟨w1, hw1⟩ : ∃ W, ((w.alloc (.cells #[.int .i64 a0, .int .i64 a1, .int .i64 a2, .int .i64 a3] 73)).alloc (.cells #[.int .i64 b0, .int .i64 b1, .int .i64 b2, .int .i64 b3] 73)).alloc (.cells #[.int .i64 0, .int .i64 0] 34) = W := ⟨_, rfl⟩
  have hB : Below w.heap.size w w1 := by rw [← hw1]; exact (((Below.refl _ _).alloc (Nat.le_refl _) _).alloc (by simp) _).alloc (by simp; omega) _
  have x1 : (w1.cell? ⟨w.heap.size, 0, none⟩ = some (.int .i64 a0) ∧ w1.cell? ⟨w.heap.size, 1, none⟩ = some (.int .i64 a1)) ∧ w1.cell? ⟨w.heap.size, 2, none⟩ = some (.int .i64 a2) ∧ w1.cell? ⟨w.heap.size, 3, none⟩ = some (.int .i64 a3) := by rw [← hw1]; simp [go_sem]
  have x2 : (w1.cell? ⟨w.heap.size + 1, 0, none⟩ = some (.int .i64 b0) ∧ w1.cell? ⟨w.heap.size + 1, 1, none⟩ = some (.int .i64 b1)) ∧ w1.cell? ⟨w.heap.size + 1, 2, none⟩ = some (.int .i64 b2) ∧ w1.cell? ⟨w.heap.size + 1, 3, none⟩ = some (.int .i64 b3) := by rw [← hw1]; simp [go_sem]
  have y0 : w1.cell? ⟨w.heap.size + 1 + 1, 0, none⟩ = some (.int .i64 0) := by rw [← hw1]; simp [go_sem]
  have y1 : w1.cell? ⟨w.heap.size + 1 + 1, 1, none⟩ = some (.int .i64 0) := by rw [← hw1]; simp [go_sem]
  have y2 : w1.frozen? ⟨w.heap.size + 1 + 1, 0, none⟩ = false := by rw [← hw1]; simp [go_sem]
  have y3 : w1.frozen? ⟨w.heap.size + 1 + 1, 1, none⟩ = false := by rw [← hw1]; simp [go_sem]
  obtain ⟨⟨e0, e1⟩, e2, e3⟩ := x1
  obtain ⟨⟨g0, g1⟩, g2, g3⟩ := x2
  have c1' := Lib.hid c1
  have c2' := Lib.hid c2
  have c3' := Lib.hid c3
  have hw1' := Lib.hid hw1
  clear c1 c2 c3 hw1
  go_enter Try.func135, Try.ntmps135
  go_wp2_with fail
  rw [hw1'.out]
  go_wp2_with fail
  refine (c1'.out _).mono ?_
  rintro e w2 ⟨rfl, hB2⟩
  have hk2 : Below w1.heap.size w1 (w2.alloc (.cells #[.int .i64 d3, .int .i64 d4] 34)) := hB2.alloc hB2.size _
  have t0 : (w2.alloc (.cells #[.int .i64 d3, .int .i64 d4] 34)).cell? ⟨w2.heap.size, 0, none⟩ = some (.int .i64 d3) := by simp [go_sem]
  have t1 : (w2.alloc (.cells #[.int .i64 d3, .int .i64 d4] 34)).cell? ⟨w2.heap.size, 1, none⟩ = some (.int .i64 d4) := by simp [go_sem]
  have m0 := bkeep hk2 e0
  have m1 := bkeep hk2 e1
  have m2 := bkeep hk2 g0
  have m3 := bkeep hk2 g1
  have ht0 := Lib.hid t0
  have ht1 := Lib.hid t1
  clear e0 e1 e2 e3 g0 g1 g2 g3 hB2 t0 t1
  go_wp2_with fail
  refine (c2'.out _).mono ?_
  rintro e w3 ⟨rfl, hB3⟩
  have hk3 := hk2.trans (hB3.mono hk2.size)
  have hk3' : Below (w2.alloc (.cells #[.int .i64 d3, .int .i64 d4] 34)).heap.size (w2.alloc (.cells #[.int .i64 d3, .int .i64 d4] 34)) (w3.alloc (.cells #[.int .i64 d1, .int .i64 d2] 34)) := hB3.alloc hB3.size _
  have n0 := bkeep hk3' ht0.out
  have n1 := bkeep hk3' ht1.out
  have hk4' := hk3.alloc hk3.size (.cells #[.int .i64 d1, .int .i64 d2] 34)
  clear m0 m1 m2 m3 ht0 ht1 hk3' hB3 hk2 hk3
  go_wp2_with fail
  refine (c3'.out _).mono ?_
  rintro e w4 ⟨rfl, hB4⟩
  have hk4 := hk4'.trans (hB4.mono hk4'.size)
  have hb4 := hB.trans (hk4.mono hB.size)
  have q0 := bkeep hk4 y0
  have q1 := bkeep hk4 y1
  have q2 := gfrozen (bgrow hk4 none) y0 y2 (by simp)
  have q3 := gfrozen (bgrow hk4 none) y1 y3 (by simp)
  have hlt : w.heap.size + 1 + 1 < w4.heap.size := by
    have := World.block_lt_of_cell? _ _ q0
    exact this
  have hzz : w.heap.size + 1 + 1 ≠ w4.heap.size := by omega
  clear y0 y1 y2 y3 n0 n1 hB4 hk4' hk4 hB
  have hBf : Below w.heap.size w (((w4.setCell ⟨w.heap.size + 1 + 1, 0, none⟩ (.int .i64 s1)).setCell ⟨w.heap.size + 1 + 1, 1, none⟩ (.int .i64 s2)).alloc (.cells #[.int .i64 s1, .int .i64 s2] 34)) :=
    ((hb4.setCell (p := ⟨w.heap.size + 1 + 1, 0, none⟩) (by show w.heap.size ≤ w.heap.size + 1 + 1; omega) _).setCell (p := ⟨w.heap.size + 1 + 1, 1, none⟩) (by show w.heap.size ≤ w.heap.size + 1 + 1; omega) _).alloc (by simp [World.setCell]; exact hb4.size) _
  obtain ⟨W4, hW4⟩ : ∃ W, (w4.setCell ⟨w.heap.size + 1 + 1, 0, none⟩ (.int .i64 s1)).setCell ⟨w.heap.size + 1 + 1, 1, none⟩ (.int .i64 s2) = W := ⟨_, rfl⟩
  have r0 : W4.cell? ⟨w.heap.size + 1 + 1, 0, none⟩ = some (.int .i64 s1) := by rw [← hW4]; simp [go_sem, q0]
  have r1 : W4.cell? ⟨w.heap.size + 1 + 1, 1, none⟩ = some (.int .i64 s2) := by rw [← hW4]; simp [go_sem, q1]
  have f0 := bkeep ((Below.refl W4.heap.size W4).alloc (Nat.le_refl _) (.cells #[.int .i64 s1, .int .i64 s2] 34)) r0
  have f1 := bkeep ((Below.refl W4.heap.size W4).alloc (Nat.le_refl _) (.cells #[.int .i64 s1, .int .i64 s2] 34)) r1
  rw [← hW4] at f0 f1
  have a0' := bkeep ((Below.refl w4.heap.size w4).alloc (Nat.le_refl _) (.cells #[.int .i64 s1, .int .i64 s2] 34)) q0
  have a1' := bkeep ((Below.refl w4.heap.size w4).alloc (Nat.le_refl _) (.cells #[.int .i64 s1, .int .i64 s2] 34)) q1
  have a2' := gfrozen (bgrow ((Below.refl w4.heap.size w4).alloc (Nat.le_refl _) (.cells #[.int .i64 s1, .int .i64 s2] 34)) none) q0 q2 (by simp)
  have a3' := gfrozen (bgrow ((Below.refl w4.heap.size w4).alloc (Nat.le_refl _) (.cells #[.int .i64 s1, .int .i64 s2] 34)) none) q1 q3 (by simp)
  have f0' := Lib.hid f0
  have f1' := Lib.hid f1
  clear hW4 r0 r1 f0 f1
  have hBf' := Lib.hid hBf
  clear hBf
  go_wp2
  exact bodyPost_ret (v := ratV (s1, s2)) (by simp [results, Try.results135, go_sem, f0'.out, f1'.out, ratV]) rfl ⟨rfl, hBf'.out⟩

theorem raMake_zero (x : Int) (w : World) : Calls Try.prog 153 #[.int .i64 x, .int .i64 0] w (Ret (.tuple #[ratV (0, 0), .bool false]) w) := by
  have hB : Below w.heap.size w (w.alloc (.cells #[.int .i64 0, .int .i64 0] 34)) := (Below.refl _ _).alloc (Nat.le_refl _) _
  go_enter Try.func153, Try.ntmps153
  go_wp2
  exact bodyPost_ret (v := .tuple #[ratV (0, 0), .bool false]) (by simp [results, Try.results153, go_sem, ratV]) rfl ⟨rfl, hB⟩
theorem raMul_zero (s : Int × Int) (w : World) : Calls Try.prog 134 #[.agg #[.int .i64 0, .int .i64 0], .agg #[.int .i64 s.1, .int .i64 s.2]] w (Ret (.tuple #[ratV (0, 0), .bool false]) w) := by
  obtain ⟨n', d'⟩ := s
  show Calls _ _ #[_, .agg #[.int .i64 n', .int .i64 d']] w _
  have c1 := fun w => raMake_zero 0 w
  have hB : Below w.heap.size w (((w.alloc (.cells #[.int .i64 0, .int .i64 0] 34)).alloc (.cells #[.int .i64 n', .int .i64 d'] 34)).alloc (.cells #[.int .i64 0, .int .i64 0] 34)) :=
    (((Below.refl _ _).alloc (Nat.le_refl _) _).alloc (by simp) _).alloc (by simp; omega) _
  have c1' := Lib.hid c1
  clear c1
  go_enter Try.func134, Try.ntmps134
  go_wp2_with fail
  refine (c1'.out _).mono ?_
  rintro e w1 ⟨rfl, hB1⟩
  obtain ⟨hc1, hf1⟩ := bcell hB1
  have hz1 : w.heap.size + 1 + 1 < w1.heap.size := by have := hB1.size; simp at this; omega
  have hB2 := hB.trans (hB1.mono hB.size)
  have q0 : w1.cell? ⟨w.heap.size + 1 + 1, 0, none⟩ = some (.int .i64 0) := by rw [hc1 _ _ (by simp)]; simp [go_sem]
  have q1 : w1.cell? ⟨w.heap.size + 1 + 1, 1, none⟩ = some (.int .i64 0) := by rw [hc1 _ _ (by simp)]; simp [go_sem]
  have q2 : w1.frozen? ⟨w.heap.size + 1 + 1, 0, none⟩ = false := by rw [hf1 _ _ (by simp)]; simp [go_sem]
  have q3 : w1.frozen? ⟨w.heap.size + 1 + 1, 1, none⟩ = false := by rw [hf1 _ _ (by simp)]; simp [go_sem]
  clear hB hB1 hc1 hf1
  go_wp2
  refine bodyPost_ret (v := .tuple #[ratV (0, 0), .bool false]) (by simp [results, Try.results134, go_sem, q0, q1, ratV]) rfl ⟨rfl, ?_⟩
  exact (hB2.setCell (p := ⟨w.heap.size + 1 + 1, 0, none⟩) (by show w.heap.size ≤ w.heap.size + 1 + 1; omega) _).setCell (p := ⟨w.heap.size + 1 + 1, 1, none⟩) (by show w.heap.size ≤ w.heap.size + 1 + 1; omega) _

/-- The value of the line through two points. -/
def onR (p q : Quad) (x : Int × Int) : (Int × Int) × Bool := if lineOk p (slopeR p q) x = true then (lineZ p (slopeR p q) x, true) else ((0, 0), false)
theorem mkR_bad {x y : Int} (h : (mkR x y).2 = false) : (mkR x y).1 = (0, 0) := by
  unfold mkR at h ⊢
  split
  · rename_i hg; rw [if_pos hg] at h; cases h
  · rfl
theorem onR_bad1 {p q : Quad} {x : Int × Int} (h : (subR x p.1).2 = false) : onR p q x = ((0, 0), false) := by
  unfold onR lineOk; rw [h]; simp
theorem onR_bad2 {p q : Quad} {x : Int × Int} (h1 : (subR x p.1).2 = true) (h : (mulR (subR x p.1).1 (slopeR p q)).2 = false) : onR p q x = ((0, 0), false) := by
  unfold onR lineOk
  rw [orZ_ok h1, mulR_comm, h]; simp
theorem onR_ok {p q : Quad} {x : Int × Int} (h1 : (subR x p.1).2 = true) (h2 : (mulR (subR x p.1).1 (slopeR p q)).2 = true) : onR p q x = addR p.2 (mulR (subR x p.1).1 (slopeR p q)).1 := by
  unfold onR lineOk lineZ
  rw [orZ_ok h1, mulR_comm, orZ_ok h2, h1, h2]
  simp only [Bool.true_and]
  cases h3 : (addR p.2 (mulR (subR x p.1).1 (slopeR p q)).1).2
  · rw [if_neg (by decide)]
    have := mkR_bad h3
    unfold addR at h3 ⊢
    ext1
    · exact this.symm
    · exact h3.symm
  · rw [if_pos rfl, orZ_ok h3, ← h3]

end Go.Proofs.Ytfcanpebagpdbaa

/- Several texts in one: ImAt ImOn ImVal. No conditions but those that each theorem states. -/
import Derived.Test.YtjkgilenhoomoaaGreatPkF

namespace Go.Proofs.YtjkgilenhoomoaaGreat
open Go.RowKit

set_option maxHeartbeats 1600000 in
theorem imSlope_any (p q : Quad) (w : World) (h1 : coordR p.1 = true) (h2 : coordR p.2 = true) (h3 : coordR q.1 = true) (h4 : coordR q.2 = true) (hl : ltB p.1.1 p.1.2 q.1.1 q.1.2 = true) :
    Calls Tryz.prog 61 #[quadV p, quadV q] w (Ret (ratV (slopeR p q)) w) := by
  obtain ⟨o3, _, _, k1, k2, hne⟩ := slope_ok h1 h2 h3 h4 hl
  obtain ⟨o1, _⟩ := subR_coord h3 h1
  obtain ⟨o2, _⟩ := subR_coord h4 h2
  have c1 := fun w => raSub_any q.2 p.2 w (good_bd (unitR_good (coordR_unit h4))) (good_bd (unitR_good (coordR_unit h2)))
  have c2 := fun w => raSub_any q.1 p.1 w (good_bd (unitR_good (coordR_unit h3))) (good_bd (unitR_good (coordR_unit h1)))
  have c3 := fun w => raDiv_any (subR q.2 p.2).1 (subR q.1 p.1).1 w (good_bd k2) (good_bd k1) hne
  rw [o2] at c1
  rw [o1] at c2
  rw [o3] at c3
  have hs : slopeR p q = (divR (subR q.2 p.2).1 (subR q.1 p.1).1).1 := rfl
  rw [hs]
  generalize (divR (subR q.2 p.2).1 (subR q.1 p.1).1).1 = S at *
  generalize (subR q.2 p.2).1 = D2 at *
  generalize (subR q.1 p.1).1 = D1 at *
  clear hs o1 o2 o3 k1 k2 hne h1 h2 h3 h4 hl
  obtain ⟨⟨a0, a1⟩, ⟨a2, a3⟩⟩ := p
  obtain ⟨⟨b0, b1⟩, ⟨b2, b3⟩⟩ := q
  obtain ⟨s1, s2⟩ := S
  obtain ⟨d1, d2⟩ := D1
  obtain ⟨d3, d4⟩ := D2
  show Calls _ _ #[.agg #[.int .i64 a0, .int .i64 a1, .int .i64 a2, .int .i64 a3], .agg #[.int .i64 b0, .int .i64 b1, .int .i64 b2, .int .i64 b3]] w (Ret (ratV (s1, s2)) w)
  simp only at c1 c2 c3
  obtain ⟨w1, hw1⟩ : ∃ W, ((w.alloc (.cells #[.int .i64 a0, .int .i64 a1, .int .i64 a2, .int .i64 a3] 48)).alloc (.cells #[.int .i64 b0, .int .i64 b1, .int .i64 b2, .int .i64 b3] 48)).alloc (.cells #[.int .i64 0, .int .i64 0] 42) = W := ⟨_, rfl⟩
  have hB : Below w.heap.size w w1 := by rw [← hw1]; exact (((Below.refl _ _).alloc (Nat.le_refl _) _).alloc (by simp) _).alloc (by simp; omega) _
  have x1 : (w1.cell? ⟨w.heap.size, 0, none⟩ = some (.int .i64 a0) ∧ w1.cell? ⟨w.heap.size, 1, none⟩ = some (.int .i64 a1)) ∧ w1.cell? ⟨w.heap.size, 2, none⟩ = some (.int .i64 a2) ∧ w1.cell? ⟨w.heap.size, 3, none⟩ = some (.int .i64 a3) := by rw [← hw1]; simp [go_sem]
  have x2 : (w1.cell? ⟨w.heap.size + 1, 0, none⟩ = some (.int .i64 b0) ∧ w1.cell? ⟨w.heap.size + 1, 1, none⟩ = some (.int .i64 b1)) ∧ w1.cell? ⟨w.heap.size + 1, 2, none⟩ = some (.int .i64 b2) ∧ w1.cell? ⟨w.heap.size + 1, 3, none⟩ = some (.int .i64 b3) := by rw [← hw1]; simp [go_sem]
  have y0 : w1.cell? ⟨w.heap.size + 1 + 1, 0, none⟩ = some (.int .i64 0) := by rw [← hw1]; simp [go_sem]
  have y1 : w1.cell? ⟨w.heap.size + 1 + 1, 1, none⟩ = some (.int .i64 0) := by rw [← hw1]; simp [go_sem]
  have y2 : w1.frozen? ⟨w.heap.size + 1 + 1, 0, none⟩ = false := by rw [← hw1]; simp [go_sem]
  have y3 : w1.frozen? ⟨w.heap.size + 1 + 1, 1, none⟩ = false := by rw [← hw1]; simp [go_sem]
  obtain ⟨⟨e0, e1⟩, e2, e3⟩ := x1
  obtain ⟨⟨g0, g1⟩, g2, g3⟩ := x2
  have c1' := Lib.hid c1
  have c2' := Lib.hid c2
  have c3' := Lib.hid c3
  have hw1' := Lib.hid hw1
  clear c1 c2 c3 hw1
  go_enter Tryz.func61, Tryz.ntmps61
  go_wp2_with fail
  rw [hw1'.out]
  go_wp2_with fail
  refine (c1'.out _).mono ?_
  rintro e w2 ⟨rfl, hB2⟩
  have hk2 : Below w1.heap.size w1 (w2.alloc (.cells #[.int .i64 d3, .int .i64 d4] 42)) := hB2.alloc hB2.size _
  have t0 : (w2.alloc (.cells #[.int .i64 d3, .int .i64 d4] 42)).cell? ⟨w2.heap.size, 0, none⟩ = some (.int .i64 d3) := by simp [go_sem]
  have t1 : (w2.alloc (.cells #[.int .i64 d3, .int .i64 d4] 42)).cell? ⟨w2.heap.size, 1, none⟩ = some (.int .i64 d4) := by simp [go_sem]
  have m0 := bkeep hk2 e0
  have m1 := bkeep hk2 e1
  have m2 := bkeep hk2 g0
  have m3 := bkeep hk2 g1
  have ht0 := Lib.hid t0
  have ht1 := Lib.hid t1
  clear e0 e1 e2 e3 g0 g1 g2 g3 hB2 t0 t1
  go_wp2_with fail
  refine (c2'.out _).mono ?_
  rintro e w3 ⟨rfl, hB3⟩
  have hk3 := hk2.trans (hB3.mono hk2.size)
  have hk3' : Below (w2.alloc (.cells #[.int .i64 d3, .int .i64 d4] 42)).heap.size (w2.alloc (.cells #[.int .i64 d3, .int .i64 d4] 42)) (w3.alloc (.cells #[.int .i64 d1, .int .i64 d2] 42)) := hB3.alloc hB3.size _
  have n0 := bkeep hk3' ht0.out
  have n1 := bkeep hk3' ht1.out
  have hk4' := hk3.alloc hk3.size (.cells #[.int .i64 d1, .int .i64 d2] 42)
  clear m0 m1 m2 m3 ht0 ht1 hk3' hB3 hk2 hk3
  go_wp2_with fail
  refine (c3'.out _).mono ?_
  rintro e w4 ⟨rfl, hB4⟩
  have hk4 := hk4'.trans (hB4.mono hk4'.size)
  have hb4 := hB.trans (hk4.mono hB.size)
  have q0 := bkeep hk4 y0
  have q1 := bkeep hk4 y1
  have q2 := gfrozen (bgrow hk4 none) y0 y2 (by simp)
  have q3 := gfrozen (bgrow hk4 none) y1 y3 (by simp)
  have hlt : w.heap.size + 1 + 1 < w4.heap.size := by
    have := World.block_lt_of_cell? _ _ q0
    exact this
  have hzz : w.heap.size + 1 + 1 ≠ w4.heap.size := by omega
  clear y0 y1 y2 y3 n0 n1 hB4 hk4' hk4 hB
  have hBf : Below w.heap.size w (((w4.setCell ⟨w.heap.size + 1 + 1, 0, none⟩ (.int .i64 s1)).setCell ⟨w.heap.size + 1 + 1, 1, none⟩ (.int .i64 s2)).alloc (.cells #[.int .i64 s1, .int .i64 s2] 42)) :=
    ((hb4.setCell (p := ⟨w.heap.size + 1 + 1, 0, none⟩) (by show w.heap.size ≤ w.heap.size + 1 + 1; omega) _).setCell (p := ⟨w.heap.size + 1 + 1, 1, none⟩) (by show w.heap.size ≤ w.heap.size + 1 + 1; omega) _).alloc (by simp [World.setCell]; exact hb4.size) _
  obtain ⟨W4, hW4⟩ : ∃ W, (w4.setCell ⟨w.heap.size + 1 + 1, 0, none⟩ (.int .i64 s1)).setCell ⟨w.heap.size + 1 + 1, 1, none⟩ (.int .i64 s2) = W := ⟨_, rfl⟩
  have r0 : W4.cell? ⟨w.heap.size + 1 + 1, 0, none⟩ = some (.int .i64 s1) := by rw [← hW4]; simp [go_sem, q0]
  have r1 : W4.cell? ⟨w.heap.size + 1 + 1, 1, none⟩ = some (.int .i64 s2) := by rw [← hW4]; simp [go_sem, q1]
  have f0 := bkeep ((Below.refl W4.heap.size W4).alloc (Nat.le_refl _) (.cells #[.int .i64 s1, .int .i64 s2] 42)) r0
  have f1 := bkeep ((Below.refl W4.heap.size W4).alloc (Nat.le_refl _) (.cells #[.int .i64 s1, .int .i64 s2] 42)) r1
  rw [← hW4] at f0 f1
  have a0' := bkeep ((Below.refl w4.heap.size w4).alloc (Nat.le_refl _) (.cells #[.int .i64 s1, .int .i64 s2] 42)) q0
  have a1' := bkeep ((Below.refl w4.heap.size w4).alloc (Nat.le_refl _) (.cells #[.int .i64 s1, .int .i64 s2] 42)) q1
  have a2' := gfrozen (bgrow ((Below.refl w4.heap.size w4).alloc (Nat.le_refl _) (.cells #[.int .i64 s1, .int .i64 s2] 42)) none) q0 q2 (by simp)
  have a3' := gfrozen (bgrow ((Below.refl w4.heap.size w4).alloc (Nat.le_refl _) (.cells #[.int .i64 s1, .int .i64 s2] 42)) none) q1 q3 (by simp)
  have f0' := Lib.hid f0
  have f1' := Lib.hid f1
  clear hW4 r0 r1 f0 f1
  have hBf' := Lib.hid hBf
  clear hBf
  go_wp2
  exact bodyPost_ret (v := ratV (s1, s2)) (by simp [results, Tryz.results61, go_sem, f0'.out, f1'.out, ratV]) rfl ⟨rfl, hBf'.out⟩

theorem raMake_zero (x : Int) (w : World) : Calls Tryz.prog 76 #[.int .i64 x, .int .i64 0] w (Ret (.tuple #[ratV (0, 0), .bool false]) w) := by
  have hB : Below w.heap.size w (w.alloc (.cells #[.int .i64 0, .int .i64 0] 42)) := (Below.refl _ _).alloc (Nat.le_refl _) _
  go_enter Tryz.func76, Tryz.ntmps76
  go_wp2
  exact bodyPost_ret (v := .tuple #[ratV (0, 0), .bool false]) (by simp [results, Tryz.results76, go_sem, ratV]) rfl ⟨rfl, hB⟩
theorem raMul_zero (s : Int × Int) (w : World) : Calls Tryz.prog 63 #[.agg #[.int .i64 0, .int .i64 0], .agg #[.int .i64 s.1, .int .i64 s.2]] w (Ret (.tuple #[ratV (0, 0), .bool false]) w) := by
  obtain ⟨n', d'⟩ := s
  show Calls _ _ #[_, .agg #[.int .i64 n', .int .i64 d']] w _
  have c1 := fun w => raMake_zero 0 w
  have hB : Below w.heap.size w (((w.alloc (.cells #[.int .i64 0, .int .i64 0] 42)).alloc (.cells #[.int .i64 n', .int .i64 d'] 42)).alloc (.cells #[.int .i64 0, .int .i64 0] 42)) :=
    (((Below.refl _ _).alloc (Nat.le_refl _) _).alloc (by simp) _).alloc (by simp; omega) _
  have c1' := Lib.hid c1
  clear c1
  go_enter Tryz.func63, Tryz.ntmps63
  go_wp2_with fail
  refine (c1'.out _).mono ?_
  rintro e w1 ⟨rfl, hB1⟩
  obtain ⟨hc1, hf1⟩ := bcell hB1
  have hz1 : w.heap.size + 1 + 1 < w1.heap.size := by have := hB1.size; simp at this; omega
  have hB2 := hB.trans (hB1.mono hB.size)
  have q0 : w1.cell? ⟨w.heap.size + 1 + 1, 0, none⟩ = some (.int .i64 0) := by rw [hc1 _ _ (by simp)]; simp [go_sem]
  have q1 : w1.cell? ⟨w.heap.size + 1 + 1, 1, none⟩ = some (.int .i64 0) := by rw [hc1 _ _ (by simp)]; simp [go_sem]
  have q2 : w1.frozen? ⟨w.heap.size + 1 + 1, 0, none⟩ = false := by rw [hf1 _ _ (by simp)]; simp [go_sem]
  have q3 : w1.frozen? ⟨w.heap.size + 1 + 1, 1, none⟩ = false := by rw [hf1 _ _ (by simp)]; simp [go_sem]
  clear hB hB1 hc1 hf1
  go_wp2
  refine bodyPost_ret (v := .tuple #[ratV (0, 0), .bool false]) (by simp [results, Tryz.results63, go_sem, q0, q1, ratV]) rfl ⟨rfl, ?_⟩
  exact (hB2.setCell (p := ⟨w.heap.size + 1 + 1, 0, none⟩) (by show w.heap.size ≤ w.heap.size + 1 + 1; omega) _).setCell (p := ⟨w.heap.size + 1 + 1, 1, none⟩) (by show w.heap.size ≤ w.heap.size + 1 + 1; omega) _

/-- The value of the line through two points. -/
def onR (p q : Quad) (x : Int × Int) : (Int × Int) × Bool := if lineOk p (slopeR p q) x = true then (lineZ p (slopeR p q) x, true) else ((0, 0), false)
theorem mkR_bad {x y : Int} (h : (mkR x y).2 = false) : (mkR x y).1 = (0, 0) := by
  unfold mkR at h ⊢
  split
  · rename_i hg; rw [if_pos hg] at h; cases h
  · rfl
theorem onR_bad1 {p q : Quad} {x : Int × Int} (h : (subR x p.1).2 = false) : onR p q x = ((0, 0), false) := by
  unfold onR lineOk; rw [h]; simp
theorem onR_bad2 {p q : Quad} {x : Int × Int} (h1 : (subR x p.1).2 = true) (h : (mulR (subR x p.1).1 (slopeR p q)).2 = false) : onR p q x = ((0, 0), false) := by
  unfold onR lineOk
  rw [orZ_ok h1, mulR_comm, h]; simp
theorem onR_ok {p q : Quad} {x : Int × Int} (h1 : (subR x p.1).2 = true) (h2 : (mulR (subR x p.1).1 (slopeR p q)).2 = true) : onR p q x = addR p.2 (mulR (subR x p.1).1 (slopeR p q)).1 := by
  unfold onR lineOk lineZ
  rw [orZ_ok h1, mulR_comm, orZ_ok h2, h1, h2]
  simp only [Bool.true_and]
  cases h3 : (addR p.2 (mulR (subR x p.1).1 (slopeR p q)).1).2
  · rw [if_neg (by decide)]
    have := mkR_bad h3
    unfold addR at h3 ⊢
    ext1
    · exact this.symm
    · exact h3.symm
  · rw [if_pos rfl, orZ_ok h3, ← h3]

end Go.Proofs.YtjkgilenhoomoaaGreat

namespace Go.Proofs.YtjkgilenhoomoaaGreat
open Go.RowKit
set_option maxRecDepth 100000

theorem new_cells {E : Nat} {w W : World} {u v : Value} {T : TypeId} (_h : Below E w (W.alloc (.cells #[u, v] T))) : (W.alloc (.cells #[u, v] T)).cell? ⟨W.heap.size, 0, none⟩ = some u ∧ (W.alloc (.cells #[u, v] T)).cell? ⟨W.heap.size, 1, none⟩ = some v ∧ (W.alloc (.cells #[u, v] T)).frozen? ⟨W.heap.size, 0, none⟩ = false ∧ (W.alloc (.cells #[u, v] T)).frozen? ⟨W.heap.size, 1, none⟩ = false := by simp [go_sem]

set_option linter.unusedSimpArgs false in
set_option linter.unusedVariables false in
set_option maxHeartbeats 4000000 in
theorem imOn_coreA (a0 a1 a2 a3 b0 b1 b2 b3 x0 x1 f0 f1 s0 s1 m0 m1 r0 r1 : Int) (r2 : Bool) (w : World)
    (c1 : ∀ w, Calls Tryz.prog 59 #[.agg #[.int .i64 x0, .int .i64 x1], .agg #[.int .i64 a0, .int .i64 a1]] w (Ret (.tuple #[ratV (f0, f1), .bool false]) w))
    (c2 : ∀ w, Calls Tryz.prog 61 #[.agg #[.int .i64 a0, .int .i64 a1, .int .i64 a2, .int .i64 a3], .agg #[.int .i64 b0, .int .i64 b1, .int .i64 b2, .int .i64 b3]] w (Ret (ratV (s0, s1)) w))
    (c3 : ∀ w, Calls Tryz.prog 63 #[.agg #[.int .i64 f0, .int .i64 f1], .agg #[.int .i64 s0, .int .i64 s1]] w (Ret (.tuple #[ratV (m0, m1), .bool false]) w))
    (c4 : false = true → ∀ w, Calls Tryz.prog 62 #[.agg #[.int .i64 a2, .int .i64 a3], .agg #[.int .i64 m0, .int .i64 m1]] w (Ret (.tuple #[ratV (r0, r1), .bool r2]) w))
    (hr : false = false → r0 = 0 ∧ r1 = 0 ∧ r2 = false) :
    Calls Tryz.prog 48 #[.agg #[.int .i64 a0, .int .i64 a1, .int .i64 a2, .int .i64 a3], .agg #[.int .i64 b0, .int .i64 b1, .int .i64 b2, .int .i64 b3], .agg #[.int .i64 x0, .int .i64 x1]] w (Ret (.tuple #[ratV (r0, r1), .bool r2]) w) := by
  obtain ⟨w1, hw1⟩ : ∃ W, (((w.alloc (.cells #[.int .i64 a0, .int .i64 a1, .int .i64 a2, .int .i64 a3] 48)).alloc (.cells #[.int .i64 b0, .int .i64 b1, .int .i64 b2, .int .i64 b3] 48)).alloc (.cells #[.int .i64 x0, .int .i64 x1] 42)).alloc (.cells #[.int .i64 0, .int .i64 0] 42) = W := ⟨_, rfl⟩
  have hB : Below w.heap.size w w1 := by rw [← hw1]; exact ((((Below.refl _ _).alloc (Nat.le_refl _) _).alloc (by simp) _).alloc (by simp; omega) _).alloc (by simp; omega) _
  have u1 : w1.cell? ⟨w.heap.size, 0, none⟩ = some (.int .i64 a0) ∧ w1.cell? ⟨w.heap.size, 1, none⟩ = some (.int .i64 a1) ∧ w1.cell? ⟨w.heap.size, 2, none⟩ = some (.int .i64 a2) ∧ w1.cell? ⟨w.heap.size, 3, none⟩ = some (.int .i64 a3) := by rw [← hw1]; simp [go_sem]
  have u2 : w1.cell? ⟨w.heap.size + 1, 0, none⟩ = some (.int .i64 b0) ∧ w1.cell? ⟨w.heap.size + 1, 1, none⟩ = some (.int .i64 b1) ∧ w1.cell? ⟨w.heap.size + 1, 2, none⟩ = some (.int .i64 b2) ∧ w1.cell? ⟨w.heap.size + 1, 3, none⟩ = some (.int .i64 b3) := by rw [← hw1]; simp [go_sem]
  have t0 : w1.cell? ⟨w.heap.size + 1 + 1, 0, none⟩ = some (.int .i64 x0) := by rw [← hw1]; simp [go_sem]
  have t1 : w1.cell? ⟨w.heap.size + 1 + 1, 1, none⟩ = some (.int .i64 x1) := by rw [← hw1]; simp [go_sem]
  have y0 : w1.cell? ⟨w.heap.size + 1 + 1 + 1, 0, none⟩ = some (.int .i64 0) := by rw [← hw1]; simp [go_sem]
  have y1 : w1.cell? ⟨w.heap.size + 1 + 1 + 1, 1, none⟩ = some (.int .i64 0) := by rw [← hw1]; simp [go_sem]
  have y2 : w1.frozen? ⟨w.heap.size + 1 + 1 + 1, 0, none⟩ = false := by rw [← hw1]; simp [go_sem]
  have y3 : w1.frozen? ⟨w.heap.size + 1 + 1 + 1, 1, none⟩ = false := by rw [← hw1]; simp [go_sem]
  have e0 := u1.1
  have e1 := u1.2.1
  have c1' := Lib.hid c1
  have c2' := Lib.hid c2
  have c3' := Lib.hid c3
  have c4' := Lib.hid c4
  have hw1' := Lib.hid hw1
  have u1' := Lib.hid u1
  have u2' := Lib.hid u2
  have hr' := Lib.hid hr
  clear c1 c2 c3 c4 hw1 u1 u2 hr
  go_enter Tryz.func48, Tryz.ntmps48
  go_wp2_with fail
  rw [hw1'.out]
  go_wp2_with fail
  refine (c1'.out _).mono ?_
  rintro e w2 ⟨rfl, hB2⟩
  obtain ⟨v2, hv2⟩ : ∃ W, w2.alloc (.cells #[.int .i64 f0, .int .i64 f1] 42) = W := ⟨_, rfl⟩
  have hk2 : Below w1.heap.size w1 v2 := by rw [← hv2]; exact hB2.alloc hB2.size _
  have g0 : v2.cell? ⟨w2.heap.size, 0, none⟩ = some (.int .i64 f0) := by rw [← hv2]; simp [go_sem]
  have g1 : v2.cell? ⟨w2.heap.size, 1, none⟩ = some (.int .i64 f1) := by rw [← hv2]; simp [go_sem]
  have at' : ∀ w', Below v2.heap.size v2 w' → ((w'.cell? ⟨w.heap.size, 0, none⟩ = some (.int .i64 a0) ∧ w'.cell? ⟨w.heap.size, 1, none⟩ = some (.int .i64 a1) ∧ w'.cell? ⟨w.heap.size, 2, none⟩ = some (.int .i64 a2) ∧ w'.cell? ⟨w.heap.size, 3, none⟩ = some (.int .i64 a3)) ∧ w'.cell? ⟨w.heap.size + 1, 0, none⟩ = some (.int .i64 b0) ∧ w'.cell? ⟨w.heap.size + 1, 1, none⟩ = some (.int .i64 b1) ∧ w'.cell? ⟨w.heap.size + 1, 2, none⟩ = some (.int .i64 b2) ∧ w'.cell? ⟨w.heap.size + 1, 3, none⟩ = some (.int .i64 b3)) ∧ w'.cell? ⟨w2.heap.size, 0, none⟩ = some (.int .i64 f0) ∧ w'.cell? ⟨w2.heap.size, 1, none⟩ = some (.int .i64 f1) :=
    fun w' h => by
      have hk := hk2.trans (h.mono hk2.size)
      exact ⟨⟨⟨bkeep hk u1'.out.1, bkeep hk u1'.out.2.1, bkeep hk u1'.out.2.2.1, bkeep hk u1'.out.2.2.2⟩, bkeep hk u2'.out.1, bkeep hk u2'.out.2.1, bkeep hk u2'.out.2.2.1, bkeep hk u2'.out.2.2.2⟩, bkeep h g0, bkeep h g1⟩
  have hd := (Below.refl v2.heap.size v2).drew
  clear e0 e1 t0 t1 g0 g1 hB2
  have hv2' := Lib.hid hv2
  have at'' := Lib.hid at'
  clear hv2 at'
  go_wp2_with fail
  rw [hv2'.out]
  refine wp_region_held_drew (S := (fun w' => Below v2.heap.size v2 w' ∧ ((w'.cell? ⟨w.heap.size, 0, none⟩ = some (.int .i64 a0) ∧ w'.cell? ⟨w.heap.size, 1, none⟩ = some (.int .i64 a1) ∧ w'.cell? ⟨w.heap.size, 2, none⟩ = some (.int .i64 a2) ∧ w'.cell? ⟨w.heap.size, 3, none⟩ = some (.int .i64 a3)) ∧ w'.cell? ⟨w.heap.size + 1, 0, none⟩ = some (.int .i64 b0) ∧ w'.cell? ⟨w.heap.size + 1, 1, none⟩ = some (.int .i64 b1) ∧ w'.cell? ⟨w.heap.size + 1, 2, none⟩ = some (.int .i64 b2) ∧ w'.cell? ⟨w.heap.size + 1, 3, none⟩ = some (.int .i64 b3)) ∧ w'.cell? ⟨w2.heap.size, 0, none⟩ = some (.int .i64 f0) ∧ w'.cell? ⟨w2.heap.size, 1, none⟩ = some (.int .i64 f1))) (by kernel_rfl) (by (try dsimp only); (first | exact ⟨hd, at''.out _ hd⟩ | exact ⟨hdp.alloc hdp.size _, at''.out _ (hdp.alloc hdp.size _)⟩ | exact ⟨(hd.setCell (p := ⟨_, 0, none⟩) hlow _).setCell (p := ⟨_, 1, none⟩) hlow _, at''.out _ ((hd.setCell (p := ⟨_, 0, none⟩) hlow _).setCell (p := ⟨_, 1, none⟩) hlow _)⟩)) (fun hHeld => ?_)
  refine ly_q 0 (v := ?_) hHeld ?_
  try simp only [Act.put, lyA, lyB, lyC]
  refine ly_q 1 (v := ?_) hHeld ?_
  try simp only [Act.put, lyA, lyB, lyC]
  refine ly_q 2 (v := ?_) hHeld ?_
  try simp only [Act.put, lyA, lyB, lyC]
  refine wpAnyH_ready (rs := [3, 8]) (by kernel_rfl) (by simp) ?_
  refine AllReadyH.cons (o := Oper.mk _ _ _ _ _ _) rfl (fun KK hKK => ?_) (AllReadyH.cons (o := Oper.mk _ _ _ _ _ _) rfl (fun KK hKK => ?_) (AllReadyH.nil))
  · rw [if_pos (by kernel_rfl)]
    go_simp
    refine (c2'.out _).mono ?_
    rintro e w3 ⟨rfl, hB3⟩
    replace hd := hd.trans (hB3.mono hd.size)
    (try replace n2 := gfrozen (bgrow hB3 none) n0 n2 (by simp))
    (try replace n3 := gfrozen (bgrow hB3 none) n1 n3 (by simp))
    (try replace n0 := bkeep hB3 n0)
    (try replace n1 := bkeep hB3 n1)
    try dsimp only
    refine hKK.out _ _ (by (try dsimp only); (first | exact ⟨hd, at''.out _ hd⟩ | exact ⟨hdp.alloc hdp.size _, at''.out _ (hdp.alloc hdp.size _)⟩ | exact ⟨(hd.setCell (p := ⟨_, 0, none⟩) hlow _).setCell (p := ⟨_, 1, none⟩) hlow _, at''.out _ ((hd.setCell (p := ⟨_, 0, none⟩) hlow _).setCell (p := ⟨_, 1, none⟩) hlow _)⟩)) (fun hHeld => ?_)
    clear hKK KK
    try simp only [Act.put, lyA, lyB, lyC]
    refine wpAnyH_ready (rs := [4, 8]) (by kernel_rfl) (by simp) ?_
    refine AllReadyH.cons (o := Oper.mk _ _ _ _ _ _) rfl (fun KK hKK => ?_) (AllReadyH.cons (o := Oper.mk _ _ _ _ _ _) rfl (fun KK hKK => ?_) (AllReadyH.nil))
    · rw [if_pos (by kernel_rfl)]
      go_simp
      refine (c3'.out _).mono ?_
      rintro e w4 ⟨rfl, hB4⟩
      replace hd := hd.trans (hB4.mono hd.size)
      (try replace n2 := gfrozen (bgrow hB4 none) n0 n2 (by simp))
      (try replace n3 := gfrozen (bgrow hB4 none) n1 n3 (by simp))
      (try replace n0 := bkeep hB4 n0)
      (try replace n1 := bkeep hB4 n1)
      try dsimp only
      refine hKK.out _ _ (by (try dsimp only); (first | exact ⟨hd, at''.out _ hd⟩ | exact ⟨hdp.alloc hdp.size _, at''.out _ (hdp.alloc hdp.size _)⟩ | exact ⟨(hd.setCell (p := ⟨_, 0, none⟩) hlow _).setCell (p := ⟨_, 1, none⟩) hlow _, at''.out _ ((hd.setCell (p := ⟨_, 0, none⟩) hlow _).setCell (p := ⟨_, 1, none⟩) hlow _)⟩)) (fun hHeld => ?_)
      clear hKK KK
      try simp only [Act.put, lyA, lyB, lyC]
      refine ly_q 5 (v := ?_) hHeld ?_
      try simp only [Act.put, lyA, lyB, lyC]
      refine ly_q 6 (v := ?_) hHeld ?_
      try simp only [Act.put, lyA, lyB, lyC]
      refine ly_q 7 (v := ?_) hHeld ?_
      try simp only [Act.put, lyA, lyB, lyC]
      refine ly_a 8 (fun KK hKK => ?_)
      go_simp
      have hdp := hd
      have hlow := hd.size
      replace hd := hd.alloc hd.size (.cells #[.int .i64 0, .int .i64 0] 42)
      obtain ⟨n0, n1, n2, n3⟩ := new_cells hd
      (try change World.cell? _ ⟨v2.heap.size, 0, none⟩ = _ at n0)
      (try change World.cell? _ ⟨v2.heap.size, 1, none⟩ = _ at n1)
      (try change World.frozen? _ ⟨v2.heap.size, 0, none⟩ = _ at n2)
      (try change World.frozen? _ ⟨v2.heap.size, 1, none⟩ = _ at n3)
      try dsimp only
      refine hKK.out _ _ (by (try dsimp only); (first | exact ⟨hd, at''.out _ hd⟩ | exact ⟨hdp.alloc hdp.size _, at''.out _ (hdp.alloc hdp.size _)⟩ | exact ⟨(hd.setCell (p := ⟨_, 0, none⟩) hlow _).setCell (p := ⟨_, 1, none⟩) hlow _, at''.out _ ((hd.setCell (p := ⟨_, 0, none⟩) hlow _).setCell (p := ⟨_, 1, none⟩) hlow _)⟩)) (fun hHeld => ?_)
      clear hKK KK
      try simp only [Act.put, lyA, lyB, lyC]
      refine ly_a 9 (fun KK hKK => ?_)
      go_simp
      skip
      try dsimp only
      refine hKK.out _ _ (by (try dsimp only); (first | exact ⟨hd, at''.out _ hd⟩ | exact ⟨hdp.alloc hdp.size _, at''.out _ (hdp.alloc hdp.size _)⟩ | exact ⟨(hd.setCell (p := ⟨_, 0, none⟩) hlow _).setCell (p := ⟨_, 1, none⟩) hlow _, at''.out _ ((hd.setCell (p := ⟨_, 0, none⟩) hlow _).setCell (p := ⟨_, 1, none⟩) hlow _)⟩)) (fun hHeld => ?_)
      clear hKK KK
      try simp only [Act.put, lyA, lyB, lyC]
      refine ly_q 10 (v := ?_) hHeld ?_
      try simp only [Act.put, lyA, lyB, lyC]
      refine wpAnyH_done (by kernel_rfl) ?_ _
      obtain ⟨hdV, _⟩ := hHeld
      have hk5 := hk2.trans (hdV.mono hk2.size)
      have hb5 := hB.trans (hk5.mono hB.size)
      have p2 := bkeep hk5 u1'.out.2.2.1
      have p3 := bkeep hk5 u1'.out.2.2.2
      have q0 := bkeep hk5 y0
      have q1 := bkeep hk5 y1
      have q2 := gfrozen (bgrow hk5 none) y0 y2 (by simp)
      have q3 := gfrozen (bgrow hk5 none) y1 y3 (by simp)
      clear y0 y1 y2 y3 hk2 hk5 hdV
      have hset : ∀ (W : World), Below w.heap.size w W → ∀ z0 z1, Below w.heap.size w ((W.setCell ⟨w.heap.size + 1 + 1 + 1, 0, none⟩ z0).setCell ⟨w.heap.size + 1 + 1 + 1, 1, none⟩ z1) := fun W h z0 z1 =>
        (h.setCell (p := ⟨w.heap.size + 1 + 1 + 1, 0, none⟩) (by show w.heap.size ≤ w.heap.size + 1 + 1 + 1; omega) _).setCell (p := ⟨w.heap.size + 1 + 1 + 1, 1, none⟩) (by show w.heap.size ≤ w.heap.size + 1 + 1 + 1; omega) _
      have hset' := Lib.hid hset
      clear hset
      first
        | (obtain ⟨rfl, rfl, rfl⟩ := hr'.out (by simp)
           go_wp2
           exact bodyPost_ret (v := .tuple #[ratV (0, 0), .bool false]) (by simp [results, Tryz.results48, go_sem, q0, q1, ratV]) rfl ⟨rfl, hset'.out _ hb5 _ _⟩)
        | (have c5 := c4'.out (by simp)
           clear c4'
           have c5' := Lib.hid c5
           clear c5
           go_wp2_with fail
           refine (c5'.out _).mono ?_
           rintro e w6 ⟨rfl, hB6⟩
           have hb6 := hb5.trans (hB6.mono hb5.size)
           have h0 := bkeep hB6 q0
           have h1 := bkeep hB6 q1
           have h2 := gfrozen (bgrow hB6 none) q0 q2 (by simp)
           have h3 := gfrozen (bgrow hB6 none) q1 q3 (by simp)
           clear q0 q1 q2 q3 p2 p3 hB6
           go_wp2
           exact bodyPost_ret (v := .tuple #[ratV (r0, r1), .bool r2]) (by simp [results, Tryz.results48, go_sem, h0, h1, ratV]) rfl ⟨rfl, hset'.out _ hb6 _ _⟩)
    · rw [if_pos (by kernel_rfl)]
      go_simp
      have hdp := hd
      have hlow := hd.size
      replace hd := hd.alloc hd.size (.cells #[.int .i64 0, .int .i64 0] 42)
      obtain ⟨n0, n1, n2, n3⟩ := new_cells hd
      (try change World.cell? _ ⟨v2.heap.size, 0, none⟩ = _ at n0)
      (try change World.cell? _ ⟨v2.heap.size, 1, none⟩ = _ at n1)
      (try change World.frozen? _ ⟨v2.heap.size, 0, none⟩ = _ at n2)
      (try change World.frozen? _ ⟨v2.heap.size, 1, none⟩ = _ at n3)
      try dsimp only
      refine hKK.out _ _ (by (try dsimp only); (first | exact ⟨hd, at''.out _ hd⟩ | exact ⟨hdp.alloc hdp.size _, at''.out _ (hdp.alloc hdp.size _)⟩ | exact ⟨(hd.setCell (p := ⟨_, 0, none⟩) hlow _).setCell (p := ⟨_, 1, none⟩) hlow _, at''.out _ ((hd.setCell (p := ⟨_, 0, none⟩) hlow _).setCell (p := ⟨_, 1, none⟩) hlow _)⟩)) (fun hHeld => ?_)
      clear hKK KK
      try simp only [Act.put, lyA, lyB, lyC]
      refine ly_a 4 (fun KK hKK => ?_)
      go_simp
      refine (c3'.out _).mono ?_
      rintro e w4 ⟨rfl, hB4⟩
      replace hd := hd.trans (hB4.mono hd.size)
      (try replace n2 := gfrozen (bgrow hB4 none) n0 n2 (by simp))
      (try replace n3 := gfrozen (bgrow hB4 none) n1 n3 (by simp))
      (try replace n0 := bkeep hB4 n0)
      (try replace n1 := bkeep hB4 n1)
      try dsimp only
      refine hKK.out _ _ (by (try dsimp only); (first | exact ⟨hd, at''.out _ hd⟩ | exact ⟨hdp.alloc hdp.size _, at''.out _ (hdp.alloc hdp.size _)⟩ | exact ⟨(hd.setCell (p := ⟨_, 0, none⟩) hlow _).setCell (p := ⟨_, 1, none⟩) hlow _, at''.out _ ((hd.setCell (p := ⟨_, 0, none⟩) hlow _).setCell (p := ⟨_, 1, none⟩) hlow _)⟩)) (fun hHeld => ?_)
      clear hKK KK
      try simp only [Act.put, lyA, lyB, lyC]
      refine ly_q 5 (v := ?_) hHeld ?_
      try simp only [Act.put, lyA, lyB, lyC]
      refine ly_q 6 (v := ?_) hHeld ?_
      try simp only [Act.put, lyA, lyB, lyC]
      refine ly_q 7 (v := ?_) hHeld ?_
      try simp only [Act.put, lyA, lyB, lyC]
      refine ly_a 9 (fun KK hKK => ?_)
      go_simp
      skip
      try dsimp only
      refine hKK.out _ _ (by (try dsimp only); (first | exact ⟨hd, at''.out _ hd⟩ | exact ⟨hdp.alloc hdp.size _, at''.out _ (hdp.alloc hdp.size _)⟩ | exact ⟨(hd.setCell (p := ⟨_, 0, none⟩) hlow _).setCell (p := ⟨_, 1, none⟩) hlow _, at''.out _ ((hd.setCell (p := ⟨_, 0, none⟩) hlow _).setCell (p := ⟨_, 1, none⟩) hlow _)⟩)) (fun hHeld => ?_)
      clear hKK KK
      try simp only [Act.put, lyA, lyB, lyC]
      refine ly_q 10 (v := ?_) hHeld ?_
      try simp only [Act.put, lyA, lyB, lyC]
      refine wpAnyH_done (by kernel_rfl) ?_ _
      obtain ⟨hdV, _⟩ := hHeld
      have hk5 := hk2.trans (hdV.mono hk2.size)
      have hb5 := hB.trans (hk5.mono hB.size)
      have p2 := bkeep hk5 u1'.out.2.2.1
      have p3 := bkeep hk5 u1'.out.2.2.2
      have q0 := bkeep hk5 y0
      have q1 := bkeep hk5 y1
      have q2 := gfrozen (bgrow hk5 none) y0 y2 (by simp)
      have q3 := gfrozen (bgrow hk5 none) y1 y3 (by simp)
      clear y0 y1 y2 y3 hk2 hk5 hdV
      have hset : ∀ (W : World), Below w.heap.size w W → ∀ z0 z1, Below w.heap.size w ((W.setCell ⟨w.heap.size + 1 + 1 + 1, 0, none⟩ z0).setCell ⟨w.heap.size + 1 + 1 + 1, 1, none⟩ z1) := fun W h z0 z1 =>
        (h.setCell (p := ⟨w.heap.size + 1 + 1 + 1, 0, none⟩) (by show w.heap.size ≤ w.heap.size + 1 + 1 + 1; omega) _).setCell (p := ⟨w.heap.size + 1 + 1 + 1, 1, none⟩) (by show w.heap.size ≤ w.heap.size + 1 + 1 + 1; omega) _
      have hset' := Lib.hid hset
      clear hset
      first
        | (obtain ⟨rfl, rfl, rfl⟩ := hr'.out (by simp)
           go_wp2
           exact bodyPost_ret (v := .tuple #[ratV (0, 0), .bool false]) (by simp [results, Tryz.results48, go_sem, q0, q1, ratV]) rfl ⟨rfl, hset'.out _ hb5 _ _⟩)
        | (have c5 := c4'.out (by simp)
           clear c4'
           have c5' := Lib.hid c5
           clear c5
           go_wp2_with fail
           refine (c5'.out _).mono ?_
           rintro e w6 ⟨rfl, hB6⟩
           have hb6 := hb5.trans (hB6.mono hb5.size)
           have h0 := bkeep hB6 q0
           have h1 := bkeep hB6 q1
           have h2 := gfrozen (bgrow hB6 none) q0 q2 (by simp)
           have h3 := gfrozen (bgrow hB6 none) q1 q3 (by simp)
           clear q0 q1 q2 q3 p2 p3 hB6
           go_wp2
           exact bodyPost_ret (v := .tuple #[ratV (r0, r1), .bool r2]) (by simp [results, Tryz.results48, go_sem, h0, h1, ratV]) rfl ⟨rfl, hset'.out _ hb6 _ _⟩)
  · rw [if_pos (by kernel_rfl)]
    go_simp
    have hdp := hd
    have hlow := hd.size
    replace hd := hd.alloc hd.size (.cells #[.int .i64 0, .int .i64 0] 42)
    obtain ⟨n0, n1, n2, n3⟩ := new_cells hd
    (try change World.cell? _ ⟨v2.heap.size, 0, none⟩ = _ at n0)
    (try change World.cell? _ ⟨v2.heap.size, 1, none⟩ = _ at n1)
    (try change World.frozen? _ ⟨v2.heap.size, 0, none⟩ = _ at n2)
    (try change World.frozen? _ ⟨v2.heap.size, 1, none⟩ = _ at n3)
    try dsimp only
    refine hKK.out _ _ (by (try dsimp only); (first | exact ⟨hd, at''.out _ hd⟩ | exact ⟨hdp.alloc hdp.size _, at''.out _ (hdp.alloc hdp.size _)⟩ | exact ⟨(hd.setCell (p := ⟨_, 0, none⟩) hlow _).setCell (p := ⟨_, 1, none⟩) hlow _, at''.out _ ((hd.setCell (p := ⟨_, 0, none⟩) hlow _).setCell (p := ⟨_, 1, none⟩) hlow _)⟩)) (fun hHeld => ?_)
    clear hKK KK
    try simp only [Act.put, lyA, lyB, lyC]
    refine ly_a 3 (fun KK hKK => ?_)
    go_simp
    refine (c2'.out _).mono ?_
    rintro e w3 ⟨rfl, hB3⟩
    replace hd := hd.trans (hB3.mono hd.size)
    (try replace n2 := gfrozen (bgrow hB3 none) n0 n2 (by simp))
    (try replace n3 := gfrozen (bgrow hB3 none) n1 n3 (by simp))
    (try replace n0 := bkeep hB3 n0)
    (try replace n1 := bkeep hB3 n1)
    try dsimp only
    refine hKK.out _ _ (by (try dsimp only); (first | exact ⟨hd, at''.out _ hd⟩ | exact ⟨hdp.alloc hdp.size _, at''.out _ (hdp.alloc hdp.size _)⟩ | exact ⟨(hd.setCell (p := ⟨_, 0, none⟩) hlow _).setCell (p := ⟨_, 1, none⟩) hlow _, at''.out _ ((hd.setCell (p := ⟨_, 0, none⟩) hlow _).setCell (p := ⟨_, 1, none⟩) hlow _)⟩)) (fun hHeld => ?_)
    clear hKK KK
    try simp only [Act.put, lyA, lyB, lyC]
    refine ly_a 4 (fun KK hKK => ?_)
    go_simp
    refine (c3'.out _).mono ?_
    rintro e w4 ⟨rfl, hB4⟩
    replace hd := hd.trans (hB4.mono hd.size)
    (try replace n2 := gfrozen (bgrow hB4 none) n0 n2 (by simp))
    (try replace n3 := gfrozen (bgrow hB4 none) n1 n3 (by simp))
    (try replace n0 := bkeep hB4 n0)
    (try replace n1 := bkeep hB4 n1)
    try dsimp only
    refine hKK.out _ _ (by (try dsimp only); (first | exact ⟨hd, at''.out _ hd⟩ | exact ⟨hdp.alloc hdp.size _, at''.out _ (hdp.alloc hdp.size _)⟩ | exact ⟨(hd.setCell (p := ⟨_, 0, none⟩) hlow _).setCell (p := ⟨_, 1, none⟩) hlow _, at''.out _ ((hd.setCell (p := ⟨_, 0, none⟩) hlow _).setCell (p := ⟨_, 1, none⟩) hlow _)⟩)) (fun hHeld => ?_)
    clear hKK KK
    try simp only [Act.put, lyA, lyB, lyC]
    refine ly_q 5 (v := ?_) hHeld ?_
    try simp only [Act.put, lyA, lyB, lyC]
    refine ly_q 6 (v := ?_) hHeld ?_
    try simp only [Act.put, lyA, lyB, lyC]
    refine ly_q 7 (v := ?_) hHeld ?_
    try simp only [Act.put, lyA, lyB, lyC]
    refine ly_a 9 (fun KK hKK => ?_)
    go_simp
    skip
    try dsimp only
    refine hKK.out _ _ (by (try dsimp only); (first | exact ⟨hd, at''.out _ hd⟩ | exact ⟨hdp.alloc hdp.size _, at''.out _ (hdp.alloc hdp.size _)⟩ | exact ⟨(hd.setCell (p := ⟨_, 0, none⟩) hlow _).setCell (p := ⟨_, 1, none⟩) hlow _, at''.out _ ((hd.setCell (p := ⟨_, 0, none⟩) hlow _).setCell (p := ⟨_, 1, none⟩) hlow _)⟩)) (fun hHeld => ?_)
    clear hKK KK
    try simp only [Act.put, lyA, lyB, lyC]
    refine ly_q 10 (v := ?_) hHeld ?_
    try simp only [Act.put, lyA, lyB, lyC]
    refine wpAnyH_done (by kernel_rfl) ?_ _
    obtain ⟨hdV, _⟩ := hHeld
    have hk5 := hk2.trans (hdV.mono hk2.size)
    have hb5 := hB.trans (hk5.mono hB.size)
    have p2 := bkeep hk5 u1'.out.2.2.1
    have p3 := bkeep hk5 u1'.out.2.2.2
    have q0 := bkeep hk5 y0
    have q1 := bkeep hk5 y1
    have q2 := gfrozen (bgrow hk5 none) y0 y2 (by simp)
    have q3 := gfrozen (bgrow hk5 none) y1 y3 (by simp)
    clear y0 y1 y2 y3 hk2 hk5 hdV
    have hset : ∀ (W : World), Below w.heap.size w W → ∀ z0 z1, Below w.heap.size w ((W.setCell ⟨w.heap.size + 1 + 1 + 1, 0, none⟩ z0).setCell ⟨w.heap.size + 1 + 1 + 1, 1, none⟩ z1) := fun W h z0 z1 =>
      (h.setCell (p := ⟨w.heap.size + 1 + 1 + 1, 0, none⟩) (by show w.heap.size ≤ w.heap.size + 1 + 1 + 1; omega) _).setCell (p := ⟨w.heap.size + 1 + 1 + 1, 1, none⟩) (by show w.heap.size ≤ w.heap.size + 1 + 1 + 1; omega) _
    have hset' := Lib.hid hset
    clear hset
    first
      | (obtain ⟨rfl, rfl, rfl⟩ := hr'.out (by simp)
         go_wp2
         exact bodyPost_ret (v := .tuple #[ratV (0, 0), .bool false]) (by simp [results, Tryz.results48, go_sem, q0, q1, ratV]) rfl ⟨rfl, hset'.out _ hb5 _ _⟩)
      | (have c5 := c4'.out (by simp)
         clear c4'
         have c5' := Lib.hid c5
         clear c5
         go_wp2_with fail
         refine (c5'.out _).mono ?_
         rintro e w6 ⟨rfl, hB6⟩
         have hb6 := hb5.trans (hB6.mono hb5.size)
         have h0 := bkeep hB6 q0
         have h1 := bkeep hB6 q1
         have h2 := gfrozen (bgrow hB6 none) q0 q2 (by simp)
         have h3 := gfrozen (bgrow hB6 none) q1 q3 (by simp)
         clear q0 q1 q2 q3 p2 p3 hB6
         go_wp2
         exact bodyPost_ret (v := .tuple #[ratV (r0, r1), .bool r2]) (by simp [results, Tryz.results48, go_sem, h0, h1, ratV]) rfl ⟨rfl, hset'.out _ hb6 _ _⟩)
set_option linter.unusedSimpArgs false in
set_option linter.unusedVariables false in
set_option maxHeartbeats 4000000 in
theorem imOn_coreB (a0 a1 a2 a3 b0 b1 b2 b3 x0 x1 f0 f1 s0 s1 m0 m1 r0 r1 : Int) (r2 : Bool) (w : World)
    (c1 : ∀ w, Calls Tryz.prog 59 #[.agg #[.int .i64 x0, .int .i64 x1], .agg #[.int .i64 a0, .int .i64 a1]] w (Ret (.tuple #[ratV (f0, f1), .bool true]) w))
    (c2 : ∀ w, Calls Tryz.prog 61 #[.agg #[.int .i64 a0, .int .i64 a1, .int .i64 a2, .int .i64 a3], .agg #[.int .i64 b0, .int .i64 b1, .int .i64 b2, .int .i64 b3]] w (Ret (ratV (s0, s1)) w))
    (c3 : ∀ w, Calls Tryz.prog 63 #[.agg #[.int .i64 f0, .int .i64 f1], .agg #[.int .i64 s0, .int .i64 s1]] w (Ret (.tuple #[ratV (m0, m1), .bool false]) w))
    (c4 : false = true → ∀ w, Calls Tryz.prog 62 #[.agg #[.int .i64 a2, .int .i64 a3], .agg #[.int .i64 m0, .int .i64 m1]] w (Ret (.tuple #[ratV (r0, r1), .bool r2]) w))
    (hr : false = false → r0 = 0 ∧ r1 = 0 ∧ r2 = false) :
    Calls Tryz.prog 48 #[.agg #[.int .i64 a0, .int .i64 a1, .int .i64 a2, .int .i64 a3], .agg #[.int .i64 b0, .int .i64 b1, .int .i64 b2, .int .i64 b3], .agg #[.int .i64 x0, .int .i64 x1]] w (Ret (.tuple #[ratV (r0, r1), .bool r2]) w) := by
  obtain ⟨w1, hw1⟩ : ∃ W, (((w.alloc (.cells #[.int .i64 a0, .int .i64 a1, .int .i64 a2, .int .i64 a3] 48)).alloc (.cells #[.int .i64 b0, .int .i64 b1, .int .i64 b2, .int .i64 b3] 48)).alloc (.cells #[.int .i64 x0, .int .i64 x1] 42)).alloc (.cells #[.int .i64 0, .int .i64 0] 42) = W := ⟨_, rfl⟩
  have hB : Below w.heap.size w w1 := by rw [← hw1]; exact ((((Below.refl _ _).alloc (Nat.le_refl _) _).alloc (by simp) _).alloc (by simp; omega) _).alloc (by simp; omega) _
  have u1 : w1.cell? ⟨w.heap.size, 0, none⟩ = some (.int .i64 a0) ∧ w1.cell? ⟨w.heap.size, 1, none⟩ = some (.int .i64 a1) ∧ w1.cell? ⟨w.heap.size, 2, none⟩ = some (.int .i64 a2) ∧ w1.cell? ⟨w.heap.size, 3, none⟩ = some (.int .i64 a3) := by rw [← hw1]; simp [go_sem]
  have u2 : w1.cell? ⟨w.heap.size + 1, 0, none⟩ = some (.int .i64 b0) ∧ w1.cell? ⟨w.heap.size + 1, 1, none⟩ = some (.int .i64 b1) ∧ w1.cell? ⟨w.heap.size + 1, 2, none⟩ = some (.int .i64 b2) ∧ w1.cell? ⟨w.heap.size + 1, 3, none⟩ = some (.int .i64 b3) := by rw [← hw1]; simp [go_sem]
  have t0 : w1.cell? ⟨w.heap.size + 1 + 1, 0, none⟩ = some (.int .i64 x0) := by rw [← hw1]; simp [go_sem]
  have t1 : w1.cell? ⟨w.heap.size + 1 + 1, 1, none⟩ = some (.int .i64 x1) := by rw [← hw1]; simp [go_sem]
  have y0 : w1.cell? ⟨w.heap.size + 1 + 1 + 1, 0, none⟩ = some (.int .i64 0) := by rw [← hw1]; simp [go_sem]
  have y1 : w1.cell? ⟨w.heap.size + 1 + 1 + 1, 1, none⟩ = some (.int .i64 0) := by rw [← hw1]; simp [go_sem]
  have y2 : w1.frozen? ⟨w.heap.size + 1 + 1 + 1, 0, none⟩ = false := by rw [← hw1]; simp [go_sem]
  have y3 : w1.frozen? ⟨w.heap.size + 1 + 1 + 1, 1, none⟩ = false := by rw [← hw1]; simp [go_sem]
  have e0 := u1.1
  have e1 := u1.2.1
  have c1' := Lib.hid c1
  have c2' := Lib.hid c2
  have c3' := Lib.hid c3
  have c4' := Lib.hid c4
  have hw1' := Lib.hid hw1
  have u1' := Lib.hid u1
  have u2' := Lib.hid u2
  have hr' := Lib.hid hr
  clear c1 c2 c3 c4 hw1 u1 u2 hr
  go_enter Tryz.func48, Tryz.ntmps48
  go_wp2_with fail
  rw [hw1'.out]
  go_wp2_with fail
  refine (c1'.out _).mono ?_
  rintro e w2 ⟨rfl, hB2⟩
  obtain ⟨v2, hv2⟩ : ∃ W, w2.alloc (.cells #[.int .i64 f0, .int .i64 f1] 42) = W := ⟨_, rfl⟩
  have hk2 : Below w1.heap.size w1 v2 := by rw [← hv2]; exact hB2.alloc hB2.size _
  have g0 : v2.cell? ⟨w2.heap.size, 0, none⟩ = some (.int .i64 f0) := by rw [← hv2]; simp [go_sem]
  have g1 : v2.cell? ⟨w2.heap.size, 1, none⟩ = some (.int .i64 f1) := by rw [← hv2]; simp [go_sem]
  have at' : ∀ w', Below v2.heap.size v2 w' → ((w'.cell? ⟨w.heap.size, 0, none⟩ = some (.int .i64 a0) ∧ w'.cell? ⟨w.heap.size, 1, none⟩ = some (.int .i64 a1) ∧ w'.cell? ⟨w.heap.size, 2, none⟩ = some (.int .i64 a2) ∧ w'.cell? ⟨w.heap.size, 3, none⟩ = some (.int .i64 a3)) ∧ w'.cell? ⟨w.heap.size + 1, 0, none⟩ = some (.int .i64 b0) ∧ w'.cell? ⟨w.heap.size + 1, 1, none⟩ = some (.int .i64 b1) ∧ w'.cell? ⟨w.heap.size + 1, 2, none⟩ = some (.int .i64 b2) ∧ w'.cell? ⟨w.heap.size + 1, 3, none⟩ = some (.int .i64 b3)) ∧ w'.cell? ⟨w2.heap.size, 0, none⟩ = some (.int .i64 f0) ∧ w'.cell? ⟨w2.heap.size, 1, none⟩ = some (.int .i64 f1) :=
    fun w' h => by
      have hk := hk2.trans (h.mono hk2.size)
      exact ⟨⟨⟨bkeep hk u1'.out.1, bkeep hk u1'.out.2.1, bkeep hk u1'.out.2.2.1, bkeep hk u1'.out.2.2.2⟩, bkeep hk u2'.out.1, bkeep hk u2'.out.2.1, bkeep hk u2'.out.2.2.1, bkeep hk u2'.out.2.2.2⟩, bkeep h g0, bkeep h g1⟩
  have hd := (Below.refl v2.heap.size v2).drew
  clear e0 e1 t0 t1 g0 g1 hB2
  have hv2' := Lib.hid hv2
  have at'' := Lib.hid at'
  clear hv2 at'
  go_wp2_with fail
  rw [hv2'.out]
  refine wp_region_held_drew (S := (fun w' => Below v2.heap.size v2 w' ∧ ((w'.cell? ⟨w.heap.size, 0, none⟩ = some (.int .i64 a0) ∧ w'.cell? ⟨w.heap.size, 1, none⟩ = some (.int .i64 a1) ∧ w'.cell? ⟨w.heap.size, 2, none⟩ = some (.int .i64 a2) ∧ w'.cell? ⟨w.heap.size, 3, none⟩ = some (.int .i64 a3)) ∧ w'.cell? ⟨w.heap.size + 1, 0, none⟩ = some (.int .i64 b0) ∧ w'.cell? ⟨w.heap.size + 1, 1, none⟩ = some (.int .i64 b1) ∧ w'.cell? ⟨w.heap.size + 1, 2, none⟩ = some (.int .i64 b2) ∧ w'.cell? ⟨w.heap.size + 1, 3, none⟩ = some (.int .i64 b3)) ∧ w'.cell? ⟨w2.heap.size, 0, none⟩ = some (.int .i64 f0) ∧ w'.cell? ⟨w2.heap.size, 1, none⟩ = some (.int .i64 f1))) (by kernel_rfl) (by (try dsimp only); (first | exact ⟨hd, at''.out _ hd⟩ | exact ⟨hdp.alloc hdp.size _, at''.out _ (hdp.alloc hdp.size _)⟩ | exact ⟨(hd.setCell (p := ⟨_, 0, none⟩) hlow _).setCell (p := ⟨_, 1, none⟩) hlow _, at''.out _ ((hd.setCell (p := ⟨_, 0, none⟩) hlow _).setCell (p := ⟨_, 1, none⟩) hlow _)⟩)) (fun hHeld => ?_)
  refine ly_q 0 (v := ?_) hHeld ?_
  try simp only [Act.put, lyA, lyB, lyC]
  refine ly_q 1 (v := ?_) hHeld ?_
  try simp only [Act.put, lyA, lyB, lyC]
  refine ly_q 2 (v := ?_) hHeld ?_
  try simp only [Act.put, lyA, lyB, lyC]
  refine wpAnyH_ready (rs := [3, 8]) (by kernel_rfl) (by simp) ?_
  refine AllReadyH.cons (o := Oper.mk _ _ _ _ _ _) rfl (fun KK hKK => ?_) (AllReadyH.cons (o := Oper.mk _ _ _ _ _ _) rfl (fun KK hKK => ?_) (AllReadyH.nil))
  · rw [if_pos (by kernel_rfl)]
    go_simp
    refine (c2'.out _).mono ?_
    rintro e w3 ⟨rfl, hB3⟩
    replace hd := hd.trans (hB3.mono hd.size)
    (try replace n2 := gfrozen (bgrow hB3 none) n0 n2 (by simp))
    (try replace n3 := gfrozen (bgrow hB3 none) n1 n3 (by simp))
    (try replace n0 := bkeep hB3 n0)
    (try replace n1 := bkeep hB3 n1)
    try dsimp only
    refine hKK.out _ _ (by (try dsimp only); (first | exact ⟨hd, at''.out _ hd⟩ | exact ⟨hdp.alloc hdp.size _, at''.out _ (hdp.alloc hdp.size _)⟩ | exact ⟨(hd.setCell (p := ⟨_, 0, none⟩) hlow _).setCell (p := ⟨_, 1, none⟩) hlow _, at''.out _ ((hd.setCell (p := ⟨_, 0, none⟩) hlow _).setCell (p := ⟨_, 1, none⟩) hlow _)⟩)) (fun hHeld => ?_)
    clear hKK KK
    try simp only [Act.put, lyA, lyB, lyC]
    refine wpAnyH_ready (rs := [4, 8]) (by kernel_rfl) (by simp) ?_
    refine AllReadyH.cons (o := Oper.mk _ _ _ _ _ _) rfl (fun KK hKK => ?_) (AllReadyH.cons (o := Oper.mk _ _ _ _ _ _) rfl (fun KK hKK => ?_) (AllReadyH.nil))
    · rw [if_pos (by kernel_rfl)]
      go_simp
      refine (c3'.out _).mono ?_
      rintro e w4 ⟨rfl, hB4⟩
      replace hd := hd.trans (hB4.mono hd.size)
      (try replace n2 := gfrozen (bgrow hB4 none) n0 n2 (by simp))
      (try replace n3 := gfrozen (bgrow hB4 none) n1 n3 (by simp))
      (try replace n0 := bkeep hB4 n0)
      (try replace n1 := bkeep hB4 n1)
      try dsimp only
      refine hKK.out _ _ (by (try dsimp only); (first | exact ⟨hd, at''.out _ hd⟩ | exact ⟨hdp.alloc hdp.size _, at''.out _ (hdp.alloc hdp.size _)⟩ | exact ⟨(hd.setCell (p := ⟨_, 0, none⟩) hlow _).setCell (p := ⟨_, 1, none⟩) hlow _, at''.out _ ((hd.setCell (p := ⟨_, 0, none⟩) hlow _).setCell (p := ⟨_, 1, none⟩) hlow _)⟩)) (fun hHeld => ?_)
      clear hKK KK
      try simp only [Act.put, lyA, lyB, lyC]
      refine ly_q 5 (v := ?_) hHeld ?_
      try simp only [Act.put, lyA, lyB, lyC]
      refine ly_q 6 (v := ?_) hHeld ?_
      try simp only [Act.put, lyA, lyB, lyC]
      refine ly_q 7 (v := ?_) hHeld ?_
      try simp only [Act.put, lyA, lyB, lyC]
      refine ly_a 8 (fun KK hKK => ?_)
      go_simp
      have hdp := hd
      have hlow := hd.size
      replace hd := hd.alloc hd.size (.cells #[.int .i64 0, .int .i64 0] 42)
      obtain ⟨n0, n1, n2, n3⟩ := new_cells hd
      (try change World.cell? _ ⟨v2.heap.size, 0, none⟩ = _ at n0)
      (try change World.cell? _ ⟨v2.heap.size, 1, none⟩ = _ at n1)
      (try change World.frozen? _ ⟨v2.heap.size, 0, none⟩ = _ at n2)
      (try change World.frozen? _ ⟨v2.heap.size, 1, none⟩ = _ at n3)
      try dsimp only
      refine hKK.out _ _ (by (try dsimp only); (first | exact ⟨hd, at''.out _ hd⟩ | exact ⟨hdp.alloc hdp.size _, at''.out _ (hdp.alloc hdp.size _)⟩ | exact ⟨(hd.setCell (p := ⟨_, 0, none⟩) hlow _).setCell (p := ⟨_, 1, none⟩) hlow _, at''.out _ ((hd.setCell (p := ⟨_, 0, none⟩) hlow _).setCell (p := ⟨_, 1, none⟩) hlow _)⟩)) (fun hHeld => ?_)
      clear hKK KK
      try simp only [Act.put, lyA, lyB, lyC]
      refine ly_a 9 (fun KK hKK => ?_)
      go_simp
      skip
      try dsimp only
      refine hKK.out _ _ (by (try dsimp only); (first | exact ⟨hd, at''.out _ hd⟩ | exact ⟨hdp.alloc hdp.size _, at''.out _ (hdp.alloc hdp.size _)⟩ | exact ⟨(hd.setCell (p := ⟨_, 0, none⟩) hlow _).setCell (p := ⟨_, 1, none⟩) hlow _, at''.out _ ((hd.setCell (p := ⟨_, 0, none⟩) hlow _).setCell (p := ⟨_, 1, none⟩) hlow _)⟩)) (fun hHeld => ?_)
      clear hKK KK
      try simp only [Act.put, lyA, lyB, lyC]
      refine ly_q 10 (v := ?_) hHeld ?_
      try simp only [Act.put, lyA, lyB, lyC]
      refine wpAnyH_done (by kernel_rfl) ?_ _
      obtain ⟨hdV, _⟩ := hHeld
      have hk5 := hk2.trans (hdV.mono hk2.size)
      have hb5 := hB.trans (hk5.mono hB.size)
      have p2 := bkeep hk5 u1'.out.2.2.1
      have p3 := bkeep hk5 u1'.out.2.2.2
      have q0 := bkeep hk5 y0
      have q1 := bkeep hk5 y1
      have q2 := gfrozen (bgrow hk5 none) y0 y2 (by simp)
      have q3 := gfrozen (bgrow hk5 none) y1 y3 (by simp)
      clear y0 y1 y2 y3 hk2 hk5 hdV
      have hset : ∀ (W : World), Below w.heap.size w W → ∀ z0 z1, Below w.heap.size w ((W.setCell ⟨w.heap.size + 1 + 1 + 1, 0, none⟩ z0).setCell ⟨w.heap.size + 1 + 1 + 1, 1, none⟩ z1) := fun W h z0 z1 =>
        (h.setCell (p := ⟨w.heap.size + 1 + 1 + 1, 0, none⟩) (by show w.heap.size ≤ w.heap.size + 1 + 1 + 1; omega) _).setCell (p := ⟨w.heap.size + 1 + 1 + 1, 1, none⟩) (by show w.heap.size ≤ w.heap.size + 1 + 1 + 1; omega) _
      have hset' := Lib.hid hset
      clear hset
      first
        | (obtain ⟨rfl, rfl, rfl⟩ := hr'.out (by simp)
           go_wp2
           exact bodyPost_ret (v := .tuple #[ratV (0, 0), .bool false]) (by simp [results, Tryz.results48, go_sem, q0, q1, ratV]) rfl ⟨rfl, hset'.out _ hb5 _ _⟩)
        | (have c5 := c4'.out (by simp)
           clear c4'
           have c5' := Lib.hid c5
           clear c5
           go_wp2_with fail
           refine (c5'.out _).mono ?_
           rintro e w6 ⟨rfl, hB6⟩
           have hb6 := hb5.trans (hB6.mono hb5.size)
           have h0 := bkeep hB6 q0
           have h1 := bkeep hB6 q1
           have h2 := gfrozen (bgrow hB6 none) q0 q2 (by simp)
           have h3 := gfrozen (bgrow hB6 none) q1 q3 (by simp)
           clear q0 q1 q2 q3 p2 p3 hB6
           go_wp2
           exact bodyPost_ret (v := .tuple #[ratV (r0, r1), .bool r2]) (by simp [results, Tryz.results48, go_sem, h0, h1, ratV]) rfl ⟨rfl, hset'.out _ hb6 _ _⟩)
    · rw [if_pos (by kernel_rfl)]
      go_simp
      have hdp := hd
      have hlow := hd.size
      replace hd := hd.alloc hd.size (.cells #[.int .i64 0, .int .i64 0] 42)
      obtain ⟨n0, n1, n2, n3⟩ := new_cells hd
      (try change World.cell? _ ⟨v2.heap.size, 0, none⟩ = _ at n0)
      (try change World.cell? _ ⟨v2.heap.size, 1, none⟩ = _ at n1)
      (try change World.frozen? _ ⟨v2.heap.size, 0, none⟩ = _ at n2)
      (try change World.frozen? _ ⟨v2.heap.size, 1, none⟩ = _ at n3)
      try dsimp only
      refine hKK.out _ _ (by (try dsimp only); (first | exact ⟨hd, at''.out _ hd⟩ | exact ⟨hdp.alloc hdp.size _, at''.out _ (hdp.alloc hdp.size _)⟩ | exact ⟨(hd.setCell (p := ⟨_, 0, none⟩) hlow _).setCell (p := ⟨_, 1, none⟩) hlow _, at''.out _ ((hd.setCell (p := ⟨_, 0, none⟩) hlow _).setCell (p := ⟨_, 1, none⟩) hlow _)⟩)) (fun hHeld => ?_)
      clear hKK KK
      try simp only [Act.put, lyA, lyB, lyC]
      refine ly_a 4 (fun KK hKK => ?_)
      go_simp
      refine (c3'.out _).mono ?_
      rintro e w4 ⟨rfl, hB4⟩
      replace hd := hd.trans (hB4.mono hd.size)
      (try replace n2 := gfrozen (bgrow hB4 none) n0 n2 (by simp))
      (try replace n3 := gfrozen (bgrow hB4 none) n1 n3 (by simp))
      (try replace n0 := bkeep hB4 n0)
      (try replace n1 := bkeep hB4 n1)
      try dsimp only
      refine hKK.out _ _ (by (try dsimp only); (first | exact ⟨hd, at''.out _ hd⟩ | exact ⟨hdp.alloc hdp.size _, at''.out _ (hdp.alloc hdp.size _)⟩ | exact ⟨(hd.setCell (p := ⟨_, 0, none⟩) hlow _).setCell (p := ⟨_, 1, none⟩) hlow _, at''.out _ ((hd.setCell (p := ⟨_, 0, none⟩) hlow _).setCell (p := ⟨_, 1, none⟩) hlow _)⟩)) (fun hHeld => ?_)
      clear hKK KK
      try simp only [Act.put, lyA, lyB, lyC]
      refine ly_q 5 (v := ?_) hHeld ?_
      try simp only [Act.put, lyA, lyB, lyC]
      refine ly_q 6 (v := ?_) hHeld ?_
      try simp only [Act.put, lyA, lyB, lyC]
      refine ly_q 7 (v := ?_) hHeld ?_
      try simp only [Act.put, lyA, lyB, lyC]
      refine ly_a 9 (fun KK hKK => ?_)
      go_simp
      skip
      try dsimp only
      refine hKK.out _ _ (by (try dsimp only); (first | exact ⟨hd, at''.out _ hd⟩ | exact ⟨hdp.alloc hdp.size _, at''.out _ (hdp.alloc hdp.size _)⟩ | exact ⟨(hd.setCell (p := ⟨_, 0, none⟩) hlow _).setCell (p := ⟨_, 1, none⟩) hlow _, at''.out _ ((hd.setCell (p := ⟨_, 0, none⟩) hlow _).setCell (p := ⟨_, 1, none⟩) hlow _)⟩)) (fun hHeld => ?_)
      clear hKK KK
      try simp only [Act.put, lyA, lyB, lyC]
      refine ly_q 10 (v := ?_) hHeld ?_
      try simp only [Act.put, lyA, lyB, lyC]
      refine wpAnyH_done (by kernel_rfl) ?_ _
      obtain ⟨hdV, _⟩ := hHeld
      have hk5 := hk2.trans (hdV.mono hk2.size)
      have hb5 := hB.trans (hk5.mono hB.size)
      have p2 := bkeep hk5 u1'.out.2.2.1
      have p3 := bkeep hk5 u1'.out.2.2.2
      have q0 := bkeep hk5 y0
      have q1 := bkeep hk5 y1
      have q2 := gfrozen (bgrow hk5 none) y0 y2 (by simp)
      have q3 := gfrozen (bgrow hk5 none) y1 y3 (by simp)
      clear y0 y1 y2 y3 hk2 hk5 hdV
      have hset : ∀ (W : World), Below w.heap.size w W → ∀ z0 z1, Below w.heap.size w ((W.setCell ⟨w.heap.size + 1 + 1 + 1, 0, none⟩ z0).setCell ⟨w.heap.size + 1 + 1 + 1, 1, none⟩ z1) := fun W h z0 z1 =>
        (h.setCell (p := ⟨w.heap.size + 1 + 1 + 1, 0, none⟩) (by show w.heap.size ≤ w.heap.size + 1 + 1 + 1; omega) _).setCell (p := ⟨w.heap.size + 1 + 1 + 1, 1, none⟩) (by show w.heap.size ≤ w.heap.size + 1 + 1 + 1; omega) _
      have hset' := Lib.hid hset
      clear hset
      first
        | (obtain ⟨rfl, rfl, rfl⟩ := hr'.out (by simp)
           go_wp2
           exact bodyPost_ret (v := .tuple #[ratV (0, 0), .bool false]) (by simp [results, Tryz.results48, go_sem, q0, q1, ratV]) rfl ⟨rfl, hset'.out _ hb5 _ _⟩)
        | (have c5 := c4'.out (by simp)
           clear c4'
           have c5' := Lib.hid c5
           clear c5
           go_wp2_with fail
           refine (c5'.out _).mono ?_
           rintro e w6 ⟨rfl, hB6⟩
           have hb6 := hb5.trans (hB6.mono hb5.size)
           have h0 := bkeep hB6 q0
           have h1 := bkeep hB6 q1
           have h2 := gfrozen (bgrow hB6 none) q0 q2 (by simp)
           have h3 := gfrozen (bgrow hB6 none) q1 q3 (by simp)
           clear q0 q1 q2 q3 p2 p3 hB6
           go_wp2
           exact bodyPost_ret (v := .tuple #[ratV (r0, r1), .bool r2]) (by simp [results, Tryz.results48, go_sem, h0, h1, ratV]) rfl ⟨rfl, hset'.out _ hb6 _ _⟩)
  · rw [if_pos (by kernel_rfl)]
    go_simp
    have hdp := hd
    have hlow := hd.size
    replace hd := hd.alloc hd.size (.cells #[.int .i64 0, .int .i64 0] 42)
    obtain ⟨n0, n1, n2, n3⟩ := new_cells hd
    (try change World.cell? _ ⟨v2.heap.size, 0, none⟩ = _ at n0)
    (try change World.cell? _ ⟨v2.heap.size, 1, none⟩ = _ at n1)
    (try change World.frozen? _ ⟨v2.heap.size, 0, none⟩ = _ at n2)
    (try change World.frozen? _ ⟨v2.heap.size, 1, none⟩ = _ at n3)
    try dsimp only
    refine hKK.out _ _ (by (try dsimp only); (first | exact ⟨hd, at''.out _ hd⟩ | exact ⟨hdp.alloc hdp.size _, at''.out _ (hdp.alloc hdp.size _)⟩ | exact ⟨(hd.setCell (p := ⟨_, 0, none⟩) hlow _).setCell (p := ⟨_, 1, none⟩) hlow _, at''.out _ ((hd.setCell (p := ⟨_, 0, none⟩) hlow _).setCell (p := ⟨_, 1, none⟩) hlow _)⟩)) (fun hHeld => ?_)
    clear hKK KK
    try simp only [Act.put, lyA, lyB, lyC]
    refine ly_a 3 (fun KK hKK => ?_)
    go_simp
    refine (c2'.out _).mono ?_
    rintro e w3 ⟨rfl, hB3⟩
    replace hd := hd.trans (hB3.mono hd.size)
    (try replace n2 := gfrozen (bgrow hB3 none) n0 n2 (by simp))
    (try replace n3 := gfrozen (bgrow hB3 none) n1 n3 (by simp))
    (try replace n0 := bkeep hB3 n0)
    (try replace n1 := bkeep hB3 n1)
    try dsimp only
    refine hKK.out _ _ (by (try dsimp only); (first | exact ⟨hd, at''.out _ hd⟩ | exact ⟨hdp.alloc hdp.size _, at''.out _ (hdp.alloc hdp.size _)⟩ | exact ⟨(hd.setCell (p := ⟨_, 0, none⟩) hlow _).setCell (p := ⟨_, 1, none⟩) hlow _, at''.out _ ((hd.setCell (p := ⟨_, 0, none⟩) hlow _).setCell (p := ⟨_, 1, none⟩) hlow _)⟩)) (fun hHeld => ?_)
    clear hKK KK
    try simp only [Act.put, lyA, lyB, lyC]
    refine ly_a 4 (fun KK hKK => ?_)
    go_simp
    refine (c3'.out _).mono ?_
    rintro e w4 ⟨rfl, hB4⟩
    replace hd := hd.trans (hB4.mono hd.size)
    (try replace n2 := gfrozen (bgrow hB4 none) n0 n2 (by simp))
    (try replace n3 := gfrozen (bgrow hB4 none) n1 n3 (by simp))
    (try replace n0 := bkeep hB4 n0)
    (try replace n1 := bkeep hB4 n1)
    try dsimp only
    refine hKK.out _ _ (by (try dsimp only); (first | exact ⟨hd, at''.out _ hd⟩ | exact ⟨hdp.alloc hdp.size _, at''.out _ (hdp.alloc hdp.size _)⟩ | exact ⟨(hd.setCell (p := ⟨_, 0, none⟩) hlow _).setCell (p := ⟨_, 1, none⟩) hlow _, at''.out _ ((hd.setCell (p := ⟨_, 0, none⟩) hlow _).setCell (p := ⟨_, 1, none⟩) hlow _)⟩)) (fun hHeld => ?_)
    clear hKK KK
    try simp only [Act.put, lyA, lyB, lyC]
    refine ly_q 5 (v := ?_) hHeld ?_
    try simp only [Act.put, lyA, lyB, lyC]
    refine ly_q 6 (v := ?_) hHeld ?_
    try simp only [Act.put, lyA, lyB, lyC]
    refine ly_q 7 (v := ?_) hHeld ?_
    try simp only [Act.put, lyA, lyB, lyC]
    refine ly_a 9 (fun KK hKK => ?_)
    go_simp
    skip
    try dsimp only
    refine hKK.out _ _ (by (try dsimp only); (first | exact ⟨hd, at''.out _ hd⟩ | exact ⟨hdp.alloc hdp.size _, at''.out _ (hdp.alloc hdp.size _)⟩ | exact ⟨(hd.setCell (p := ⟨_, 0, none⟩) hlow _).setCell (p := ⟨_, 1, none⟩) hlow _, at''.out _ ((hd.setCell (p := ⟨_, 0, none⟩) hlow _).setCell (p := ⟨_, 1, none⟩) hlow _)⟩)) (fun hHeld => ?_)
    clear hKK KK
    try simp only [Act.put, lyA, lyB, lyC]
    refine ly_q 10 (v := ?_) hHeld ?_
    try simp only [Act.put, lyA, lyB, lyC]
    refine wpAnyH_done (by kernel_rfl) ?_ _
    obtain ⟨hdV, _⟩ := hHeld
    have hk5 := hk2.trans (hdV.mono hk2.size)
    have hb5 := hB.trans (hk5.mono hB.size)
    have p2 := bkeep hk5 u1'.out.2.2.1
    have p3 := bkeep hk5 u1'.out.2.2.2
    have q0 := bkeep hk5 y0
    have q1 := bkeep hk5 y1
    have q2 := gfrozen (bgrow hk5 none) y0 y2 (by simp)
    have q3 := gfrozen (bgrow hk5 none) y1 y3 (by simp)
    clear y0 y1 y2 y3 hk2 hk5 hdV
    have hset : ∀ (W : World), Below w.heap.size w W → ∀ z0 z1, Below w.heap.size w ((W.setCell ⟨w.heap.size + 1 + 1 + 1, 0, none⟩ z0).setCell ⟨w.heap.size + 1 + 1 + 1, 1, none⟩ z1) := fun W h z0 z1 =>
      (h.setCell (p := ⟨w.heap.size + 1 + 1 + 1, 0, none⟩) (by show w.heap.size ≤ w.heap.size + 1 + 1 + 1; omega) _).setCell (p := ⟨w.heap.size + 1 + 1 + 1, 1, none⟩) (by show w.heap.size ≤ w.heap.size + 1 + 1 + 1; omega) _
    have hset' := Lib.hid hset
    clear hset
    first
      | (obtain ⟨rfl, rfl, rfl⟩ := hr'.out (by simp)
         go_wp2
         exact bodyPost_ret (v := .tuple #[ratV (0, 0), .bool false]) (by simp [results, Tryz.results48, go_sem, q0, q1, ratV]) rfl ⟨rfl, hset'.out _ hb5 _ _⟩)
      | (have c5 := c4'.out (by simp)
         clear c4'
         have c5' := Lib.hid c5
         clear c5
         go_wp2_with fail
         refine (c5'.out _).mono ?_
         rintro e w6 ⟨rfl, hB6⟩
         have hb6 := hb5.trans (hB6.mono hb5.size)
         have h0 := bkeep hB6 q0
         have h1 := bkeep hB6 q1
         have h2 := gfrozen (bgrow hB6 none) q0 q2 (by simp)
         have h3 := gfrozen (bgrow hB6 none) q1 q3 (by simp)
         clear q0 q1 q2 q3 p2 p3 hB6
         go_wp2
         exact bodyPost_ret (v := .tuple #[ratV (r0, r1), .bool r2]) (by simp [results, Tryz.results48, go_sem, h0, h1, ratV]) rfl ⟨rfl, hset'.out _ hb6 _ _⟩)
set_option linter.unusedSimpArgs false in
set_option linter.unusedVariables false in
set_option maxHeartbeats 4000000 in
theorem imOn_coreC (a0 a1 a2 a3 b0 b1 b2 b3 x0 x1 f0 f1 s0 s1 m0 m1 r0 r1 : Int) (r2 : Bool) (w : World)
    (c1 : ∀ w, Calls Tryz.prog 59 #[.agg #[.int .i64 x0, .int .i64 x1], .agg #[.int .i64 a0, .int .i64 a1]] w (Ret (.tuple #[ratV (f0, f1), .bool true]) w))
    (c2 : ∀ w, Calls Tryz.prog 61 #[.agg #[.int .i64 a0, .int .i64 a1, .int .i64 a2, .int .i64 a3], .agg #[.int .i64 b0, .int .i64 b1, .int .i64 b2, .int .i64 b3]] w (Ret (ratV (s0, s1)) w))
    (c3 : ∀ w, Calls Tryz.prog 63 #[.agg #[.int .i64 f0, .int .i64 f1], .agg #[.int .i64 s0, .int .i64 s1]] w (Ret (.tuple #[ratV (m0, m1), .bool true]) w))
    (c4 : true = true → ∀ w, Calls Tryz.prog 62 #[.agg #[.int .i64 a2, .int .i64 a3], .agg #[.int .i64 m0, .int .i64 m1]] w (Ret (.tuple #[ratV (r0, r1), .bool r2]) w))
    (hr : true = false → r0 = 0 ∧ r1 = 0 ∧ r2 = false) :
    Calls Tryz.prog 48 #[.agg #[.int .i64 a0, .int .i64 a1, .int .i64 a2, .int .i64 a3], .agg #[.int .i64 b0, .int .i64 b1, .int .i64 b2, .int .i64 b3], .agg #[.int .i64 x0, .int .i64 x1]] w (Ret (.tuple #[ratV (r0, r1), .bool r2]) w) := by
  obtain ⟨w1, hw1⟩ : ∃ W, (((w.alloc (.cells #[.int .i64 a0, .int .i64 a1, .int .i64 a2, .int .i64 a3] 48)).alloc (.cells #[.int .i64 b0, .int .i64 b1, .int .i64 b2, .int .i64 b3] 48)).alloc (.cells #[.int .i64 x0, .int .i64 x1] 42)).alloc (.cells #[.int .i64 0, .int .i64 0] 42) = W := ⟨_, rfl⟩
  have hB : Below w.heap.size w w1 := by rw [← hw1]; exact ((((Below.refl _ _).alloc (Nat.le_refl _) _).alloc (by simp) _).alloc (by simp; omega) _).alloc (by simp; omega) _
  have u1 : w1.cell? ⟨w.heap.size, 0, none⟩ = some (.int .i64 a0) ∧ w1.cell? ⟨w.heap.size, 1, none⟩ = some (.int .i64 a1) ∧ w1.cell? ⟨w.heap.size, 2, none⟩ = some (.int .i64 a2) ∧ w1.cell? ⟨w.heap.size, 3, none⟩ = some (.int .i64 a3) := by rw [← hw1]; simp [go_sem]
  have u2 : w1.cell? ⟨w.heap.size + 1, 0, none⟩ = some (.int .i64 b0) ∧ w1.cell? ⟨w.heap.size + 1, 1, none⟩ = some (.int .i64 b1) ∧ w1.cell? ⟨w.heap.size + 1, 2, none⟩ = some (.int .i64 b2) ∧ w1.cell? ⟨w.heap.size + 1, 3, none⟩ = some (.int .i64 b3) := by rw [← hw1]; simp [go_sem]
  have t0 : w1.cell? ⟨w.heap.size + 1 + 1, 0, none⟩ = some (.int .i64 x0) := by rw [← hw1]; simp [go_sem]
  have t1 : w1.cell? ⟨w.heap.size + 1 + 1, 1, none⟩ = some (.int .i64 x1) := by rw [← hw1]; simp [go_sem]
  have y0 : w1.cell? ⟨w.heap.size + 1 + 1 + 1, 0, none⟩ = some (.int .i64 0) := by rw [← hw1]; simp [go_sem]
  have y1 : w1.cell? ⟨w.heap.size + 1 + 1 + 1, 1, none⟩ = some (.int .i64 0) := by rw [← hw1]; simp [go_sem]
  have y2 : w1.frozen? ⟨w.heap.size + 1 + 1 + 1, 0, none⟩ = false := by rw [← hw1]; simp [go_sem]
  have y3 : w1.frozen? ⟨w.heap.size + 1 + 1 + 1, 1, none⟩ = false := by rw [← hw1]; simp [go_sem]
  have e0 := u1.1
  have e1 := u1.2.1
  have c1' := Lib.hid c1
  have c2' := Lib.hid c2
  have c3' := Lib.hid c3
  have c4' := Lib.hid c4
  have hw1' := Lib.hid hw1
  have u1' := Lib.hid u1
  have u2' := Lib.hid u2
  have hr' := Lib.hid hr
  clear c1 c2 c3 c4 hw1 u1 u2 hr
  go_enter Tryz.func48, Tryz.ntmps48
  go_wp2_with fail
  rw [hw1'.out]
  go_wp2_with fail
  refine (c1'.out _).mono ?_
  rintro e w2 ⟨rfl, hB2⟩
  obtain ⟨v2, hv2⟩ : ∃ W, w2.alloc (.cells #[.int .i64 f0, .int .i64 f1] 42) = W := ⟨_, rfl⟩
  have hk2 : Below w1.heap.size w1 v2 := by rw [← hv2]; exact hB2.alloc hB2.size _
  have g0 : v2.cell? ⟨w2.heap.size, 0, none⟩ = some (.int .i64 f0) := by rw [← hv2]; simp [go_sem]
  have g1 : v2.cell? ⟨w2.heap.size, 1, none⟩ = some (.int .i64 f1) := by rw [← hv2]; simp [go_sem]
  have at' : ∀ w', Below v2.heap.size v2 w' → ((w'.cell? ⟨w.heap.size, 0, none⟩ = some (.int .i64 a0) ∧ w'.cell? ⟨w.heap.size, 1, none⟩ = some (.int .i64 a1) ∧ w'.cell? ⟨w.heap.size, 2, none⟩ = some (.int .i64 a2) ∧ w'.cell? ⟨w.heap.size, 3, none⟩ = some (.int .i64 a3)) ∧ w'.cell? ⟨w.heap.size + 1, 0, none⟩ = some (.int .i64 b0) ∧ w'.cell? ⟨w.heap.size + 1, 1, none⟩ = some (.int .i64 b1) ∧ w'.cell? ⟨w.heap.size + 1, 2, none⟩ = some (.int .i64 b2) ∧ w'.cell? ⟨w.heap.size + 1, 3, none⟩ = some (.int .i64 b3)) ∧ w'.cell? ⟨w2.heap.size, 0, none⟩ = some (.int .i64 f0) ∧ w'.cell? ⟨w2.heap.size, 1, none⟩ = some (.int .i64 f1) :=
    fun w' h => by
      have hk := hk2.trans (h.mono hk2.size)
      exact ⟨⟨⟨bkeep hk u1'.out.1, bkeep hk u1'.out.2.1, bkeep hk u1'.out.2.2.1, bkeep hk u1'.out.2.2.2⟩, bkeep hk u2'.out.1, bkeep hk u2'.out.2.1, bkeep hk u2'.out.2.2.1, bkeep hk u2'.out.2.2.2⟩, bkeep h g0, bkeep h g1⟩
  have hd := (Below.refl v2.heap.size v2).drew
  clear e0 e1 t0 t1 g0 g1 hB2
  have hv2' := Lib.hid hv2
  have at'' := Lib.hid at'
  clear hv2 at'
  go_wp2_with fail
  rw [hv2'.out]
  refine wp_region_held_drew (S := (fun w' => Below v2.heap.size v2 w' ∧ ((w'.cell? ⟨w.heap.size, 0, none⟩ = some (.int .i64 a0) ∧ w'.cell? ⟨w.heap.size, 1, none⟩ = some (.int .i64 a1) ∧ w'.cell? ⟨w.heap.size, 2, none⟩ = some (.int .i64 a2) ∧ w'.cell? ⟨w.heap.size, 3, none⟩ = some (.int .i64 a3)) ∧ w'.cell? ⟨w.heap.size + 1, 0, none⟩ = some (.int .i64 b0) ∧ w'.cell? ⟨w.heap.size + 1, 1, none⟩ = some (.int .i64 b1) ∧ w'.cell? ⟨w.heap.size + 1, 2, none⟩ = some (.int .i64 b2) ∧ w'.cell? ⟨w.heap.size + 1, 3, none⟩ = some (.int .i64 b3)) ∧ w'.cell? ⟨w2.heap.size, 0, none⟩ = some (.int .i64 f0) ∧ w'.cell? ⟨w2.heap.size, 1, none⟩ = some (.int .i64 f1))) (by kernel_rfl) (by (try dsimp only); (first | exact ⟨hd, at''.out _ hd⟩ | exact ⟨hdp.alloc hdp.size _, at''.out _ (hdp.alloc hdp.size _)⟩ | exact ⟨(hd.setCell (p := ⟨_, 0, none⟩) hlow _).setCell (p := ⟨_, 1, none⟩) hlow _, at''.out _ ((hd.setCell (p := ⟨_, 0, none⟩) hlow _).setCell (p := ⟨_, 1, none⟩) hlow _)⟩)) (fun hHeld => ?_)
  refine ly_q 0 (v := ?_) hHeld ?_
  try simp only [Act.put, lyA, lyB, lyC]
  refine ly_q 1 (v := ?_) hHeld ?_
  try simp only [Act.put, lyA, lyB, lyC]
  refine ly_q 2 (v := ?_) hHeld ?_
  try simp only [Act.put, lyA, lyB, lyC]
  refine wpAnyH_ready (rs := [3, 8]) (by kernel_rfl) (by simp) ?_
  refine AllReadyH.cons (o := Oper.mk _ _ _ _ _ _) rfl (fun KK hKK => ?_) (AllReadyH.cons (o := Oper.mk _ _ _ _ _ _) rfl (fun KK hKK => ?_) (AllReadyH.nil))
  · rw [if_pos (by kernel_rfl)]
    go_simp
    refine (c2'.out _).mono ?_
    rintro e w3 ⟨rfl, hB3⟩
    replace hd := hd.trans (hB3.mono hd.size)
    (try replace n2 := gfrozen (bgrow hB3 none) n0 n2 (by simp))
    (try replace n3 := gfrozen (bgrow hB3 none) n1 n3 (by simp))
    (try replace n0 := bkeep hB3 n0)
    (try replace n1 := bkeep hB3 n1)
    try dsimp only
    refine hKK.out _ _ (by (try dsimp only); (first | exact ⟨hd, at''.out _ hd⟩ | exact ⟨hdp.alloc hdp.size _, at''.out _ (hdp.alloc hdp.size _)⟩ | exact ⟨(hd.setCell (p := ⟨_, 0, none⟩) hlow _).setCell (p := ⟨_, 1, none⟩) hlow _, at''.out _ ((hd.setCell (p := ⟨_, 0, none⟩) hlow _).setCell (p := ⟨_, 1, none⟩) hlow _)⟩)) (fun hHeld => ?_)
    clear hKK KK
    try simp only [Act.put, lyA, lyB, lyC]
    refine wpAnyH_ready (rs := [4, 8]) (by kernel_rfl) (by simp) ?_
    refine AllReadyH.cons (o := Oper.mk _ _ _ _ _ _) rfl (fun KK hKK => ?_) (AllReadyH.cons (o := Oper.mk _ _ _ _ _ _) rfl (fun KK hKK => ?_) (AllReadyH.nil))
    · rw [if_pos (by kernel_rfl)]
      go_simp
      refine (c3'.out _).mono ?_
      rintro e w4 ⟨rfl, hB4⟩
      replace hd := hd.trans (hB4.mono hd.size)
      (try replace n2 := gfrozen (bgrow hB4 none) n0 n2 (by simp))
      (try replace n3 := gfrozen (bgrow hB4 none) n1 n3 (by simp))
      (try replace n0 := bkeep hB4 n0)
      (try replace n1 := bkeep hB4 n1)
      try dsimp only
      refine hKK.out _ _ (by (try dsimp only); (first | exact ⟨hd, at''.out _ hd⟩ | exact ⟨hdp.alloc hdp.size _, at''.out _ (hdp.alloc hdp.size _)⟩ | exact ⟨(hd.setCell (p := ⟨_, 0, none⟩) hlow _).setCell (p := ⟨_, 1, none⟩) hlow _, at''.out _ ((hd.setCell (p := ⟨_, 0, none⟩) hlow _).setCell (p := ⟨_, 1, none⟩) hlow _)⟩)) (fun hHeld => ?_)
      clear hKK KK
      try simp only [Act.put, lyA, lyB, lyC]
      refine ly_q 5 (v := ?_) hHeld ?_
      try simp only [Act.put, lyA, lyB, lyC]
      refine ly_q 6 (v := ?_) hHeld ?_
      try simp only [Act.put, lyA, lyB, lyC]
      refine ly_q 7 (v := ?_) hHeld ?_
      try simp only [Act.put, lyA, lyB, lyC]
      refine ly_a 8 (fun KK hKK => ?_)
      go_simp
      have hdp := hd
      have hlow := hd.size
      replace hd := hd.alloc hd.size (.cells #[.int .i64 0, .int .i64 0] 42)
      obtain ⟨n0, n1, n2, n3⟩ := new_cells hd
      (try change World.cell? _ ⟨v2.heap.size, 0, none⟩ = _ at n0)
      (try change World.cell? _ ⟨v2.heap.size, 1, none⟩ = _ at n1)
      (try change World.frozen? _ ⟨v2.heap.size, 0, none⟩ = _ at n2)
      (try change World.frozen? _ ⟨v2.heap.size, 1, none⟩ = _ at n3)
      try dsimp only
      refine hKK.out _ _ (by (try dsimp only); (first | exact ⟨hd, at''.out _ hd⟩ | exact ⟨hdp.alloc hdp.size _, at''.out _ (hdp.alloc hdp.size _)⟩ | exact ⟨(hd.setCell (p := ⟨_, 0, none⟩) hlow _).setCell (p := ⟨_, 1, none⟩) hlow _, at''.out _ ((hd.setCell (p := ⟨_, 0, none⟩) hlow _).setCell (p := ⟨_, 1, none⟩) hlow _)⟩)) (fun hHeld => ?_)
      clear hKK KK
      try simp only [Act.put, lyA, lyB, lyC]
      refine ly_a 9 (fun KK hKK => ?_)
      go_simp
      skip
      try dsimp only
      refine hKK.out _ _ (by (try dsimp only); (first | exact ⟨hd, at''.out _ hd⟩ | exact ⟨hdp.alloc hdp.size _, at''.out _ (hdp.alloc hdp.size _)⟩ | exact ⟨(hd.setCell (p := ⟨_, 0, none⟩) hlow _).setCell (p := ⟨_, 1, none⟩) hlow _, at''.out _ ((hd.setCell (p := ⟨_, 0, none⟩) hlow _).setCell (p := ⟨_, 1, none⟩) hlow _)⟩)) (fun hHeld => ?_)
      clear hKK KK
      try simp only [Act.put, lyA, lyB, lyC]
      refine ly_q 10 (v := ?_) hHeld ?_
      try simp only [Act.put, lyA, lyB, lyC]
      refine wpAnyH_done (by kernel_rfl) ?_ _
      obtain ⟨hdV, _⟩ := hHeld
      have hk5 := hk2.trans (hdV.mono hk2.size)
      have hb5 := hB.trans (hk5.mono hB.size)
      have p2 := bkeep hk5 u1'.out.2.2.1
      have p3 := bkeep hk5 u1'.out.2.2.2
      have q0 := bkeep hk5 y0
      have q1 := bkeep hk5 y1
      have q2 := gfrozen (bgrow hk5 none) y0 y2 (by simp)
      have q3 := gfrozen (bgrow hk5 none) y1 y3 (by simp)
      clear y0 y1 y2 y3 hk2 hk5 hdV
      have hset : ∀ (W : World), Below w.heap.size w W → ∀ z0 z1, Below w.heap.size w ((W.setCell ⟨w.heap.size + 1 + 1 + 1, 0, none⟩ z0).setCell ⟨w.heap.size + 1 + 1 + 1, 1, none⟩ z1) := fun W h z0 z1 =>
        (h.setCell (p := ⟨w.heap.size + 1 + 1 + 1, 0, none⟩) (by show w.heap.size ≤ w.heap.size + 1 + 1 + 1; omega) _).setCell (p := ⟨w.heap.size + 1 + 1 + 1, 1, none⟩) (by show w.heap.size ≤ w.heap.size + 1 + 1 + 1; omega) _
      have hset' := Lib.hid hset
      clear hset
      first
        | (obtain ⟨rfl, rfl, rfl⟩ := hr'.out (by simp)
           go_wp2
           exact bodyPost_ret (v := .tuple #[ratV (0, 0), .bool false]) (by simp [results, Tryz.results48, go_sem, q0, q1, ratV]) rfl ⟨rfl, hset'.out _ hb5 _ _⟩)
        | (have c5 := c4'.out (by simp)
           clear c4'
           have c5' := Lib.hid c5
           clear c5
           go_wp2_with fail
           refine (c5'.out _).mono ?_
           rintro e w6 ⟨rfl, hB6⟩
           have hb6 := hb5.trans (hB6.mono hb5.size)
           have h0 := bkeep hB6 q0
           have h1 := bkeep hB6 q1
           have h2 := gfrozen (bgrow hB6 none) q0 q2 (by simp)
           have h3 := gfrozen (bgrow hB6 none) q1 q3 (by simp)
           clear q0 q1 q2 q3 p2 p3 hB6
           go_wp2
           exact bodyPost_ret (v := .tuple #[ratV (r0, r1), .bool r2]) (by simp [results, Tryz.results48, go_sem, h0, h1, ratV]) rfl ⟨rfl, hset'.out _ hb6 _ _⟩)
    · rw [if_pos (by kernel_rfl)]
      go_simp
      have hdp := hd
      have hlow := hd.size
      replace hd := hd.alloc hd.size (.cells #[.int .i64 0, .int .i64 0] 42)
      obtain ⟨n0, n1, n2, n3⟩ := new_cells hd
      (try change World.cell? _ ⟨v2.heap.size, 0, none⟩ = _ at n0)
      (try change World.cell? _ ⟨v2.heap.size, 1, none⟩ = _ at n1)
      (try change World.frozen? _ ⟨v2.heap.size, 0, none⟩ = _ at n2)
      (try change World.frozen? _ ⟨v2.heap.size, 1, none⟩ = _ at n3)
      try dsimp only
      refine hKK.out _ _ (by (try dsimp only); (first | exact ⟨hd, at''.out _ hd⟩ | exact ⟨hdp.alloc hdp.size _, at''.out _ (hdp.alloc hdp.size _)⟩ | exact ⟨(hd.setCell (p := ⟨_, 0, none⟩) hlow _).setCell (p := ⟨_, 1, none⟩) hlow _, at''.out _ ((hd.setCell (p := ⟨_, 0, none⟩) hlow _).setCell (p := ⟨_, 1, none⟩) hlow _)⟩)) (fun hHeld => ?_)
      clear hKK KK
      try simp only [Act.put, lyA, lyB, lyC]
      refine ly_a 4 (fun KK hKK => ?_)
      go_simp
      refine (c3'.out _).mono ?_
      rintro e w4 ⟨rfl, hB4⟩
      replace hd := hd.trans (hB4.mono hd.size)
      (try replace n2 := gfrozen (bgrow hB4 none) n0 n2 (by simp))
      (try replace n3 := gfrozen (bgrow hB4 none) n1 n3 (by simp))
      (try replace n0 := bkeep hB4 n0)
      (try replace n1 := bkeep hB4 n1)
      try dsimp only
      refine hKK.out _ _ (by (try dsimp only); (first | exact ⟨hd, at''.out _ hd⟩ | exact ⟨hdp.alloc hdp.size _, at''.out _ (hdp.alloc hdp.size _)⟩ | exact ⟨(hd.setCell (p := ⟨_, 0, none⟩) hlow _).setCell (p := ⟨_, 1, none⟩) hlow _, at''.out _ ((hd.setCell (p := ⟨_, 0, none⟩) hlow _).setCell (p := ⟨_, 1, none⟩) hlow _)⟩)) (fun hHeld => ?_)
      clear hKK KK
      try simp only [Act.put, lyA, lyB, lyC]
      refine ly_q 5 (v := ?_) hHeld ?_
      try simp only [Act.put, lyA, lyB, lyC]
      refine ly_q 6 (v := ?_) hHeld ?_
      try simp only [Act.put, lyA, lyB, lyC]
      refine ly_q 7 (v := ?_) hHeld ?_
      try simp only [Act.put, lyA, lyB, lyC]
      refine ly_a 9 (fun KK hKK => ?_)
      go_simp
      skip
      try dsimp only
      refine hKK.out _ _ (by (try dsimp only); (first | exact ⟨hd, at''.out _ hd⟩ | exact ⟨hdp.alloc hdp.size _, at''.out _ (hdp.alloc hdp.size _)⟩ | exact ⟨(hd.setCell (p := ⟨_, 0, none⟩) hlow _).setCell (p := ⟨_, 1, none⟩) hlow _, at''.out _ ((hd.setCell (p := ⟨_, 0, none⟩) hlow _).setCell (p := ⟨_, 1, none⟩) hlow _)⟩)) (fun hHeld => ?_)
      clear hKK KK
      try simp only [Act.put, lyA, lyB, lyC]
      refine ly_q 10 (v := ?_) hHeld ?_
      try simp only [Act.put, lyA, lyB, lyC]
      refine wpAnyH_done (by kernel_rfl) ?_ _
      obtain ⟨hdV, _⟩ := hHeld
      have hk5 := hk2.trans (hdV.mono hk2.size)
      have hb5 := hB.trans (hk5.mono hB.size)
      have p2 := bkeep hk5 u1'.out.2.2.1
      have p3 := bkeep hk5 u1'.out.2.2.2
      have q0 := bkeep hk5 y0
      have q1 := bkeep hk5 y1
      have q2 := gfrozen (bgrow hk5 none) y0 y2 (by simp)
      have q3 := gfrozen (bgrow hk5 none) y1 y3 (by simp)
      clear y0 y1 y2 y3 hk2 hk5 hdV
      have hset : ∀ (W : World), Below w.heap.size w W → ∀ z0 z1, Below w.heap.size w ((W.setCell ⟨w.heap.size + 1 + 1 + 1, 0, none⟩ z0).setCell ⟨w.heap.size + 1 + 1 + 1, 1, none⟩ z1) := fun W h z0 z1 =>
        (h.setCell (p := ⟨w.heap.size + 1 + 1 + 1, 0, none⟩) (by show w.heap.size ≤ w.heap.size + 1 + 1 + 1; omega) _).setCell (p := ⟨w.heap.size + 1 + 1 + 1, 1, none⟩) (by show w.heap.size ≤ w.heap.size + 1 + 1 + 1; omega) _
      have hset' := Lib.hid hset
      clear hset
      first
        | (obtain ⟨rfl, rfl, rfl⟩ := hr'.out (by simp)
           go_wp2
           exact bodyPost_ret (v := .tuple #[ratV (0, 0), .bool false]) (by simp [results, Tryz.results48, go_sem, q0, q1, ratV]) rfl ⟨rfl, hset'.out _ hb5 _ _⟩)
        | (have c5 := c4'.out (by simp)
           clear c4'
           have c5' := Lib.hid c5
           clear c5
           go_wp2_with fail
           refine (c5'.out _).mono ?_
           rintro e w6 ⟨rfl, hB6⟩
           have hb6 := hb5.trans (hB6.mono hb5.size)
           have h0 := bkeep hB6 q0
           have h1 := bkeep hB6 q1
           have h2 := gfrozen (bgrow hB6 none) q0 q2 (by simp)
           have h3 := gfrozen (bgrow hB6 none) q1 q3 (by simp)
           clear q0 q1 q2 q3 p2 p3 hB6
           go_wp2
           exact bodyPost_ret (v := .tuple #[ratV (r0, r1), .bool r2]) (by simp [results, Tryz.results48, go_sem, h0, h1, ratV]) rfl ⟨rfl, hset'.out _ hb6 _ _⟩)
  · rw [if_pos (by kernel_rfl)]
    go_simp
    have hdp := hd
    have hlow := hd.size
    replace hd := hd.alloc hd.size (.cells #[.int .i64 0, .int .i64 0] 42)
    obtain ⟨n0, n1, n2, n3⟩ := new_cells hd
    (try change World.cell? _ ⟨v2.heap.size, 0, none⟩ = _ at n0)
    (try change World.cell? _ ⟨v2.heap.size, 1, none⟩ = _ at n1)
    (try change World.frozen? _ ⟨v2.heap.size, 0, none⟩ = _ at n2)
    (try change World.frozen? _ ⟨v2.heap.size, 1, none⟩ = _ at n3)
    try dsimp only
    refine hKK.out _ _ (by (try dsimp only); (first | exact ⟨hd, at''.out _ hd⟩ | exact ⟨hdp.alloc hdp.size _, at''.out _ (hdp.alloc hdp.size _)⟩ | exact ⟨(hd.setCell (p := ⟨_, 0, none⟩) hlow _).setCell (p := ⟨_, 1, none⟩) hlow _, at''.out _ ((hd.setCell (p := ⟨_, 0, none⟩) hlow _).setCell (p := ⟨_, 1, none⟩) hlow _)⟩)) (fun hHeld => ?_)
    clear hKK KK
    try simp only [Act.put, lyA, lyB, lyC]
    refine ly_a 3 (fun KK hKK => ?_)
    go_simp
    refine (c2'.out _).mono ?_
    rintro e w3 ⟨rfl, hB3⟩
    replace hd := hd.trans (hB3.mono hd.size)
    (try replace n2 := gfrozen (bgrow hB3 none) n0 n2 (by simp))
    (try replace n3 := gfrozen (bgrow hB3 none) n1 n3 (by simp))
    (try replace n0 := bkeep hB3 n0)
    (try replace n1 := bkeep hB3 n1)
    try dsimp only
    refine hKK.out _ _ (by (try dsimp only); (first | exact ⟨hd, at''.out _ hd⟩ | exact ⟨hdp.alloc hdp.size _, at''.out _ (hdp.alloc hdp.size _)⟩ | exact ⟨(hd.setCell (p := ⟨_, 0, none⟩) hlow _).setCell (p := ⟨_, 1, none⟩) hlow _, at''.out _ ((hd.setCell (p := ⟨_, 0, none⟩) hlow _).setCell (p := ⟨_, 1, none⟩) hlow _)⟩)) (fun hHeld => ?_)
    clear hKK KK
    try simp only [Act.put, lyA, lyB, lyC]
    refine ly_a 4 (fun KK hKK => ?_)
    go_simp
    refine (c3'.out _).mono ?_
    rintro e w4 ⟨rfl, hB4⟩
    replace hd := hd.trans (hB4.mono hd.size)
    (try replace n2 := gfrozen (bgrow hB4 none) n0 n2 (by simp))
    (try replace n3 := gfrozen (bgrow hB4 none) n1 n3 (by simp))
    (try replace n0 := bkeep hB4 n0)
    (try replace n1 := bkeep hB4 n1)
    try dsimp only
    refine hKK.out _ _ (by (try dsimp only); (first | exact ⟨hd, at''.out _ hd⟩ | exact ⟨hdp.alloc hdp.size _, at''.out _ (hdp.alloc hdp.size _)⟩ | exact ⟨(hd.setCell (p := ⟨_, 0, none⟩) hlow _).setCell (p := ⟨_, 1, none⟩) hlow _, at''.out _ ((hd.setCell (p := ⟨_, 0, none⟩) hlow _).setCell (p := ⟨_, 1, none⟩) hlow _)⟩)) (fun hHeld => ?_)
    clear hKK KK
    try simp only [Act.put, lyA, lyB, lyC]
    refine ly_q 5 (v := ?_) hHeld ?_
    try simp only [Act.put, lyA, lyB, lyC]
    refine ly_q 6 (v := ?_) hHeld ?_
    try simp only [Act.put, lyA, lyB, lyC]
    refine ly_q 7 (v := ?_) hHeld ?_
    try simp only [Act.put, lyA, lyB, lyC]
    refine ly_a 9 (fun KK hKK => ?_)
    go_simp
    skip
    try dsimp only
    refine hKK.out _ _ (by (try dsimp only); (first | exact ⟨hd, at''.out _ hd⟩ | exact ⟨hdp.alloc hdp.size _, at''.out _ (hdp.alloc hdp.size _)⟩ | exact ⟨(hd.setCell (p := ⟨_, 0, none⟩) hlow _).setCell (p := ⟨_, 1, none⟩) hlow _, at''.out _ ((hd.setCell (p := ⟨_, 0, none⟩) hlow _).setCell (p := ⟨_, 1, none⟩) hlow _)⟩)) (fun hHeld => ?_)
    clear hKK KK
    try simp only [Act.put, lyA, lyB, lyC]
    refine ly_q 10 (v := ?_) hHeld ?_
    try simp only [Act.put, lyA, lyB, lyC]
    refine wpAnyH_done (by kernel_rfl) ?_ _
    obtain ⟨hdV, _⟩ := hHeld
    have hk5 := hk2.trans (hdV.mono hk2.size)
    have hb5 := hB.trans (hk5.mono hB.size)
    have p2 := bkeep hk5 u1'.out.2.2.1
    have p3 := bkeep hk5 u1'.out.2.2.2
    have q0 := bkeep hk5 y0
    have q1 := bkeep hk5 y1
    have q2 := gfrozen (bgrow hk5 none) y0 y2 (by simp)
    have q3 := gfrozen (bgrow hk5 none) y1 y3 (by simp)
    clear y0 y1 y2 y3 hk2 hk5 hdV
    have hset : ∀ (W : World), Below w.heap.size w W → ∀ z0 z1, Below w.heap.size w ((W.setCell ⟨w.heap.size + 1 + 1 + 1, 0, none⟩ z0).setCell ⟨w.heap.size + 1 + 1 + 1, 1, none⟩ z1) := fun W h z0 z1 =>
      (h.setCell (p := ⟨w.heap.size + 1 + 1 + 1, 0, none⟩) (by show w.heap.size ≤ w.heap.size + 1 + 1 + 1; omega) _).setCell (p := ⟨w.heap.size + 1 + 1 + 1, 1, none⟩) (by show w.heap.size ≤ w.heap.size + 1 + 1 + 1; omega) _
    have hset' := Lib.hid hset
    clear hset
    first
      | (obtain ⟨rfl, rfl, rfl⟩ := hr'.out (by simp)
         go_wp2
         exact bodyPost_ret (v := .tuple #[ratV (0, 0), .bool false]) (by simp [results, Tryz.results48, go_sem, q0, q1, ratV]) rfl ⟨rfl, hset'.out _ hb5 _ _⟩)
      | (have c5 := c4'.out (by simp)
         clear c4'
         have c5' := Lib.hid c5
         clear c5
         go_wp2_with fail
         refine (c5'.out _).mono ?_
         rintro e w6 ⟨rfl, hB6⟩
         have hb6 := hb5.trans (hB6.mono hb5.size)
         have h0 := bkeep hB6 q0
         have h1 := bkeep hB6 q1
         have h2 := gfrozen (bgrow hB6 none) q0 q2 (by simp)
         have h3 := gfrozen (bgrow hB6 none) q1 q3 (by simp)
         clear q0 q1 q2 q3 p2 p3 hB6
         go_wp2
         exact bodyPost_ret (v := .tuple #[ratV (r0, r1), .bool r2]) (by simp [results, Tryz.results48, go_sem, h0, h1, ratV]) rfl ⟨rfl, hset'.out _ hb6 _ _⟩)
theorem imOn_any (p q : Quad) (x : Int × Int) (w : World) (h1 : coordR p.1 = true) (h2 : coordR p.2 = true) (h3 : coordR q.1 = true) (h4 : coordR q.2 = true) (hl : ltB p.1.1 p.1.2 q.1.1 q.1.2 = true) (hx : goodR x.1 x.2 = true) :
    Calls Tryz.prog 48 #[quadV p, quadV q, .agg #[.int .i64 x.1, .int .i64 x.2]] w (Ret (.tuple #[ratV (onR p q x).1, .bool (onR p q x).2]) w) := by
  have g1 := unitR_good (coordR_unit h1)
  have g2 := unitR_good (coordR_unit h2)
  have gs := (slope_ok h1 h2 h3 h4 hl).2.1
  have c1 := fun w => raSub_any x p.1 w (good_bd hx) (good_bd g1)
  have c2 := fun w => imSlope_any p q w h1 h2 h3 h4 hl
  cases o1 : (subR x p.1).2
  · rw [onR_bad1 o1]
    rw [o1, show (subR x p.1).1 = (0, 0) from mkR_bad o1] at c1
    exact imOn_coreA p.1.1 p.1.2 p.2.1 p.2.2 q.1.1 q.1.2 q.2.1 q.2.2 x.1 x.2 0 0 (slopeR p q).1 (slopeR p q).2 0 0 0 0 false w c1 c2 (fun w => raMul_zero (slopeR p q) w) (fun h => by cases h) (fun _ => ⟨rfl, rfl, rfl⟩)
  · rw [o1] at c1
    have gf : goodR (subR x p.1).1.1 (subR x p.1).1.2 = true := mkR_good o1
    have c3 := fun w => raMul_any (subR x p.1).1 (slopeR p q) w (good_bd gf) (good_bd gs)
    cases o2 : (mulR (subR x p.1).1 (slopeR p q)).2
    · rw [onR_bad2 o1 o2]
      rw [o2] at c3
      exact imOn_coreB p.1.1 p.1.2 p.2.1 p.2.2 q.1.1 q.1.2 q.2.1 q.2.2 x.1 x.2 (subR x p.1).1.1 (subR x p.1).1.2 (slopeR p q).1 (slopeR p q).2 (mulR (subR x p.1).1 (slopeR p q)).1.1 (mulR (subR x p.1).1 (slopeR p q)).1.2 0 0 false w c1 c2 c3 (fun h => by cases h) (fun _ => ⟨rfl, rfl, rfl⟩)
    · rw [onR_ok o1 o2]
      rw [o2] at c3
      have gm : goodR (mulR (subR x p.1).1 (slopeR p q)).1.1 (mulR (subR x p.1).1 (slopeR p q)).1.2 = true := mkR_good o2
      have c4 := fun w => raAdd_any p.2 (mulR (subR x p.1).1 (slopeR p q)).1 w (good_bd g2) (good_bd gm)
      exact imOn_coreC p.1.1 p.1.2 p.2.1 p.2.2 q.1.1 q.1.2 q.2.1 q.2.2 x.1 x.2 (subR x p.1).1.1 (subR x p.1).1.2 (slopeR p q).1 (slopeR p q).2 (mulR (subR x p.1).1 (slopeR p q)).1.1 (mulR (subR x p.1).1 (slopeR p q)).1.2 _ _ _ w c1 c2 c3 (fun _ => c4) (fun h => by cases h)

end Go.Proofs.YtjkgilenhoomoaaGreat

namespace Go.Proofs.YtjkgilenhoomoaaGreat
open Go.RowKit
set_option maxRecDepth 100000

/-- The value at x, as the reference tells it. -/
def atR (f : List Quad) (x : Int × Int) : (Int × Int) × Bool := onR (nth4 f (pieceN f x)) (nth4 f (pieceN f x + 1)) x
theorem atR_eq (f : List Quad) (x : Int × Int) : atR f x = if atOk f x = true then (atZ f x, true) else ((0, 0), false) := rfl
theorem atR_ok {f : List Quad} {x : Int × Int} (h : atOk f x = true) : atR f x = (atZ f x, true) := by rw [atR_eq, if_pos h]
theorem atR_bad {f : List Quad} {x : Int × Int} (h : atOk f x = false) : atR f x = ((0, 0), false) := by rw [atR_eq, if_neg (by rw [h]; decide)]

set_option linter.unusedSimpArgs false in
set_option maxHeartbeats 2000000 in
theorem imPiece_any (v : Value) (f : List Quad) (x : Int × Int) (w : World) (hv : QuadV w v f) (hf : MapP f) (hx : goodR x.1 x.2 = true) :
    Calls Tryz.prog 47 #[v, .agg #[.int .i64 x.1, .int .i64 x.2]] w (Ret (.int .i64 (pieceN f x : Nat)) w) := by
  have hl := hf.len
  obtain ⟨ao, cap, rfl, _, _, H⟩ := hv.form
  have hs : ∀ m k, pieceF f x (m + 1) k = if k + 2 < f.length ∧ ltB (nth4 f (k + 1)).1.1 (nth4 f (k + 1)).1.2 x.1 x.2 = true then pieceF f x m (k + 1) else k := fun m k => rfl
  have h0 : pieceF f x f.length 0 = pieceN f x := rfl
  have hz : ∀ k, pieceF f x 0 k = k := fun k => rfl
  have cc := fun (w : World) k (hk : k < f.length) => raCmp_any (nth4 f k).1.1 (nth4 f k).1.2 x.1 x.2 w (good_bd (unitR_good (coordR_unit (hf.coord k hk).1))) (good_bd hx)
  have hcl := fun k => cmpN_lt (nth4 f k).1.1 (nth4 f k).1.2 x.1 x.2
  generalize pieceN f x = P at *
  generalize pieceF f x = F at *
  obtain ⟨n, hn⟩ : ∃ n, f.length = n := ⟨_, rfl⟩
  rw [hn] at hl hv H h0 cc ⊢
  simp only [hn] at hs
  clear hf hx
  obtain ⟨b, off, e, _⟩ := H 0 (by omega)
  cases e
  obtain ⟨x0, x1⟩ := x
  simp only at cc hcl hs
  show Calls _ _ #[_, .agg #[.int .i64 x0, .int .i64 x1]] w _
  obtain ⟨w1, hw1⟩ : ∃ W, w.alloc (.cells #[.int .i64 x0, .int .i64 x1] 42) = W := ⟨_, rfl⟩
  have hB : Below w.heap.size w w1 := by rw [← hw1]; exact (Below.refl _ _).alloc (Nat.le_refl _) _
  have y0 : w1.cell? ⟨w.heap.size, 0, none⟩ = some (.int .i64 x0) := by rw [← hw1]; simp [go_sem]
  have y1 : w1.cell? ⟨w.heap.size, 1, none⟩ = some (.int .i64 x1) := by rw [← hw1]; simp [go_sem]
  have hs' := Lib.hid hs
  have h0' := Lib.hid h0
  have hz' := Lib.hid hz
  have cc' := Lib.hid cc
  have hcl' := Lib.hid hcl
  have hn' := Lib.hid hn
  have hv' := Lib.hid hv
  have H' := Lib.hid H
  have hw1' := Lib.hid hw1
  have y0' := Lib.hid y0
  have y1' := Lib.hid y1
  clear hs h0 hz cc hcl hn hv H hw1 y0 y1
  go_enter Tryz.func47, Tryz.ntmps47
  go_wp2
  rw [hw1'.out]
  go_loopw [5] (fun i wr => ∃ k m : Nat, k + 2 ≤ n ∧ k + m = n ∧ i = .int .i64 k ∧ Below w1.heap.size w1 wr ∧ Hid (F m k = P)) (fun i _ => n - (intOf i).toNat)
  case atStart => exact ⟨0, n, by omega, by omega, rfl, Below.refl _ _, h0'⟩
  case round =>
    obtain ⟨k, m, hk, hkm, rfl, hBr, hI⟩ := hrel
    obtain ⟨m, rfl⟩ : ∃ m', m = m' + 1 := ⟨m - 1, by omega⟩
    have hI2 := hI.out
    rw [hs'.out] at hI2
    have hd := (Below.refl wr.heap.size wr).drew
    have hb1 := hB.trans (hBr.mono hB.size)
    by_cases hlt : k + 2 < n
    · obtain ⟨_, _, e, d0, d1, _⟩ := H'.out (k + 1) (by omega)
      cases e
      have c1 := fun w => cc'.out w (k + 1) (by omega)
      have hcl1 := hcl'.out (k + 1)
      obtain ⟨⟨⟨a, d⟩, _⟩, hq⟩ : ∃ r, nth4 f (k + 1) = r := ⟨_, rfl⟩
      rw [hq] at d0 d1 c1 hcl1 hI2
      simp only at d0 d1 c1 hcl1 hI2
      obtain ⟨j, hj⟩ : ∃ j : Nat, k + 1 = j := ⟨_, rfl⟩
      rw [hj] at d0 d1
      have g1 : IntKind.i64.wrap ((k : Int) + 1) = (j : Int) := by rw [IntKind.wrap_i64]; omega
      have g2 : (0 : Int) ≤ (j : Int) := by omega
      have g3 : (j : Int) < (n : Int) := by omega
      have g4 : IntKind.i64.wrap ((k : Int) + 2) < (n : Int) := by rw [IntKind.wrap_i64]; omega
      have g5 : j < n := by omega
      have g6 : (k : Int) + 2 < (n : Int) := by omega
      have at' : ∀ w', Below wr.heap.size wr w' → (w'.cell? ⟨b, off + j * 4, none⟩ = some (.int .i64 a) ∧ w'.cell? ⟨b, off + j * 4 + 1, none⟩ = some (.int .i64 d)) ∧ w'.cell? ⟨w.heap.size, 0, none⟩ = some (.int .i64 x0) ∧ w'.cell? ⟨w.heap.size, 1, none⟩ = some (.int .i64 x1) := fun w' h => by
        have h1 := hBr.trans (h.mono hBr.size)
        have h2 := hb1.trans (h.mono hb1.size)
        exact ⟨⟨bkeep h2 d0, bkeep h2 d1⟩, bkeep h1 y0'.out, bkeep h1 y1'.out⟩
      generalize ltB a d x0 x1 = L at *
      generalize cmpN a d x0 x1 = C at *
      clear d0 d1
      have at'' := Lib.hid at'
      have c1' := Lib.hid c1
      have hq' := Lib.hid hq
      have hj' := Lib.hid hj
      clear at' c1 hq hj
      cases L
      · have hC : ¬ C < 0 := by simpa using hcl1
        have hP : k = P := by rw [if_neg (by simp)] at hI2; exact hI2
        clear hI2 hI hcl1
        have hP' := Lib.hid hP
        clear hP
        go_wp2_with fail
        refine wp_region_held_drew (S := (fun w' => (w'.cell? ⟨b, off + j * 4, none⟩ = some (.int .i64 a) ∧ w'.cell? ⟨b, off + j * 4 + 1, none⟩ = some (.int .i64 d)) ∧ w'.cell? ⟨w.heap.size, 0, none⟩ = some (.int .i64 x0) ∧ w'.cell? ⟨w.heap.size, 1, none⟩ = some (.int .i64 x1))) (by kernel_rfl) (by (try dsimp only); (first | exact at''.out _ hd | exact at''.out _ hd2)) (fun hHeld => ?_)
        refine ly_q 0 (v := ?_) hHeld ?_
        try simp only [Act.put, lyA, lyB, lyC]
        refine ly_q 1 (v := ?_) hHeld ?_
        try simp only [Act.put, lyA, lyB, lyC]
        refine ly_q 2 (v := ?_) hHeld ?_
        try simp only [Act.put, lyA, lyB, lyC]
        refine ly_q 3 (v := ?_) hHeld ?_
        try simp only [Act.put, lyA, lyB, lyC]
        refine ly_q 4 (v := ?_) hHeld ?_
        try simp only [Act.put, lyA, lyB, lyC]
        refine ly_q 5 (v := ?_) hHeld ?_
        try simp only [Act.put, lyA, lyB, lyC]
        refine ly_q 6 (v := ?_) hHeld ?_
        try simp only [Act.put, lyA, lyB, lyC]
        refine ly_q 7 (v := ?_) hHeld ?_
        try simp only [Act.put, lyA, lyB, lyC]
        refine ly_q 8 (v := ?_) hHeld ?_
        try simp only [Act.put, lyA, lyB, lyC]
        refine ly_q 9 (v := ?_) hHeld ?_
        try simp only [Act.put, lyA, lyB, lyC]
        refine ly_q 10 (v := ?_) hHeld ?_
        try simp only [Act.put, lyA, lyB, lyC]
        refine ly_q 11 (v := ?_) hHeld ?_
        try simp only [Act.put, lyA, lyB, lyC]
        refine ly_q 12 (v := ?_) hHeld ?_
        try simp only [Act.put, lyA, lyB, lyC]
        refine ly_a 13 (fun KK hKK => ?_)
        go_simp
        refine (c1'.out _).mono ?_
        rintro e w2 ⟨rfl, hB2⟩
        have hd2 := hd.trans (hB2.mono hd.size)
        try dsimp only
        refine hKK.out _ _ (by (try dsimp only); (first | exact at''.out _ hd | exact at''.out _ hd2)) (fun hHeld => ?_)
        clear hKK KK
        try simp only [Act.put, lyA, lyB, lyC]
        refine ly_q 14 (v := ?_) hHeld ?_
        try simp only [Act.put, lyA, lyB, lyC]
        refine ly_q 15 (v := ?_) hHeld ?_
        try simp only [Act.put, lyA, lyB, lyC]
        refine wpAnyH_done (by kernel_rfl) ?_ _
        have hbf := hb1.trans (hd2.mono hb1.size)
        go_wp2
        go_ret
        exact ⟨by rw [hP'.out]; rfl, hbf⟩
      · have hC : C < 0 := by simpa using hcl1
        have hP : F m (k + 1) = P := by rw [if_pos ⟨hlt, rfl⟩] at hI2; exact hI2
        clear hI2 hI hcl1
        have hP' := Lib.hid hP
        clear hP
        go_wp2_with fail
        refine wp_region_held_drew (S := (fun w' => (w'.cell? ⟨b, off + j * 4, none⟩ = some (.int .i64 a) ∧ w'.cell? ⟨b, off + j * 4 + 1, none⟩ = some (.int .i64 d)) ∧ w'.cell? ⟨w.heap.size, 0, none⟩ = some (.int .i64 x0) ∧ w'.cell? ⟨w.heap.size, 1, none⟩ = some (.int .i64 x1))) (by kernel_rfl) (by (try dsimp only); (first | exact at''.out _ hd | exact at''.out _ hd2)) (fun hHeld => ?_)
        refine ly_q 0 (v := ?_) hHeld ?_
        try simp only [Act.put, lyA, lyB, lyC]
        refine ly_q 1 (v := ?_) hHeld ?_
        try simp only [Act.put, lyA, lyB, lyC]
        refine ly_q 2 (v := ?_) hHeld ?_
        try simp only [Act.put, lyA, lyB, lyC]
        refine ly_q 3 (v := ?_) hHeld ?_
        try simp only [Act.put, lyA, lyB, lyC]
        refine ly_q 4 (v := ?_) hHeld ?_
        try simp only [Act.put, lyA, lyB, lyC]
        refine ly_q 5 (v := ?_) hHeld ?_
        try simp only [Act.put, lyA, lyB, lyC]
        refine ly_q 6 (v := ?_) hHeld ?_
        try simp only [Act.put, lyA, lyB, lyC]
        refine ly_q 7 (v := ?_) hHeld ?_
        try simp only [Act.put, lyA, lyB, lyC]
        refine ly_q 8 (v := ?_) hHeld ?_
        try simp only [Act.put, lyA, lyB, lyC]
        refine ly_q 9 (v := ?_) hHeld ?_
        try simp only [Act.put, lyA, lyB, lyC]
        refine ly_q 10 (v := ?_) hHeld ?_
        try simp only [Act.put, lyA, lyB, lyC]
        refine ly_q 11 (v := ?_) hHeld ?_
        try simp only [Act.put, lyA, lyB, lyC]
        refine ly_q 12 (v := ?_) hHeld ?_
        try simp only [Act.put, lyA, lyB, lyC]
        refine ly_a 13 (fun KK hKK => ?_)
        go_simp
        refine (c1'.out _).mono ?_
        rintro e w2 ⟨rfl, hB2⟩
        have hd2 := hd.trans (hB2.mono hd.size)
        try dsimp only
        refine hKK.out _ _ (by (try dsimp only); (first | exact at''.out _ hd | exact at''.out _ hd2)) (fun hHeld => ?_)
        clear hKK KK
        try simp only [Act.put, lyA, lyB, lyC]
        refine ly_q 14 (v := ?_) hHeld ?_
        try simp only [Act.put, lyA, lyB, lyC]
        refine ly_q 15 (v := ?_) hHeld ?_
        try simp only [Act.put, lyA, lyB, lyC]
        refine wpAnyH_done (by kernel_rfl) ?_ _
        have hbf := hBr.trans (hd2.mono hBr.size)
        go_wp2
        go_roundw
        case rel => exact ⟨k + 1, m, by omega, by omega, by rw [hj'.out], hbf, hP'⟩
        case measure => have := hj'.out; simp [intOf]; omega
    · have hP : k = P := by rw [if_neg (fun h => hlt h.1)] at hI2; exact hI2
      have g4 : ¬ IntKind.i64.wrap ((k : Int) + 2) < (n : Int) := by rw [IntKind.wrap_i64]; omega
      have g6 : ¬ (k : Int) + 2 < (n : Int) := by omega
      clear hI2 hI
      have hP' := Lib.hid hP
      clear hP
      go_wp2_with fail
      refine wp_region_held_drew (S := (fun w' => Below wr.heap.size wr w')) (by kernel_rfl) (by (try dsimp only); (first | exact hd)) (fun hHeld => ?_)
      refine ly_q 0 (v := ?_) hHeld ?_
      try simp only [Act.put, lyA, lyB, lyC]
      refine ly_q 1 (v := ?_) hHeld ?_
      try simp only [Act.put, lyA, lyB, lyC]
      refine ly_q 2 (v := ?_) hHeld ?_
      try simp only [Act.put, lyA, lyB, lyC]
      refine ly_q 3 (v := ?_) hHeld ?_
      try simp only [Act.put, lyA, lyB, lyC]
      refine ly_q 4 (v := .bool false) (hy := by intro wS hSw; (try dsimp only at hSw); go_simp; skip) hHeld ?_
      try simp only [Act.put, lyA, lyB, lyC]
      refine ly_q 5 (v := ?_) hHeld ?_
      try simp only [Act.put, lyA, lyB, lyC]
      refine ly_off 6 hHeld ?_
      try simp only [Act.put, lyA, lyB, lyC]
      refine ly_off 7 hHeld ?_
      try simp only [Act.put, lyA, lyB, lyC]
      refine ly_off 8 hHeld ?_
      try simp only [Act.put, lyA, lyB, lyC]
      refine ly_off 9 hHeld ?_
      try simp only [Act.put, lyA, lyB, lyC]
      refine ly_off 10 hHeld ?_
      try simp only [Act.put, lyA, lyB, lyC]
      refine ly_off 11 hHeld ?_
      try simp only [Act.put, lyA, lyB, lyC]
      refine ly_off 12 hHeld ?_
      try simp only [Act.put, lyA, lyB, lyC]
      refine ly_off 13 hHeld ?_
      try simp only [Act.put, lyA, lyB, lyC]
      refine ly_off 14 hHeld ?_
      try simp only [Act.put, lyA, lyB, lyC]
      refine ly_q 15 (v := ?_) hHeld ?_
      try simp only [Act.put, lyA, lyB, lyC]
      refine wpAnyH_done (by kernel_rfl) ?_ _
      have hbf := hb1.trans (hd.mono hb1.size)
      go_wp2
      go_ret
      exact ⟨by rw [hP'.out]; rfl, hbf⟩

set_option linter.unusedSimpArgs false in
set_option maxHeartbeats 2000000 in
theorem imAt_any (v : Value) (f : List Quad) (x : Int × Int) (w : World) (hv : QuadV w v f) (hf : MapP f) (hx : unitR x.1 x.2 = true) :
    Calls Tryz.prog 31 #[v, .agg #[.int .i64 x.1, .int .i64 x.2]] w (Ret (.tuple #[ratV (atR f x).1, .bool (atR f x).2]) w) := by
  obtain ⟨pi1, _, _⟩ := piece_in hf hx
  have hl := hf.len
  have cp := fun w' (h : Below w.heap.size w w') => imPiece_any v f x w' (hv.below h) hf (unitR_good hx)
  have hi := hf.coord (pieceN f x) (by omega)
  have hj := hf.coord (pieceN f x + 1) pi1
  have cl := fun w' => imOn_any (nth4 f (pieceN f x)) (nth4 f (pieceN f x + 1)) x w' hi.1 hi.2 hj.1 hj.2 (hf.rise (pieceN f x) pi1) (unitR_good hx)
  change ∀ w', Calls _ _ _ w' (Ret (.tuple #[ratV (atR f x).1, .bool (atR f x).2]) w') at cl
  obtain ⟨ao, cap, rfl, _, _, H⟩ := hv.form
  obtain ⟨b, off, e, p0, p1, p2, p3⟩ := H (pieceN f x) (by omega)
  cases e
  obtain ⟨_, _, e, q0, q1, q2, q3⟩ := H (pieceN f x + 1) pi1
  cases e
  generalize atR f x = R at *
  clear H hi hj hf hx
  obtain ⟨i, hi⟩ : ∃ i, pieceN f x = i := ⟨_, rfl⟩
  obtain ⟨j, hj⟩ : ∃ j, i + 1 = j := ⟨_, rfl⟩
  rw [hi] at p0 p1 p2 p3 q0 q1 q2 q3 pi1 cp cl
  rw [hj] at q0 q1 q2 q3 pi1 cl
  obtain ⟨n, hn⟩ : ∃ n, f.length = n := ⟨_, rfl⟩
  rw [hn] at pi1 cp hv hl ⊢
  obtain ⟨P, hP⟩ : ∃ P, nth4 f i = P := ⟨_, rfl⟩
  obtain ⟨Q, hQ⟩ : ∃ Q, nth4 f j = Q := ⟨_, rfl⟩
  rw [hP] at p0 p1 p2 p3 cl
  rw [hQ] at q0 q1 q2 q3 cl
  obtain ⟨⟨a0, a1⟩, ⟨a2, a3⟩⟩ := P
  obtain ⟨⟨b0, b1⟩, ⟨b2, b3⟩⟩ := Q
  obtain ⟨x0, x1⟩ := x
  obtain ⟨⟨r0, r1⟩, r2⟩ := R
  simp only at p0 p1 p2 p3 q0 q1 q2 q3 cp cl
  show Calls _ _ #[_, .agg #[.int .i64 x0, .int .i64 x1]] w _
  obtain ⟨w1, hw1⟩ : ∃ W, (w.alloc (.cells #[.int .i64 x0, .int .i64 x1] 42)).alloc (.cells #[.int .i64 0, .int .i64 0] 42) = W := ⟨_, rfl⟩
  have hB : Below w.heap.size w w1 := by rw [← hw1]; exact ((Below.refl _ _).alloc (Nat.le_refl _) _).alloc (by simp) _
  have u0 : w1.cell? ⟨w.heap.size, 0, none⟩ = some (.int .i64 x0) := by rw [← hw1]; simp [go_sem]
  have u1 : w1.cell? ⟨w.heap.size, 1, none⟩ = some (.int .i64 x1) := by rw [← hw1]; simp [go_sem]
  have y0 : w1.cell? ⟨w.heap.size + 1, 0, none⟩ = some (.int .i64 0) := by rw [← hw1]; simp [go_sem]
  have y1 : w1.cell? ⟨w.heap.size + 1, 1, none⟩ = some (.int .i64 0) := by rw [← hw1]; simp [go_sem]
  have y2 : w1.frozen? ⟨w.heap.size + 1, 0, none⟩ = false := by rw [← hw1]; simp [go_sem]
  have y3 : w1.frozen? ⟨w.heap.size + 1, 1, none⟩ = false := by rw [← hw1]; simp [go_sem]
  have hz : w.heap.size + 1 < w1.heap.size := by rw [← hw1]; simp
  have cp1 := cp w1 hB
  have hlb := World.block_lt_of_cell? _ _ p0
  simp only at hlb
  have at' : ∀ w' : World, (∀ a : Addr, a.block < w.heap.size + 1 → w'.cell? a = w1.cell? a) → ((w'.cell? ⟨b, off + i * 4, none⟩ = some (.int .i64 a0) ∧ w'.cell? ⟨b, off + i * 4 + 1, none⟩ = some (.int .i64 a1) ∧ w'.cell? ⟨b, off + i * 4 + 2, none⟩ = some (.int .i64 a2) ∧ w'.cell? ⟨b, off + i * 4 + 3, none⟩ = some (.int .i64 a3)) ∧ w'.cell? ⟨b, off + j * 4, none⟩ = some (.int .i64 b0) ∧ w'.cell? ⟨b, off + j * 4 + 1, none⟩ = some (.int .i64 b1) ∧ w'.cell? ⟨b, off + j * 4 + 2, none⟩ = some (.int .i64 b2) ∧ w'.cell? ⟨b, off + j * 4 + 3, none⟩ = some (.int .i64 b3)) ∧ w'.cell? ⟨w.heap.size, 0, none⟩ = some (.int .i64 x0) ∧ w'.cell? ⟨w.heap.size, 1, none⟩ = some (.int .i64 x1) := fun w' h => by
    have hbl : b < w.heap.size + 1 := by omega
    exact ⟨⟨⟨(h ⟨b, _, none⟩ hbl).trans (bkeep hB p0), (h ⟨b, _, none⟩ hbl).trans (bkeep hB p1), (h ⟨b, _, none⟩ hbl).trans (bkeep hB p2), (h ⟨b, _, none⟩ hbl).trans (bkeep hB p3)⟩, (h ⟨b, _, none⟩ hbl).trans (bkeep hB q0), (h ⟨b, _, none⟩ hbl).trans (bkeep hB q1), (h ⟨b, _, none⟩ hbl).trans (bkeep hB q2), (h ⟨b, _, none⟩ hbl).trans (bkeep hB q3)⟩, (h ⟨w.heap.size, _, none⟩ (Nat.lt_succ_self _)).trans u0, (h ⟨w.heap.size, _, none⟩ (Nat.lt_succ_self _)).trans u1⟩
  have hwi : IntKind.i64.wrap ((i : Int) + 1) = (j : Int) := by rw [IntKind.wrap_i64]; omega
  have f1 : (0 : Int) ≤ (j : Int) := by omega
  have f2 : (j : Int) < (n : Int) := by omega
  have f3 : (0 : Int) ≤ (i : Int) := by omega
  have f4 : (i : Int) < (n : Int) := by omega
  have f5 : i < n := by omega
  clear p0 p1 p2 p3 q0 q1 q2 q3 cp hv
  have hj' := Lib.hid hj
  have hn' := Lib.hid hn
  clear hj hn
  have cp1' := Lib.hid cp1
  have cl' := Lib.hid cl
  have hw1' := Lib.hid hw1
  have at'' := Lib.hid at'
  have hi' := Lib.hid hi
  have hP' := Lib.hid hP
  have hQ' := Lib.hid hQ
  clear cp1 cl hw1 at' hi hP hQ
  go_enter Tryz.func31, Tryz.ntmps31
  go_wp2_with fail
  rw [hw1'.out]
  go_wp2_with fail
  refine (cp1'.out).mono ?_
  rintro e w2 ⟨rfl, hB2⟩
  have hd := hB2.drew
  have hcells : ∀ (w' : World), Below w1.heap.size w1 w' → ∀ a : Addr, a.block < w.heap.size + 1 → w'.cell? a = w1.cell? a := fun w' h a ha => h.cell (by omega)
  have hset : ∀ (w' : World), Below w1.heap.size w1 w' → ∀ z0 z1, ∀ a : Addr, a.block < w.heap.size + 1 → ((w'.setCell ⟨w.heap.size + 1, 0, none⟩ z0).setCell ⟨w.heap.size + 1, 1, none⟩ z1).cell? a = w1.cell? a := fun w' h z0 z1 a ha => by
    have hs := ((h.mono (show w.heap.size + 1 ≤ w1.heap.size by omega)).setCell (p := ⟨w.heap.size + 1, 0, none⟩) (Nat.le_refl _) z0).setCell (p := ⟨w.heap.size + 1, 1, none⟩) (Nat.le_refl _) z1
    exact hs.cell ha
  have hcells' := Lib.hid hcells
  have hset' := Lib.hid hset
  clear hcells hset
  go_wp2_with fail
  refine wp_region_held_drew (S := (fun (w' : World) => ((w'.cell? ⟨b, off + i * 4, none⟩ = some (.int .i64 a0) ∧ w'.cell? ⟨b, off + i * 4 + 1, none⟩ = some (.int .i64 a1) ∧ w'.cell? ⟨b, off + i * 4 + 2, none⟩ = some (.int .i64 a2) ∧ w'.cell? ⟨b, off + i * 4 + 3, none⟩ = some (.int .i64 a3)) ∧ w'.cell? ⟨b, off + j * 4, none⟩ = some (.int .i64 b0) ∧ w'.cell? ⟨b, off + j * 4 + 1, none⟩ = some (.int .i64 b1) ∧ w'.cell? ⟨b, off + j * 4 + 2, none⟩ = some (.int .i64 b2) ∧ w'.cell? ⟨b, off + j * 4 + 3, none⟩ = some (.int .i64 b3)) ∧ w'.cell? ⟨w.heap.size, 0, none⟩ = some (.int .i64 x0) ∧ w'.cell? ⟨w.heap.size, 1, none⟩ = some (.int .i64 x1))) (by kernel_rfl) (by (try dsimp only); (first | exact at''.out _ (hcells'.out _ hd) | exact at''.out _ (hcells'.out _ hd3) | exact at''.out _ (hset'.out _ hd3 _ _))) (fun hHeld => ?_)
  refine ly_q 0 (v := ?_) hHeld ?_
  try simp only [Act.put, lyA, lyB, lyC]
  refine ly_q 1 (v := ?_) hHeld ?_
  try simp only [Act.put, lyA, lyB, lyC]
  refine ly_q 2 (v := ?_) hHeld ?_
  try simp only [Act.put, lyA, lyB, lyC]
  refine ly_q 3 (v := ?_) hHeld ?_
  try simp only [Act.put, lyA, lyB, lyC]
  refine ly_q 4 (v := ?_) hHeld ?_
  try simp only [Act.put, lyA, lyB, lyC]
  refine ly_q 5 (v := ?_) hHeld ?_
  try simp only [Act.put, lyA, lyB, lyC]
  refine ly_q 6 (v := ?_) hHeld ?_
  try simp only [Act.put, lyA, lyB, lyC]
  refine ly_q 7 (v := ?_) hHeld ?_
  try simp only [Act.put, lyA, lyB, lyC]
  refine ly_q 8 (v := ?_) hHeld ?_
  try simp only [Act.put, lyA, lyB, lyC]
  refine ly_q 9 (v := ?_) hHeld ?_
  try simp only [Act.put, lyA, lyB, lyC]
  refine ly_a 10 (fun KK hKK => ?_)
  go_simp
  refine (cl'.out _).mono ?_
  rintro e w3 ⟨rfl, hB3⟩
  have hd3 := hd.trans (hB3.mono hd.size)
  have n0 := bkeep hd3 y0
  have n1 := bkeep hd3 y1
  have n2 := gfrozen (bgrow hd3 none) y0 y2 (by simp)
  have n3 := gfrozen (bgrow hd3 none) y1 y3 (by simp)
  try dsimp only
  refine hKK.out _ _ (by (try dsimp only); (first | exact at''.out _ (hcells'.out _ hd) | exact at''.out _ (hcells'.out _ hd3) | exact at''.out _ (hset'.out _ hd3 _ _))) (fun hHeld => ?_)
  clear hKK KK
  try simp only [Act.put, lyA, lyB, lyC]
  refine ly_q 11 (v := ?_) hHeld ?_
  try simp only [Act.put, lyA, lyB, lyC]
  refine ly_q 12 (v := ?_) hHeld ?_
  try simp only [Act.put, lyA, lyB, lyC]
  refine ly_a 13 (fun KK hKK => ?_)
  go_simp
  skip
  try dsimp only
  refine hKK.out _ _ (by (try dsimp only); (first | exact at''.out _ (hcells'.out _ hd) | exact at''.out _ (hcells'.out _ hd3) | exact at''.out _ (hset'.out _ hd3 _ _))) (fun hHeld => ?_)
  clear hKK KK
  try simp only [Act.put, lyA, lyB, lyC]
  refine ly_q 14 (v := ?_) hHeld ?_
  try simp only [Act.put, lyA, lyB, lyC]
  refine wpAnyH_done (by kernel_rfl) ?_ _
  have hb3 := hB.trans (hd3.mono hB.size)
  have hBf := (hb3.setCell (p := ⟨w.heap.size + 1, 0, none⟩) (by show w.heap.size ≤ w.heap.size + 1; omega) (.int .i64 r0)).setCell (p := ⟨w.heap.size + 1, 1, none⟩) (by show w.heap.size ≤ w.heap.size + 1; omega) (.int .i64 r1)
  clear hHeld hd hd3 y0 y1 y2 y3
  have hBf' := Lib.hid hBf
  clear hBf
  go_wp2
  exact bodyPost_ret (v := .tuple #[ratV (r0, r1), .bool r2]) (by simp [results, Tryz.results31, go_sem, n0, n1, ratV]) rfl ⟨rfl, hBf'.out⟩

end Go.Proofs.YtjkgilenhoomoaaGreat

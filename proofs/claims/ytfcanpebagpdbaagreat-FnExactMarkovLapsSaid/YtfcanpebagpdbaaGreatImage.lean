/- The lesser and the greater of two fractions; the closure that gathers them. No conditions but valid fractions. -/
import Derived.Test.YtfcanpebagpdbaaGreatPkF
import Derived.Deep.RegionWith
namespace Go.Proofs.YtfcanpebagpdbaaGreat
open Go.RowKit

def lessR (a b : Int × Int) : Int × Int := if ltB b.1 b.2 a.1 a.2 = true then b else a
def greatR (a b : Int × Int) : Int × Int := if ltB a.1 a.2 b.1 b.2 = true then b else a
theorem lessR_good {a b : Int × Int} (ha : goodR a.1 a.2 = true) (hb : goodR b.1 b.2 = true) : goodR (lessR a b).1 (lessR a b).2 = true := by unfold lessR; split <;> assumption
theorem greatR_good {a b : Int × Int} (ha : goodR a.1 a.2 = true) (hb : goodR b.1 b.2 = true) : goodR (greatR a b).1 (greatR a b).2 = true := by unfold greatR; split <;> assumption

set_option maxHeartbeats 400000 in
theorem lesser_any (a b : Int × Int) (w : World) (ga : goodR a.1 a.2 = true) (gb : goodR b.1 b.2 = true) :
    Calls Tryz.prog 105 #[.agg #[.int .i64 a.1, .int .i64 a.2], .agg #[.int .i64 b.1, .int .i64 b.2]] w (Ret (ratV (lessR a b)) w) := by
  have ha := good_bd ga
  have hb := good_bd gb
  have c1 := fun w => less_any b.1 b.2 a.1 a.2 w hb ha
  unfold lessR
  generalize ltB b.1 b.2 a.1 a.2 = L at *
  clear ha hb ga gb
  obtain ⟨n, d⟩ := a
  obtain ⟨n', d'⟩ := b
  show Calls _ _ #[.agg #[.int .i64 n, .int .i64 d], .agg #[.int .i64 n', .int .i64 d']] w _
  simp only at c1
  obtain ⟨W, hW⟩ : ∃ W, ((w.alloc (.cells #[.int .i64 n, .int .i64 d] 45)).alloc (.cells #[.int .i64 n', .int .i64 d'] 45)).alloc (.cells #[.int .i64 0, .int .i64 0] 45) = W := ⟨_, rfl⟩
  have hB : Below w.heap.size w W := by rw [← hW]; exact (((Below.refl _ _).alloc (Nat.le_refl _) _).alloc (by simp) _).alloc (by simp; omega) _
  have k0 : W.cell? ⟨w.heap.size, 0, none⟩ = some (.int .i64 n) := by rw [← hW]; simp [go_sem]
  have k1 : W.cell? ⟨w.heap.size, 1, none⟩ = some (.int .i64 d) := by rw [← hW]; simp [go_sem]
  have k2 : W.cell? ⟨w.heap.size + 1, 0, none⟩ = some (.int .i64 n') := by rw [← hW]; simp [go_sem]
  have k3 : W.cell? ⟨w.heap.size + 1, 1, none⟩ = some (.int .i64 d') := by rw [← hW]; simp [go_sem]
  have k4 : W.cell? ⟨w.heap.size + 1 + 1, 0, none⟩ = some (.int .i64 0) := by rw [← hW]; simp [go_sem]
  have k5 : W.cell? ⟨w.heap.size + 1 + 1, 1, none⟩ = some (.int .i64 0) := by rw [← hW]; simp [go_sem]
  have k6 : W.frozen? ⟨w.heap.size + 1 + 1, 0, none⟩ = false := by rw [← hW]; simp [go_sem]
  have k7 : W.frozen? ⟨w.heap.size + 1 + 1, 1, none⟩ = false := by rw [← hW]; simp [go_sem]
  have c1' := Lib.hid c1
  have hW' := Lib.hid hW
  clear c1 hW
  cases L
  · rw [if_neg (by decide)]
    go_enter Tryz.func105, Tryz.ntmps105
    go_wp2_with fail
    rw [hW'.out]
    go_wp2_with fail
    refine (c1'.out _).mono ?_
    rintro e w1 ⟨rfl, hB1⟩
    have hb1 := hB.trans (hB1.mono hB.size)
    have r0 := bkeep hB1 k0
    have r1 := bkeep hB1 k1
    have r2 := bkeep hB1 k2
    have r3 := bkeep hB1 k3
    have r4 := bkeep hB1 k4
    have r5 := bkeep hB1 k5
    have r6 := gfrozen (bgrow hB1 none) k4 k6 (by simp)
    have r7 := gfrozen (bgrow hB1 none) k5 k7 (by simp)
    clear k0 k1 k2 k3 k4 k5 k6 k7 hB1
    go_wp2
    refine bodyPost_ret (v := ratV (n, d)) (by simp [results, Tryz.results105, go_sem, r4, r5, ratV]) rfl ⟨rfl, ?_⟩
    exact (hb1.setCell (p := ⟨w.heap.size + 1 + 1, 0, none⟩) (by show w.heap.size ≤ w.heap.size + 1 + 1; omega) _).setCell (p := ⟨w.heap.size + 1 + 1, 1, none⟩) (by show w.heap.size ≤ w.heap.size + 1 + 1; omega) _
  · rw [if_pos rfl]
    go_enter Tryz.func105, Tryz.ntmps105
    go_wp2_with fail
    rw [hW'.out]
    go_wp2_with fail
    refine (c1'.out _).mono ?_
    rintro e w1 ⟨rfl, hB1⟩
    have hb1 := hB.trans (hB1.mono hB.size)
    have r0 := bkeep hB1 k0
    have r1 := bkeep hB1 k1
    have r2 := bkeep hB1 k2
    have r3 := bkeep hB1 k3
    have r4 := bkeep hB1 k4
    have r5 := bkeep hB1 k5
    have r6 := gfrozen (bgrow hB1 none) k4 k6 (by simp)
    have r7 := gfrozen (bgrow hB1 none) k5 k7 (by simp)
    clear k0 k1 k2 k3 k4 k5 k6 k7 hB1
    go_wp2
    refine bodyPost_ret (v := ratV (n', d')) (by simp [results, Tryz.results105, go_sem, r4, r5, ratV]) rfl ⟨rfl, ?_⟩
    exact (hb1.setCell (p := ⟨w.heap.size + 1 + 1, 0, none⟩) (by show w.heap.size ≤ w.heap.size + 1 + 1; omega) _).setCell (p := ⟨w.heap.size + 1 + 1, 1, none⟩) (by show w.heap.size ≤ w.heap.size + 1 + 1; omega) _
set_option maxHeartbeats 400000 in
theorem greater_any (a b : Int × Int) (w : World) (ga : goodR a.1 a.2 = true) (gb : goodR b.1 b.2 = true) :
    Calls Tryz.prog 106 #[.agg #[.int .i64 a.1, .int .i64 a.2], .agg #[.int .i64 b.1, .int .i64 b.2]] w (Ret (ratV (greatR a b)) w) := by
  have ha := good_bd ga
  have hb := good_bd gb
  have c1 := fun w => less_any a.1 a.2 b.1 b.2 w ha hb
  unfold greatR
  generalize ltB a.1 a.2 b.1 b.2 = L at *
  clear ha hb ga gb
  obtain ⟨n, d⟩ := a
  obtain ⟨n', d'⟩ := b
  show Calls _ _ #[.agg #[.int .i64 n, .int .i64 d], .agg #[.int .i64 n', .int .i64 d']] w _
  simp only at c1
  obtain ⟨W, hW⟩ : ∃ W, ((w.alloc (.cells #[.int .i64 n, .int .i64 d] 45)).alloc (.cells #[.int .i64 n', .int .i64 d'] 45)).alloc (.cells #[.int .i64 0, .int .i64 0] 45) = W := ⟨_, rfl⟩
  have hB : Below w.heap.size w W := by rw [← hW]; exact (((Below.refl _ _).alloc (Nat.le_refl _) _).alloc (by simp) _).alloc (by simp; omega) _
  have k0 : W.cell? ⟨w.heap.size, 0, none⟩ = some (.int .i64 n) := by rw [← hW]; simp [go_sem]
  have k1 : W.cell? ⟨w.heap.size, 1, none⟩ = some (.int .i64 d) := by rw [← hW]; simp [go_sem]
  have k2 : W.cell? ⟨w.heap.size + 1, 0, none⟩ = some (.int .i64 n') := by rw [← hW]; simp [go_sem]
  have k3 : W.cell? ⟨w.heap.size + 1, 1, none⟩ = some (.int .i64 d') := by rw [← hW]; simp [go_sem]
  have k4 : W.cell? ⟨w.heap.size + 1 + 1, 0, none⟩ = some (.int .i64 0) := by rw [← hW]; simp [go_sem]
  have k5 : W.cell? ⟨w.heap.size + 1 + 1, 1, none⟩ = some (.int .i64 0) := by rw [← hW]; simp [go_sem]
  have k6 : W.frozen? ⟨w.heap.size + 1 + 1, 0, none⟩ = false := by rw [← hW]; simp [go_sem]
  have k7 : W.frozen? ⟨w.heap.size + 1 + 1, 1, none⟩ = false := by rw [← hW]; simp [go_sem]
  have c1' := Lib.hid c1
  have hW' := Lib.hid hW
  clear c1 hW
  cases L
  · rw [if_neg (by decide)]
    go_enter Tryz.func106, Tryz.ntmps106
    go_wp2_with fail
    rw [hW'.out]
    go_wp2_with fail
    refine (c1'.out _).mono ?_
    rintro e w1 ⟨rfl, hB1⟩
    have hb1 := hB.trans (hB1.mono hB.size)
    have r0 := bkeep hB1 k0
    have r1 := bkeep hB1 k1
    have r2 := bkeep hB1 k2
    have r3 := bkeep hB1 k3
    have r4 := bkeep hB1 k4
    have r5 := bkeep hB1 k5
    have r6 := gfrozen (bgrow hB1 none) k4 k6 (by simp)
    have r7 := gfrozen (bgrow hB1 none) k5 k7 (by simp)
    clear k0 k1 k2 k3 k4 k5 k6 k7 hB1
    go_wp2
    refine bodyPost_ret (v := ratV (n, d)) (by simp [results, Tryz.results106, go_sem, r4, r5, ratV]) rfl ⟨rfl, ?_⟩
    exact (hb1.setCell (p := ⟨w.heap.size + 1 + 1, 0, none⟩) (by show w.heap.size ≤ w.heap.size + 1 + 1; omega) _).setCell (p := ⟨w.heap.size + 1 + 1, 1, none⟩) (by show w.heap.size ≤ w.heap.size + 1 + 1; omega) _
  · rw [if_pos rfl]
    go_enter Tryz.func106, Tryz.ntmps106
    go_wp2_with fail
    rw [hW'.out]
    go_wp2_with fail
    refine (c1'.out _).mono ?_
    rintro e w1 ⟨rfl, hB1⟩
    have hb1 := hB.trans (hB1.mono hB.size)
    have r0 := bkeep hB1 k0
    have r1 := bkeep hB1 k1
    have r2 := bkeep hB1 k2
    have r3 := bkeep hB1 k3
    have r4 := bkeep hB1 k4
    have r5 := bkeep hB1 k5
    have r6 := gfrozen (bgrow hB1 none) k4 k6 (by simp)
    have r7 := gfrozen (bgrow hB1 none) k5 k7 (by simp)
    clear k0 k1 k2 k3 k4 k5 k6 k7 hB1
    go_wp2
    refine bodyPost_ret (v := ratV (n', d')) (by simp [results, Tryz.results106, go_sem, r4, r5, ratV]) rfl ⟨rfl, ?_⟩
    exact (hb1.setCell (p := ⟨w.heap.size + 1 + 1, 0, none⟩) (by show w.heap.size ≤ w.heap.size + 1 + 1; omega) _).setCell (p := ⟨w.heap.size + 1 + 1, 1, none⟩) (by show w.heap.size ≤ w.heap.size + 1 + 1; omega) _

/-- A box with a fraction that may be written. -/
def BoxR (w : World) (b : Nat) (x : Int × Int) : Prop := (w.cell? ⟨b, 0, none⟩ = some (.int .i64 x.1) ∧ w.cell? ⟨b, 1, none⟩ = some (.int .i64 x.2)) ∧ w.frozen? ⟨b, 0, none⟩ = false ∧ w.frozen? ⟨b, 1, none⟩ = false
theorem BoxR.lt {w : World} {b : Nat} {x : Int × Int} (h : BoxR w b x) : b < w.heap.size := by
  have := World.block_lt_of_cell? w _ h.1.1
  exact this
theorem BoxR.grown {w w' : World} {b : Nat} {x : Int × Int} {r : Option Nat} (h : BoxR w b x) (hg : w.grownBy w' r) (hr : r ≠ some b) : BoxR w' b x :=
  ⟨⟨gcell hg h.1.1 hr, gcell hg h.1.2 hr⟩, gfrozen hg h.1.1 h.2.1 hr, gfrozen hg h.1.2 h.2.2 hr⟩
theorem BoxR.below {w w' : World} {b : Nat} {x : Int × Int} (h : BoxR w b x) (hB : Below w.heap.size w w') : BoxR w' b x := h.grown (bgrow hB none) (by simp)
/-- Two boxes alone have changed. -/
def Two (b c : Nat) (w w' : World) : Prop := w'.os = w.os ∧ w'.tape = w.tape ∧ w'.output = w.output ∧ w.heap.size ≤ w'.heap.size ∧ ∀ k, k < w.heap.size → k ≠ b → k ≠ c → w'.heap[k]? = w.heap[k]?

set_option linter.unusedSimpArgs false in
theorem two_end {w w3 : World} {bl bh : Nat} {l0 l1 h0 h1 : Int} (hb : Below w.heap.size w w3) (hne : bl ≠ bh) (_hl : bl < w.heap.size) (_hh : bh < w.heap.size)
    (p0 : w3.cell? ⟨bl, 0, none⟩ = some (.int .i64 l0)) (p1 : w3.cell? ⟨bl, 1, none⟩ = some (.int .i64 l1)) (p2 : w3.frozen? ⟨bl, 0, none⟩ = false) (p3 : w3.frozen? ⟨bl, 1, none⟩ = false)
    (q0 : w3.cell? ⟨bh, 0, none⟩ = some (.int .i64 h0)) (q1 : w3.cell? ⟨bh, 1, none⟩ = some (.int .i64 h1)) (q2 : w3.frozen? ⟨bh, 0, none⟩ = false) (q3 : w3.frozen? ⟨bh, 1, none⟩ = false) (a0 a1 b0 b1 : Int) :
    Two bl bh w ((((w3.setCell ⟨bl, 0, none⟩ (.int .i64 a0)).setCell ⟨bl, 1, none⟩ (.int .i64 a1)).setCell ⟨bh, 0, none⟩ (.int .i64 b0)).setCell ⟨bh, 1, none⟩ (.int .i64 b1)) ∧
    BoxR ((((w3.setCell ⟨bl, 0, none⟩ (.int .i64 a0)).setCell ⟨bl, 1, none⟩ (.int .i64 a1)).setCell ⟨bh, 0, none⟩ (.int .i64 b0)).setCell ⟨bh, 1, none⟩ (.int .i64 b1)) bl (a0, a1) ∧
    BoxR ((((w3.setCell ⟨bl, 0, none⟩ (.int .i64 a0)).setCell ⟨bl, 1, none⟩ (.int .i64 a1)).setCell ⟨bh, 0, none⟩ (.int .i64 b0)).setCell ⟨bh, 1, none⟩ (.int .i64 b1)) bh (b0, b1) := by
  have hne2 := hne.symm
  refine ⟨⟨hb.os, hb.tape, hb.output, by simpa [World.setCell] using hb.size, fun k hk h1 h2 => ?_⟩, ⟨⟨?_, ?_⟩, ?_, ?_⟩, ⟨?_, ?_⟩, ?_, ?_⟩
  · rw [Below.heap_setCell _ _ _ _ (by exact h2), Below.heap_setCell _ _ _ _ (by exact h2), Below.heap_setCell _ _ _ _ (by exact h1), Below.heap_setCell _ _ _ _ (by exact h1)]
    exact hb.block k hk
  all_goals simp [go_sem, p0, p1, p2, p3, q0, q1, q2, q3, hne, hne2]

set_option maxHeartbeats 4000000 in
theorem image1_any (y l h : Int × Int) (bl bh : Nat) (w : World) (gy : goodR y.1 y.2 = true) (gl : goodR l.1 l.2 = true) (gh : goodR h.1 h.2 = true) (hne : bl ≠ bh) (hl : BoxR w bl l) (hh : BoxR w bh h) :
    Calls Tryz.prog 104 #[.agg #[.int .i64 y.1, .int .i64 y.2], .pointer (some ⟨bl, 0, none⟩), .pointer (some ⟨bh, 0, none⟩)] w (fun e w' => e = .returned (.tuple #[]) ∧ Two bl bh w w' ∧ BoxR w' bl (lessR l y) ∧ BoxR w' bh (greatR h y)) := by
  have c1 := fun w => lesser_any l y w gl gy
  have c2 := fun w => greater_any h y w gh gy
  generalize lessR l y = A at *
  generalize greatR h y = B at *
  clear gy gl gh
  obtain ⟨y0, y1⟩ := y
  obtain ⟨l0, l1⟩ := l
  obtain ⟨h0, h1⟩ := h
  obtain ⟨a0, a1⟩ := A
  obtain ⟨b0, b1⟩ := B
  simp only at c1 c2
  have hll := hl.lt
  have hhl := hh.lt
  obtain ⟨w1, hw1⟩ : ∃ W, w.alloc (.cells #[.int .i64 y0, .int .i64 y1] 45) = W := ⟨_, rfl⟩
  have hB : Below w.heap.size w w1 := by rw [← hw1]; exact (Below.refl _ _).alloc (Nat.le_refl _) _
  have z0 : w1.cell? ⟨w.heap.size, 0, none⟩ = some (.int .i64 y0) := by rw [← hw1]; simp [go_sem]
  have z1 : w1.cell? ⟨w.heap.size, 1, none⟩ = some (.int .i64 y1) := by rw [← hw1]; simp [go_sem]
  have hl1 := hl.below hB
  have hh1 := hh.below hB
  obtain ⟨⟨p0, p1⟩, p2, p3⟩ := hl1
  obtain ⟨⟨q0, q1⟩, q2, q3⟩ := hh1
  simp only at p0 p1 q0 q1
  have hz : w.heap.size < w1.heap.size := by rw [← hw1]; simp
  show Calls _ _ #[.agg #[.int .i64 y0, .int .i64 y1], _, _] w _
  clear hl hh
  have c1' := Lib.hid c1
  have c2' := Lib.hid c2
  have hw1' := Lib.hid hw1
  clear c1 c2 hw1
  go_enter Tryz.func104, Tryz.ntmps104
  go_wp2_with fail
  rw [hw1'.out]
  go_region_with (first
    | (go_at_call 105; refine (c1'.out _).mono ?_; rintro e w2 ⟨rfl, hB2⟩; have zz0 := bkeep hB2 z0; have zz1 := bkeep hB2 z1; have pp0 := bkeep hB2 p0; have pp1 := bkeep hB2 p1; have pp2 := gfrozen (bgrow hB2 none) p0 p2 (by simp); have pp3 := gfrozen (bgrow hB2 none) p1 p3 (by simp); have qq0 := bkeep hB2 q0; have qq1 := bkeep hB2 q1; have qq2 := gfrozen (bgrow hB2 none) q0 q2 (by simp); have qq3 := gfrozen (bgrow hB2 none) q1 q3 (by simp); have hb2 := hB.drew.trans (hB2.mono hB.size); clear z0 z1 p0 p1 p2 p3 q0 q1 q2 q3 hB2 hB)
    | (go_at_call 106; refine (c2'.out _).mono ?_; rintro e w3 ⟨rfl, hB3⟩; have ppp0 := bkeep hB3 pp0; have ppp1 := bkeep hB3 pp1; have ppp2 := gfrozen (bgrow hB3 none) pp0 pp2 (by simp); have ppp3 := gfrozen (bgrow hB3 none) pp1 pp3 (by simp); have qqq0 := bkeep hB3 qq0; have qqq1 := bkeep hB3 qq1; have qqq2 := gfrozen (bgrow hB3 none) qq0 qq2 (by simp); have qqq3 := gfrozen (bgrow hB3 none) qq1 qq3 (by simp); have hb3 := hb2.trans (hB3.mono hb2.size); clear zz0 zz1 pp0 pp1 pp2 pp3 qq0 qq1 qq2 qq3 hB3 hb2))
  all_goals
    have hfin := two_end hb3 hne hll hhl ppp0 ppp1 ppp2 ppp3 qqq0 qqq1 qqq2 qqq3 a0 a1 b0 b1
    have hfin' := Lib.hid hfin
    clear hfin
    clear ppp0 ppp1 ppp2 ppp3 qqq0 qqq1 qqq2 qqq3
    go_end0
    exact ⟨rfl, hfin'.out⟩

end Go.Proofs.YtfcanpebagpdbaaGreat

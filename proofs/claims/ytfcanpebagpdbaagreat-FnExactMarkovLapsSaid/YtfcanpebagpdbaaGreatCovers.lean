/- Whether an interval covers another one: the program's and the reference's. No conditions but valid maps and intervals. -/
import Derived.Test.YtfcanpebagpdbaaGreatImImage
import Derived.Test.YtfcanpebagpdbaaGreatPkC
import Derived.Test.YtfcanpebagpdbaaGreatPkE
namespace Go.Proofs.YtfcanpebagpdbaaGreat
open Go.RowKit

/-- The image of i holds k. -/
def covB (f : List Quad) (i k : Quad) : Bool := !(ltB k.1.1 k.1.2 (imS f i.1 i.2 f.length).1.1 (imS f i.1 i.2 f.length).1.2) && !(ltB (imS f i.1 i.2 f.length).2.1 (imS f i.1 i.2 f.length).2.2 k.2.1 k.2.2)
/-- It is told, and it covers. -/
def covR (f : List Quad) (i k : Quad) : Bool × Bool := if imgOk f i.1 i.2 = true then (covB f i k, true) else (false, false)

set_option linter.unusedSimpArgs false in
set_option maxRecDepth 10000 in
set_option maxHeartbeats 4000000 in
theorem covers_any (g : Nat) (bd : Bool) (v : Value) (f : List Quad) (i k : Quad) (w0 w : World) (hv : QuadV w0 v f) (hb0 : Below w0.heap.size w0 w) (hg0 : w0.heap.size ≤ g) (hf : MapP f) (hi1 : unitR i.1.1 i.1.2 = true) (hi2 : unitR i.2.1 i.2.2 = true) (hk1 : unitR k.1.1 k.1.2 = true) (hk2 : unitR k.2.1 k.2.2 = true) (hc : CalcAt w g bd) :
    Calls Tryz.prog 49 #[.pointer (some ⟨g, 0, none⟩), v, quadV i, quadV k] w (RetC g (bd || !imgOk f i.1 i.2) (.bool (covB f i k)) w) := by
  have ci := fun w' hB hc => cimage_any g bd v f i.1 i.2 w0 w' hv hB hg0 hf hi1 hi2 hc
  obtain ⟨gd1, gd2⟩ := imS_good hf i.1 i.2 f.length (Nat.le_refl _)
  unfold covB
  generalize imS f i.1 i.2 f.length = R at *
  obtain ⟨⟨l0, l1⟩, ⟨h0, h1⟩⟩ := R
  simp only at gd1 gd2 ci ⊢
  have cl1 := fun w' => less_any k.1.1 k.1.2 l0 l1 w' (unit_bd hk1) (good_bd (r := (l0, l1)) gd1)
  have cl2 := fun w' => less_any h0 h1 k.2.1 k.2.2 w' (good_bd (r := (h0, h1)) gd2) (unit_bd hk2)
  generalize ltB k.1.1 k.1.2 l0 l1 = U at *
  generalize ltB h0 h1 k.2.1 k.2.2 = L at *
  have hgl := hc.lt
  have hw0 := hb0.size
  generalize imgOk f i.1 i.2 = OK at *
  obtain ⟨⟨x, y⟩, ⟨z, t⟩⟩ := i
  obtain ⟨⟨p, q⟩, ⟨r, s⟩⟩ := k
  simp only at ci cl1 cl2
  obtain ⟨w1, hw1⟩ : ∃ W, (w.alloc (.cells #[.int .i64 x, .int .i64 y, .int .i64 z, .int .i64 t] 78)).alloc (.cells #[.int .i64 p, .int .i64 q, .int .i64 r, .int .i64 s] 78) = W := ⟨_, rfl⟩
  have hB1 : Below w.heap.size w w1 := by rw [← hw1]; exact ((Below.refl _ _).alloc (Nat.le_refl _) _).alloc (by simp) _
  have hz1 : w1.heap.size = w.heap.size + 2 := by rw [← hw1]; simp
  have j0 : w1.cell? ⟨w.heap.size + 1, 0, none⟩ = some (.int .i64 p) := by rw [← hw1]; simp [go_sem]
  have j1 : w1.cell? ⟨w.heap.size + 1, 1, none⟩ = some (.int .i64 q) := by rw [← hw1]; simp [go_sem]
  have j2 : w1.cell? ⟨w.heap.size + 1, 2, none⟩ = some (.int .i64 r) := by rw [← hw1]; simp [go_sem]
  have j3 : w1.cell? ⟨w.heap.size + 1, 3, none⟩ = some (.int .i64 s) := by rw [← hw1]; simp [go_sem]
  have hb1 := hb0.trans (hB1.mono hw0)
  have hc1 := hc.below hB1
  have ci1 := ci w1 hb1 hc1
  have hg1 := bgrow hB1 (some g)
  have hrg : ∀ j, w.heap.size ≤ j → some g ≠ some j := fun j hj e => by have := Option.some.inj e; omega
  clear hv hf ci hc hB1
  have ci1' := Lib.hid ci1
  have cl1' := Lib.hid cl1
  have cl2' := Lib.hid cl2
  have hw1' := Lib.hid hw1
  have j0' := Lib.hid j0
  have j1' := Lib.hid j1
  have j2' := Lib.hid j2
  have j3' := Lib.hid j3
  have hrg' := Lib.hid hrg
  clear ci1 cl1 cl2 hw1 j0 j1 j2 j3 hrg
  show Calls _ _ #[_, _, .agg #[.int .i64 x, .int .i64 y, .int .i64 z, .int .i64 t], .agg #[.int .i64 p, .int .i64 q, .int .i64 r, .int .i64 s]] w _
  go_enter Tryz.func49, Tryz.ntmps49
  go_wp2_with fail
  rw [hw1'.out]
  go_wp2_with fail
  refine (ci1'.out).mono ?_
  rintro e w2 ⟨rfl, hg2, hc2⟩
  have hg3 := hg1.trans hg2
  have j0 := gcell hg2 j0'.out (hrg'.out (w.heap.size + 1) (by omega))
  have j1 := gcell hg2 j1'.out (hrg'.out (w.heap.size + 1) (by omega))
  have j2 := gcell hg2 j2'.out (hrg'.out (w.heap.size + 1) (by omega))
  have j3 := gcell hg2 j3'.out (hrg'.out (w.heap.size + 1) (by omega))
  have hs2 := hg2.size
  obtain ⟨w3, hw3⟩ : ∃ W, (w2.alloc (.cells #[.int .i64 l0, .int .i64 l1] 45)).alloc (.cells #[.int .i64 h0, .int .i64 h1] 45) = W := ⟨_, rfl⟩
  have hB3 : Below w2.heap.size w2 w3 := by rw [← hw3]; exact ((Below.refl _ _).alloc (Nat.le_refl _) _).alloc (by simp) _
  have e0 : w3.cell? ⟨w2.heap.size + 1, 0, none⟩ = some (.int .i64 h0) := by rw [← hw3]; simp [go_sem]
  have e1 : w3.cell? ⟨w2.heap.size + 1, 1, none⟩ = some (.int .i64 h1) := by rw [← hw3]; simp [go_sem]
  have hc3 := hc2.below hB3
  have hg4 := hg3.trans (bgrow hB3 (some g))
  have x0 := bkeep hB3 j0
  have x1 := bkeep hB3 j1
  have x2 := bkeep hB3 j2
  have x3 := bkeep hB3 j3
  clear j0 j1 j2 j3 j0' j1' j2' j3' hg2 hg3 hc2 hB3
  have y0 := x0
  have y1 := x1
  rw [← hw3] at y0 y1
  have x0' := Lib.hid x0
  have x1' := Lib.hid x1
  have x2' := Lib.hid x2
  have x3' := Lib.hid x3
  have e0' := Lib.hid e0
  have e1' := Lib.hid e1
  have hw3' := Lib.hid hw3
  have hc3' := Lib.hid hc3
  have hg4' := Lib.hid hg4
  clear x0 x1 x2 x3 e0 e1 hw3 hc3 hg4
  go_wp2_with fail
  rw [hw3'.out]
  clear y0 y1
  go_wp2_with fail
  refine (cl1'.out _).mono ?_
  rintro e w4 ⟨rfl, hB4⟩
  have hc4 := hc3'.out.below hB4
  have hg5 := hg4'.out.trans (bgrow hB4 (some g))
  cases U
  · have x2 := bkeep hB4 x2'.out
    have x3 := bkeep hB4 x3'.out
    have e0 := bkeep hB4 e0'.out
    have e1 := bkeep hB4 e1'.out
    clear hB4
    have hc4' := Lib.hid hc4
    have hg5' := Lib.hid hg5
    clear hc4 hg5
    go_wp2_with fail
    refine (cl2'.out _).mono ?_
    rintro e w5 ⟨rfl, hB5⟩
    have hc5 := hc4'.out.below hB5
    have hg6 := hg5'.out.trans (bgrow hB5 (some g))
    clear hB5 x2 x3 e0 e1
    have hc5' := Lib.hid hc5
    have hg6' := Lib.hid hg6
    clear hc5 hg6
    go_wp2
    go_ret
    exact ⟨rfl, hg6'.out, hc5'.out⟩
  · clear hB4
    have hc4' := Lib.hid hc4
    have hg5' := Lib.hid hg5
    clear hc4 hg5
    go_wp2
    go_ret
    exact ⟨rfl, hg5'.out, hc4'.out⟩


end Go.Proofs.YtfcanpebagpdbaaGreat

/- The reference's image of an interval. No conditions but valid maps. -/
import Derived.Test.YtfcanpebagpdbaaGreatCimage
import Derived.Test.YtfcanpebagpdbaaGreatOrbit
import Derived.Test.YtfcanpebagpdbaaGreatPkE
namespace Go.Proofs.YtfcanpebagpdbaaGreat
open Go.RowKit

/-- The image, or nothing where a value is too large. -/
def imgR (f : List Quad) (a b : Int × Int) : ((Int × Int) × (Int × Int)) × Bool := if imgOk f a b = true then (imS f a b f.length, true) else (((0, 0), (0, 0)), false)
theorem imgR_ok {f : List Quad} {a b : Int × Int} (h : imgOk f a b = true) : imgR f a b = (imS f a b f.length, true) := by unfold imgR; rw [if_pos h]
theorem imgR_bad {f : List Quad} {a b : Int × Int} (h : imgOk f a b = false) : imgR f a b = (((0, 0), (0, 0)), false) := by unfold imgR; rw [if_neg (by rw [h]; decide)]
/-- Low and high after the first j values. -/
def fdJ (y : Int × Int) (l : List (Int × Int)) (j : Nat) : (Int × Int) × (Int × Int) := fold2 y (l.take j)
theorem fdJ_zero (y : Int × Int) (l : List (Int × Int)) : fdJ y l 0 = (y, y) := rfl
theorem fdJ_step {y : Int × Int} {l : List (Int × Int)} {j : Nat} (h : j < l.length) : fdJ y l (j + 1) = (lessR (fdJ y l j).1 (nthR l j), greatR (fdJ y l j).2 (nthR l j)) := by
  unfold fdJ fold2; rw [take_nthR h, List.foldl_append]; rfl
theorem fdJ_end (y : Int × Int) (l : List (Int × Int)) : fdJ y l l.length = fold2 y l := by unfold fdJ; rw [List.take_of_length_le (Nat.le_refl _)]
theorem fdJ_good {y : Int × Int} {l : List (Int × Int)} (hy : goodR y.1 y.2 = true) (hl : ∀ z ∈ l, goodR z.1 z.2 = true) (j : Nat) : goodR (fdJ y l j).1.1 (fdJ y l j).1.2 = true ∧ goodR (fdJ y l j).2.1 (fdJ y l j).2.2 = true :=
  fold2_good _ _ hy hy (fun z hz => hl z (List.mem_of_mem_take hz))

theorem Two.refl (b c : Nat) (w : World) : Two b c w w := ⟨rfl, rfl, rfl, Nat.le_refl _, fun _ _ _ _ => rfl⟩
theorem Two.below {b c : Nat} {w w1 w2 : World} (h : Two b c w w1) (hB : Below w1.heap.size w1 w2) : Two b c w w2 :=
  ⟨hB.os.trans h.1, hB.tape.trans h.2.1, hB.output.trans h.2.2.1, Nat.le_trans h.2.2.2.1 hB.size, fun k hk h1 h2 => (hB.block k (Nat.lt_of_lt_of_le hk h.2.2.2.1)).trans (h.2.2.2.2 k hk h1 h2)⟩
theorem Two.setL {b c : Nat} {w w1 : World} (h : Two b c w w1) (o : Nat) (u : Value) : Two b c w (w1.setCell ⟨b, o, none⟩ u) :=
  ⟨h.1, h.2.1, h.2.2.1, by simpa [World.setCell] using h.2.2.2.1, fun k hk h1 h2 => (Below.heap_setCell _ _ _ _ (by exact h1)).trans (h.2.2.2.2 k hk h1 h2)⟩
theorem Two.setR {b c : Nat} {w w1 : World} (h : Two b c w w1) (o : Nat) (u : Value) : Two b c w (w1.setCell ⟨c, o, none⟩ u) :=
  ⟨h.1, h.2.1, h.2.2.1, by simpa [World.setCell] using h.2.2.2.1, fun k hk h1 h2 => (Below.heap_setCell _ _ _ _ (by exact h2)).trans (h.2.2.2.2 k hk h1 h2)⟩
theorem Two.cell {b c x o : Nat} {v : Value} {w w1 : World} (h : Two b c w w1) (hc : w.cell? ⟨x, o, none⟩ = some v) (h1 : x ≠ b) (h2 : x ≠ c) : w1.cell? ⟨x, o, none⟩ = some v := by
  have hb := h.2.2.2.2 x (World.block_lt_of_cell? w _ hc) h1 h2
  rw [← hc]; unfold World.cell?; simp only [hb]
theorem Two.under {b c E : Nat} {w0 w w1 : World} (h : Below E w0 w) (ht : Two b c w w1) (h1 : E ≤ b) (h2 : E ≤ c) (h3 : E ≤ w.heap.size) : Below E w0 w1 :=
  ⟨ht.1.trans h.os, ht.2.1.trans h.tape, ht.2.2.1.trans h.output, Nat.le_trans h.size ht.2.2.2.1, fun k hk => (ht.2.2.2.2 k (by omega) (by omega) (by omega)).trans (h.block k hk)⟩
theorem BoxR.set2 {w : World} {b : Nat} {x : Int × Int} (h : BoxR w b x) (y : Int × Int) : BoxR ((w.setCell ⟨b, 0, none⟩ (.int .i64 y.1)).setCell ⟨b, 1, none⟩ (.int .i64 y.2)) b y := by
  obtain ⟨⟨h0, h1⟩, h2, h3⟩ := h
  refine ⟨⟨?_, ?_⟩, ?_, ?_⟩ <;> simp [go_sem, h0, h1, h2, h3]
set_option linter.unusedSimpArgs false in
theorem BoxR.setO {w : World} {b c o : Nat} {x : Int × Int} (h : BoxR w b x) (hne : b ≠ c) (u : Value) : BoxR (w.setCell ⟨c, o, none⟩ u) b x := by
  obtain ⟨⟨h0, h1⟩, h2, h3⟩ := h
  have hne2 := hne.symm
  refine ⟨⟨?_, ?_⟩, ?_, ?_⟩ <;> simp [go_sem, h0, h1, h2, h3, hne, hne2]
theorem BoxR.belowE {w w' : World} {b E : Nat} {x : Int × Int} (h : BoxR w b x) (hB : Below E w w') (hE : b < E) : BoxR w' b x := by
  have hb := hB.block b hE
  obtain ⟨⟨h0, h1⟩, h2, h3⟩ := h
  refine ⟨⟨?_, ?_⟩, ?_, ?_⟩
  · rw [← h0]; unfold World.cell?; simp only [hb]
  · rw [← h1]; unfold World.cell?; simp only [hb]
  · rw [← h2]; unfold World.frozen?; simp only [hb]
  · rw [← h3]; unfold World.frozen?; simp only [hb]


end Go.Proofs.YtfcanpebagpdbaaGreat

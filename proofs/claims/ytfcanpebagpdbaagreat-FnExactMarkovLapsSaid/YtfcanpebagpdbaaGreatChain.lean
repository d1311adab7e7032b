/- The intervals of a list that do not cover the next one: the program's and the reference's. No conditions but valid maps and lists. -/
import Derived.Test.YtfcanpebagpdbaaGreatCovers
import Derived.Test.YtfcanpebagpdbaaGreatRuns
namespace Go.Proofs.YtfcanpebagpdbaaGreat
open Go.RowKit

/-- The place behind k, round the list. -/
def nxt (n k : Nat) : Nat := (k + 1) % n
theorem nxt_lt {n k : Nat} (h : k < n) : nxt n k < n := Nat.mod_lt _ (by omega)
/-- Those of the first k intervals that do not cover the next one. -/
def cfK (f l : List Quad) : Nat → List Int
  | 0 => []
  | k + 1 => if covB f (nth4 l k) (nth4 l (nxt l.length k)) = true then cfK f l k else cfK f l k ++ [(k : Int)]
theorem cfK_len (f l : List Quad) (k : Nat) : (cfK f l k).length ≤ k := by
  induction k with
  | zero => exact Nat.le_refl _
  | succ k ih =>
    unfold cfK
    split
    · omega
    · rw [List.length_append]; simp; exact ih
/-- The images of the first k intervals are told. -/
def ckK (f l : List Quad) (k : Nat) : Bool := (List.range k).all fun i => imgOk f (nth4 l i).1 (nth4 l i).2
theorem ckK_step (f l : List Quad) (k : Nat) : ckK f l (k + 1) = (ckK f l k && imgOk f (nth4 l k).1 (nth4 l k).2) := by simp [ckK, List.range_succ, List.all_append]
theorem ckK_false {f l : List Quad} {k n : Nat} (h : k < n) (hb : imgOk f (nth4 l k).1 (nth4 l k).2 = false) : ckK f l n = false := by
  unfold ckK
  rw [List.all_eq_false]
  exact ⟨k, List.mem_range.2 h, by rw [hb]; simp⟩
def cf_v (f l : List Quad) : List Int × Bool := if ckK f l l.length = true then (cfK f l l.length, true) else ([], false)
def ChainFaults_v (f l : List Quad) : List Int × Bool := if mapB f = true ∧ ivsB l = true then cf_v f l else ([], false)
theorem ChainFaults_len (f l : List Quad) : (ChainFaults_v f l).1.length ≤ 1099511627776 := by
  unfold ChainFaults_v cf_v
  split
  · rename_i h
    have := (ivsB_true h.2).1
    split
    · have := cfK_len f l l.length
      show (cfK f l l.length).length ≤ _
      omega
    · simp
  · simp

/-- A box with a pair of fractions. -/
def BoxQ (w : World) (b : Nat) (q : Quad) : Prop := w.cell? ⟨b, 0, none⟩ = some (.int .i64 q.1.1) ∧ w.cell? ⟨b, 1, none⟩ = some (.int .i64 q.1.2) ∧ w.cell? ⟨b, 2, none⟩ = some (.int .i64 q.2.1) ∧ w.cell? ⟨b, 3, none⟩ = some (.int .i64 q.2.2)
theorem BoxQ.lt {w : World} {b : Nat} {q : Quad} (h : BoxQ w b q) : b < w.heap.size := by
  have := World.block_lt_of_cell? w _ h.1
  exact this
theorem BoxQ.grown {w w' : World} {b : Nat} {q : Quad} {r : Option Nat} (h : BoxQ w b q) (hg : w.grownBy w' r) (hr : r ≠ some b) : BoxQ w' b q := ⟨gcell hg h.1 hr, gcell hg h.2.1 hr, gcell hg h.2.2.1 hr, gcell hg h.2.2.2 hr⟩
theorem BoxQ.below {w w' : World} {b : Nat} {q : Quad} (h : BoxQ w b q) (hB : Below w.heap.size w w') : BoxQ w' b q := h.grown (bgrow hB none) (by simp)


end Go.Proofs.YtfcanpebagpdbaaGreat

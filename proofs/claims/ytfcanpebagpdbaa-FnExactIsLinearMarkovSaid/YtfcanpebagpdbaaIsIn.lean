/- Whether a fraction lies in an interval; running through a list. No conditions. -/
import Derived.Test.YtfcanpebagpdbaaPkE
import Derived.Test.YtfcanpebagpdbaaOrb
import Derived.Test.YtfcanpebagpdbaaPkC
namespace Go.Proofs.Ytfcanpebagpdbaa
open Go.RowKit

def inI (i : Quad) (x : Int × Int) : Bool := !(ltB x.1 x.2 i.1.1 i.1.2) && !(ltB i.2.1 i.2.2 x.1 x.2)
/-- The first k fractions of an orbit lie in the first k intervals. -/
def allIn (f l : List Quad) (x : Int × Int) (k : Nat) : Bool := (List.range k).all fun i => inI (nth4 l i) (pz f x i)
theorem allIn_step (f l : List Quad) (x : Int × Int) (k : Nat) : allIn f l x (k + 1) = (allIn f l x k && inI (nth4 l k) (pz f x k)) := by simp [allIn, List.range_succ, List.all_append]
theorem allIn_false {f l : List Quad} {x : Int × Int} {k n : Nat} (h : k < n) (hb : inI (nth4 l k) (pz f x k) = false) : allIn f l x n = false := by
  unfold allIn
  rw [List.all_eq_false]
  exact ⟨k, List.mem_range.2 h, by rw [hb]; simp⟩
def runs_v (f l : List Quad) (x : Int × Int) : Bool × Bool :=
  if runN f x l.length < l.length then (false, false) else if allIn f l x l.length = true then (decide (pz f x l.length = x), true) else (false, true)
def RunsThrough_v (f l : List Quad) (x : Int × Int) : Bool × Bool := if mapB f = true ∧ ivsB l = true ∧ unitR x.1 x.2 = true then runs_v f l x else (false, false)

set_option maxHeartbeats 800000 in
theorem isIn_any (i : Quad) (x : Int × Int) (w : World) (h1 : BdR i.1.1 i.1.2) (h2 : BdR i.2.1 i.2.2) (hx : BdR x.1 x.2) :
    Calls Try.prog 97 #[quadV i, .agg #[.int .i64 x.1, .int .i64 x.2]] w (Ret (.bool (inI i x)) w) := by
  have c1 := fun w => less_any x.1 x.2 i.1.1 i.1.2 w hx h1
  have c2 := fun w => less_any i.2.1 i.2.2 x.1 x.2 w h2 hx
  unfold inI
  generalize ltB x.1 x.2 i.1.1 i.1.2 = U at *
  generalize ltB i.2.1 i.2.2 x.1 x.2 = L at *
  clear h1 h2 hx
  obtain ⟨⟨x0, y⟩, ⟨z, t⟩⟩ := i
  obtain ⟨p, q⟩ := x
  show Calls _ _ #[.agg #[.int .i64 x0, .int .i64 y, .int .i64 z, .int .i64 t], .agg #[.int .i64 p, .int .i64 q]] w _
  simp only at c1 c2
  obtain ⟨w0, hw0⟩ : ∃ W, (w.alloc (.cells #[.int .i64 x0, .int .i64 y, .int .i64 z, .int .i64 t] 43)).alloc (.cells #[.int .i64 p, .int .i64 q] 34) = W := ⟨_, rfl⟩
  have hB : Below w.heap.size w w0 := by rw [← hw0]; exact ((Below.refl _ _).alloc (Nat.le_refl _) _).alloc (by simp) _
  have a0 : w0.cell? ⟨w.heap.size, 0, none⟩ = some (.int .i64 x0) := by rw [← hw0]; simp [go_sem]
  have a1 : w0.cell? ⟨w.heap.size, 1, none⟩ = some (.int .i64 y) := by rw [← hw0]; simp [go_sem]
  have a2 : w0.cell? ⟨w.heap.size, 2, none⟩ = some (.int .i64 z) := by rw [← hw0]; simp [go_sem]
  have a3 : w0.cell? ⟨w.heap.size, 3, none⟩ = some (.int .i64 t) := by rw [← hw0]; simp [go_sem]
  have b0 : w0.cell? ⟨w.heap.size + 1, 0, none⟩ = some (.int .i64 p) := by rw [← hw0]; simp [go_sem]
  have b1 : w0.cell? ⟨w.heap.size + 1, 1, none⟩ = some (.int .i64 q) := by rw [← hw0]; simp [go_sem]
  have c1' := Lib.hid c1
  have c2' := Lib.hid c2
  have hw0' := Lib.hid hw0
  clear c1 c2 hw0
  go_enter Try.func97, Try.ntmps97
  go_wp2_with fail
  rw [hw0'.out]
  go_wp2_with fail
  refine (c1'.out _).mono ?_
  rintro e w1 ⟨rfl, hB1⟩
  have hb1 := hB.trans (hB1.mono hB.size)
  replace a2 := bkeep hB1 a2
  replace a3 := bkeep hB1 a3
  replace b0 := bkeep hB1 b0
  replace b1 := bkeep hB1 b1
  clear hB1 a0 a1
  have hb1' := Lib.hid hb1
  clear hb1
  cases U
  · go_wp2_with fail
    refine (c2'.out _).mono ?_
    rintro e w2 ⟨rfl, hB2⟩
    have hb2 := hb1'.out.trans (hB2.mono hb1'.out.size)
    clear hB2
    go_wp2
    go_ret
    exact ⟨rfl, hb2⟩
  · go_wp2
    go_ret
    exact ⟨rfl, hb1'.out⟩

end Go.Proofs.Ytfcanpebagpdbaa

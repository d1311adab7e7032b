/- Several texts in one: Orb Orbit IsIn Image ImgLaw Cimage ImImage Covers. No conditions but those that each theorem states. -/
import Derived.Test.YtjkgilenhoomoaaGreatPkE
import Derived.Test.YtjkgilenhoomoaaGreatPkF
import Derived.Test.YtjkgilenhoomoaaGreatPkC
import Derived.Deep.RegionWith
import Derived.Test.YtjkgilenhoomoaaGreatPkG

namespace Go.Proofs.YtjkgilenhoomoaaGreat

/-- The k-th fraction of an orbit. -/
def pz (f : List Quad) (x : Int × Int) : Nat → Int × Int | 0 => x | k + 1 => atZ f (pz f x k)
def runF (f : List Quad) (x : Int × Int) : Nat → Nat → Nat
  | 0, k => k
  | m + 1, k => if atOk f (pz f x k) = true then runF f x m (k + 1) else k
/-- The number of steps that can be computed, at most n. -/
def runN (f : List Quad) (x : Int × Int) (n : Nat) : Nat := runF f x n 0
/-- The fractions up to the k-th. -/
def ptL (f : List Quad) (x : Int × Int) (k : Nat) : List (Int × Int) := (List.range (k + 1)).map (pz f x)
def orbL (f : List Quad) (x : Int × Int) (n : Nat) : List (Int × Int) := ptL f x (runN f x n)
theorem ptL_len (f : List Quad) (x : Int × Int) (k : Nat) : (ptL f x k).length = k + 1 := by simp [ptL]
theorem ptL_zero (f : List Quad) (x : Int × Int) : ptL f x 0 = [x] := rfl
theorem ptL_step (f : List Quad) (x : Int × Int) (k : Nat) : ptL f x (k + 1) = ptL f x k ++ [pz f x (k + 1)] := by
  unfold ptL; rw [List.range_succ, List.map_append]; rfl
theorem nthR_ptL {f : List Quad} {x : Int × Int} {k i : Nat} (h : i ≤ k) : nthR (ptL f x k) i = pz f x i := by
  rw [nthR_eq (by rw [ptL_len]; omega)]; simp [ptL]
theorem runF_go {f : List Quad} {x : Int × Int} {n k : Nat} (hk : k < n) (h : atOk f (pz f x k) = true) : runF f x (n - (k + 1)) (k + 1) = runF f x (n - k) k := by
  rw [show n - k = (n - (k + 1)) + 1 by omega, runF, if_pos h]
theorem runF_stop {f : List Quad} {x : Int × Int} {n k : Nat} (hk : k < n) (h : atOk f (pz f x k) = false) : runF f x (n - k) k = k := by
  rw [show n - k = (n - (k + 1)) + 1 by omega, runF, if_neg (by rw [h]; decide)]
theorem runF_end {f : List Quad} {x : Int × Int} (n : Nat) : runF f x (n - n) n = n := by rw [Nat.sub_self]; rfl
theorem runF_le (f : List Quad) (x : Int × Int) : ∀ m k, k ≤ runF f x m k ∧ runF f x m k ≤ k + m ∧ ∀ j, k ≤ j → j < runF f x m k → atOk f (pz f x j) = true := by
  intro m
  induction m with
  | zero => intro k; exact ⟨Nat.le_refl _, Nat.le_refl _, fun j h1 h2 => by simp only [runF] at h2; omega⟩
  | succ m ih =>
    intro k
    obtain ⟨a, b, c⟩ := ih (k + 1)
    cases h : atOk f (pz f x k)
    · have e : runF f x (m + 1) k = k := by rw [runF, if_neg (by rw [h]; decide)]
      rw [e]
      exact ⟨Nat.le_refl _, by omega, fun j h1 h2 => by omega⟩
    · have e : runF f x (m + 1) k = runF f x m (k + 1) := by rw [runF, if_pos h]
      rw [e]
      exact ⟨by omega, by omega, fun j h1 h2 => by
        by_cases hj : j = k
        · rw [hj]; exact h
        · exact c j (by omega) h2⟩
theorem runN_le (f : List Quad) (x : Int × Int) (n : Nat) : runN f x n ≤ n := by have := (runF_le f x n 0).2.1; unfold runN; omega
theorem runN_ok (f : List Quad) (x : Int × Int) (n j : Nat) (h : j < runN f x n) : atOk f (pz f x j) = true := (runF_le f x n 0).2.2 j (Nat.zero_le _) h
theorem pz_unit {f : List Quad} (hf : MapP f) {x : Int × Int} (hx : unitR x.1 x.2 = true) : ∀ k, (∀ j, j < k → atOk f (pz f x j) = true) → unitR (pz f x k).1 (pz f x k).2 = true := by
  intro k
  induction k with
  | zero => intro _; exact hx
  | succ k ih => intro h; exact at_unit hf (ih fun j hj => h j (by omega)) (h k (Nat.lt_succ_self k))
theorem orbL_len (f : List Quad) (x : Int × Int) (n : Nat) : (orbL f x n).length = runN f x n + 1 := ptL_len _ _ _
theorem orbL_unit {f : List Quad} (hf : MapP f) {x : Int × Int} (hx : unitR x.1 x.2 = true) (n i : Nat) (h : i < (orbL f x n).length) : unitR (nthR (orbL f x n) i).1 (nthR (orbL f x n) i).2 = true := by
  rw [orbL_len] at h
  unfold orbL
  rw [nthR_ptL (by omega)]
  exact pz_unit hf hx i fun j hj => runN_ok f x n j (by omega)

end Go.Proofs.YtjkgilenhoomoaaGreat

namespace Go.Proofs.YtjkgilenhoomoaaGreat
open Go.RowKit

/-- A row of fractions is not the calculator's block. -/
theorem GrowR.notCalc {w : World} {B g : Nat} {bd : Bool} {v : Value} {xs : List (Int × Int)} (h : GrowR w B v xs) (hx : 0 < xs.length) (hc : CalcAt w g bd) : v.ownBlock ≠ some g := by
  intro e
  have hl : 0 < (flR xs).length := by rw [flR_len]; omega
  have h1 := World.ownsRow.cells h e 0 (.int .i64 (flR xs)[0]) (by simp [hl])
  have e2 : (⟨g, 0, none⟩ : Addr).add 0 = ⟨g, 0, none⟩ := rfl
  rw [e2, hc.1] at h1
  cases h1
theorem GrowR.keptC {w w' : World} {B g : Nat} {bd : Bool} {v : Value} {xs : List (Int × Int)} (h : GrowR w B v xs) (hx : 0 < xs.length) (hc : CalcAt w g bd) (hg : w.grownBy w' (some g)) : GrowR w' B v xs :=
  World.ownsRow.kept h hg (.inr (h.notCalc hx hc))
theorem GrowR.setB {w : World} {B b o : Nat} {v : Value} {xs : List (Int × Int)} (h : GrowR w B v xs) (hb : b < B) (u : Value) : GrowR (w.setCell ⟨b, o, none⟩ u) B v xs :=
  World.ownsRow.kept h (grownBy_setCell_some w b o u) (.inr (fun e => by have := (World.ownsRow.lt h b e).1; omega))
theorem GrowR.lit (w : World) (x : Int × Int) : GrowR (w.alloc (.cells #[.int .i64 x.1, .int .i64 x.2] 42)) w.heap.size (.slice (some ⟨w.heap.size, 0, none⟩) 1 1) [x] :=
  World.ownsRow_lit (base := w.heap.size) (e := 42) (size := 2) w #[.int .i64 x.1, .int .i64 x.2] 1 (Nat.le_refl _) (by decide) rfl


end Go.Proofs.YtjkgilenhoomoaaGreat

namespace Go.Proofs.YtjkgilenhoomoaaGreat
open Go.RowKit

def inI (i : Quad) (x : Int × Int) : Bool := !(ltB x.1 x.2 i.1.1 i.1.2) && !(ltB i.2.1 i.2.2 x.1 x.2)
/-- The first k fractions of an orbit lie in the first k intervals. -/
def allIn (f l : List Quad) (x : Int × Int) (k : Nat) : Bool := (List.range k).all fun i => inI (nth4 l i) (pz f x i)
theorem allIn_step (f l : List Quad) (x : Int × Int) (k : Nat) : allIn f l x (k + 1) = (allIn f l x k && inI (nth4 l k) (pz f x k)) := by simp [allIn, List.range_succ, List.all_append]
theorem allIn_false {f l : List Quad} {x : Int × Int} {k n : Nat} (h : k < n) (hb : inI (nth4 l k) (pz f x k) = false) : allIn f l x n = false := by
  unfold allIn
  rw [List.all_eq_false]
  exact ⟨k, List.mem_range.2 h, by rw [hb]; simp⟩
def runs_v (f l : List Quad) (x : Int × Int) : Bool × Bool :=
  if runN f x l.length < l.length then (false, false) else if allIn f l x l.length = true then (decide (pz f x l.length = x), true) else (false, true)
def RunsThrough_v (f l : List Quad) (x : Int × Int) : Bool × Bool := if mapB f = true ∧ ivsB l = true ∧ unitR x.1 x.2 = true then runs_v f l x else (false, false)


end Go.Proofs.YtjkgilenhoomoaaGreat

namespace Go.Proofs.YtjkgilenhoomoaaGreat
open Go.RowKit

def lessR (a b : Int × Int) : Int × Int := if ltB b.1 b.2 a.1 a.2 = true then b else a
def greatR (a b : Int × Int) : Int × Int := if ltB a.1 a.2 b.1 b.2 = true then b else a
theorem lessR_good {a b : Int × Int} (ha : goodR a.1 a.2 = true) (hb : goodR b.1 b.2 = true) : goodR (lessR a b).1 (lessR a b).2 = true := by unfold lessR; split <;> assumption
theorem greatR_good {a b : Int × Int} (ha : goodR a.1 a.2 = true) (hb : goodR b.1 b.2 = true) : goodR (greatR a b).1 (greatR a b).2 = true := by unfold greatR; split <;> assumption

set_option maxHeartbeats 400000 in
theorem lesser_any (a b : Int × Int) (w : World) (ga : goodR a.1 a.2 = true) (gb : goodR b.1 b.2 = true) :
    Calls Tryz.prog 89 #[.agg #[.int .i64 a.1, .int .i64 a.2], .agg #[.int .i64 b.1, .int .i64 b.2]] w (Ret (ratV (lessR a b)) w) := by
  have ha := good_bd ga
  have hb := good_bd gb
  have c1 := fun w => less_any b.1 b.2 a.1 a.2 w hb ha
  unfold lessR
  generalize ltB b.1 b.2 a.1 a.2 = L at *
  clear ha hb ga gb
  obtain ⟨n, d⟩ := a
  obtain ⟨n', d'⟩ := b
  show Calls _ _ #[.agg #[.int .i64 n, .int .i64 d], .agg #[.int .i64 n', .int .i64 d']] w _
  simp only at c1
  obtain ⟨W, hW⟩ : ∃ W, ((w.alloc (.cells #[.int .i64 n, .int .i64 d] 42)).alloc (.cells #[.int .i64 n', .int .i64 d'] 42)).alloc (.cells #[.int .i64 0, .int .i64 0] 42) = W := ⟨_, rfl⟩
  have hB : Below w.heap.size w W := by rw [← hW]; exact (((Below.refl _ _).alloc (Nat.le_refl _) _).alloc (by simp) _).alloc (by simp; omega) _
  have k0 : W.cell? ⟨w.heap.size, 0, none⟩ = some (.int .i64 n) := by rw [← hW]; simp [go_sem]
  have k1 : W.cell? ⟨w.heap.size, 1, none⟩ = some (.int .i64 d) := by rw [← hW]; simp [go_sem]
  have k2 : W.cell? ⟨w.heap.size + 1, 0, none⟩ = some (.int .i64 n') := by rw [← hW]; simp [go_sem]
  have k3 : W.cell? ⟨w.heap.size + 1, 1, none⟩ = some (.int .i64 d') := by rw [← hW]; simp [go_sem]
  have k4 : W.cell? ⟨w.heap.size + 1 + 1, 0, none⟩ = some (.int .i64 0) := by rw [← hW]; simp [go_sem]
  have k5 : W.cell? ⟨w.heap.size + 1 + 1, 1, none⟩ = some (.int .i64 0) := by rw [← hW]; simp [go_sem]
  have k6 : W.frozen? ⟨w.heap.size + 1 + 1, 0, none⟩ = false := by rw [← hW]; simp [go_sem]
  have k7 : W.frozen? ⟨w.heap.size + 1 + 1, 1, none⟩ = false := by rw [← hW]; simp [go_sem]
  have c1' := Lib.hid c1
  have hW' := Lib.hid hW
  clear c1 hW
  cases L
  · rw [if_neg (by decide)]
    go_enter Tryz.func89, Tryz.ntmps89
    go_wp2_with fail
    rw [hW'.out]
    go_wp2_with fail
    refine (c1'.out _).mono ?_
    rintro e w1 ⟨rfl, hB1⟩
    have hb1 := hB.trans (hB1.mono hB.size)
    have r0 := bkeep hB1 k0
    have r1 := bkeep hB1 k1
    have r2 := bkeep hB1 k2
    have r3 := bkeep hB1 k3
    have r4 := bkeep hB1 k4
    have r5 := bkeep hB1 k5
    have r6 := gfrozen (bgrow hB1 none) k4 k6 (by simp)
    have r7 := gfrozen (bgrow hB1 none) k5 k7 (by simp)
    clear k0 k1 k2 k3 k4 k5 k6 k7 hB1
    go_wp2
    refine bodyPost_ret (v := ratV (n, d)) (by simp [results, Tryz.results89, go_sem, r4, r5, ratV]) rfl ⟨rfl, ?_⟩
    exact (hb1.setCell (p := ⟨w.heap.size + 1 + 1, 0, none⟩) (by show w.heap.size ≤ w.heap.size + 1 + 1; omega) _).setCell (p := ⟨w.heap.size + 1 + 1, 1, none⟩) (by show w.heap.size ≤ w.heap.size + 1 + 1; omega) _
  · rw [if_pos rfl]
    go_enter Tryz.func89, Tryz.ntmps89
    go_wp2_with fail
    rw [hW'.out]
    go_wp2_with fail
    refine (c1'.out _).mono ?_
    rintro e w1 ⟨rfl, hB1⟩
    have hb1 := hB.trans (hB1.mono hB.size)
    have r0 := bkeep hB1 k0
    have r1 := bkeep hB1 k1
    have r2 := bkeep hB1 k2
    have r3 := bkeep hB1 k3
    have r4 := bkeep hB1 k4
    have r5 := bkeep hB1 k5
    have r6 := gfrozen (bgrow hB1 none) k4 k6 (by simp)
    have r7 := gfrozen (bgrow hB1 none) k5 k7 (by simp)
    clear k0 k1 k2 k3 k4 k5 k6 k7 hB1
    go_wp2
    refine bodyPost_ret (v := ratV (n', d')) (by simp [results, Tryz.results89, go_sem, r4, r5, ratV]) rfl ⟨rfl, ?_⟩
    exact (hb1.setCell (p := ⟨w.heap.size + 1 + 1, 0, none⟩) (by show w.heap.size ≤ w.heap.size + 1 + 1; omega) _).setCell (p := ⟨w.heap.size + 1 + 1, 1, none⟩) (by show w.heap.size ≤ w.heap.size + 1 + 1; omega) _
set_option maxHeartbeats 400000 in
theorem greater_any (a b : Int × Int) (w : World) (ga : goodR a.1 a.2 = true) (gb : goodR b.1 b.2 = true) :
    Calls Tryz.prog 90 #[.agg #[.int .i64 a.1, .int .i64 a.2], .agg #[.int .i64 b.1, .int .i64 b.2]] w (Ret (ratV (greatR a b)) w) := by
  have ha := good_bd ga
  have hb := good_bd gb
  have c1 := fun w => less_any a.1 a.2 b.1 b.2 w ha hb
  unfold greatR
  generalize ltB a.1 a.2 b.1 b.2 = L at *
  clear ha hb ga gb
  obtain ⟨n, d⟩ := a
  obtain ⟨n', d'⟩ := b
  show Calls _ _ #[.agg #[.int .i64 n, .int .i64 d], .agg #[.int .i64 n', .int .i64 d']] w _
  simp only at c1
  obtain ⟨W, hW⟩ : ∃ W, ((w.alloc (.cells #[.int .i64 n, .int .i64 d] 42)).alloc (.cells #[.int .i64 n', .int .i64 d'] 42)).alloc (.cells #[.int .i64 0, .int .i64 0] 42) = W := ⟨_, rfl⟩
  have hB : Below w.heap.size w W := by rw [← hW]; exact (((Below.refl _ _).alloc (Nat.le_refl _) _).alloc (by simp) _).alloc (by simp; omega) _
  have k0 : W.cell? ⟨w.heap.size, 0, none⟩ = some (.int .i64 n) := by rw [← hW]; simp [go_sem]
  have k1 : W.cell? ⟨w.heap.size, 1, none⟩ = some (.int .i64 d) := by rw [← hW]; simp [go_sem]
  have k2 : W.cell? ⟨w.heap.size + 1, 0, none⟩ = some (.int .i64 n') := by rw [← hW]; simp [go_sem]
  have k3 : W.cell? ⟨w.heap.size + 1, 1, none⟩ = some (.int .i64 d') := by rw [← hW]; simp [go_sem]
  have k4 : W.cell? ⟨w.heap.size + 1 + 1, 0, none⟩ = some (.int .i64 0) := by rw [← hW]; simp [go_sem]
  have k5 : W.cell? ⟨w.heap.size + 1 + 1, 1, none⟩ = some (.int .i64 0) := by rw [← hW]; simp [go_sem]
  have k6 : W.frozen? ⟨w.heap.size + 1 + 1, 0, none⟩ = false := by rw [← hW]; simp [go_sem]
  have k7 : W.frozen? ⟨w.heap.size + 1 + 1, 1, none⟩ = false := by rw [← hW]; simp [go_sem]
  have c1' := Lib.hid c1
  have hW' := Lib.hid hW
  clear c1 hW
  cases L
  · rw [if_neg (by decide)]
    go_enter Tryz.func90, Tryz.ntmps90
    go_wp2_with fail
    rw [hW'.out]
    go_wp2_with fail
    refine (c1'.out _).mono ?_
    rintro e w1 ⟨rfl, hB1⟩
    have hb1 := hB.trans (hB1.mono hB.size)
    have r0 := bkeep hB1 k0
    have r1 := bkeep hB1 k1
    have r2 := bkeep hB1 k2
    have r3 := bkeep hB1 k3
    have r4 := bkeep hB1 k4
    have r5 := bkeep hB1 k5
    have r6 := gfrozen (bgrow hB1 none) k4 k6 (by simp)
    have r7 := gfrozen (bgrow hB1 none) k5 k7 (by simp)
    clear k0 k1 k2 k3 k4 k5 k6 k7 hB1
    go_wp2
    refine bodyPost_ret (v := ratV (n, d)) (by simp [results, Tryz.results90, go_sem, r4, r5, ratV]) rfl ⟨rfl, ?_⟩
    exact (hb1.setCell (p := ⟨w.heap.size + 1 + 1, 0, none⟩) (by show w.heap.size ≤ w.heap.size + 1 + 1; omega) _).setCell (p := ⟨w.heap.size + 1 + 1, 1, none⟩) (by show w.heap.size ≤ w.heap.size + 1 + 1; omega) _
  · rw [if_pos rfl]
    go_enter Tryz.func90, Tryz.ntmps90
    go_wp2_with fail
    rw [hW'.out]
    go_wp2_with fail
    refine (c1'.out _).mono ?_
    rintro e w1 ⟨rfl, hB1⟩
    have hb1 := hB.trans (hB1.mono hB.size)
    have r0 := bkeep hB1 k0
    have r1 := bkeep hB1 k1
    have r2 := bkeep hB1 k2
    have r3 := bkeep hB1 k3
    have r4 := bkeep hB1 k4
    have r5 := bkeep hB1 k5
    have r6 := gfrozen (bgrow hB1 none) k4 k6 (by simp)
    have r7 := gfrozen (bgrow hB1 none) k5 k7 (by simp)
    clear k0 k1 k2 k3 k4 k5 k6 k7 hB1
    go_wp2
    refine bodyPost_ret (v := ratV (n', d')) (by simp [results, Tryz.results90, go_sem, r4, r5, ratV]) rfl ⟨rfl, ?_⟩
    exact (hb1.setCell (p := ⟨w.heap.size + 1 + 1, 0, none⟩) (by show w.heap.size ≤ w.heap.size + 1 + 1; omega) _).setCell (p := ⟨w.heap.size + 1 + 1, 1, none⟩) (by show w.heap.size ≤ w.heap.size + 1 + 1; omega) _

/-- A box with a fraction that may be written. -/
def BoxR (w : World) (b : Nat) (x : Int × Int) : Prop := (w.cell? ⟨b, 0, none⟩ = some (.int .i64 x.1) ∧ w.cell? ⟨b, 1, none⟩ = some (.int .i64 x.2)) ∧ w.frozen? ⟨b, 0, none⟩ = false ∧ w.frozen? ⟨b, 1, none⟩ = false
theorem BoxR.lt {w : World} {b : Nat} {x : Int × Int} (h : BoxR w b x) : b < w.heap.size := by
  have := World.block_lt_of_cell? w _ h.1.1
  exact this
theorem BoxR.grown {w w' : World} {b : Nat} {x : Int × Int} {r : Option Nat} (h : BoxR w b x) (hg : w.grownBy w' r) (hr : r ≠ some b) : BoxR w' b x :=
  ⟨⟨gcell hg h.1.1 hr, gcell hg h.1.2 hr⟩, gfrozen hg h.1.1 h.2.1 hr, gfrozen hg h.1.2 h.2.2 hr⟩
theorem BoxR.below {w w' : World} {b : Nat} {x : Int × Int} (h : BoxR w b x) (hB : Below w.heap.size w w') : BoxR w' b x := h.grown (bgrow hB none) (by simp)
/-- Two boxes alone have changed. -/
def Two (b c : Nat) (w w' : World) : Prop := w'.os = w.os ∧ w'.tape = w.tape ∧ w'.output = w.output ∧ w.heap.size ≤ w'.heap.size ∧ ∀ k, k < w.heap.size → k ≠ b → k ≠ c → w'.heap[k]? = w.heap[k]?

set_option linter.unusedSimpArgs false in
theorem two_end {w w3 : World} {bl bh : Nat} {l0 l1 h0 h1 : Int} (hb : Below w.heap.size w w3) (hne : bl ≠ bh) (_hl : bl < w.heap.size) (_hh : bh < w.heap.size)
    (p0 : w3.cell? ⟨bl, 0, none⟩ = some (.int .i64 l0)) (p1 : w3.cell? ⟨bl, 1, none⟩ = some (.int .i64 l1)) (p2 : w3.frozen? ⟨bl, 0, none⟩ = false) (p3 : w3.frozen? ⟨bl, 1, none⟩ = false)
    (q0 : w3.cell? ⟨bh, 0, none⟩ = some (.int .i64 h0)) (q1 : w3.cell? ⟨bh, 1, none⟩ = some (.int .i64 h1)) (q2 : w3.frozen? ⟨bh, 0, none⟩ = false) (q3 : w3.frozen? ⟨bh, 1, none⟩ = false) (a0 a1 b0 b1 : Int) :
    Two bl bh w ((((w3.setCell ⟨bl, 0, none⟩ (.int .i64 a0)).setCell ⟨bl, 1, none⟩ (.int .i64 a1)).setCell ⟨bh, 0, none⟩ (.int .i64 b0)).setCell ⟨bh, 1, none⟩ (.int .i64 b1)) ∧
    BoxR ((((w3.setCell ⟨bl, 0, none⟩ (.int .i64 a0)).setCell ⟨bl, 1, none⟩ (.int .i64 a1)).setCell ⟨bh, 0, none⟩ (.int .i64 b0)).setCell ⟨bh, 1, none⟩ (.int .i64 b1)) bl (a0, a1) ∧
    BoxR ((((w3.setCell ⟨bl, 0, none⟩ (.int .i64 a0)).setCell ⟨bl, 1, none⟩ (.int .i64 a1)).setCell ⟨bh, 0, none⟩ (.int .i64 b0)).setCell ⟨bh, 1, none⟩ (.int .i64 b1)) bh (b0, b1) := by
  have hne2 := hne.symm
  refine ⟨⟨hb.os, hb.tape, hb.output, by simpa [World.setCell] using hb.size, fun k hk h1 h2 => ?_⟩, ⟨⟨?_, ?_⟩, ?_, ?_⟩, ⟨?_, ?_⟩, ?_, ?_⟩
  · rw [Below.heap_setCell _ _ _ _ (by exact h2), Below.heap_setCell _ _ _ _ (by exact h2), Below.heap_setCell _ _ _ _ (by exact h1), Below.heap_setCell _ _ _ _ (by exact h1)]
    exact hb.block k hk
  all_goals simp [go_sem, p0, p1, p2, p3, q0, q1, q2, q3, hne, hne2]

set_option maxHeartbeats 4000000 in
theorem image1_any (y l h : Int × Int) (bl bh : Nat) (w : World) (gy : goodR y.1 y.2 = true) (gl : goodR l.1 l.2 = true) (gh : goodR h.1 h.2 = true) (hne : bl ≠ bh) (hl : BoxR w bl l) (hh : BoxR w bh h) :
    Calls Tryz.prog 88 #[.agg #[.int .i64 y.1, .int .i64 y.2], .pointer (some ⟨bl, 0, none⟩), .pointer (some ⟨bh, 0, none⟩)] w (fun e w' => e = .returned (.tuple #[]) ∧ Two bl bh w w' ∧ BoxR w' bl (lessR l y) ∧ BoxR w' bh (greatR h y)) := by
  have c1 := fun w => lesser_any l y w gl gy
  have c2 := fun w => greater_any h y w gh gy
  generalize lessR l y = A at *
  generalize greatR h y = B at *
  clear gy gl gh
  obtain ⟨y0, y1⟩ := y
  obtain ⟨l0, l1⟩ := l
  obtain ⟨h0, h1⟩ := h
  obtain ⟨a0, a1⟩ := A
  obtain ⟨b0, b1⟩ := B
  simp only at c1 c2
  have hll := hl.lt
  have hhl := hh.lt
  obtain ⟨w1, hw1⟩ : ∃ W, w.alloc (.cells #[.int .i64 y0, .int .i64 y1] 42) = W := ⟨_, rfl⟩
  have hB : Below w.heap.size w w1 := by rw [← hw1]; exact (Below.refl _ _).alloc (Nat.le_refl _) _
  have z0 : w1.cell? ⟨w.heap.size, 0, none⟩ = some (.int .i64 y0) := by rw [← hw1]; simp [go_sem]
  have z1 : w1.cell? ⟨w.heap.size, 1, none⟩ = some (.int .i64 y1) := by rw [← hw1]; simp [go_sem]
  have hl1 := hl.below hB
  have hh1 := hh.below hB
  obtain ⟨⟨p0, p1⟩, p2, p3⟩ := hl1
  obtain ⟨⟨q0, q1⟩, q2, q3⟩ := hh1
  simp only at p0 p1 q0 q1
  have hz : w.heap.size < w1.heap.size := by rw [← hw1]; simp
  show Calls _ _ #[.agg #[.int .i64 y0, .int .i64 y1], _, _] w _
  clear hl hh
  have c1' := Lib.hid c1
  have c2' := Lib.hid c2
  have hw1' := Lib.hid hw1
  clear c1 c2 hw1
  go_enter Tryz.func88, Tryz.ntmps88
  go_wp2_with fail
  rw [hw1'.out]
  go_region_with (first
    | (go_at_call 89; refine (c1'.out _).mono ?_; rintro e w2 ⟨rfl, hB2⟩; have zz0 := bkeep hB2 z0; have zz1 := bkeep hB2 z1; have pp0 := bkeep hB2 p0; have pp1 := bkeep hB2 p1; have pp2 := gfrozen (bgrow hB2 none) p0 p2 (by simp); have pp3 := gfrozen (bgrow hB2 none) p1 p3 (by simp); have qq0 := bkeep hB2 q0; have qq1 := bkeep hB2 q1; have qq2 := gfrozen (bgrow hB2 none) q0 q2 (by simp); have qq3 := gfrozen (bgrow hB2 none) q1 q3 (by simp); have hb2 := hB.drew.trans (hB2.mono hB.size); clear z0 z1 p0 p1 p2 p3 q0 q1 q2 q3 hB2 hB)
    | (go_at_call 90; refine (c2'.out _).mono ?_; rintro e w3 ⟨rfl, hB3⟩; have ppp0 := bkeep hB3 pp0; have ppp1 := bkeep hB3 pp1; have ppp2 := gfrozen (bgrow hB3 none) pp0 pp2 (by simp); have ppp3 := gfrozen (bgrow hB3 none) pp1 pp3 (by simp); have qqq0 := bkeep hB3 qq0; have qqq1 := bkeep hB3 qq1; have qqq2 := gfrozen (bgrow hB3 none) qq0 qq2 (by simp); have qqq3 := gfrozen (bgrow hB3 none) qq1 qq3 (by simp); have hb3 := hb2.trans (hB3.mono hb2.size); clear zz0 zz1 pp0 pp1 pp2 pp3 qq0 qq1 qq2 qq3 hB3 hb2))
  all_goals
    have hfin := two_end hb3 hne hll hhl ppp0 ppp1 ppp2 ppp3 qqq0 qqq1 qqq2 qqq3 a0 a1 b0 b1
    have hfin' := Lib.hid hfin
    clear hfin
    clear ppp0 ppp1 ppp2 ppp3 qqq0 qqq1 qqq2 qqq3
    go_end0
    exact ⟨rfl, hfin'.out⟩

end Go.Proofs.YtjkgilenhoomoaaGreat

namespace Go.Proofs.YtjkgilenhoomoaaGreat

/-- Does point p lie strictly between a and b? -/
def midB (a b : Int × Int) (p : Quad) : Bool := ltB a.1 a.2 p.1.1 p.1.2 && ltB p.1.1 p.1.2 b.1 b.2
/-- The values after the first k points: the end's, then those of the points between. -/
def imV (f : List Quad) (a b : Int × Int) : Nat → List (Int × Int)
  | 0 => [atZ f b]
  | k + 1 => if midB a b (nth4 f k) = true then imV f a b k ++ [(nth4 f k).2] else imV f a b k
def fold2 (y : Int × Int) : List (Int × Int) → (Int × Int) × (Int × Int) := fun l => l.foldl (fun s z => (lessR s.1 z, greatR s.2 z)) (y, y)
/-- Low and high after the first k points. -/
def imS (f : List Quad) (a b : Int × Int) (k : Nat) : (Int × Int) × (Int × Int) := fold2 (atZ f a) (imV f a b k)
theorem imS_zero (f : List Quad) (a b : Int × Int) : imS f a b 0 = (lessR (atZ f a) (atZ f b), greatR (atZ f a) (atZ f b)) := rfl
theorem imS_yes {f : List Quad} {a b : Int × Int} {k : Nat} (h : midB a b (nth4 f k) = true) : imS f a b (k + 1) = (lessR (imS f a b k).1 (nth4 f k).2, greatR (imS f a b k).2 (nth4 f k).2) := by
  have e : imV f a b (k + 1) = if midB a b (nth4 f k) = true then imV f a b k ++ [(nth4 f k).2] else imV f a b k := rfl
  unfold imS fold2
  rw [e, if_pos h, List.foldl_append]; rfl
theorem imS_no {f : List Quad} {a b : Int × Int} {k : Nat} (h : midB a b (nth4 f k) = false) : imS f a b (k + 1) = imS f a b k := by
  have e : imV f a b (k + 1) = if midB a b (nth4 f k) = true then imV f a b k ++ [(nth4 f k).2] else imV f a b k := rfl
  unfold imS fold2
  rw [e, if_neg (by rw [h]; decide)]
theorem imV_len (f : List Quad) (a b : Int × Int) : ∀ k, 1 ≤ (imV f a b k).length ∧ (imV f a b k).length ≤ k + 1 := by
  intro k
  induction k with
  | zero => exact ⟨Nat.le_refl _, Nat.le_refl _⟩
  | succ k ih =>
    unfold imV
    split
    · rw [List.length_append]; simp; omega
    · omega
theorem imV_good {f : List Quad} (hf : MapP f) (a b : Int × Int) : ∀ k, k ≤ f.length → ∀ y ∈ imV f a b k, goodR y.1 y.2 = true := by
  intro k
  induction k with
  | zero => intro _ y hy; rw [List.mem_singleton.1 hy]; exact atZ_good f b
  | succ k ih =>
    intro hk y hy
    unfold imV at hy
    split at hy
    · rcases List.mem_append.1 hy with h | h
      · exact ih (by omega) y h
      · rw [List.mem_singleton.1 h]; exact unitR_good (coordR_unit (hf.coord k (by omega)).2)
    · exact ih (by omega) y hy
theorem fold2_good (l : List (Int × Int)) : ∀ s : (Int × Int) × (Int × Int), goodR s.1.1 s.1.2 = true → goodR s.2.1 s.2.2 = true → (∀ y ∈ l, goodR y.1 y.2 = true) →
    goodR (l.foldl (fun s z => (lessR s.1 z, greatR s.2 z)) s).1.1 (l.foldl (fun s z => (lessR s.1 z, greatR s.2 z)) s).1.2 = true ∧ goodR (l.foldl (fun s z => (lessR s.1 z, greatR s.2 z)) s).2.1 (l.foldl (fun s z => (lessR s.1 z, greatR s.2 z)) s).2.2 = true := by
  induction l with
  | nil => intro s h1 h2 _; exact ⟨h1, h2⟩
  | cons z l ih =>
    intro s h1 h2 h
    have hz := h z (List.mem_cons_self ..)
    exact ih _ (lessR_good h1 hz) (greatR_good h2 hz) (fun y hy => h y (List.mem_cons_of_mem _ hy))
theorem imS_good {f : List Quad} (hf : MapP f) (a b : Int × Int) (k : Nat) (hk : k ≤ f.length) : goodR (imS f a b k).1.1 (imS f a b k).1.2 = true ∧ goodR (imS f a b k).2.1 (imS f a b k).2.2 = true :=
  fold2_good _ _ (atZ_good f a) (atZ_good f a) (imV_good hf a b k hk)
/-- Both values can be computed. -/
def imgOk (f : List Quad) (a b : Int × Int) : Bool := atOk f a && atOk f b

end Go.Proofs.YtjkgilenhoomoaaGreat

namespace Go.Proofs.YtjkgilenhoomoaaGreat
open Go.RowKit

theorem BoxR.two {w w' : World} {x bl bh : Nat} {r : Int × Int} (h : BoxR w x r) (ht : Two bl bh w w') (h1 : x ≠ bl) (h2 : x ≠ bh) : BoxR w' x r := by
  have hb := ht.2.2.2.2 x h.lt h1 h2
  have hg : w.grownBy (w') none → True := fun _ => trivial
  obtain ⟨⟨c0, c1⟩, f0, f1⟩ := h
  have hc : ∀ o, w'.cell? ⟨x, o, none⟩ = w.cell? ⟨x, o, none⟩ := fun o => by unfold World.cell?; simp only [hb]
  have hf : ∀ o, w'.frozen? ⟨x, o, none⟩ = w.frozen? ⟨x, o, none⟩ := fun o => by unfold World.frozen?; simp only [hb]
  exact ⟨⟨(hc 0).trans c0, (hc 1).trans c1⟩, (hf 0).trans f0, (hf 1).trans f1⟩
theorem CalcAt.two {w w' : World} {g bl bh : Nat} {bd : Bool} (h : CalcAt w g bd) (ht : Two bl bh w w') (h1 : g ≠ bl) (h2 : g ≠ bh) : CalcAt w' g bd := by
  have hb := ht.2.2.2.2 g h.lt h1 h2
  have hc : w'.cell? ⟨g, 0, none⟩ = w.cell? ⟨g, 0, none⟩ := by unfold World.cell?; simp only [hb]
  have hf : w'.frozen? ⟨g, 0, none⟩ = w.frozen? ⟨g, 0, none⟩ := by unfold World.frozen?; simp only [hb]
  exact ⟨hc.trans h.1, hf.trans h.2⟩
theorem grow_two {w w1 w2 : World} {bl bh : Nat} {r : Option Nat} (h : w.grownBy w1 r) (ht : Two bl bh w1 w2) (h1 : w.heap.size ≤ bl) (h2 : w.heap.size ≤ bh) : w.grownBy w2 r :=
  ⟨ht.1.trans h.os, ht.2.1.trans h.tape, ht.2.2.1.trans h.output, Nat.le_trans h.size ht.2.2.2.1, fun k hk hr => (ht.2.2.2.2 k (Nat.lt_of_lt_of_le hk h.size) (by omega) (by omega)).trans (h.block k hk hr)⟩
theorem BoxR.lit (w : World) (r : Int × Int) : BoxR (w.alloc (.cells #[.int .i64 r.1, .int .i64 r.2] 42)) w.heap.size r := by
  refine ⟨⟨?_, ?_⟩, ?_, ?_⟩ <;> simp [go_sem]
theorem BoxR.alloc {w : World} {b : Nat} {r : Int × Int} (h : BoxR w b r) (o : Obj) : BoxR (w.alloc o) b r := h.grown (World.grownBy_alloc w o none) (by simp)

set_option linter.unusedSimpArgs false in
set_option maxRecDepth 10000 in
set_option maxHeartbeats 4000000 in
theorem cimage_any (g : Nat) (bd : Bool) (v : Value) (f : List Quad) (a b : Int × Int) (w0 w : World) (hv : QuadV w0 v f) (hb0 : Below w0.heap.size w0 w) (hg0 : w0.heap.size ≤ g) (hf : MapP f) (ha : unitR a.1 a.2 = true) (hb : unitR b.1 b.2 = true) (hc : CalcAt w g bd) :
    Calls Tryz.prog 66 #[.pointer (some ⟨g, 0, none⟩), v, .agg #[.int .i64 a.1, .int .i64 a.2], .agg #[.int .i64 b.1, .int .i64 b.2]] w (RetC g (bd || !imgOk f a b) (.tuple #[ratV (imS f a b f.length).1, ratV (imS f a b f.length).2]) w) := by
  have ca := fun (w' : World) hB hc => cvalue_any g bd v f a w0 w' hv hB hg0 hf ha hc
  have cb := fun (w' : World) hB hc => cvalue_any g (bd || !atOk f a) v f b w0 w' hv hB hg0 hf hb hc
  have hbd : (bd || !atOk f a || !atOk f b) = (bd || !imgOk f a b) := by unfold imgOk; cases bd <;> cases atOk f a <;> cases atOk f b <;> rfl
  rw [hbd] at cb
  have hgl := hc.lt
  have hw0 := hb0.size
  have z0 := imS_zero f a b
  have ga := atZ_good f a
  have gb := atZ_good f b
  have c1 := fun (l h : Nat) (w' : World) hne h1 h2 => image1_any (atZ f b) (atZ f a) (atZ f a) l h w' gb ga ga hne h1 h2
  rw [← (show (imS f a b 0).1 = lessR (atZ f a) (atZ f b) by rw [z0]), ← (show (imS f a b 0).2 = greatR (atZ f a) (atZ f b) by rw [z0])] at c1
  obtain ⟨a0, a1⟩ := a
  obtain ⟨b0, b1⟩ := b
  simp only at ca cb
  obtain ⟨w1, hw1⟩ : ∃ W, (((w.alloc (.cells #[.int .i64 a0, .int .i64 a1] 42)).alloc (.cells #[.int .i64 b0, .int .i64 b1] 42)).alloc (.cells #[.int .i64 0, .int .i64 0] 42)).alloc (.cells #[.int .i64 0, .int .i64 0] 42) = W := ⟨_, rfl⟩
  have hB1 : Below w.heap.size w w1 := by rw [← hw1]; exact ((((Below.refl _ _).alloc (Nat.le_refl _) _).alloc (by simp) _).alloc (by simp; omega) _).alloc (by simp; omega) _
  have hz1 : w1.heap.size = w.heap.size + 4 := by rw [← hw1]; simp
  have k0 : BoxR w1 w.heap.size (a0, a1) := by rw [← hw1]; exact (((BoxR.lit w (a0, a1)).alloc _).alloc _).alloc _
  have k1 : BoxR w1 (w.heap.size + 1) (b0, b1) := by rw [← hw1]; refine ⟨⟨?_, ?_⟩, ?_, ?_⟩ <;> simp [go_sem]
  have k2 : BoxR w1 (w.heap.size + 1 + 1) (0, 0) := by rw [← hw1]; refine ⟨⟨?_, ?_⟩, ?_, ?_⟩ <;> simp [go_sem]
  have k3 : BoxR w1 (w.heap.size + 1 + 1 + 1) (0, 0) := by rw [← hw1]; refine ⟨⟨?_, ?_⟩, ?_, ?_⟩ <;> simp [go_sem]
  have hc1 := hc.below hB1
  have hg1 : w.grownBy w1 (some g) := bgrow hB1 _
  have hb1 := hb0.trans (hB1.mono hw0)
  have ca1 := ca w1 hb1 hc1
  generalize atZ f (a0, a1) = L at *
  obtain ⟨l0, l1⟩ := L
  obtain ⟨⟨ka0, ka1⟩, ka2, ka3⟩ := id k0
  obtain ⟨⟨kb0, kb1⟩, kb2, kb3⟩ := id k1
  have hrg : ∀ j, w.heap.size ≤ j → some g ≠ some j := fun j hj e => by have := Option.some.inj e; omega
  obtain ⟨ao, cap, rfl, _, _, H⟩ := hv.form
  obtain ⟨n, hn⟩ : ∃ n, f.length = n := ⟨_, rfl⟩
  rw [hn] at H ca1 cb ⊢
  have hlen := hf.len
  rw [hn] at hlen
  clear hB1 ca
  have ca1' := Lib.hid ca1
  have cb' := Lib.hid cb
  have c1' := Lib.hid c1
  have z0' := Lib.hid z0
  have ga' := Lib.hid ga
  have gb' := Lib.hid gb
  have hw1' := Lib.hid hw1
  have k0' := Lib.hid k0
  have k1' := Lib.hid k1
  have k2' := Lib.hid k2
  have k3' := Lib.hid k3
  have hg1' := Lib.hid hg1
  have hrg' := Lib.hid hrg
  have H' := Lib.hid H
  have hn' := Lib.hid hn
  clear ca1 cb c1 z0 ga gb hw1 k0 k1 k2 k3 hg1 hrg H hn
  show Calls _ _ #[_, _, .agg #[.int .i64 a0, .int .i64 a1], .agg #[.int .i64 b0, .int .i64 b1]] w _
  go_enter Tryz.func66, Tryz.ntmps66
  go_wp2_with fail
  rw [hw1'.out]
  go_wp2_with fail
  refine (ca1'.out).mono ?_
  rintro e w2 ⟨rfl, hg2, hc2⟩
  have n0 := k0'.out.grown hg2 (hrg'.out _ (Nat.le_refl _))
  have n1 := k1'.out.grown hg2 (hrg'.out _ (by omega))
  have n2 := k2'.out.grown hg2 (hrg'.out _ (by omega))
  have n3 := k3'.out.grown hg2 (hrg'.out _ (by omega))
  have hs2 := hg2.size
  have hg3 := hg1'.out.trans hg2
  clear ka0 ka1 ka2 ka3 kb0 kb1 kb2 kb3 k0' k1' k2' k3'
  obtain ⟨w3, hw3⟩ : ∃ W, (w2.alloc (.cells #[.int .i64 l0, .int .i64 l1] 42)).alloc (.cells #[.int .i64 l0, .int .i64 l1] 42) = W := ⟨_, rfl⟩
  have hB3 : Below w2.heap.size w2 w3 := by rw [← hw3]; exact ((Below.refl _ _).alloc (Nat.le_refl _) _).alloc (by simp) _
  have m0 := n0.below hB3
  have m1 := n1.below hB3
  have m2 := n2.below hB3
  have m3 := n3.below hB3
  have mL : BoxR w3 w2.heap.size (l0, l1) := by rw [← hw3]; exact (BoxR.lit w2 (l0, l1)).alloc _
  have mH : BoxR w3 (w2.heap.size + 1) (l0, l1) := by rw [← hw3]; refine ⟨⟨?_, ?_⟩, ?_, ?_⟩ <;> simp [go_sem]
  have hc3 := hc2.below hB3
  have hg4 := hg3.trans (bgrow hB3 (some g))
  have hb3 := quad_stays hv hb0 hg0 hg4
  have cb1 := cb'.out w3 hb3 hc3
  obtain ⟨⟨ka0, ka1⟩, _, _⟩ := id m1
  rw [← hw3] at ka0 ka1
  clear n0 n1 n2 n3 hB3 hg3
  have m0' := Lib.hid m0
  have m1' := Lib.hid m1
  have m2' := Lib.hid m2
  have m3' := Lib.hid m3
  have mL' := Lib.hid mL
  have mH' := Lib.hid mH
  have hc3' := Lib.hid hc3
  have hg4' := Lib.hid hg4
  have cb1' := Lib.hid cb1
  have hw3' := Lib.hid hw3
  clear m0 m1 m2 m3 mL mH hc3 hg4 cb1 hw3
  go_wp2_with fail
  rw [hw3'.out]
  clear ka0 ka1
  go_wp2_with fail
  refine (cb1'.out).mono ?_
  rintro e w4 ⟨rfl, hg5, hc5⟩
  have n0 := m0'.out.grown hg5 (hrg'.out _ (Nat.le_refl _))
  have n1 := m1'.out.grown hg5 (hrg'.out _ (by omega))
  have n2 := m2'.out.grown hg5 (hrg'.out _ (by omega))
  have n3 := m3'.out.grown hg5 (hrg'.out _ (by omega))
  have nL := mL'.out.grown hg5 (hrg'.out _ (by omega))
  have nH := mH'.out.grown hg5 (hrg'.out _ (by omega))
  have hg6 := hg4'.out.trans hg5
  have c2 := c1'.out w2.heap.size (w2.heap.size + 1) w4 (by omega) nL nH
  have hs4 := hg5.size
  obtain ⟨bl, hbl⟩ : ∃ bl, w2.heap.size = bl := ⟨_, rfl⟩
  clear m0' m1' m2' m3' mL' mH' c1' cb' ca1' cb1' hw1' hw3' hg4' hg1'
  rw [hbl] at nL nH c2
  have n0' := Lib.hid n0
  have n1' := Lib.hid n1
  have n2' := Lib.hid n2
  have n3' := Lib.hid n3
  have nL' := Lib.hid nL
  have nH' := Lib.hid nH
  have hg6' := Lib.hid hg6
  have c2' := Lib.hid c2
  have hc5' := Lib.hid hc5
  clear n0 n1 n2 n3 nL nH hg6 c2 hc5
  have hbd2 : bl ≠ w.heap.size := by have := hs2; omega
  go_wp2_with fail
  go_wp2_with fail
  refine (c2'.out).mono ?_
  rintro e w5 ⟨rfl, ht, oL, oH⟩
  have o0 := n0'.out.two ht (by omega) (by omega)
  have o1 := n1'.out.two ht (by omega) (by omega)
  have o2 := n2'.out.two ht (by omega) (by omega)
  have o3 := n3'.out.two ht (by omega) (by omega)
  have hc6 := hc5'.out.two ht (by omega) (by omega)
  have hg7 := grow_two hg6'.out ht (by omega) (by omega)
  clear ht n0' n1' n2' n3' nL' nH' c2' hc5' hg6'
  have o0' := Lib.hid o0
  have o1' := Lib.hid o1
  have o2' := Lib.hid o2
  have o3' := Lib.hid o3
  have oL' := Lib.hid oL
  have oH' := Lib.hid oH
  have hc6' := Lib.hid hc6
  have hg7' := Lib.hid hg7
  clear o0 o1 o2 o3 oL oH hc6 hg7
  go_wp2
  go_loopw [29] (fun i wr => ∃ k : Nat, k ≤ n ∧ i = .int .i64 k ∧ w.grownBy wr (some g) ∧ CalcAt wr g (bd || !imgOk f (a0, a1) (b0, b1)) ∧ BoxR wr w.heap.size (a0, a1) ∧ BoxR wr (w.heap.size + 1) (b0, b1) ∧ BoxR wr (w.heap.size + 1 + 1) (0, 0) ∧ BoxR wr (w.heap.size + 1 + 1 + 1) (0, 0) ∧ BoxR wr bl (imS f (a0, a1) (b0, b1) k).1 ∧ BoxR wr (bl + 1) (imS f (a0, a1) (b0, b1) k).2) (fun i _ => n - (intOf i).toNat)
  case atStart => exact ⟨0, Nat.zero_le _, rfl, hg7'.out, hc6'.out, o0'.out, o1'.out, o2'.out, o3'.out, oL'.out, oH'.out⟩
  case round =>
    obtain ⟨k, hk, rfl, hgr, hcr, r0, r1, r2, r3, rL, rH⟩ := hrel
    by_cases hlt : k < n
    · obtain ⟨bb, off, rfl, p0, p1, p2, p3⟩ := H'.out k hlt
      have hbr := quad_stays hv hb0 hg0 hgr
      replace p0 := bkeep hbr p0
      replace p1 := bkeep hbr p1
      replace p2 := bkeep hbr p2
      replace p3 := bkeep hbr p3
      have hco := hf.coord k (by rw [hn'.out]; exact hlt)
      have cl1 := fun w' => less_any a0 a1 (nth4 f k).1.1 (nth4 f k).1.2 w' (unitR_bd ha) (unitR_bd (coordR_unit hco.1))
      have cl2 := fun w' => less_any (nth4 f k).1.1 (nth4 f k).1.2 b0 b1 w' (unitR_bd (coordR_unit hco.1)) (unitR_bd hb)
      have hyes := imS_yes (f := f) (a := (a0, a1)) (b := (b0, b1)) (k := k)
      have hno := imS_no (f := f) (a := (a0, a1)) (b := (b0, b1)) (k := k)
      rw [show midB (a0, a1) (b0, b1) (nth4 f k) = (ltB a0 a1 (nth4 f k).1.1 (nth4 f k).1.2 && ltB (nth4 f k).1.1 (nth4 f k).1.2 b0 b1) from rfl] at hyes hno
      have hgd := imS_good hf (a0, a1) (b0, b1) k (by rw [hn'.out]; omega)
      have ct := fun w' h1 h2 => image1_any (nth4 f k).2 (imS f (a0, a1) (b0, b1) k).1 (imS f (a0, a1) (b0, b1) k).2 bl (bl + 1) w' (unitR_good (coordR_unit hco.2)) hgd.1 hgd.2 (by omega) h1 h2
      clear hgd hco
      generalize ltB a0 a1 (nth4 f k).1.1 (nth4 f k).1.2 = L1 at *
      generalize ltB (nth4 f k).1.1 (nth4 f k).1.2 b0 b1 = L2 at *
      obtain ⟨R1, hR1⟩ : ∃ R, imS f (a0, a1) (b0, b1) k = R := ⟨_, rfl⟩
      obtain ⟨R2, hR2⟩ : ∃ R, imS f (a0, a1) (b0, b1) (k + 1) = R := ⟨_, rfl⟩
      rw [hR1, hR2] at hyes hno
      rw [hR1] at ct rL rH
      generalize nth4 f k = P at *
      obtain ⟨⟨q0, q1⟩, ⟨q2, q3⟩⟩ := P
      simp only at p0 p1 p2 p3 cl1 cl2 ct
      obtain ⟨w6, hw6⟩ : ∃ W, wr.alloc (.cells #[.int .i64 q0, .int .i64 q1, .int .i64 q2, .int .i64 q3] 48) = W := ⟨_, rfl⟩
      have hB6 : Below wr.heap.size wr w6 := by rw [← hw6]; exact (Below.refl _ _).alloc (Nat.le_refl _) _
      have i0 : w6.cell? ⟨wr.heap.size, 0, none⟩ = some (.int .i64 q0) := by rw [← hw6]; simp [go_sem]
      have i1 : w6.cell? ⟨wr.heap.size, 1, none⟩ = some (.int .i64 q1) := by rw [← hw6]; simp [go_sem]
      have i2 : w6.cell? ⟨wr.heap.size, 2, none⟩ = some (.int .i64 q2) := by rw [← hw6]; simp [go_sem]
      have i3 : w6.cell? ⟨wr.heap.size, 3, none⟩ = some (.int .i64 q3) := by rw [← hw6]; simp [go_sem]
      have s0 := r0.below hB6
      have s1 := r1.below hB6
      have s2 := r2.below hB6
      have s3 := r3.below hB6
      have sL := rL.below hB6
      have sH := rH.below hB6
      have hc7 := hcr.below hB6
      have hg8 := hgr.trans (bgrow hB6 (some g))
      have hLlt := rL.lt
      have hHlt := rH.lt
      obtain ⟨⟨x0, x1⟩, _, _⟩ := id s0
      rw [← hw6] at x0 x1
      clear r0 r1 r2 r3 rL rH hcr hgr hB6 hbr
      have s0' := Lib.hid s0
      have s1' := Lib.hid s1
      have s2' := Lib.hid s2
      have s3' := Lib.hid s3
      have sL' := Lib.hid sL
      have sH' := Lib.hid sH
      have hc7' := Lib.hid hc7
      have hg8' := Lib.hid hg8
      have cl1' := Lib.hid cl1
      have cl2' := Lib.hid cl2
      have ct' := Lib.hid ct
      have hyes' := Lib.hid hyes
      have hno' := Lib.hid hno
      have hw6' := Lib.hid hw6
      have hR1' := Lib.hid hR1
      have hR2' := Lib.hid hR2
      have i0' := Lib.hid i0
      have i1' := Lib.hid i1
      have i2' := Lib.hid i2
      have i3' := Lib.hid i3
      clear s0 s1 s2 s3 sL sH hc7 hg8 cl1 cl2 ct hyes hno hw6 hR1 hR2 i0 i1 i2 i3
      go_wp2_with fail
      rw [hw6'.out]
      clear x0 x1 p0 p1 p2 p3
      go_wp2_with fail
      refine (cl1'.out _).mono ?_
      rintro e w7 ⟨rfl, hB7⟩
      have s0 := s0'.out.below hB7
      have s1 := s1'.out.below hB7
      have s2 := s2'.out.below hB7
      have s3 := s3'.out.below hB7
      have sL := sL'.out.below hB7
      have sH := sH'.out.below hB7
      have hc7 := hc7'.out.below hB7
      have hg8 := hg8'.out.trans (bgrow hB7 (some g))
      have i0 := bkeep hB7 i0'.out
      have i1 := bkeep hB7 i1'.out
      have i2 := bkeep hB7 i2'.out
      have i3 := bkeep hB7 i3'.out
      clear s0' s1' s2' s3' sL' sH' hc7' hg8' i0' i1' i2' i3' hB7
      cases L1
      · have e2 : R2 = R1 := hno'.out rfl
        have s0' := Lib.hid s0
        have s1' := Lib.hid s1
        have s2' := Lib.hid s2
        have s3' := Lib.hid s3
        have sL' := Lib.hid sL
        have sH' := Lib.hid sH
        have hc7' := Lib.hid hc7
        have hg8' := Lib.hid hg8
        have e2' := Lib.hid e2
        clear s0 s1 s2 s3 sL sH hc7 hg8 e2
        go_wp2
        go_roundw
        case rel => exact ⟨k + 1, by omega, by go_num, hg8'.out, hc7'.out, s0'.out, s1'.out, s2'.out, s3'.out, by rw [hR2'.out, e2'.out]; exact sL'.out, by rw [hR2'.out, e2'.out]; exact sH'.out⟩
        case measure => simp [intOf]; omega
      · obtain ⟨⟨x0, x1⟩, _, _⟩ := id s1
        have s0' := Lib.hid s0
        have s1' := Lib.hid s1
        have s2' := Lib.hid s2
        have s3' := Lib.hid s3
        have sL' := Lib.hid sL
        have sH' := Lib.hid sH
        have hc7' := Lib.hid hc7
        have hg8' := Lib.hid hg8
        have i2' := Lib.hid i2
        have i3' := Lib.hid i3
        clear s0 s1 s2 s3 sL sH hc7 hg8 i2 i3
        go_wp2_with fail
        refine (cl2'.out _).mono ?_
        rintro e w8 ⟨rfl, hB8⟩
        have s0 := s0'.out.below hB8
        have s1 := s1'.out.below hB8
        have s2 := s2'.out.below hB8
        have s3 := s3'.out.below hB8
        have sL := sL'.out.below hB8
        have sH := sH'.out.below hB8
        have hc7 := hc7'.out.below hB8
        have hg8 := hg8'.out.trans (bgrow hB8 (some g))
        have i2 := bkeep hB8 i2'.out
        have i3 := bkeep hB8 i3'.out
        clear s0' s1' s2' s3' sL' sH' hc7' hg8' i2' i3' hB8 i0 i1 x0 x1
        cases L2
        · have e2 : R2 = R1 := hno'.out rfl
          have s0' := Lib.hid s0
          have s1' := Lib.hid s1
          have s2' := Lib.hid s2
          have s3' := Lib.hid s3
          have sL' := Lib.hid sL
          have sH' := Lib.hid sH
          have hc7' := Lib.hid hc7
          have hg8' := Lib.hid hg8
          have e2' := Lib.hid e2
          clear s0 s1 s2 s3 sL sH hc7 hg8 e2
          go_wp2
          go_roundw
          case rel => exact ⟨k + 1, by omega, by go_num, hg8'.out, hc7'.out, s0'.out, s1'.out, s2'.out, s3'.out, by rw [hR2'.out, e2'.out]; exact sL'.out, by rw [hR2'.out, e2'.out]; exact sH'.out⟩
          case measure => simp [intOf]; omega
        · have e2 := hyes'.out rfl
          have ct1 := ct'.out w8 sL sH
          have s0' := Lib.hid s0
          have s1' := Lib.hid s1
          have s2' := Lib.hid s2
          have s3' := Lib.hid s3
          have sL' := Lib.hid sL
          have sH' := Lib.hid sH
          have hc7' := Lib.hid hc7
          have hg8' := Lib.hid hg8
          have e2' := Lib.hid e2
          have ct1' := Lib.hid ct1
          clear s0 s1 s2 s3 sL sH hc7 hg8 e2 ct1
          go_wp2_with fail
          refine (ct1'.out).mono ?_
          rintro e w9 ⟨rfl, ht, oL2, oH2⟩
          have t0 := s0'.out.two ht (by omega) (by omega)
          have t1 := s1'.out.two ht (by omega) (by omega)
          have t2 := s2'.out.two ht (by omega) (by omega)
          have t3 := s3'.out.two ht (by omega) (by omega)
          have hc9 := hc7'.out.two ht (by omega) (by omega)
          have hg9 := grow_two hg8'.out ht (by omega) (by omega)
          clear ht
          have t0' := Lib.hid t0
          have t1' := Lib.hid t1
          have t2' := Lib.hid t2
          have t3' := Lib.hid t3
          have oL2' := Lib.hid oL2
          have oH2' := Lib.hid oH2
          have hc9' := Lib.hid hc9
          have hg9' := Lib.hid hg9
          clear t0 t1 t2 t3 oL2 oH2 hc9 hg9
          go_wp2
          go_roundw
          case rel => exact ⟨k + 1, by omega, by go_num, hg9'.out, hc9'.out, t0'.out, t1'.out, t2'.out, t3'.out, by rw [hR2'.out, e2'.out]; exact oL2'.out, by rw [hR2'.out, e2'.out]; exact oH2'.out⟩
          case measure => simp [intOf]; omega
    · obtain rfl : k = n := by omega
      generalize imS f (a0, a1) (b0, b1) k = R at *
      obtain ⟨⟨l0', l1'⟩, ⟨h0', h1'⟩⟩ := R
      obtain ⟨⟨p0, p1⟩, _, _⟩ := rL
      obtain ⟨⟨q0, q1⟩, _, _⟩ := rH
      obtain ⟨⟨s0, s1⟩, s2, s3⟩ := r2
      obtain ⟨⟨t0, t1⟩, t2, t3⟩ := r3
      simp only at p0 p1 q0 q1
      clear r0 r1
      have hgr' := Lib.hid hgr
      have hcr' := Lib.hid hcr
      clear hgr hcr
      go_wp2_with fail
      go_region
      go_wp2
      have hgf := grow_set (grow_set (grow_set (grow_set hgr'.out (b := w.heap.size + 1 + 1) (o := 0) (by omega) (.int .i64 l0')) (b := w.heap.size + 1 + 1) (o := 1) (by omega) (.int .i64 l1')) (b := w.heap.size + 1 + 1 + 1) (o := 0) (by omega) (.int .i64 h0')) (b := w.heap.size + 1 + 1 + 1) (o := 1) (by omega) (.int .i64 h1')
      have hcf := (((hcr'.out.set (b := w.heap.size + 1 + 1) (o := 0) (by omega) (.int .i64 l0')).set (b := w.heap.size + 1 + 1) (o := 1) (by omega) (.int .i64 l1')).set (b := w.heap.size + 1 + 1 + 1) (o := 0) (by omega) (.int .i64 h0')).set (b := w.heap.size + 1 + 1 + 1) (o := 1) (by omega) (.int .i64 h1')
      exact bodyPost_ret (v := .tuple #[ratV (l0', l1'), ratV (h0', h1')]) (by simp [results, Tryz.results66, go_sem, s0, s1, s2, s3, t0, t1, t2, t3, ratV]) rfl ⟨rfl, gdrew hgf, hcf.drew⟩

end Go.Proofs.YtjkgilenhoomoaaGreat

namespace Go.Proofs.YtjkgilenhoomoaaGreat
open Go.RowKit

/-- The image, or nothing where a value is too large. -/
def imgR (f : List Quad) (a b : Int × Int) : ((Int × Int) × (Int × Int)) × Bool := if imgOk f a b = true then (imS f a b f.length, true) else (((0, 0), (0, 0)), false)
theorem imgR_ok {f : List Quad} {a b : Int × Int} (h : imgOk f a b = true) : imgR f a b = (imS f a b f.length, true) := by unfold imgR; rw [if_pos h]
theorem imgR_bad {f : List Quad} {a b : Int × Int} (h : imgOk f a b = false) : imgR f a b = (((0, 0), (0, 0)), false) := by unfold imgR; rw [if_neg (by rw [h]; decide)]
/-- Low and high after the first j values. -/
def fdJ (y : Int × Int) (l : List (Int × Int)) (j : Nat) : (Int × Int) × (Int × Int) := fold2 y (l.take j)
theorem fdJ_zero (y : Int × Int) (l : List (Int × Int)) : fdJ y l 0 = (y, y) := rfl
theorem fdJ_step {y : Int × Int} {l : List (Int × Int)} {j : Nat} (h : j < l.length) : fdJ y l (j + 1) = (lessR (fdJ y l j).1 (nthR l j), greatR (fdJ y l j).2 (nthR l j)) := by
  unfold fdJ fold2; rw [take_nthR h, List.foldl_append]; rfl
theorem fdJ_end (y : Int × Int) (l : List (Int × Int)) : fdJ y l l.length = fold2 y l := by unfold fdJ; rw [List.take_of_length_le (Nat.le_refl _)]
theorem fdJ_good {y : Int × Int} {l : List (Int × Int)} (hy : goodR y.1 y.2 = true) (hl : ∀ z ∈ l, goodR z.1 z.2 = true) (j : Nat) : goodR (fdJ y l j).1.1 (fdJ y l j).1.2 = true ∧ goodR (fdJ y l j).2.1 (fdJ y l j).2.2 = true :=
  fold2_good _ _ hy hy (fun z hz => hl z (List.mem_of_mem_take hz))

theorem Two.refl (b c : Nat) (w : World) : Two b c w w := ⟨rfl, rfl, rfl, Nat.le_refl _, fun _ _ _ _ => rfl⟩
theorem Two.below {b c : Nat} {w w1 w2 : World} (h : Two b c w w1) (hB : Below w1.heap.size w1 w2) : Two b c w w2 :=
  ⟨hB.os.trans h.1, hB.tape.trans h.2.1, hB.output.trans h.2.2.1, Nat.le_trans h.2.2.2.1 hB.size, fun k hk h1 h2 => (hB.block k (Nat.lt_of_lt_of_le hk h.2.2.2.1)).trans (h.2.2.2.2 k hk h1 h2)⟩
theorem Two.setL {b c : Nat} {w w1 : World} (h : Two b c w w1) (o : Nat) (u : Value) : Two b c w (w1.setCell ⟨b, o, none⟩ u) :=
  ⟨h.1, h.2.1, h.2.2.1, by simpa [World.setCell] using h.2.2.2.1, fun k hk h1 h2 => (Below.heap_setCell _ _ _ _ (by exact h1)).trans (h.2.2.2.2 k hk h1 h2)⟩
theorem Two.setR {b c : Nat} {w w1 : World} (h : Two b c w w1) (o : Nat) (u : Value) : Two b c w (w1.setCell ⟨c, o, none⟩ u) :=
  ⟨h.1, h.2.1, h.2.2.1, by simpa [World.setCell] using h.2.2.2.1, fun k hk h1 h2 => (Below.heap_setCell _ _ _ _ (by exact h2)).trans (h.2.2.2.2 k hk h1 h2)⟩
theorem Two.cell {b c x o : Nat} {v : Value} {w w1 : World} (h : Two b c w w1) (hc : w.cell? ⟨x, o, none⟩ = some v) (h1 : x ≠ b) (h2 : x ≠ c) : w1.cell? ⟨x, o, none⟩ = some v := by
  have hb := h.2.2.2.2 x (World.block_lt_of_cell? w _ hc) h1 h2
  rw [← hc]; unfold World.cell?; simp only [hb]
theorem Two.under {b c E : Nat} {w0 w w1 : World} (h : Below E w0 w) (ht : Two b c w w1) (h1 : E ≤ b) (h2 : E ≤ c) (h3 : E ≤ w.heap.size) : Below E w0 w1 :=
  ⟨ht.1.trans h.os, ht.2.1.trans h.tape, ht.2.2.1.trans h.output, Nat.le_trans h.size ht.2.2.2.1, fun k hk => (ht.2.2.2.2 k (by omega) (by omega) (by omega)).trans (h.block k hk)⟩
theorem BoxR.set2 {w : World} {b : Nat} {x : Int × Int} (h : BoxR w b x) (y : Int × Int) : BoxR ((w.setCell ⟨b, 0, none⟩ (.int .i64 y.1)).setCell ⟨b, 1, none⟩ (.int .i64 y.2)) b y := by
  obtain ⟨⟨h0, h1⟩, h2, h3⟩ := h
  refine ⟨⟨?_, ?_⟩, ?_, ?_⟩ <;> simp [go_sem, h0, h1, h2, h3]
set_option linter.unusedSimpArgs false in
theorem BoxR.setO {w : World} {b c o : Nat} {x : Int × Int} (h : BoxR w b x) (hne : b ≠ c) (u : Value) : BoxR (w.setCell ⟨c, o, none⟩ u) b x := by
  obtain ⟨⟨h0, h1⟩, h2, h3⟩ := h
  have hne2 := hne.symm
  refine ⟨⟨?_, ?_⟩, ?_, ?_⟩ <;> simp [go_sem, h0, h1, h2, h3, hne, hne2]
theorem BoxR.belowE {w w' : World} {b E : Nat} {x : Int × Int} (h : BoxR w b x) (hB : Below E w w') (hE : b < E) : BoxR w' b x := by
  have hb := hB.block b hE
  obtain ⟨⟨h0, h1⟩, h2, h3⟩ := h
  refine ⟨⟨?_, ?_⟩, ?_, ?_⟩
  · rw [← h0]; unfold World.cell?; simp only [hb]
  · rw [← h1]; unfold World.cell?; simp only [hb]
  · rw [← h2]; unfold World.frozen?; simp only [hb]
  · rw [← h3]; unfold World.frozen?; simp only [hb]

set_option linter.unusedSimpArgs false in
set_option maxRecDepth 10000 in
set_option maxHeartbeats 4000000 in
/-- A value is too large. -/
theorem imImage_bad (v : Value) (a b x y : Int × Int) (o1 o2 : Bool) (w : World) (ho : (o1 && o2) = false)
    (c1 : ∀ w', Below w.heap.size w w' → Calls Tryz.prog 31 #[v, .agg #[.int .i64 a.1, .int .i64 a.2]] w' (Ret (.tuple #[ratV x, .bool o1]) w'))
    (c2 : ∀ w', Below w.heap.size w w' → Calls Tryz.prog 31 #[v, .agg #[.int .i64 b.1, .int .i64 b.2]] w' (Ret (.tuple #[ratV y, .bool o2]) w')) :
    Calls Tryz.prog 44 #[v, .agg #[.int .i64 a.1, .int .i64 a.2], .agg #[.int .i64 b.1, .int .i64 b.2]] w (Ret (.tuple #[ratV (0, 0), ratV (0, 0), .bool false]) w) := by
  obtain ⟨a0, a1⟩ := a
  obtain ⟨b0, b1⟩ := b
  obtain ⟨x0, x1⟩ := x
  obtain ⟨y0, y1⟩ := y
  simp only at c1 c2
  obtain ⟨w1, hw1⟩ : ∃ W, (((w.alloc (.cells #[.int .i64 a0, .int .i64 a1] 42)).alloc (.cells #[.int .i64 b0, .int .i64 b1] 42)).alloc (.cells #[.int .i64 0, .int .i64 0] 42)).alloc (.cells #[.int .i64 0, .int .i64 0] 42) = W := ⟨_, rfl⟩
  have hB1 : Below w.heap.size w w1 := by rw [← hw1]; exact ((((Below.refl _ _).alloc (Nat.le_refl _) _).alloc (by simp) _).alloc (by simp; omega) _).alloc (by simp; omega) _
  have hz1 : w1.heap.size = w.heap.size + 4 := by rw [← hw1]; simp
  have k1 : BoxR w1 (w.heap.size + 1) (b0, b1) := by rw [← hw1]; refine ⟨⟨?_, ?_⟩, ?_, ?_⟩ <;> simp [go_sem]
  have k2 : BoxR w1 (w.heap.size + 1 + 1) (0, 0) := by rw [← hw1]; refine ⟨⟨?_, ?_⟩, ?_, ?_⟩ <;> simp [go_sem]
  have k3 : BoxR w1 (w.heap.size + 1 + 1 + 1) (0, 0) := by rw [← hw1]; refine ⟨⟨?_, ?_⟩, ?_, ?_⟩ <;> simp [go_sem]
  have cc1 := c1 w1 hB1
  clear c1
  have cc1' := Lib.hid cc1
  have c2' := Lib.hid c2
  have hw1' := Lib.hid hw1
  have k1' := Lib.hid k1
  have k2' := Lib.hid k2
  have k3' := Lib.hid k3
  clear cc1 c2 hw1 k1 k2 k3
  show Calls _ _ #[_, .agg #[.int .i64 a0, .int .i64 a1], .agg #[.int .i64 b0, .int .i64 b1]] w _
  go_enter Tryz.func44, Tryz.ntmps44
  go_wp2_with fail
  rw [hw1'.out]
  go_wp2_with fail
  refine (cc1'.out).mono ?_
  rintro e w2 ⟨rfl, hB2⟩
  obtain ⟨w3, hw3⟩ : ∃ W, w2.alloc (.cells #[.int .i64 x0, .int .i64 x1] 42) = W := ⟨_, rfl⟩
  have hB3 : Below w1.heap.size w1 w3 := by rw [← hw3]; exact hB2.alloc hB2.size _
  have k1 := k1'.out.below hB3
  have k2 := k2'.out.below hB3
  have k3 := k3'.out.below hB3
  have hb3 := hB1.trans (hB3.mono hB1.size)
  have cc2 := c2'.out w3 hb3
  obtain ⟨⟨q0, q1⟩, _, _⟩ := id k1
  rw [← hw3] at q0 q1
  clear hB2 hB3 hB1 k1'
  have cc2' := Lib.hid cc2
  have hw3' := Lib.hid hw3
  have k1' := Lib.hid k1
  have k2' := Lib.hid k2
  have k3' := Lib.hid k3
  have hb3' := Lib.hid hb3
  clear cc2 hw3 k1 k2 k3 hb3
  go_wp2_with fail
  rw [hw3'.out]
  clear q0 q1
  go_wp2_with fail
  refine (cc2'.out).mono ?_
  rintro e w4 ⟨rfl, hB4⟩
  obtain ⟨w5, hw5⟩ : ∃ W, w4.alloc (.cells #[.int .i64 y0, .int .i64 y1] 42) = W := ⟨_, rfl⟩
  have hB5 : Below w3.heap.size w3 w5 := by rw [← hw5]; exact hB4.alloc hB4.size _
  obtain ⟨⟨p0, p1⟩, p2, p3⟩ := k2'.out.below hB5
  obtain ⟨⟨q0, q1⟩, q2, q3⟩ := k3'.out.below hB5
  have hb5 := hb3'.out.trans (hB5.mono hb3'.out.size)
  rw [← hw5] at p0 p1 p2 p3 q0 q1 q2 q3
  have hse : ∀ (W : World), Below w.heap.size w W → ∀ (b : Nat) o u, w.heap.size ≤ b → Below w.heap.size w (W.setCell ⟨b, o, none⟩ u) := fun W h b o u hb => h.setCell (p := ⟨b, o, none⟩) hb u
  rw [← hw5] at hb5
  clear hw5 hB5 hB4 k2' k3' k1'
  have hb5' := Lib.hid hb5
  have hse' := Lib.hid hse
  clear hb5 hse
  cases o1 <;> cases o2
  case true.true => cases ho
  all_goals
    go_wp2
    refine bodyPost_ret (v := .tuple #[ratV (0, 0), ratV (0, 0), .bool false]) (by simp [results, Tryz.results44, go_sem, p0, p1, q0, q1, ratV]) rfl ⟨rfl, ?_⟩
    iterate 4 refine hse'.out _ ?_ _ _ _ (by omega)
    exact hb5'.out

set_option linter.unusedSimpArgs false in
set_option maxRecDepth 10000 in
set_option maxHeartbeats 4000000 in
/-- Both values are told. -/
theorem imImage_ok (v : Value) (f : List Quad) (a b : Int × Int) (w : World) (hv : QuadV w v f) (hf : MapP f) (ha : unitR a.1 a.2 = true) (hb : unitR b.1 b.2 = true) (h1 : atOk f a = true) (h2 : atOk f b = true) :
    Calls Tryz.prog 44 #[v, .agg #[.int .i64 a.1, .int .i64 a.2], .agg #[.int .i64 b.1, .int .i64 b.2]] w (Ret (.tuple #[ratV (imS f a b f.length).1, ratV (imS f a b f.length).2, .bool true]) w) := by
  have c1 := fun w' (hB : Below w.heap.size w w') => imAt_any v f a w' (hv.below hB) hf ha
  have c2 := fun w' (hB : Below w.heap.size w w') => imAt_any v f b w' (hv.below hB) hf hb
  rw [atR_ok h1] at c1
  rw [atR_ok h2] at c2
  have hgV := imV_good hf a b f.length (Nat.le_refl _)
  have hlV := imV_len f a b
  have gL := atZ_good f a
  have hS : imS f a b f.length = fdJ (atZ f a) (imV f a b f.length) (imV f a b f.length).length := (fdJ_end _ _).symm
  rw [hS]
  have hV0 : imV f a b 0 = [atZ f b] := rfl
  have hstep : ∀ k, imV f a b (k + 1) = if midB a b (nth4 f k) = true then imV f a b k ++ [(nth4 f k).2] else imV f a b k := fun k => rfl
  have hmid : ∀ k, midB a b (nth4 f k) = (decide (cmpN a.1 a.2 (nth4 f k).1.1 (nth4 f k).1.2 < 0) && decide (cmpN (nth4 f k).1.1 (nth4 f k).1.2 b.1 b.2 < 0)) := fun k => by rw [cmpN_lt, cmpN_lt]; rfl
  have cm1 := fun (k : Nat) (w' : World) (h : k < f.length) => raCmp_any a.1 a.2 (nth4 f k).1.1 (nth4 f k).1.2 w' (unit_bd ha) (unit_bd (coordR_unit (hf.coord k h).1))
  have cm2 := fun (k : Nat) (w' : World) (h : k < f.length) => raCmp_any (nth4 f k).1.1 (nth4 f k).1.2 b.1 b.2 w' (unit_bd (coordR_unit (hf.coord k h).1)) (unit_bd hb)
  generalize imV f a b = V at *
  generalize atZ f a = L at *
  generalize atZ f b = E at *
  clear hS h1 h2
  obtain ⟨a0, a1⟩ := a
  obtain ⟨b0, b1⟩ := b
  obtain ⟨l0, l1⟩ := L
  obtain ⟨e0, e1⟩ := E
  simp only at c1 c2 cm1 cm2 hmid
  have hlen := hf.len
  clear hf ha hb
  obtain ⟨w1, hw1⟩ : ∃ W, (((w.alloc (.cells #[.int .i64 a0, .int .i64 a1] 42)).alloc (.cells #[.int .i64 b0, .int .i64 b1] 42)).alloc (.cells #[.int .i64 0, .int .i64 0] 42)).alloc (.cells #[.int .i64 0, .int .i64 0] 42) = W := ⟨_, rfl⟩
  have hB1 : Below w.heap.size w w1 := by rw [← hw1]; exact ((((Below.refl _ _).alloc (Nat.le_refl _) _).alloc (by simp) _).alloc (by simp; omega) _).alloc (by simp; omega) _
  have hz1 : w1.heap.size = w.heap.size + 4 := by rw [← hw1]; simp
  have k0 : BoxR w1 w.heap.size (a0, a1) := by rw [← hw1]; exact (((BoxR.lit w (a0, a1)).alloc _).alloc _).alloc _
  have k1 : BoxR w1 (w.heap.size + 1) (b0, b1) := by rw [← hw1]; refine ⟨⟨?_, ?_⟩, ?_, ?_⟩ <;> simp [go_sem]
  have k2 : BoxR w1 (w.heap.size + 1 + 1) (0, 0) := by rw [← hw1]; refine ⟨⟨?_, ?_⟩, ?_, ?_⟩ <;> simp [go_sem]
  have k3 : BoxR w1 (w.heap.size + 1 + 1 + 1) (0, 0) := by rw [← hw1]; refine ⟨⟨?_, ?_⟩, ?_, ?_⟩ <;> simp [go_sem]
  have cc1 := c1 w1 hB1
  obtain ⟨ao, cap, rfl, _, _, H⟩ := hv.form
  obtain ⟨n, hn⟩ : ∃ n, f.length = n := ⟨_, rfl⟩
  rw [hn] at H hgV cm1 cm2 hlen cc1 c2 ⊢
  obtain ⟨m, hm⟩ : ∃ m, (V n).length = m := ⟨_, rfl⟩
  rw [hm]
  have hm1 : 1 ≤ m ∧ m ≤ 1048576 := by have := hlV n; omega
  have hVl : ∀ k, k ≤ n → (V k).length ≤ 1048576 := fun k hk => by have := (hlV k).2; omega
  have hst2 := fun (j : Nat) (h : j < m) => fdJ_step (y := (l0, l1)) (l := V n) (j := j) (by rw [hm]; exact h)
  have hgd := fdJ_good gL hgV
  have hz2 := fdJ_zero (l0, l1) (V n)
  have hgn : ∀ j, j < m → goodR (nthR (V n) j).1 (nthR (V n) j).2 = true := fun j hj => by
    rw [← hm] at hj
    rw [nthR_eq hj]; exact hgV _ (List.getElem_mem hj)
  generalize fdJ (l0, l1) (V n) = FJ at *
  clear c1 hv hgV hlV
  have cc1' := Lib.hid cc1
  have c2' := Lib.hid c2
  have hw1' := Lib.hid hw1
  have k0' := Lib.hid k0
  have k1' := Lib.hid k1
  have k2' := Lib.hid k2
  have k3' := Lib.hid k3
  have hn' := Lib.hid hn
  have H' := Lib.hid H
  have hV0' := Lib.hid hV0
  have hstep' := Lib.hid hstep
  have hmid' := Lib.hid hmid
  have cm1' := Lib.hid cm1
  have cm2' := Lib.hid cm2
  have hm' := Lib.hid hm
  have hVl' := Lib.hid hVl
  have hst2' := Lib.hid hst2
  have hgd' := Lib.hid hgd
  have hz2' := Lib.hid hz2
  have hgn' := Lib.hid hgn
  clear cc1 c2 hw1 k0 k1 k2 k3 hn H hV0 hstep hmid cm1 cm2 hm hVl hst2 hgd hz2 hgn
  show Calls _ _ #[_, .agg #[.int .i64 a0, .int .i64 a1], .agg #[.int .i64 b0, .int .i64 b1]] w _
  go_enter Tryz.func44, Tryz.ntmps44
  go_wp2_with fail
  rw [hw1'.out]
  go_wp2_with fail
  refine (cc1'.out).mono ?_
  rintro e w2 ⟨rfl, hB2⟩
  obtain ⟨w3, hw3⟩ : ∃ W, w2.alloc (.cells #[.int .i64 l0, .int .i64 l1] 42) = W := ⟨_, rfl⟩
  have hB3 : Below w1.heap.size w1 w3 := by rw [← hw3]; exact hB2.alloc hB2.size _
  have m0 := k0'.out.below hB3
  have m1 := k1'.out.below hB3
  have m2 := k2'.out.below hB3
  have m3 := k3'.out.below hB3
  have mL : BoxR w3 w2.heap.size (l0, l1) := by rw [← hw3]; exact BoxR.lit w2 (l0, l1)
  have hs2 : w.heap.size + 4 ≤ w2.heap.size := by have := hB2.size; omega
  have hs3 : w3.heap.size = w2.heap.size + 1 := by rw [← hw3]; simp
  have hb3 := hB1.trans (hB3.mono hB1.size)
  have cc2 := c2'.out w3 hb3
  obtain ⟨⟨q0, q1⟩, _, _⟩ := id m1
  rw [← hw3] at q0 q1
  clear hB2 hB3 hB1 k0' k1' k2' k3'
  obtain ⟨bl, hbl⟩ : ∃ bl, w2.heap.size = bl := ⟨_, rfl⟩
  have cc2' := Lib.hid cc2
  have hw3' := Lib.hid hw3
  have m0' := Lib.hid m0
  have m1' := Lib.hid m1
  have m2' := Lib.hid m2
  have m3' := Lib.hid m3
  have mL' := Lib.hid mL
  have hb3' := Lib.hid hb3
  clear cc2 hw3 m0 m1 m2 m3 mL hb3
  go_wp2_with fail
  rw [hw3'.out]
  clear q0 q1
  go_wp2_with fail
  refine (cc2'.out).mono ?_
  rintro e w4 ⟨rfl, hB4⟩
  obtain ⟨w5, hw5⟩ : ∃ W, ((w4.alloc (.cells #[.int .i64 e0, .int .i64 e1] 42)).alloc (.cells #[.int .i64 l0, .int .i64 l1] 42)).alloc (.cells #[.int .i64 e0, .int .i64 e1] 42) = W := ⟨_, rfl⟩
  have hB5 : Below w3.heap.size w3 w5 := by rw [← hw5]; exact ((hB4.alloc hB4.size _).alloc (by have := hB4.size; simp; omega) _).alloc (by have := hB4.size; simp; omega) _
  have hs4 : w3.heap.size ≤ w4.heap.size := hB4.size
  have n0 := m0'.out.below hB5
  have n1 := m1'.out.below hB5
  have n2 := m2'.out.below hB5
  have n3 := m3'.out.below hB5
  have nL := mL'.out.below hB5
  have nH : BoxR w5 (w4.heap.size + 1) (l0, l1) := by rw [← hw5]; refine ⟨⟨?_, ?_⟩, ?_, ?_⟩ <;> simp [go_sem]
  have hg : GrowR w5 (w4.heap.size + 1 + 1) (.slice (some ⟨w4.heap.size + 1 + 1, 0, none⟩) 1 1) (V 0) := by
    have := GrowR.lit ((w4.alloc (.cells #[.int .i64 e0, .int .i64 e1] 42)).alloc (.cells #[.int .i64 l0, .int .i64 l1] 42)) (e0, e1)
    rw [hV0'.out, ← hw5]
    simpa using this
  have hb5 := hb3'.out.trans (hB5.mono hb3'.out.size)
  have hs5 : w5.heap.size = w4.heap.size + 3 := by rw [← hw5]; simp
  obtain ⟨⟨q0, q1⟩, _, _⟩ := id (mL'.out.below hB4)
  rw [hbl] at nL q0 q1
  obtain ⟨bh, hbh⟩ : ∃ bh, w4.heap.size + 1 = bh := ⟨_, rfl⟩
  rw [hbh] at nH
  have hne : bl ≠ bh := by omega
  obtain ⟨bV, hbV⟩ : ∃ bV, w4.heap.size + 1 + 1 = bV := ⟨_, rfl⟩
  rw [hbV] at hg
  have hlt1 : bl < w4.heap.size := by omega
  clear hB4 hB5 m0' m1' m2' m3' mL' cc1' cc2' hw1' hw3' hb3'
  have hw5' := Lib.hid hw5
  have n0' := Lib.hid n0
  have n1' := Lib.hid n1
  have n2' := Lib.hid n2
  have n3' := Lib.hid n3
  have nL' := Lib.hid nL
  have nH' := Lib.hid nH
  have hg' := Lib.hid hg
  have hb5' := Lib.hid hb5
  clear hw5 n0 n1 n2 n3 nL nH hg hb5
  have hne2 := hne.symm
  have hbb : bl < bV ∧ bh < bV ∧ w.heap.size + 4 ≤ bl ∧ w.heap.size + 4 ≤ bh ∧ bV < w5.heap.size := by omega
  clear hbl hs2 hs3 hs4 hs5
  have hbh' := Lib.hid hbh
  have hbV' := Lib.hid hbV
  clear hbh hbV
  go_wp2_with fail
  rw [hw5'.out, hbV'.out, hbh'.out]
  clear q0 q1 hw5' hbh' hbV'
  go_loopw [14, 44] (fun o i wr => ∃ k : Nat, k ≤ n ∧ i = .int .i64 k ∧ GrowR wr bV o (V k) ∧ Below bV w5 wr) (fun _ i _ => n - (intOf i).toNat)
  case atStart => exact ⟨0, Nat.zero_le _, rfl, hg'.out, Below.refl _ _⟩
  case round =>
    obtain ⟨k, hk, rfl, hgr, hbr⟩ := hrel
    clear hg'
    have r0 := n0'.out.belowE hbr (by omega)
    have r1 := n1'.out.belowE hbr (by omega)
    have r2 := n2'.out.belowE hbr (by omega)
    have r3 := n3'.out.belowE hbr (by omega)
    have rL := nL'.out.belowE hbr (by omega)
    have rH := nH'.out.belowE hbr (by omega)
    have hbw := hb5'.out.trans (hbr.mono (by omega))
    have hsr := hbr.size
    clear n0' n1' n2' n3' nL' nH' hb5'
    by_cases hlt : k < n
    · obtain ⟨bb, off, rfl, p0, p1, p2, p3⟩ := H'.out k hlt
      replace p0 := bkeep hbw p0
      replace p1 := bkeep hbw p1
      replace p2 := bkeep hbw p2
      replace p3 := bkeep hbw p3
      have cc1 := fun w' => cm1'.out k w' hlt
      have cc2 := fun w' => cm2'.out k w' hlt
      have hst := hstep'.out k
      have hVk := hVl'.out k hk
      rw [hmid'.out k] at hst
      generalize cmpN a0 a1 (nth4 f k).1.1 (nth4 f k).1.2 = U at *
      generalize cmpN (nth4 f k).1.1 (nth4 f k).1.2 b0 b1 = L at *
      generalize nth4 f k = P at *
      obtain ⟨⟨q0, q1⟩, ⟨q2, q3⟩⟩ := P
      simp only at p0 p1 p2 p3 cc1 cc2 hst
      obtain ⟨w6, hw6⟩ : ∃ W, wr.alloc (.cells #[.int .i64 q0, .int .i64 q1, .int .i64 q2, .int .i64 q3] 48) = W := ⟨_, rfl⟩
      have hB6 : Below wr.heap.size wr w6 := by rw [← hw6]; exact (Below.refl _ _).alloc (Nat.le_refl _) _
      have i0 : w6.cell? ⟨wr.heap.size, 0, none⟩ = some (.int .i64 q0) := by rw [← hw6]; simp [go_sem]
      have i1 : w6.cell? ⟨wr.heap.size, 1, none⟩ = some (.int .i64 q1) := by rw [← hw6]; simp [go_sem]
      have i2 : w6.cell? ⟨wr.heap.size, 2, none⟩ = some (.int .i64 q2) := by rw [← hw6]; simp [go_sem]
      have i3 : w6.cell? ⟨wr.heap.size, 3, none⟩ = some (.int .i64 q3) := by rw [← hw6]; simp [go_sem]
      have s0 := r0.below hB6
      have s1 := r1.below hB6
      have hg6 := hgr.below hB6
      have hb6 := hbr.trans (hB6.mono (by omega))
      obtain ⟨⟨x0, x1⟩, _, _⟩ := id s0
      rw [← hw6] at x0 x1
      clear r0 r1 r2 r3 rL rH hgr hB6
      have hs6 := hb6.size
      have s1' := Lib.hid s1
      have hg6' := Lib.hid hg6
      have hb6' := Lib.hid hb6
      have cc1' := Lib.hid cc1
      have cc2' := Lib.hid cc2
      have hst' := Lib.hid hst
      have hw6' := Lib.hid hw6
      have i0' := Lib.hid i0
      have i1' := Lib.hid i1
      have i2' := Lib.hid i2
      have i3' := Lib.hid i3
      have hVk' := Lib.hid hVk
      clear s1 hg6 hb6 cc1 cc2 hst hw6 i0 i1 i2 i3 hVk
      clear s0
      go_wp2_with fail
      rw [hw6'.out]
      clear x0 x1 p0 p1 p2 p3
      go_wp2_with fail
      refine (cc1'.out _).mono ?_
      rintro e w7 ⟨rfl, hB7⟩
      have s1 := s1'.out.below hB7
      have hg7 := hg6'.out.below hB7
      have hb7 := hb6'.out.trans (hB7.mono (by omega))
      have hs7 := hb7.size
      by_cases hU : U < 0
      · have i0 := bkeep hB7 i0'.out
        have i1 := bkeep hB7 i1'.out
        have i2 := bkeep hB7 i2'.out
        have i3 := bkeep hB7 i3'.out
        obtain ⟨⟨x0, x1⟩, _, _⟩ := s1
        clear i0' i1' i2' i3' hB7 s1' hg6' hb6'
        have hg7' := Lib.hid hg7
        have hb7' := Lib.hid hb7
        have i2' := Lib.hid i2
        have i3' := Lib.hid i3
        clear hg7 hb7 i2 i3
        go_wp2_with fail
        refine (cc2'.out _).mono ?_
        rintro e w8 ⟨rfl, hB8⟩
        have i2 := bkeep hB8 i2'.out
        have i3 := bkeep hB8 i3'.out
        have hg8 := hg7'.out.below hB8
        have hb8 := hb7'.out.trans (hB8.mono (by omega))
        have hs8 := hb8.size
        clear i0 i1 i2' i3' x0 x1 hB8 hg7' hb7'
        by_cases hL : L < 0
        · have e2 : V (k + 1) = V k ++ [(q2, q3)] := by rw [hst'.out, decide_eq_true hU, decide_eq_true hL]; rfl
          clear hst'
          have hg8' := Lib.hid hg8
          have hb8' := Lib.hid hb8
          have e2' := Lib.hid e2
          clear hg8 hb8 e2
          go_wp2_with (at_builtin; refine wpList_append_rat rfl _ _ rfl bV u14 (V k) q2 q3 1 rfl rfl hg8'.out (by have := hVk'.out; omega) (by omega) ?_)
          intro v' w' hown' hgrow
          have hB9 := hg8'.out.belowB hb8'.out (Nat.le_refl _) (by omega) hgrow
          clear hgrow hg8' hb8'
          have hown'' := Lib.hid hown'
          have hB9' := Lib.hid hB9
          clear hown' hB9
          go_wp2
          go_roundw
          case rel => exact ⟨k + 1, by omega, by go_num, by rw [e2'.out]; exact hown''.out, hB9'.out⟩
          case measure => simp [intOf]; omega
        · have e2 : V (k + 1) = V k := by rw [hst'.out, decide_eq_false hL, Bool.and_false]; rfl
          clear hst'
          have hg8' := Lib.hid hg8
          have hb8' := Lib.hid hb8
          have e2' := Lib.hid e2
          clear hg8 hb8 e2
          go_wp2
          go_roundw
          case rel => exact ⟨k + 1, by omega, by go_num, by rw [e2'.out]; exact hg8'.out, hb8'.out⟩
          case measure => simp [intOf]; omega
      · have e2 : V (k + 1) = V k := by rw [hst'.out, decide_eq_false hU, Bool.false_and]; rfl
        clear hst' hB7
        have hg7' := Lib.hid hg7
        have hb7' := Lib.hid hb7
        have e2' := Lib.hid e2
        clear hg7 hb7 e2
        go_wp2
        go_roundw
        case rel => exact ⟨k + 1, by omega, by go_num, by rw [e2'.out]; exact hg7'.out, hb7'.out⟩
        case measure => simp [intOf]; omega
    · obtain rfl : k = n := by omega
      obtain ⟨wo, rfl⟩ : ∃ wo : World, wo = wr := ⟨_, rfl⟩
      obtain ⟨gV, capV, e, hrow⟩ := GrowF.form hgr (by have := hm'.out; omega)
      subst e
      rw [hm'.out] at hrow ⊢
      obtain ⟨hgV1, hgV2⟩ := hrow.lt
      have hcell : ∀ j, j < m → wo.cell? ⟨gV, j * 2, none⟩ = some (.int .i64 (nthR (V k) j).1) ∧ wo.cell? ⟨gV, j * 2 + 1, none⟩ = some (.int .i64 (nthR (V k) j).2) := fun j hj => by
        have h0 := hrow.cell (j := j * 2) (by omega)
        have h1 := hrow.cell (j := j * 2 + 1) (by omega)
        obtain ⟨e0, e1⟩ := nth_flR (xs := V k) (i := j) (by rw [hm'.out]; exact hj)
        rw [e0] at h0
        rw [e1] at h1
        exact ⟨h0, h1⟩
      have hgne : gV ≠ bl ∧ gV ≠ bh := by omega
      clear hgr hrow hbr H' hm' hstep' hmid' cm1' cm2' hVl'
      have rL' : BoxR wo bl (FJ 0).1 := by rw [hz2'.out]; exact rL
      have rH' : BoxR wo bh (FJ 0).2 := by rw [hz2'.out]; exact rH
      clear rL rH hz2'
      have hbw' := Lib.hid hbw
      have hcell' := Lib.hid hcell
      have r0' := Lib.hid r0
      have r1' := Lib.hid r1
      clear hbw hcell r0 r1
      have r2' := Lib.hid r2
      have r3' := Lib.hid r3
      clear r2 r3
      have rL'' := Lib.hid rL'
      have rH'' := Lib.hid rH'
      clear rL' rH'
      go_wp2
      go_loopw [68] (fun i wr => ∃ j : Nat, j ≤ m ∧ i = .int .i64 j ∧ Two bl bh wo wr ∧ BoxR wr bl (FJ j).1 ∧ BoxR wr bh (FJ j).2) (fun i _ => m - (intOf i).toNat)
      case atStart => exact ⟨0, Nat.zero_le _, rfl, Two.refl _ _ _, rL''.out, rH''.out⟩
      case round =>
        obtain ⟨j, hj, rfl, hT, tL, tH⟩ := hrel
        clear rL'' rH''
        have hsx := hT.2.2.2.1
        by_cases hjl : j < m
        · obtain ⟨p0, p1⟩ := hcell'.out j hjl
          replace p0 := hT.cell p0 hgne.1 hgne.2
          replace p1 := hT.cell p1 hgne.1 hgne.2
          have hgy := hgn'.out j hjl
          obtain ⟨hgl, hgh⟩ := hgd'.out j
          have hs := hst2'.out j hjl
          generalize FJ j = F0 at *
          generalize nthR (V k) j = Y at *
          obtain ⟨y0, y1⟩ := Y
          obtain ⟨⟨x0, x1⟩, ⟨h0, h1⟩⟩ := F0
          simp only at p0 p1 hgy hgl hgh hs
          have cA := fun w' => raCmp_any y0 y1 x0 x1 w' (good_bd (r := (y0, y1)) hgy) (good_bd (r := (x0, x1)) hgl)
          have cB := fun w' => raCmp_any h0 h1 y0 y1 w' (good_bd (r := (h0, h1)) hgh) (good_bd (r := (y0, y1)) hgy)
          have el : lessR (x0, x1) (y0, y1) = if cmpN y0 y1 x0 x1 < 0 then (y0, y1) else (x0, x1) := by
            unfold lessR; rw [← cmpN_lt]; simp only [decide_eq_true_eq]
          have eh : greatR (h0, h1) (y0, y1) = if cmpN h0 h1 y0 y1 < 0 then (y0, y1) else (h0, h1) := by
            unfold greatR; rw [← cmpN_lt]; simp only [decide_eq_true_eq]
          rw [el, eh] at hs
          clear el eh hgy hgl hgh
          generalize cmpN y0 y1 x0 x1 = U at *
          generalize cmpN h0 h1 y0 y1 = L at *
          obtain ⟨wy, hwy⟩ : ∃ W, wr.alloc (.cells #[.int .i64 y0, .int .i64 y1] 42) = W := ⟨_, rfl⟩
          have hBy : Below wr.heap.size wr wy := by rw [← hwy]; exact (Below.refl _ _).alloc (Nat.le_refl _) _
          have tY : BoxR wy wr.heap.size (y0, y1) := by rw [← hwy]; exact BoxR.lit wr (y0, y1)
          have hT := hT.below hBy
          have tL := tL.below hBy
          have tH := tH.below hBy
          obtain ⟨⟨z0, z1⟩, _, _⟩ := id tL
          rw [← hwy] at z0 z1
          have hlx : bl < wr.heap.size := by omega
          have hyl : bl ≠ wr.heap.size ∧ wr.heap.size ≠ bl ∧ bh ≠ wr.heap.size ∧ wr.heap.size ≠ bh := by omega
          obtain ⟨hy1, hy2, hy3, hy4⟩ := hyl
          clear hBy
          rename_i hTold tLold tHold
          clear hTold tLold tHold
          have cA' := Lib.hid cA
          have cB' := Lib.hid cB
          have hs' := Lib.hid hs
          have hwy' := Lib.hid hwy
          have hT' := Lib.hid hT
          have tL' := Lib.hid tL
          have tH' := Lib.hid tH
          have tY' := Lib.hid tY
          clear cA cB hs hwy hT tL tH tY
          go_wp2_with fail
          rw [hwy'.out]
          clear z0 z1 p0 p1
          go_wp2_with fail
          refine (cA'.out _).mono ?_
          rintro e w7 ⟨rfl, hB7⟩
          have hT := hT'.out.below hB7
          have tL := tL'.out.below hB7
          have tH := tH'.out.below hB7
          have tY := tY'.out.below hB7
          clear hT' tL' tH' tY' hB7
          obtain ⟨⟨v0, v1⟩, _, _⟩ := id tY
          obtain ⟨⟨c0, c1⟩, c2, c3⟩ := id tL
          obtain ⟨⟨d0, d1⟩, d2, d3⟩ := id tH
          simp only at v0 v1 c0 c1 d0 d1
          by_cases hU : U < 0
          · obtain ⟨w8, hw8⟩ : ∃ W, (w7.setCell ⟨bl, 0, none⟩ (.int .i64 y0)).setCell ⟨bl, 1, none⟩ (.int .i64 y1) = W := ⟨_, rfl⟩
            have hT8 : Two bl bh wo w8 := by rw [← hw8]; exact (hT.setL _ _).setL _ _
            have uL : BoxR w8 bl (y0, y1) := by rw [← hw8]; exact tL.set2 (y0, y1)
            have uH : BoxR w8 bh (h0, h1) := by rw [← hw8]; exact (tH.setO hne2 _).setO hne2 _
            have uY : BoxR w8 wr.heap.size (y0, y1) := by rw [← hw8]; exact (tY.setO hy2 _).setO hy2 _
            clear hT tL tH tY
            have hT8' := Lib.hid hT8
            have uL' := Lib.hid uL
            have uH' := Lib.hid uH
            have uY' := Lib.hid uY
            have hw8' := Lib.hid hw8
            clear hT8 uL uH uY hw8
            go_wp2_with fail
            rw [hw8'.out]
            clear v0 v1 c0 c1 c2 c3 d0 d1 d2 d3
            go_wp2_with fail
            refine (cB'.out _).mono ?_
            rintro e w9 ⟨rfl, hB9⟩
            have hT := hT8'.out.below hB9
            have uL := uL'.out.below hB9
            have uH := uH'.out.below hB9
            have uY := uY'.out.below hB9
            clear hB9 hT8' uL' uH' uY' hw8'
            by_cases hL : L < 0
            · obtain ⟨⟨v0, v1⟩, _, _⟩ := id uY
              obtain ⟨⟨d0, d1⟩, d2, d3⟩ := id uH
              simp only at v0 v1 d0 d1
              have e2 := hs'.out
              rw [if_pos hU, if_pos hL] at e2
              have hT2 := (hT.setR 0 (.int .i64 y0)).setR 1 (.int .i64 y1)
              have zL := (uL.setO hne (.int .i64 y0) (o := 0)).setO hne (.int .i64 y1) (o := 1)
              have zH := uH.set2 (y0, y1)
              clear uL uH uY hT hs'
              have e2' := Lib.hid e2
              have hT2' := Lib.hid hT2
              have zL' := Lib.hid zL
              have zH' := Lib.hid zH
              clear e2 hT2 zL zH
              go_wp2
              go_roundw
              case rel => exact ⟨j + 1, by omega, by go_num, hT2'.out, by rw [e2'.out]; exact zL'.out, by rw [e2'.out]; exact zH'.out⟩
              case measure => simp [intOf]; omega
            · have e2 := hs'.out
              rw [if_pos hU, if_neg (by omega : ¬ L < 0)] at e2
              have hT2 := hT
              have zL := uL
              have zH := uH
              clear uL uH uY hT hs'
              have e2' := Lib.hid e2
              have hT2' := Lib.hid hT2
              have zL' := Lib.hid zL
              have zH' := Lib.hid zH
              clear e2 hT2 zL zH
              go_wp2
              go_roundw
              case rel => exact ⟨j + 1, by omega, by go_num, hT2'.out, by rw [e2'.out]; exact zL'.out, by rw [e2'.out]; exact zH'.out⟩
              case measure => simp [intOf]; omega
          · have hT' := Lib.hid hT
            have tL' := Lib.hid tL
            have tH' := Lib.hid tH
            have tY' := Lib.hid tY
            clear hT tL tH tY
            go_wp2_with fail
            refine (cB'.out _).mono ?_
            rintro e w9 ⟨rfl, hB9⟩
            have hT := hT'.out.below hB9
            have uL := tL'.out.below hB9
            have uH := tH'.out.below hB9
            have uY := tY'.out.below hB9
            clear hB9 hT' tL' tH' tY' v0 v1 c0 c1 c2 c3 d0 d1 d2 d3
            by_cases hL : L < 0
            · obtain ⟨⟨v0, v1⟩, _, _⟩ := id uY
              obtain ⟨⟨d0, d1⟩, d2, d3⟩ := id uH
              simp only at v0 v1 d0 d1
              have e2 := hs'.out
              rw [if_neg (by omega : ¬ U < 0), if_pos hL] at e2
              have hT2 := (hT.setR 0 (.int .i64 y0)).setR 1 (.int .i64 y1)
              have zL := (uL.setO hne (.int .i64 y0) (o := 0)).setO hne (.int .i64 y1) (o := 1)
              have zH := uH.set2 (y0, y1)
              clear uL uH uY hT hs'
              have e2' := Lib.hid e2
              have hT2' := Lib.hid hT2
              have zL' := Lib.hid zL
              have zH' := Lib.hid zH
              clear e2 hT2 zL zH
              go_wp2
              go_roundw
              case rel => exact ⟨j + 1, by omega, by go_num, hT2'.out, by rw [e2'.out]; exact zL'.out, by rw [e2'.out]; exact zH'.out⟩
              case measure => simp [intOf]; omega
            · have e2 := hs'.out
              rw [if_neg (by omega : ¬ U < 0), if_neg (by omega : ¬ L < 0)] at e2
              have hT2 := hT
              have zL := uL
              have zH := uH
              clear uL uH uY hT hs'
              have e2' := Lib.hid e2
              have hT2' := Lib.hid hT2
              have zL' := Lib.hid zL
              have zH' := Lib.hid zH
              clear e2 hT2 zL zH
              go_wp2
              go_roundw
              case rel => exact ⟨j + 1, by omega, by go_num, hT2'.out, by rw [e2'.out]; exact zL'.out, by rw [e2'.out]; exact zH'.out⟩
              case measure => simp [intOf]; omega
        · obtain rfl : j = m := by omega
          generalize FJ j = F0 at *
          obtain ⟨⟨x0, x1⟩, ⟨h0, h1⟩⟩ := F0
          obtain ⟨⟨p0, p1⟩, _, _⟩ := tL
          obtain ⟨⟨q0, q1⟩, _, _⟩ := tH
          obtain ⟨⟨s0, s1⟩, s2, s3⟩ := r2'.out.two hT (by omega) (by omega)
          obtain ⟨⟨t0, t1⟩, t2, t3⟩ := r3'.out.two hT (by omega) (by omega)
          have hbe := Two.under hbw'.out hT (by omega) (by omega) (by have := hbw'.out.size; omega)
          have hse : ∀ (W : World), Below w.heap.size w W → ∀ (b : Nat) o u, w.heap.size ≤ b → Below w.heap.size w (W.setCell ⟨b, o, none⟩ u) := fun W h b o u hb => h.setCell (p := ⟨b, o, none⟩) hb u
          simp only at p0 p1 q0 q1
          clear hT
          have hbe' := Lib.hid hbe
          have hse' := Lib.hid hse
          clear hbe hse
          go_wp2_with fail
          go_region
          go_wp2
          refine bodyPost_ret (v := .tuple #[ratV (x0, x1), ratV (h0, h1), .bool true]) (by simp [results, Tryz.results44, go_sem, s0, s1, s2, s3, t0, t1, t2, t3, ratV]) rfl ⟨rfl, Below.drew ?_⟩
          iterate 4 refine hse'.out _ ?_ _ _ _ (by omega)
          exact hbe'.out

theorem imImage_any (v : Value) (f : List Quad) (a b : Int × Int) (w : World) (hv : QuadV w v f) (hf : MapP f) (ha : unitR a.1 a.2 = true) (hb : unitR b.1 b.2 = true) :
    Calls Tryz.prog 44 #[v, .agg #[.int .i64 a.1, .int .i64 a.2], .agg #[.int .i64 b.1, .int .i64 b.2]] w (Ret (.tuple #[ratV (imgR f a b).1.1, ratV (imgR f a b).1.2, .bool (imgR f a b).2]) w) := by
  cases h : imgOk f a b
  · rw [imgR_bad h]
    refine imImage_bad v a b (atR f a).1 (atR f b).1 (atR f a).2 (atR f b).2 w ?_ (fun w' hB => imAt_any v f a w' (hv.below hB) hf ha) (fun w' hB => imAt_any v f b w' (hv.below hB) hf hb)
    unfold imgOk at h
    cases h1 : atOk f a
    · rw [atR_bad h1]; rfl
    · rw [h1, Bool.true_and] at h
      rw [atR_bad h]; exact Bool.and_false _
  · rw [imgR_ok h]
    unfold imgOk at h
    rw [Bool.and_eq_true] at h
    exact imImage_ok v f a b w hv hf ha hb h.1 h.2

end Go.Proofs.YtjkgilenhoomoaaGreat

namespace Go.Proofs.YtjkgilenhoomoaaGreat
open Go.RowKit

/-- The image of i holds k. -/
def covB (f : List Quad) (i k : Quad) : Bool := !(ltB k.1.1 k.1.2 (imS f i.1 i.2 f.length).1.1 (imS f i.1 i.2 f.length).1.2) && !(ltB (imS f i.1 i.2 f.length).2.1 (imS f i.1 i.2 f.length).2.2 k.2.1 k.2.2)
/-- It is told, and it covers. -/
def covR (f : List Quad) (i k : Quad) : Bool × Bool := if imgOk f i.1 i.2 = true then (covB f i k, true) else (false, false)

set_option linter.unusedSimpArgs false in
set_option maxRecDepth 10000 in
set_option maxHeartbeats 4000000 in
theorem covers_any (g : Nat) (bd : Bool) (v : Value) (f : List Quad) (i k : Quad) (w0 w : World) (hv : QuadV w0 v f) (hb0 : Below w0.heap.size w0 w) (hg0 : w0.heap.size ≤ g) (hf : MapP f) (hi1 : unitR i.1.1 i.1.2 = true) (hi2 : unitR i.2.1 i.2.2 = true) (hk1 : unitR k.1.1 k.1.2 = true) (hk2 : unitR k.2.1 k.2.2 = true) (hc : CalcAt w g bd) :
    Calls Tryz.prog 50 #[.pointer (some ⟨g, 0, none⟩), v, quadV i, quadV k] w (RetC g (bd || !imgOk f i.1 i.2) (.bool (covB f i k)) w) := by
  have ci := fun w' hB hc => cimage_any g bd v f i.1 i.2 w0 w' hv hB hg0 hf hi1 hi2 hc
  obtain ⟨gd1, gd2⟩ := imS_good hf i.1 i.2 f.length (Nat.le_refl _)
  unfold covB
  generalize imS f i.1 i.2 f.length = R at *
  obtain ⟨⟨l0, l1⟩, ⟨h0, h1⟩⟩ := R
  simp only at gd1 gd2 ci ⊢
  have cl1 := fun w' => less_any k.1.1 k.1.2 l0 l1 w' (unit_bd hk1) (good_bd (r := (l0, l1)) gd1)
  have cl2 := fun w' => less_any h0 h1 k.2.1 k.2.2 w' (good_bd (r := (h0, h1)) gd2) (unit_bd hk2)
  generalize ltB k.1.1 k.1.2 l0 l1 = U at *
  generalize ltB h0 h1 k.2.1 k.2.2 = L at *
  have hgl := hc.lt
  have hw0 := hb0.size
  generalize imgOk f i.1 i.2 = OK at *
  obtain ⟨⟨x, y⟩, ⟨z, t⟩⟩ := i
  obtain ⟨⟨p, q⟩, ⟨r, s⟩⟩ := k
  simp only at ci cl1 cl2
  obtain ⟨w1, hw1⟩ : ∃ W, (w.alloc (.cells #[.int .i64 x, .int .i64 y, .int .i64 z, .int .i64 t] 44)).alloc (.cells #[.int .i64 p, .int .i64 q, .int .i64 r, .int .i64 s] 44) = W := ⟨_, rfl⟩
  have hB1 : Below w.heap.size w w1 := by rw [← hw1]; exact ((Below.refl _ _).alloc (Nat.le_refl _) _).alloc (by simp) _
  have hz1 : w1.heap.size = w.heap.size + 2 := by rw [← hw1]; simp
  have j0 : w1.cell? ⟨w.heap.size + 1, 0, none⟩ = some (.int .i64 p) := by rw [← hw1]; simp [go_sem]
  have j1 : w1.cell? ⟨w.heap.size + 1, 1, none⟩ = some (.int .i64 q) := by rw [← hw1]; simp [go_sem]
  have j2 : w1.cell? ⟨w.heap.size + 1, 2, none⟩ = some (.int .i64 r) := by rw [← hw1]; simp [go_sem]
  have j3 : w1.cell? ⟨w.heap.size + 1, 3, none⟩ = some (.int .i64 s) := by rw [← hw1]; simp [go_sem]
  have hb1 := hb0.trans (hB1.mono hw0)
  have hc1 := hc.below hB1
  have ci1 := ci w1 hb1 hc1
  have hg1 := bgrow hB1 (some g)
  have hrg : ∀ j, w.heap.size ≤ j → some g ≠ some j := fun j hj e => by have := Option.some.inj e; omega
  clear hv hf ci hc hB1
  have ci1' := Lib.hid ci1
  have cl1' := Lib.hid cl1
  have cl2' := Lib.hid cl2
  have hw1' := Lib.hid hw1
  have j0' := Lib.hid j0
  have j1' := Lib.hid j1
  have j2' := Lib.hid j2
  have j3' := Lib.hid j3
  have hrg' := Lib.hid hrg
  clear ci1 cl1 cl2 hw1 j0 j1 j2 j3 hrg
  show Calls _ _ #[_, _, .agg #[.int .i64 x, .int .i64 y, .int .i64 z, .int .i64 t], .agg #[.int .i64 p, .int .i64 q, .int .i64 r, .int .i64 s]] w _
  go_enter Tryz.func50, Tryz.ntmps50
  go_wp2_with fail
  rw [hw1'.out]
  go_wp2_with fail
  refine (ci1'.out).mono ?_
  rintro e w2 ⟨rfl, hg2, hc2⟩
  have hg3 := hg1.trans hg2
  have j0 := gcell hg2 j0'.out (hrg'.out (w.heap.size + 1) (by omega))
  have j1 := gcell hg2 j1'.out (hrg'.out (w.heap.size + 1) (by omega))
  have j2 := gcell hg2 j2'.out (hrg'.out (w.heap.size + 1) (by omega))
  have j3 := gcell hg2 j3'.out (hrg'.out (w.heap.size + 1) (by omega))
  have hs2 := hg2.size
  obtain ⟨w3, hw3⟩ : ∃ W, (w2.alloc (.cells #[.int .i64 l0, .int .i64 l1] 42)).alloc (.cells #[.int .i64 h0, .int .i64 h1] 42) = W := ⟨_, rfl⟩
  have hB3 : Below w2.heap.size w2 w3 := by rw [← hw3]; exact ((Below.refl _ _).alloc (Nat.le_refl _) _).alloc (by simp) _
  have e0 : w3.cell? ⟨w2.heap.size + 1, 0, none⟩ = some (.int .i64 h0) := by rw [← hw3]; simp [go_sem]
  have e1 : w3.cell? ⟨w2.heap.size + 1, 1, none⟩ = some (.int .i64 h1) := by rw [← hw3]; simp [go_sem]
  have hc3 := hc2.below hB3
  have hg4 := hg3.trans (bgrow hB3 (some g))
  have x0 := bkeep hB3 j0
  have x1 := bkeep hB3 j1
  have x2 := bkeep hB3 j2
  have x3 := bkeep hB3 j3
  clear j0 j1 j2 j3 j0' j1' j2' j3' hg2 hg3 hc2 hB3
  have y0 := x0
  have y1 := x1
  rw [← hw3] at y0 y1
  have x0' := Lib.hid x0
  have x1' := Lib.hid x1
  have x2' := Lib.hid x2
  have x3' := Lib.hid x3
  have e0' := Lib.hid e0
  have e1' := Lib.hid e1
  have hw3' := Lib.hid hw3
  have hc3' := Lib.hid hc3
  have hg4' := Lib.hid hg4
  clear x0 x1 x2 x3 e0 e1 hw3 hc3 hg4
  go_wp2_with fail
  rw [hw3'.out]
  clear y0 y1
  go_wp2_with fail
  refine (cl1'.out _).mono ?_
  rintro e w4 ⟨rfl, hB4⟩
  have hc4 := hc3'.out.below hB4
  have hg5 := hg4'.out.trans (bgrow hB4 (some g))
  cases U
  · have x2 := bkeep hB4 x2'.out
    have x3 := bkeep hB4 x3'.out
    have e0 := bkeep hB4 e0'.out
    have e1 := bkeep hB4 e1'.out
    clear hB4
    have hc4' := Lib.hid hc4
    have hg5' := Lib.hid hg5
    clear hc4 hg5
    go_wp2_with fail
    refine (cl2'.out _).mono ?_
    rintro e w5 ⟨rfl, hB5⟩
    have hc5 := hc4'.out.below hB5
    have hg6 := hg5'.out.trans (bgrow hB5 (some g))
    clear hB5 x2 x3 e0 e1
    have hc5' := Lib.hid hc5
    have hg6' := Lib.hid hg6
    clear hc5 hg6
    go_wp2
    go_ret
    exact ⟨rfl, hg6'.out, hc5'.out⟩
  · clear hB4
    have hc4' := Lib.hid hc4
    have hg5' := Lib.hid hg5
    clear hc4 hg5
    go_wp2
    go_ret
    exact ⟨rfl, hg5'.out, hc4'.out⟩

set_option linter.unusedSimpArgs false in
set_option maxRecDepth 10000 in
set_option maxHeartbeats 4000000 in
theorem ivCovers_any (v : Value) (f : List Quad) (i k : Quad) (w : World) (hv : QuadV w v f) (hf : MapP f) (hi1 : unitR i.1.1 i.1.2 = true) (hi2 : unitR i.2.1 i.2.2 = true) (hk1 : unitR k.1.1 k.1.2 = true) (hk2 : unitR k.2.1 k.2.2 = true) :
    Calls Tryz.prog 27 #[v, quadV i, quadV k] w (Ret (.tuple #[.bool (covR f i k).1, .bool (covR f i k).2]) w) := by
  have ci := fun w' (hB : Below w.heap.size w w') => imImage_any v f i.1 i.2 w' (hv.below hB) hf hi1 hi2
  obtain ⟨gd1, gd2⟩ := imS_good hf i.1 i.2 f.length (Nat.le_refl _)
  unfold covR covB
  unfold imgR at ci
  generalize imS f i.1 i.2 f.length = R at *
  obtain ⟨⟨l0, l1⟩, ⟨h0, h1⟩⟩ := R
  simp only at gd1 gd2 ci ⊢
  have cl1 := fun w' => raCmp_any l0 l1 k.1.1 k.1.2 w' (good_bd (r := (l0, l1)) gd1) (unit_bd hk1)
  have cl2 := fun w' => raCmp_any k.2.1 k.2.2 h0 h1 w' (unit_bd hk2) (good_bd (r := (h0, h1)) gd2)
  rw [← cmpN_le, ← cmpN_le]
  generalize cmpN l0 l1 k.1.1 k.1.2 = U at *
  generalize cmpN k.2.1 k.2.2 h0 h1 = L at *
  generalize imgOk f i.1 i.2 = OK at *
  obtain ⟨⟨x, y⟩, ⟨z, t⟩⟩ := i
  obtain ⟨⟨p, q⟩, ⟨r, s⟩⟩ := k
  simp only at ci cl1 cl2
  obtain ⟨w1, hw1⟩ : ∃ W, (w.alloc (.cells #[.int .i64 x, .int .i64 y, .int .i64 z, .int .i64 t] 44)).alloc (.cells #[.int .i64 p, .int .i64 q, .int .i64 r, .int .i64 s] 44) = W := ⟨_, rfl⟩
  have hB1 : Below w.heap.size w w1 := by rw [← hw1]; exact ((Below.refl _ _).alloc (Nat.le_refl _) _).alloc (by simp) _
  have hz1 : w1.heap.size = w.heap.size + 2 := by rw [← hw1]; simp
  have j0 : w1.cell? ⟨w.heap.size + 1, 0, none⟩ = some (.int .i64 p) := by rw [← hw1]; simp [go_sem]
  have j1 : w1.cell? ⟨w.heap.size + 1, 1, none⟩ = some (.int .i64 q) := by rw [← hw1]; simp [go_sem]
  have j2 : w1.cell? ⟨w.heap.size + 1, 2, none⟩ = some (.int .i64 r) := by rw [← hw1]; simp [go_sem]
  have j3 : w1.cell? ⟨w.heap.size + 1, 3, none⟩ = some (.int .i64 s) := by rw [← hw1]; simp [go_sem]
  have ci1 := ci w1 hB1
  clear hv hf ci
  have hw1' := Lib.hid hw1
  clear hw1
  show Calls _ _ #[_, .agg #[.int .i64 x, .int .i64 y, .int .i64 z, .int .i64 t], .agg #[.int .i64 p, .int .i64 q, .int .i64 r, .int .i64 s]] w _
  cases OK
  · rw [if_neg (by decide)] at ci1 ⊢
    have ci1' := Lib.hid ci1
    have cl1' := Lib.hid cl1
    have cl2' := Lib.hid cl2
    clear ci1 cl1 cl2
    go_enter Tryz.func27, Tryz.ntmps27
    go_wp2_with fail
    rw [hw1'.out]
    go_wp2_with fail
    refine (ci1'.out).mono ?_
    rintro e w2 ⟨rfl, hB2⟩
    have hb2 := ((hB1.trans (hB2.mono hB1.size)).alloc (hB1.trans (hB2.mono hB1.size)).size (.cells #[.int .i64 0, .int .i64 0] 42)).alloc (by have := (hB1.trans (hB2.mono hB1.size)).size; simp; omega) (.cells #[.int .i64 0, .int .i64 0] 42)
    clear hB2 hB1 j0 j1 j2 j3
    have hb2' := Lib.hid hb2
    clear hb2
    go_wp2
    go_ret2
    exact ⟨rfl, hb2'.out⟩
  · rw [if_pos rfl] at ci1 ⊢
    have ci1' := Lib.hid ci1
    have cl1' := Lib.hid cl1
    have cl2' := Lib.hid cl2
    have j0' := Lib.hid j0
    have j1' := Lib.hid j1
    have j2' := Lib.hid j2
    have j3' := Lib.hid j3
    clear ci1 cl1 cl2 j0 j1 j2 j3
    go_enter Tryz.func27, Tryz.ntmps27
    go_wp2_with fail
    rw [hw1'.out]
    go_wp2_with fail
    refine (ci1'.out).mono ?_
    rintro e w2 ⟨rfl, hB2⟩
    have hb2 := hB1.trans (hB2.mono hB1.size)
    have hs2 := hB2.size
    obtain ⟨w3, hw3⟩ : ∃ W, (w2.alloc (.cells #[.int .i64 l0, .int .i64 l1] 42)).alloc (.cells #[.int .i64 h0, .int .i64 h1] 42) = W := ⟨_, rfl⟩
    have hB3 : Below w2.heap.size w2 w3 := by rw [← hw3]; exact ((Below.refl _ _).alloc (Nat.le_refl _) _).alloc (by simp) _
    have e0 : w3.cell? ⟨w2.heap.size + 1, 0, none⟩ = some (.int .i64 h0) := by rw [← hw3]; simp [go_sem]
    have e1 : w3.cell? ⟨w2.heap.size + 1, 1, none⟩ = some (.int .i64 h1) := by rw [← hw3]; simp [go_sem]
    have x0 := bkeep hB3 (bkeep hB2 j0'.out)
    have x1 := bkeep hB3 (bkeep hB2 j1'.out)
    have x2 := bkeep hB3 (bkeep hB2 j2'.out)
    have x3 := bkeep hB3 (bkeep hB2 j3'.out)
    have hb3 := hb2.trans (hB3.mono hb2.size)
    have y0 := x0
    have y1 := x1
    rw [← hw3] at y0 y1
    clear j0' j1' j2' j3' hB2 hB3 hb2 hB1
    have x0' := Lib.hid x0
    have x1' := Lib.hid x1
    have x2' := Lib.hid x2
    have x3' := Lib.hid x3
    have e0' := Lib.hid e0
    have e1' := Lib.hid e1
    have hw3' := Lib.hid hw3
    have hb3' := Lib.hid hb3
    clear x0 x1 x2 x3 e0 e1 hw3 hb3
    go_wp2_with fail
    rw [hw3'.out]
    clear y0 y1
    go_wp2_with fail
    refine (cl1'.out _).mono ?_
    rintro e w4 ⟨rfl, hB4⟩
    have hb4 := hb3'.out.trans (hB4.mono hb3'.out.size)
    by_cases hU : U ≤ 0
    · have x2 := bkeep hB4 x2'.out
      have x3 := bkeep hB4 x3'.out
      have e0 := bkeep hB4 e0'.out
      have e1 := bkeep hB4 e1'.out
      clear hB4
      have hb4' := Lib.hid hb4
      clear hb4
      go_wp2_with fail
      refine (cl2'.out _).mono ?_
      rintro e w5 ⟨rfl, hB5⟩
      have hb5 := hb4'.out.trans (hB5.mono hb4'.out.size)
      clear hB5 x2 x3 e0 e1
      have hb5' := Lib.hid hb5
      clear hb5
      go_wp2
      go_ret2
      exact ⟨by rw [decide_eq_true hU]; rfl, hb5'.out⟩
    · clear hB4
      have hb4' := Lib.hid hb4
      clear hb4
      go_wp2
      go_ret2
      exact ⟨by rw [decide_eq_false (by omega : ¬ U ≤ 0)]; rfl, hb4'.out⟩

end Go.Proofs.YtjkgilenhoomoaaGreat

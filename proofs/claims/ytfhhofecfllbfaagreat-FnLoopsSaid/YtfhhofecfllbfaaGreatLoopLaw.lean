/- Loops: what the told fractions do. Plain laws, no program in sight. -/
import Derived.Test.YtfhhofecfllbfaaGreatFixLaw
import Derived.Test.YtfhhofecfllbfaaGreatPkV
import Derived.Test.YtfhhofecfllbfaaGreatPkK
import Derived.Test.YtfhhofecfllbfaaGreatTouch
namespace Go.Proofs.YtfhhofecfllbfaaGreat
open Go.RowKit
def lfOk (f l : List Quad) (xs : List (Int × Int)) (k : Nat) : Bool := (List.range k).all fun i => (runs_v f l (nthR xs i)).2
def lfL (f l : List Quad) (xs : List (Int × Int)) (k : Nat) : List (Int × Int) := ((List.range k).filter fun i => (runs_v f l (nthR xs i)).1).map fun i => nthR xs i
theorem lfOk_step (f l : List Quad) (xs : List (Int × Int)) (k : Nat) : lfOk f l xs (k + 1) = (lfOk f l xs k && (runs_v f l (nthR xs k)).2) := by simp [lfOk, List.range_succ, List.all_append]
theorem lfOk_false {f l : List Quad} {xs : List (Int × Int)} {k n : Nat} (h : k < n) (hb : (runs_v f l (nthR xs k)).2 = false) : lfOk f l xs n = false := by
 unfold lfOk
 rw [List.all_eq_false]
 exact ⟨k, List.mem_range.2 h, by rw [hb]; simp⟩
theorem lfL_step (f l : List Quad) (xs : List (Int × Int)) (k : Nat) : lfL f l xs (k + 1) = if (runs_v f l (nthR xs k)).1 = true then lfL f l xs k ++ [nthR xs k] else lfL f l xs k := by
 unfold lfL
 rw [List.range_succ, List.filter_append, List.map_append]
 by_cases h : (runs_v f l (nthR xs k)).1 = true
 ·rw [if_pos h]; simp [h]
 ·rw [if_neg h]; simp [h]
theorem lfL_len (f l : List Quad) (xs : List (Int × Int)) (k : Nat) : (lfL f l xs k).length ≤ k := by
 unfold lfL
 rw [List.length_map]
 have := List.length_filter_le (fun i => (runs_v f l (nthR xs i)).1) (List.range k)
 rw [List.length_range] at this
 exact this
theorem mem_lfL {f l : List Quad} {xs : List (Int × Int)} {k : Nat} {x : Int × Int} (h : x ∈ lfL f l xs k) : ∃ i, i < k ∧ x = nthR xs i ∧ (runs_v f l (nthR xs i)).1 = true := by
 unfold lfL at h
 obtain ⟨i, hi, rfl⟩ := List.mem_map.1 h
 obtain ⟨a, b⟩ := List.mem_filter.1 hi
 exact ⟨i, List.mem_range.1 a, rfl, b⟩
def LoopFractions_v (f l : List Quad) : List (Int × Int) × Bool :=
 if (mapB f = true ∧ ivsB l = true) ∧ l.length ≤ 6 ∧ (cmW f l.length).2 = true ∧ lfOk f l (fxL (cmW f l.length).1) (fxL (cmW f l.length).1).length = true then (lfL f l (fxL (cmW f l.length).1) (fxL (cmW f l.length).1).length, true) else ([], false)
def IterateMap_v (f : List Quad) (x : Int × Int) (n : Nat) : (Int × Int) × Bool := if mapB f = true ∧ unitR x.1 x.2 = true ∧ n ≤ 60 ∧ runN f x n = n then (pz f x n, true) else ((0, 0), false)
theorem frac_in {z s t a b : Rat} (hs : 0 < s) (ht : 0 < t) (a0 : 0 ≤ a) (a1 : a ≤ 1) (b0 : 0 ≤ b) (b1 : b ≤ 1) (h : z * (s + t) = s * b + t * a) : 0 ≤ z ∧ z ≤ 1 := by
 have hst : 0 < s + t := by grind
 have m1 : 0 ≤ s * b := Rat.mul_nonneg (by grind) b0
 have m2 : 0 ≤ t * a := Rat.mul_nonneg (by grind) a0
 have m3 : 0 ≤ s * (1 - b) := Rat.mul_nonneg (by grind) (by grind)
 have m4 : 0 ≤ t * (1 - a) := Rat.mul_nonneg (by grind) (by grind)
 constructor
 ·rcases @Rat.le_total 0 z with h0 | h0
  ·exact h0
  ·by_cases e : z = 0
   ·grind
   ·have : 0 < (-z) * (s + t) := Rat.mul_pos (by grind) hst
    grind
 ·rcases @Rat.le_total z 1 with h0 | h0
  ·exact h0
  ·by_cases e : z = 1
   ·grind
   ·have : 0 < (z - 1) * (s + t) := Rat.mul_pos (by grind) hst
    grind
theorem fxL_unit {f : List Quad} (hf : MapP f) : ∀ x, x ∈ fxL f → unitR x.1 x.2 = true := by
 intro x hx
 rcases fxRaw_mem.1 (((fxL_rise hf).2 x).1 hx) with ⟨i, a, b, rfl⟩ | ⟨i, a, b, rfl⟩
 ·exact coordR_unit (hf.coord i a).1
 ·obtain ⟨p1, p2⟩ := hf.coord i (by omega)
  obtain ⟨q1, q2⟩ := hf.coord (i + 1) a
  obtain ⟨_, _, hg, hz, hb⟩ := fx_ok p1 p2 q1 q2 b
  have u1 := unitR_qv.1 (coordR_unit p1)
  have u2 := unitR_qv.1 (coordR_unit p2)
  have u3 := unitR_qv.1 (coordR_unit q1)
  have u4 := unitR_qv.1 (coordR_unit q2)
  have hc := (fxC_iff u1.1 u2.1 u3.1 u4.1).1 b
  refine unitR_qv.2 ⟨hg, ?_⟩
  rcases hc with ⟨c1, c2⟩ | ⟨c1, c2⟩
  ·exact frac_in (s := qv (nth4 f i).2 - qv (nth4 f i).1) (t := qv (nth4 f (i + 1)).1 - qv (nth4 f (i + 1)).2) (a := qv (nth4 f i).1) (b := qv (nth4 f (i + 1)).1) (by grind) (by grind) u1.2.1 u1.2.2 u3.2.1 u3.2.2 (by grind)
  ·exact frac_in (s := qv (nth4 f i).1 - qv (nth4 f i).2) (t := qv (nth4 f (i + 1)).2 - qv (nth4 f (i + 1)).1) (a := qv (nth4 f i).1) (b := qv (nth4 f (i + 1)).1) (by grind) (by grind) u1.2.1 u1.2.2 u3.2.1 u3.2.2 (by grind)
theorem runs_true {f l : List Quad} {x : Int × Int} (h : (runs_v f l x).1 = true) : runs_v f l x = (true, true) ∧ runN f x l.length = l.length ∧ allIn f l x l.length = true ∧ pz f x l.length = x := by
 unfold runs_v at h ⊢
 have := runN_le f x l.length
 split at h
 ·cases h
 ·rename_i h1
  rw [if_neg h1]
  split at h
  ·rename_i h2
   rw [if_pos h2]
   exact ⟨Prod.ext h rfl, by omega, h2, by simpa using h⟩
  ·cases h
theorem pz_add (f : List Quad) (x : Int × Int) (a : Nat) : ∀ b, pz f x (a + b) = pz f (pz f x a) b := by
 intro b
 induction b with
 | zero => rfl
 | succ b ih => show atZ f (pz f x (a + b)) = _; rw [ih]; rfl
theorem loop_apart {f : List Quad} {x : Int × Int} {n : Nat} (hn : pz f x n = x) (h : ∀ i, 1 ≤ i → i < n → pz f x i ≠ x) : ∀ a b, a < b → b < n → pz f x a ≠ pz f x b := by
 intro a b hab hb e
 have h1 : pz f x (a + (n - b)) = pz f x (b + (n - b)) := by rw [pz_add, pz_add f x b, e]
 rw [show b + (n - b) = n by omega, hn] at h1
 exact h _ (by omega) (by omega) h1
theorem allIn_at {f l : List Quad} {x : Int × Int} {n k : Nat} (h : allIn f l x n = true) (hk : k < n) : inI (nth4 l k) (pz f x k) = true := by
 unfold allIn at h
 rw [List.all_eq_true] at h
 exact h k (List.mem_range.2 hk)
theorem apK_at {l : List Quad} {n k : Nat} (h : apK l n = true) (hk : k < n) : touB (nth4 l 0) (nth4 l (k + 1)) = false := by
 unfold apK at h
 rw [List.all_eq_true] at h
 have := h k (List.mem_range.2 hk)
 simpa using this
theorem touch_both {i k : Quad} {x : Int × Int} (hi : ivB i = true) (hk : ivB k = true) (hx : goodR x.1 x.2 = true) (h1 : inI i x = true) (h2 : inI k x = true) : touB i k = true := by
 unfold ivB at hi hk
 simp only [Bool.and_eq_true] at hi hk
 unfold inI at h1 h2
 simp only [Bool.and_eq_true, Bool.not_eq_true'] at h1 h2
 unfold touB
 simp only [Bool.and_eq_true, Bool.not_eq_true']
 have gi1 := unitR_good hi.1.1
 have gi2 := unitR_good hi.1.2
 have gk1 := unitR_good hk.1.1
 have gk2 := unitR_good hk.1.2
 rw [ltB_qvf hx gi1, ltB_qvf gi2 hx] at h1
 rw [ltB_qvf hx gk1, ltB_qvf gk2 hx] at h2
 rw [ltB_qvf gi2 gk1, ltB_qvf gk2 gi1]
 constructor <;> grind
theorem exact_apart {f l : List Quad} {x : Int × Int} (hl : ivsB l = true) (hx : unitR x.1 x.2 = true) (hp : HasExactPeriod_v f l = (true, true)) (hr : (runs_v f l x).1 = true) : ∀ i, 1 ≤ i → i < l.length → pz f x i ≠ x := by
 obtain ⟨_, h1, h2, h3⟩ := runs_true hr
 intro i hi hil e
 have a0 := allIn_at h2 (show 0 < l.length by omega)
 have a1 := allIn_at h2 hil
 rw [e] at a1
 replace a0 : inI (nth4 l 0) x = true := a0
 have hap : apK l (l.length - 1) = true := by
  unfold HasExactPeriod_v pe_v at hp
  have := (Prod.mk.inj hp).1
  rw [Bool.and_eq_true] at this
  exact this.2
 have hc := apK_at hap (show i - 1 < l.length - 1 by omega)
 rw [show i - 1 + 1 = i by omega] at hc
 unfold ivsB at hl
 rw [Bool.and_eq_true] at hl
 have := touch_both (all_nth4 hl.1 (show 0 < l.length by omega)) (all_nth4 hl.1 hil) (unitR_good hx) a0 a1
 rw [hc] at this
 cases this
theorem loops_fact {f l : List Quad} {xs : List (Int × Int)} (h : LoopFractions_v f l = (xs, true)) :
  (1 ≤ l.length ∧ l.length ≤ 6) ∧ ∀ x, x ∈ xs → unitR x.1 x.2 = true ∧ RunsThrough_v f l x = (true, true) ∧ IterateMap_v f x l.length = (x, true) ∧ runN f x l.length = l.length ∧ pz f x l.length = x ∧ (HasExactPeriod_v f l = (true, true) → ∀ a b, a < b → b < l.length → pz f x a ≠ pz f x b) := by
 unfold LoopFractions_v at h
 split at h
 ·rename_i q
  obtain ⟨⟨q1, q2⟩, q3, q4, q5⟩ := q
  obtain ⟨rfl, -⟩ := Prod.mk.inj h
  have hg := mapB_true (cmW_map f l.length q4)
  have hlen := q2
  unfold ivsB at hlen
  rw [Bool.and_eq_true] at hlen
  have h1 := inB_true.1 hlen.2
  refine ⟨⟨by omega, q3⟩, fun x hx => ?_⟩
  obtain ⟨i, hi, rfl, hr⟩ := mem_lfL hx
  have hu := fxL_unit hg (nthR (fxL (cmW f l.length).1) i) (by rw [nthR_eq hi]; exact List.getElem_mem hi)
  generalize nthR (fxL (cmW f l.length).1) i = x at *
  obtain ⟨e, n1, n2, n3⟩ := runs_true hr
  refine ⟨hu, ?_, ?_, n1, n3, fun hp => ?_⟩
  ·unfold RunsThrough_v
   rw [if_pos ⟨q1, q2, hu⟩, e]
  ·unfold IterateMap_v
   rw [if_pos ⟨q1, hu, by omega, n1⟩, n3]
  ·exact loop_apart n3 (exact_apart q2 hu hp hr)
 ·cases (Prod.mk.inj h).2
theorem exact_loop {u m : List Quad} (h : HasExactPeriod_v u m = (true, true)) : IsLoopOf_v u m = (true, true) := by
 unfold HasExactPeriod_v pe_v at h
 obtain ⟨h1, h2⟩ := Prod.mk.inj h
 rw [Bool.and_eq_true] at h1
 exact Prod.ext h1.1 h2
theorem runs_first {f l : List Quad} {x : Int × Int} (h : RunsThrough_v f l x = (true, true)) : 1 ≤ l.length ∧ inI (nth4 l 0) x = true := by
 unfold RunsThrough_v at h
 split at h
 ·rename_i q
  have hlen := q.2.1
  unfold ivsB at hlen
  rw [Bool.and_eq_true] at hlen
  have h1 := inB_true.1 hlen.2
  have hr : (runs_v f l x).1 = true := by rw [h]
  obtain ⟨_, _, h2, _⟩ := runs_true hr
  exact ⟨by omega, allIn_at h2 (by omega)⟩
 ·cases h
end Go.Proofs.YtfhhofecfllbfaaGreat

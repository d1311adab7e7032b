/- Orbits: the values from a fraction on, as far as they can be computed. -/
import Derived.Test.YtfcanpebagpdbaaGreatPkE
namespace Go.Proofs.YtfcanpebagpdbaaGreat

/-- The k-th fraction of an orbit. -/
def pz (f : List Quad) (x : Int × Int) : Nat → Int × Int | 0 => x | k + 1 => atZ f (pz f x k)
def runF (f : List Quad) (x : Int × Int) : Nat → Nat → Nat
  | 0, k => k
  | m + 1, k => if atOk f (pz f x k) = true then runF f x m (k + 1) else k
/-- The number of steps that can be computed, at most n. -/
def runN (f : List Quad) (x : Int × Int) (n : Nat) : Nat := runF f x n 0
/-- The fractions up to the k-th. -/
def ptL (f : List Quad) (x : Int × Int) (k : Nat) : List (Int × Int) := (List.range (k + 1)).map (pz f x)
def orbL (f : List Quad) (x : Int × Int) (n : Nat) : List (Int × Int) := ptL f x (runN f x n)
theorem ptL_len (f : List Quad) (x : Int × Int) (k : Nat) : (ptL f x k).length = k + 1 := by simp [ptL]
theorem ptL_zero (f : List Quad) (x : Int × Int) : ptL f x 0 = [x] := rfl
theorem ptL_step (f : List Quad) (x : Int × Int) (k : Nat) : ptL f x (k + 1) = ptL f x k ++ [pz f x (k + 1)] := by
  unfold ptL; rw [List.range_succ, List.map_append]; rfl
theorem nthR_ptL {f : List Quad} {x : Int × Int} {k i : Nat} (h : i ≤ k) : nthR (ptL f x k) i = pz f x i := by
  rw [nthR_eq (by rw [ptL_len]; omega)]; simp [ptL]
theorem runF_go {f : List Quad} {x : Int × Int} {n k : Nat} (hk : k < n) (h : atOk f (pz f x k) = true) : runF f x (n - (k + 1)) (k + 1) = runF f x (n - k) k := by
  rw [show n - k = (n - (k + 1)) + 1 by omega, runF, if_pos h]
theorem runF_stop {f : List Quad} {x : Int × Int} {n k : Nat} (hk : k < n) (h : atOk f (pz f x k) = false) : runF f x (n - k) k = k := by
  rw [show n - k = (n - (k + 1)) + 1 by omega, runF, if_neg (by rw [h]; decide)]
theorem runF_end {f : List Quad} {x : Int × Int} (n : Nat) : runF f x (n - n) n = n := by rw [Nat.sub_self]; rfl
theorem runF_le (f : List Quad) (x : Int × Int) : ∀ m k, k ≤ runF f x m k ∧ runF f x m k ≤ k + m ∧ ∀ j, k ≤ j → j < runF f x m k → atOk f (pz f x j) = true := by
  intro m
  induction m with
  | zero => intro k; exact ⟨Nat.le_refl _, Nat.le_refl _, fun j h1 h2 => by simp only [runF] at h2; omega⟩
  | succ m ih =>
    intro k
    obtain ⟨a, b, c⟩ := ih (k + 1)
    cases h : atOk f (pz f x k)
    · have e : runF f x (m + 1) k = k := by rw [runF, if_neg (by rw [h]; decide)]
      rw [e]
      exact ⟨Nat.le_refl _, by omega, fun j h1 h2 => by omega⟩
    · have e : runF f x (m + 1) k = runF f x m (k + 1) := by rw [runF, if_pos h]
      rw [e]
      exact ⟨by omega, by omega, fun j h1 h2 => by
        by_cases hj : j = k
        · rw [hj]; exact h
        · exact c j (by omega) h2⟩
theorem runN_le (f : List Quad) (x : Int × Int) (n : Nat) : runN f x n ≤ n := by have := (runF_le f x n 0).2.1; unfold runN; omega
theorem runN_ok (f : List Quad) (x : Int × Int) (n j : Nat) (h : j < runN f x n) : atOk f (pz f x j) = true := (runF_le f x n 0).2.2 j (Nat.zero_le _) h
theorem pz_unit {f : List Quad} (hf : MapP f) {x : Int × Int} (hx : unitR x.1 x.2 = true) : ∀ k, (∀ j, j < k → atOk f (pz f x j) = true) → unitR (pz f x k).1 (pz f x k).2 = true := by
  intro k
  induction k with
  | zero => intro _; exact hx
  | succ k ih => intro h; exact at_unit hf (ih fun j hj => h j (by omega)) (h k (Nat.lt_succ_self k))
theorem orbL_len (f : List Quad) (x : Int × Int) (n : Nat) : (orbL f x n).length = runN f x n + 1 := ptL_len _ _ _
theorem orbL_unit {f : List Quad} (hf : MapP f) {x : Int × Int} (hx : unitR x.1 x.2 = true) (n i : Nat) (h : i < (orbL f x n).length) : unitR (nthR (orbL f x n) i).1 (nthR (orbL f x n) i).2 = true := by
  rw [orbL_len] at h
  unfold orbL
  rw [nthR_ptL (by omega)]
  exact pz_unit hf hx i fun j hj => runN_ok f x n j (by omega)

end Go.Proofs.YtfcanpebagpdbaaGreat

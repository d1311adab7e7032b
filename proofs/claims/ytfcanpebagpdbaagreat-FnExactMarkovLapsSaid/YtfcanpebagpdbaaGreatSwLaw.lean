/- Every fraction of 0..1 has a state; the walk of an orbit through the states. -/
import Derived.Test.YtfcanpebagpdbaaGreatOrb
import Derived.Test.YtfcanpebagpdbaaGreatPkC
namespace Go.Proofs.YtfcanpebagpdbaaGreat

theorem ltB_asym {a b c d : Int} (h : ltB a b c d = true) : ltB c d a b = false := by
  unfold ltB at *
  rw [decide_eq_true_iff] at h
  exact decide_eq_false (by omega)
theorem stK_none {xs : List (Int × Int)} {x : Int × Int} (h0 : ltB x.1 x.2 (nthR xs 0).1 (nthR xs 0).2 = false) : ∀ k, stK xs x k = [] →
    ltB x.1 x.2 (nthR xs k).1 (nthR xs k).2 = false ∧ (k ≠ 0 → ltB (nthR xs k).1 (nthR xs k).2 x.1 x.2 = true) := by
  intro k
  induction k with
  | zero => intro _; exact ⟨h0, fun h => absurd rfl h⟩
  | succ k ih =>
    intro h
    have h1 : stK xs x (k + 1) = if stB xs x k = true then stK xs x k ++ [(k : Int)] else stK xs x k := rfl
    rw [h1] at h
    by_cases hb : stB xs x k = true
    · rw [if_pos hb] at h; simp at h
    · rw [if_neg hb] at h
      have h2 := (ih h).1
      have h3 : ltB (nthR xs (k + 1)).1 (nthR xs (k + 1)).2 x.1 x.2 = true := by
        unfold stB at hb
        rw [h2] at hb
        simpa using hb
      exact ⟨ltB_asym h3, fun _ => h3⟩
theorem stL_some {xs : List (Int × Int)} {x : Int × Int} (hp : partB xs = true) (hx : unitR x.1 x.2 = true) : 0 < (stL xs x).length := by
  have hl := partB_len hp
  unfold partB at hp
  simp only [Bool.and_eq_true, decide_eq_true_iff] at hp
  obtain ⟨g, hi⟩ : goodR x.1 x.2 = true ∧ inB x.1 0 x.2 = true := by unfold unitR at hx; rw [Bool.and_eq_true] at hx; exact hx
  obtain ⟨u0, u1⟩ := inB_true.1 hi
  apply Nat.pos_of_ne_zero
  intro h
  have hn : stK xs x (xs.length - 1) = [] := List.eq_nil_of_length_eq_zero h
  obtain ⟨_, _, _, e0, e1⟩ := hp
  have h0 : ltB x.1 x.2 (nthR xs 0).1 (nthR xs 0).2 = false := by rw [e0]; exact decide_eq_false (by omega)
  have h1 := (stK_none h0 _ hn).2 (by omega)
  rw [e1] at h1
  unfold ltB at h1
  rw [decide_eq_true_iff] at h1
  omega

/-- The least states of the first fractions of an orbit. -/
def swK (f : List Quad) (xs : List (Int × Int)) (x : Int × Int) (k : Nat) : List Int := (List.range k).map fun i => nth (stL xs (pz f x i)) 0
theorem swK_len (f : List Quad) (xs : List (Int × Int)) (x : Int × Int) (k : Nat) : (swK f xs x k).length = k := by simp [swK]
theorem swK_step (f : List Quad) (xs : List (Int × Int)) (x : Int × Int) (k : Nat) : swK f xs x (k + 1) = swK f xs x k ++ [nth (stL xs (pz f x k)) 0] := by simp [swK, List.range_succ]
def sw_v (f : List Quad) (xs : List (Int × Int)) (x : Int × Int) (n : Nat) : List Int × Bool := if runN f x n < n then ([], false) else (swK f xs x (n + 1), true)
def StateWalk_v (f : List Quad) (xs : List (Int × Int)) (x : Int × Int) (n : Int) : List Int × Bool :=
  if mapB f = true ∧ partB xs = true ∧ unitR x.1 x.2 = true ∧ inB n 0 40 = true then sw_v f xs x n.toNat else ([], false)
theorem StateWalk_len (f : List Quad) (xs : List (Int × Int)) (x : Int × Int) (n : Int) : szIntS (StateWalk_v f xs x n).1 ≤ 1099511627776 := by
  unfold szIntS StateWalk_v
  split
  · rename_i h
    have := inB_true.1 h.2.2.2
    unfold sw_v
    split
    · simp
    · rw [swK_len]; omega
  · simp

end Go.Proofs.YtfcanpebagpdbaaGreat

/- The laps of a map, as both programs gather them: a table of starts, ends and signs. No conditions. -/
import Derived.Test.YtnggopbehohjnaaGreatSlopes
import Derived.Test.YtnggopbehohjnaaGreatPkA
namespace Go.Proofs.YtnggopbehohjnaaGreat
open Go.RowKit

/-- The number of laps of the first j pieces. -/
def lpc (S : Nat → Int) : Nat → Nat
  | 0 => 0
  | j + 1 => if 0 < j ∧ S (j - 1) = S j then lpc S j else lpc S j + 1
def row3 (k : Nat) (s : Int) (c : Nat) : Int := if c = 0 then k else if c = 1 then (k : Int) + 1 else s
/-- Their table. -/
def lpT (S : Nat → Int) : Nat → (Nat → Nat → Int)
  | 0 => fun _ _ => 0
  | j + 1 => if 0 < j ∧ S (j - 1) = S j then upd (lpT S j) (lpc S j - 1) 1 ((j : Int) + 1) else fun i c => if i = lpc S j then row3 j (S j) c else lpT S j i c
theorem lpc_same {S : Nat → Int} {j : Nat} (h : 0 < j ∧ S (j - 1) = S j) : lpc S (j + 1) = lpc S j := by show (if _ then _ else _) = _; rw [if_pos h]
theorem lpc_new {S : Nat → Int} {j : Nat} (h : ¬ (0 < j ∧ S (j - 1) = S j)) : lpc S (j + 1) = lpc S j + 1 := by show (if _ then _ else _) = _; rw [if_neg h]
theorem lpT_same {S : Nat → Int} {j : Nat} (h : 0 < j ∧ S (j - 1) = S j) : lpT S (j + 1) = upd (lpT S j) (lpc S j - 1) 1 ((j : Int) + 1) := by show (if _ then _ else _) = _; rw [if_pos h]
theorem lpT_new {S : Nat → Int} {j : Nat} (h : ¬ (0 < j ∧ S (j - 1) = S j)) : lpT S (j + 1) = fun i c => if i = lpc S j then row3 j (S j) c else lpT S j i c := by show (if _ then _ else _) = _; rw [if_neg h]
theorem lpc_le (S : Nat → Int) (j : Nat) : lpc S j ≤ j := by
  induction j with
  | zero => exact Nat.le_refl _
  | succ j ih =>
    by_cases h : 0 < j ∧ S (j - 1) = S j
    · rw [lpc_same h]; omega
    · rw [lpc_new h]; omega
theorem lpc_pos (S : Nat → Int) {j : Nat} (h : 0 < j) : 1 ≤ lpc S j := by
  induction j with
  | zero => omega
  | succ j ih =>
    by_cases h2 : 0 < j ∧ S (j - 1) = S j
    · rw [lpc_same h2]; exact ih h2.1
    · rw [lpc_new h2]; omega
/-- The sign of the last lap. -/
theorem lpT_last (S : Nat → Int) {j : Nat} (h : 0 < j) : lpT S j (lpc S j - 1) 2 = S (j - 1) := by
  induction j with
  | zero => omega
  | succ j ih =>
    by_cases h2 : 0 < j ∧ S (j - 1) = S j
    · rw [lpc_same h2, lpT_same h2]
      unfold upd
      rw [if_neg (by omega), ih h2.1, h2.2, Nat.add_sub_cancel]
    · rw [lpc_new h2, lpT_new h2, Nat.add_sub_cancel, Nat.add_sub_cancel]
      simp [row3]
/-- The first entry of a row is a place; those of the further rows are the places where the sign changes. -/
theorem lpT_start (S : Nat → Int) (j : Nat) : (∀ i, i < lpc S j → 0 ≤ lpT S j i 0 ∧ lpT S j i 0 < j) ∧ (0 < j → lpT S j 0 0 = 0) ∧
    (∀ i, 0 < i → i < lpc S j → 0 < lpT S j i 0 ∧ S ((lpT S j i 0).toNat - 1) ≠ S (lpT S j i 0).toNat) ∧
    (∀ k, 0 < k → k < j → S (k - 1) ≠ S k → ∃ i, 0 < i ∧ i < lpc S j ∧ lpT S j i 0 = k) := by
  induction j with
  | zero => exact ⟨fun i hi => absurd hi (Nat.not_lt_zero i), fun h => absurd h (Nat.lt_irrefl 0), fun i _ hi => absurd hi (Nat.not_lt_zero i), fun k _ hk => absurd hk (Nat.not_lt_zero k)⟩
  | succ j ih =>
    obtain ⟨h1, h2, h3, h4⟩ := ih
    by_cases h : 0 < j ∧ S (j - 1) = S j
    · have e : ∀ i, lpT S (j + 1) i 0 = lpT S j i 0 := fun i => by
        rw [lpT_same h]; unfold upd; rw [if_neg (by omega)]
      rw [lpc_same h]
      simp only [e]
      refine ⟨fun i hi => ?_, fun _ => h2 h.1, h3, fun k hk hk2 hne => ?_⟩
      · have := h1 i hi; omega
      · have : k ≠ j := fun e => hne (by subst e; exact h.2)
        exact h4 k hk (by omega) hne
    · have e : ∀ i, lpT S (j + 1) i 0 = if i = lpc S j then (j : Int) else lpT S j i 0 := fun i => by
        rw [lpT_new h]; simp only [row3, if_true]
      rw [lpc_new h]
      simp only [e]
      refine ⟨fun i hi => ?_, fun _ => ?_, fun i hi hi2 => ?_, fun k hk hk2 hne => ?_⟩
      · by_cases e2 : i = lpc S j
        · rw [if_pos e2]; omega
        · rw [if_neg e2]; have := h1 i (by omega); omega
      · by_cases h0 : 0 < j
        · rw [if_neg (by have := lpc_pos S h0; omega)]; exact h2 h0
        · have : j = 0 := by omega
          subst this
          rfl
      · by_cases e2 : i = lpc S j
        · rw [if_pos e2]
          have hj : 0 < j := by
            rcases Nat.eq_zero_or_pos j with h0 | h0
            · subst h0; exact absurd e2 (by show i ≠ 0; omega)
            · exact h0
          refine ⟨by omega, ?_⟩
          rw [Int.toNat_natCast]
          exact fun q => h ⟨hj, q⟩
        · rw [if_neg e2]; exact h3 i hi (by omega)
      · by_cases e2 : k = j
        · subst e2
          exact ⟨lpc S k, lpc_pos S hk, by omega, by rw [if_pos rfl]⟩
        · obtain ⟨i, hi1, hi2, hi3⟩ := h4 k hk (by omega) hne
          exact ⟨i, hi1, by omega, by rw [if_neg (by omega)]; exact hi3⟩

/-- The sign of a piece's slope. -/
def sgS (f : List Quad) (i : Nat) : Int := sgn (slopeR (nth4 f i) (nth4 f (i + 1))).1
/-- The X where the first k further laps begin. -/
def tuK (f : List Quad) (k : Nat) : List (Int × Int) := (List.range k).map fun i => (nth4 f (lpT (sgS f) (f.length - 1) (i + 1) 0).toNat).1
def tuL (f : List Quad) : List (Int × Int) := tuK f (lpc (sgS f) (f.length - 1) - 1)
theorem tuK_len (f : List Quad) (k : Nat) : (tuK f k).length = k := by simp [tuK]
theorem tuK_step (f : List Quad) (k : Nat) : tuK f (k + 1) = tuK f k ++ [(nth4 f (lpT (sgS f) (f.length - 1) (k + 1) 0).toNat).1] := by simp [tuK, List.range_succ]
/-- A turning point is a point between two pieces of other signs. -/
theorem mem_tuL {f : List Quad} {x : Int × Int} : x ∈ tuL f ↔ ∃ k, 0 < k ∧ k < f.length - 1 ∧ sgS f (k - 1) ≠ sgS f k ∧ x = (nth4 f k).1 := by
  obtain ⟨h1, _, h3, h4⟩ := lpT_start (sgS f) (f.length - 1)
  unfold tuL tuK
  simp only [List.mem_map, List.mem_range]
  constructor
  · rintro ⟨i, hi, rfl⟩
    have h5 := h1 (i + 1) (by omega)
    have h6 := h3 (i + 1) (by omega) (by omega)
    exact ⟨_, by omega, by omega, h6.2, rfl⟩
  · rintro ⟨k, hk, hk2, hne, rfl⟩
    obtain ⟨i, hi1, hi2, hi3⟩ := h4 k hk hk2 hne
    refine ⟨i - 1, by omega, ?_⟩
    rw [show i - 1 + 1 = i by omega, hi3, Int.toNat_natCast]

end Go.Proofs.YtnggopbehohjnaaGreat

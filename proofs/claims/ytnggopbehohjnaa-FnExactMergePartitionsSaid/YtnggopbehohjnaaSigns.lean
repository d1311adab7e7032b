/- Changes of sign in a list of coefficients: the reference's SignChanges and the program's return the same. -/
import Derived.Test.YtnggopbehohjnaaPolyIs
namespace Go.Proofs.Ytnggopbehohjnaa
open Go.RowKit

/-- A number's sign. -/
def sgn (n : Int) : Int := if 0 < n then 1 else if n < 0 then -1 else 0

theorem l1Sign_any (n : Int) (w : World) : Calls Try.prog 32 #[.int .i64 n] w (Same (.int .i64 (sgn n)) w) := by
  by_cases h1 : 0 < n
  · have : sgn n = 1 := by unfold sgn; rw [if_pos h1]
    rw [this]; clear this
    go_enter Try.func32, Try.ntmps32
    go_wp2
    go_ret
    exact ⟨rfl, rfl⟩
  · by_cases h2 : n < 0
    · have : sgn n = -1 := by unfold sgn; rw [if_neg h1, if_pos h2]
      rw [this]; clear this
      go_enter Try.func32, Try.ntmps32
      go_wp2
      go_ret
      exact ⟨rfl, rfl⟩
    · have : sgn n = 0 := by unfold sgn; rw [if_neg h1, if_neg h2]
      rw [this]; clear this
      go_enter Try.func32, Try.ntmps32
      go_wp2
      go_ret
      exact ⟨rfl, rfl⟩

/-- One more coefficient: the changes so far, the last one that is not 0. -/
def chgStep (s : Int × Int) (n : Int) : Int × Int := if n = 0 then s else (if s.2 ≠ 0 ∧ ¬ (s.2 < 0 ↔ n < 0) then s.1 + 1 else s.1, n)
/-- After k coefficients: c changes, l the last one that is not 0. -/
def Chg (xs : List Int) (k : Nat) (c l : Int) : Prop := (xs.take k).foldl chgStep (0, 0) = (c, l) ∧ 0 ≤ c ∧ c ≤ k
theorem Chg.start (xs : List Int) : Chg xs 0 0 0 := ⟨rfl, Int.le_refl _, Int.le_refl _⟩
theorem Chg.zero {xs : List Int} {k : Nat} {c l : Int} (h : Chg xs k c l) (hk : k < xs.length) (hx : nth xs k = 0) : Chg xs (k + 1) c l := by
  refine ⟨?_, h.2.1, by have := h.2.2; omega⟩
  rw [take_nth hk, List.foldl_append, h.1, hx]; rfl
theorem Chg.still {xs : List Int} {k : Nat} {c l : Int} (h : Chg xs k c l) (hk : k < xs.length) (hx : nth xs k ≠ 0) (hs : l = 0 ∨ (l < 0 ↔ nth xs k < 0)) : Chg xs (k + 1) c (nth xs k) := by
  refine ⟨?_, h.2.1, by have := h.2.2; omega⟩
  rw [take_nth hk, List.foldl_append, h.1]
  show chgStep (c, l) (nth xs k) = _
  unfold chgStep
  rw [if_neg hx, if_neg (by rintro ⟨h1, h2⟩; rcases hs with h3 | h3; exact h1 h3; exact h2 h3)]
theorem Chg.turn {xs : List Int} {k : Nat} {c l : Int} (h : Chg xs k c l) (hk : k < xs.length) (hx : nth xs k ≠ 0) (h0 : l ≠ 0) (hs : ¬ (l < 0 ↔ nth xs k < 0)) : Chg xs (k + 1) (c + 1) (nth xs k) := by
  refine ⟨?_, by have := h.2.1; omega, by have := h.2.2; omega⟩
  rw [take_nth hk, List.foldl_append, h.1]
  show chgStep (c, l) (nth xs k) = _
  unfold chgStep
  rw [if_neg hx, if_pos ⟨h0, hs⟩]

/-- What both functions return. -/
def SignChanges_v (xs : List Int) : Int × Bool := if polyB xs = true then ((xs.foldl chgStep (0, 0)).1, true) else (0, false)
theorem SignChanges_no {xs : List Int} (h : polyB xs = false) : SignChanges_v xs = (0, false) := by simp [SignChanges_v, h]
theorem SignChanges_yes {xs : List Int} {c l : Int} (h : polyB xs = true) (hc : Chg xs xs.length c l) : SignChanges_v xs = (c, true) := by
  have := hc.1
  rw [List.take_length] at this
  simp [SignChanges_v, h, this]


theorem sgn_neg {n : Int} (h : n < 0) : sgn n = -1 := by unfold sgn; rw [if_neg (by omega), if_pos h]
theorem sgn_pos {n : Int} (h : 0 < n) : sgn n = 1 := by unfold sgn; rw [if_pos h]


end Go.Proofs.Ytnggopbehohjnaa

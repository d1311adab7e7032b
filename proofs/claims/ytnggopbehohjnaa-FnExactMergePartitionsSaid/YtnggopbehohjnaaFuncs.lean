/- Small helpers of the reference and of the program on numbers and lists of numbers: bounds, all within bounds; the library's IndexFunc, ContainsFunc on []int. -/
import Derived.Test.YtnggopbehohjnaaLib
namespace Go.Proofs.Ytnggopbehohjnaa
open Go.RowKit

/-- lo ≤ n ≤ hi, as a bool. -/
def inB (n lo hi : Int) : Bool := decide (lo ≤ n) && decide (n ≤ hi)
theorem inB_true {n lo hi : Int} : inB n lo hi = true ↔ lo ≤ n ∧ n ≤ hi := by simp [inB]
theorem inB_false {n lo hi : Int} : inB n lo hi = false ↔ n < lo ∨ hi < n := by
  rw [← Bool.not_eq_true, inB_true]; omega

/-- The call returns v; the world is the same. -/
def Same (v : Value) (w : World) (e : Ending) (w' : World) : Prop := e = .returned v ∧ w = w'
theorem Same.ret {v : Value} {w : World} {e : Ending} {w' : World} (h : Same v w e w') : Ret v w e w' := ⟨h.1, h.2 ▸ Below.refl _ _⟩

theorem l1In_any (n lo hi : Int) (w : World) : Calls Try.prog 18 #[.int .i64 n, .int .i64 lo, .int .i64 hi] w (Same (.bool (inB n lo hi)) w) := by
  by_cases h1 : lo ≤ n
  · by_cases h2 : n ≤ hi
    · have : inB n lo hi = true := inB_true.2 ⟨h1, h2⟩
      rw [this]; clear this
      go_enter Try.func18, Try.ntmps18
      go_wp2
      go_ret
      exact ⟨rfl, rfl⟩
    · have : inB n lo hi = false := inB_false.2 (by omega)
      rw [this]; clear this
      go_enter Try.func18, Try.ntmps18
      go_wp2
      go_ret
      exact ⟨rfl, rfl⟩
  · have : inB n lo hi = false := inB_false.2 (by omega)
    rw [this]; clear this
    go_enter Try.func18, Try.ntmps18
    go_wp2
    go_ret
    exact ⟨rfl, rfl⟩

theorem within_any (n lo hi : Int) (w : World) : Calls Try.prog 22 #[.int .i64 n, .int .i64 lo, .int .i64 hi] w (Same (.bool (inB n lo hi)) w) := by
  by_cases h1 : lo ≤ n
  · by_cases h2 : n ≤ hi
    · have : inB n lo hi = true := inB_true.2 ⟨h1, h2⟩
      rw [this]; clear this
      go_enter Try.func22, Try.ntmps22
      go_wp2
      go_ret
      exact ⟨rfl, rfl⟩
    · have : inB n lo hi = false := inB_false.2 (by omega)
      rw [this]; clear this
      go_enter Try.func22, Try.ntmps22
      go_wp2
      go_ret
      exact ⟨rfl, rfl⟩
  · have : inB n lo hi = false := inB_false.2 (by omega)
    rw [this]; clear this
    go_enter Try.func22, Try.ntmps22
    go_wp2
    go_ret
    exact ⟨rfl, rfl⟩

/-- All numbers lie within the bounds. -/
def allB (xs : List Int) (lo hi : Int) : Bool := xs.all fun n => inB n lo hi
theorem allB_take {xs : List Int} {lo hi : Int} {k : Nat} (hk : k < xs.length) : allB (xs.take (k + 1)) lo hi = (allB (xs.take k) lo hi && inB (nth xs k) lo hi) := by
  rw [take_nth hk]; simp [allB]
theorem allB_no {xs : List Int} {lo hi : Int} {k : Nat} (hk : k < xs.length) (h : inB (nth xs k) lo hi = false) : allB xs lo hi = false := by
  unfold allB
  rw [List.all_eq_false]
  exact ⟨_, nth_mem hk, by rw [h]; simp⟩




end Go.Proofs.Ytnggopbehohjnaa

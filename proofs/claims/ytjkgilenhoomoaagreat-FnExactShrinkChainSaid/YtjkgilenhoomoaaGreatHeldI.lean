/- laws.heldIntervalS, asked of what a mark has written. No conditions but small sizes. -/
import Derived.Test.YtjkgilenhoomoaaGreatPkH
namespace Go.Proofs.YtjkgilenhoomoaaGreat
open Go.RowKit

/-- Asked of the numbers that a mark has written: it finds them all. -/
theorem heldIntervalS_core (v : Value) (k n : Nat) (w : World) (hv : FlatV 4 w v n (marks k (n * 4))) (hm : n ≤ 1099511627776) (hk : k ≤ 70368744177664) :
    Calls Tryz.prog 14 #[v, .int .i64 k] w (Ret (.int .i64 ((k + 4 * n : Nat) : Int)) w) := by
  obtain ⟨ao, cap, rfl, _, _, H⟩ := hv
  go_enter Tryz.func14, Tryz.ntmps14
  go_wp2
  go_loop [1, 5] (fun c i => ∃ j : Nat, j ≤ n ∧ i = .int .i64 j ∧ c = .int .i64 ((k + j * 4 : Nat) : Int)) (fun _ i => n - (intOf i).toNat)
  case atStart => exact ⟨0, Nat.zero_le _, rfl, by simp⟩
  case round =>
    obtain ⟨j, hj, rfl, rfl⟩ := hrel
    by_cases hlt : j < n
    · obtain ⟨b, off, rfl, hc0⟩ := H (j * 4) (by omega)
      obtain ⟨_, _, e', hc1⟩ := H (j * 4 + 1) (by omega)
      cases e'
      obtain ⟨_, _, e', hc2⟩ := H (j * 4 + 2) (by omega)
      cases e'
      obtain ⟨_, _, e', hc3⟩ := H (j * 4 + 3) (by omega)
      cases e'
      rw [nth_marks (by omega)] at hc0
      rw [nth_marks (by omega), ← Nat.add_assoc off] at hc1 hc2 hc3
      obtain ⟨m, hm1⟩ : ∃ m : Int, m = ((k + j * 4 : Nat) : Int) := ⟨_, rfl⟩
      rw [show ((k + (j * 4 + 1) : Nat) : Int) = m + 1 by omega] at hc1
      rw [show ((k + (j * 4 + 2) : Nat) : Int) = m + 1 + 1 by omega] at hc2
      rw [show ((k + (j * 4 + 3) : Nat) : Int) = m + 1 + 1 + 1 by omega] at hc3
      rw [← hm1] at hc0 ⊢
      have hmb : 0 ≤ m ∧ m ≤ 72567767433228 * 1000 := by omega
      have hm1' := Lib.hid hm1
      clear hm1
      clear H
      go_wp2
      go_round
      case rel =>
        have := hm1'.out
        exact ⟨j + 1, by omega, by go_num, by go_num⟩
      case measure => simp [intOf]; omega
    · obtain rfl : j = n := by omega
      clear H
      go_wp2
      go_ret
      exact ⟨by simp; omega, Below.refl _ _⟩
theorem heldIntervalS_any (v : Value) (xs : List Quad) (k : Nat) (c : Int) (w : World) (hv : QuadV w v (markIntervalS k xs)) (hm : szIntervalS xs ≤ 1099511627776) (hk : k ≤ 70368744177664) (hc : c = k) :
    Calls Tryz.prog 14 #[v, .int .i64 c] w (Ret (.int .i64 ((k + cntIntervalS xs : Nat) : Int)) w) := by
  subst hc
  have h0 : markIntervalS k xs = markQ k xs := rfl
  unfold QuadV at hv
  rw [h0, markQ_len, fl4_mark] at hv
  exact heldIntervalS_core v k xs.length w hv hm hk
end Go.Proofs.YtjkgilenhoomoaaGreat

/- Several texts in one: St StR. No conditions but those that each theorem states. -/
import Derived.Test.YtfhhofecfllbfaaGreatCur
import Derived.Test.YtfhhofecfllbfaaGreatPkA

namespace Go.Proofs.YtfhhofecfllbfaaGreat
open Go.RowKit

/-- The world w has kept all of w0, and the listed slices read as listed. -/
structure St (w0 w : World) (L : List (Value × List Int)) : Prop where
  below : Below w0.heap.size w0 w
  all : ∀ p, p ∈ L → IntsV w p.1 p.2
theorem qInts_drew (v u : Value) (xs : List Int) (w : World) (hv : IntsV w v xs) (hu : IntsV w u xs) (hm : xs.length ≤ 1099511627776) :
    Calls Tryz.prog 85 #[v, u] w (fun e w' => e = .returned (.bool true) ∧ ∃ q, w' = w.drewN q) := by
  obtain ⟨ao, cap, rfl, _, _, H⟩ := hv
  obtain ⟨bo, bcap, rfl, _, _, H'⟩ := hu
  obtain ⟨n, hn⟩ : ∃ n, xs.length = n := ⟨_, rfl⟩
  rw [hn] at hm H H' ⊢
  go_enter Tryz.func85, Tryz.ntmps85
  go_wp2
  go_loopw [13] (fun i wr => ∃ k : Nat, k ≤ n ∧ i = .int .i64 k ∧ ∃ q, wr = w.drewN q) (fun i _ => n - (intOf i).toNat)
  case atStart => exact ⟨0, Nat.zero_le _, rfl, 0, rfl⟩
  case round =>
    obtain ⟨k, hk, rfl, q, rfl⟩ := hrel
    by_cases hlt : k < n
    · obtain ⟨b, off, rfl, hc⟩ := H k hlt
      obtain ⟨b', off', rfl, hc'⟩ := H' k hlt
      clear H H'
      go_wp2_with fail
      go_quiet (fail)
      go_wp2
      go_roundw
      case rel => exact ⟨k + 1, by omega, by go_num, _, rfl⟩
      case measure => simp [intOf]; omega
    · clear H H'
      go_wp2
      go_ret
      exact ⟨rfl, _, rfl⟩

end Go.Proofs.YtfhhofecfllbfaaGreat

namespace Go.Proofs.YtfhhofecfllbfaaGreat
open Go.RowKit

/-- The world w has kept all of w0, and the listed tables read as listed. -/
structure StTb (w0 w : World) (L : List (Value × List (List Int))) : Prop where
  below : Below w0.heap.size w0 w
  all : ∀ p, p ∈ L → RowsV w p.1 p.2
theorem qLists_same (v u : Value) (xss : List (List Int)) (w : World) (hv : RowsV w v xss) (hu : RowsV w u xss) (hm : szIntSS xss ≤ 1099511627776) :
    Calls Tryz.prog 31 #[v, u] w (Ret (.bool true) w) := by
  have hc : ∀ i, i < xss.length → (row xss i).length ≤ 1099511627776 := fun i hi => by
    have := row_len_le hi; unfold szIntSS at hm; unfold cntIntSS at this; omega
  have hl : xss.length ≤ 1099511627776 := by unfold szIntSS at hm; omega
  clear hm
  obtain ⟨ao, cap, rfl, _, _, H⟩ := hv
  obtain ⟨bo, bcap, rfl, _, _, H'⟩ := hu
  obtain ⟨n, hn⟩ : ∃ n, xss.length = n := ⟨_, rfl⟩
  rw [hn] at hl hc H H' ⊢
  have hc' := Lib.hid hc
  have h1 := Lib.hid H
  have h2 := Lib.hid H'
  clear hc H H' hn
  go_enter Tryz.func31, Tryz.ntmps31
  go_wp2
  go_loopw [13] (fun i wr => ∃ k : Nat, k ≤ n ∧ i = .int .i64 k ∧ ∃ q, wr = w.drewN q) (fun i _ => n - (intOf i).toNat)
  case atStart => exact ⟨0, Nat.zero_le _, rfl, 0, rfl⟩
  case round =>
    obtain ⟨k, hk, rfl, q, rfl⟩ := hrel
    by_cases hlt : k < n
    · obtain ⟨b, off, x, rfl, hcx, hx⟩ := h1.out k hlt
      obtain ⟨b', off', x', rfl, hcx', hx'⟩ := h2.out k hlt
      have hq := fun n' => qInts_drew x x' _ (w.drewN n') (hx.below (below_drewN (Below.refl _ _) n')) (hx'.below (below_drewN (Below.refl _ _) n')) (hc'.out k hlt)
      have hq' := Lib.hid hq
      clear hq hx hx'
      go_wp2_with fail
      go_quiet (first | (refine (hq'.out _).mono ?_; rintro _ _ ⟨h5, m, h6⟩; exact ⟨h5, _, by rw [h6, World.drewN_drewN, Nat.add_assoc]⟩))
      go_wp2
      go_roundw
      case rel => exact ⟨k + 1, by omega, by go_num, _, rfl⟩
      case measure => simp [intOf]; omega
    · go_wp2
      go_ret
      exact ⟨rfl, below_drewN (Below.refl _ _) _⟩

end Go.Proofs.YtfhhofecfllbfaaGreat

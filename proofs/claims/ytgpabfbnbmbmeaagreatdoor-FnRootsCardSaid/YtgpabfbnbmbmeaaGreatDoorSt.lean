/- What a law's walk carries along: slices of ints that read as lists, in a world that has kept all that was there; comparison of equal lists. No conditions but small sizes. -/
import Derived.Test.YtgpabfbnbmbmeaaGreatDoorCur
namespace Go.Proofs.YtgpabfbnbmbmeaaGreatDoor
open Go.RowKit

/-- The world w has kept all of w0, and the listed slices read as listed. -/
structure St (w0 w : World) (L : List (Value × List Int)) : Prop where
  below : Below w0.heap.size w0 w
  all : ∀ p, p ∈ L → IntsV w p.1 p.2
theorem St.start (w : World) : St w w [] := ⟨Below.refl _ _, fun _ h => by cases h⟩
theorem St.next {w0 w w' : World} {L : List (Value × List Int)} (h : St w0 w L) (hB : Below w.heap.size w w') : St w0 w' L :=
  ⟨h.below.trans (hB.mono h.below.size), fun p hp => (h.all p hp).below hB⟩
theorem St.push {w0 w w' : World} {L : List (Value × List Int)} {v : Value} {xs : List Int} (h : St w0 w L) (hB : Below w.heap.size w w') (hv : IntsV w' v xs) : St w0 w' ((v, xs) :: L) :=
  ⟨h.below.trans (hB.mono h.below.size), fun p hp => by
    rcases List.mem_cons.1 hp with rfl | hp
    · exact hv
    · exact (h.all p hp).below hB⟩
theorem St.get {w0 w : World} {L : List (Value × List Int)} {v : Value} {xs : List Int} (h : St w0 w L) (hm : (v, xs) ∈ L) : IntsV w v xs := h.all _ hm

/-- Two slices that read alike: true. -/
theorem qInts_same (v u : Value) (xs : List Int) (w : World) (hv : IntsV w v xs) (hu : IntsV w u xs) (hm : xs.length ≤ 1099511627776) :
    Calls Tryz.prog 19 #[v, u] w (Ret (.bool true) w) := by
  obtain ⟨ao, cap, rfl, _, _, H⟩ := hv
  obtain ⟨bo, bcap, rfl, _, _, H'⟩ := hu
  obtain ⟨n, hn⟩ : ∃ n, xs.length = n := ⟨_, rfl⟩
  rw [hn] at hm H H' ⊢
  go_enter Tryz.func19, Tryz.ntmps19
  go_wp2
  go_loopw [13] (fun i wr => ∃ k : Nat, k ≤ n ∧ i = .int .i64 k ∧ ∃ q, wr = w.drewN q) (fun i _ => n - (intOf i).toNat)
  case atStart => exact ⟨0, Nat.zero_le _, rfl, 0, rfl⟩
  case round =>
    obtain ⟨k, hk, rfl, q, rfl⟩ := hrel
    by_cases hlt : k < n
    · obtain ⟨b, off, rfl, hc⟩ := H k hlt
      obtain ⟨b', off', rfl, hc'⟩ := H' k hlt
      clear H H'
      go_wp2_with fail
      go_quiet (fail)
      go_wp2
      go_roundw
      case rel => exact ⟨k + 1, by omega, by go_num, _, rfl⟩
      case measure => simp [intOf]; omega
    · clear H H'
      go_wp2
      go_ret
      exact ⟨rfl, below_drewN (Below.refl _ _) _⟩
theorem qInts_drew (v u : Value) (xs : List Int) (w : World) (hv : IntsV w v xs) (hu : IntsV w u xs) (hm : xs.length ≤ 1099511627776) :
    Calls Tryz.prog 19 #[v, u] w (fun e w' => e = .returned (.bool true) ∧ ∃ q, w' = w.drewN q) := by
  obtain ⟨ao, cap, rfl, _, _, H⟩ := hv
  obtain ⟨bo, bcap, rfl, _, _, H'⟩ := hu
  obtain ⟨n, hn⟩ : ∃ n, xs.length = n := ⟨_, rfl⟩
  rw [hn] at hm H H' ⊢
  go_enter Tryz.func19, Tryz.ntmps19
  go_wp2
  go_loopw [13] (fun i wr => ∃ k : Nat, k ≤ n ∧ i = .int .i64 k ∧ ∃ q, wr = w.drewN q) (fun i _ => n - (intOf i).toNat)
  case atStart => exact ⟨0, Nat.zero_le _, rfl, 0, rfl⟩
  case round =>
    obtain ⟨k, hk, rfl, q, rfl⟩ := hrel
    by_cases hlt : k < n
    · obtain ⟨b, off, rfl, hc⟩ := H k hlt
      obtain ⟨b', off', rfl, hc'⟩ := H' k hlt
      clear H H'
      go_wp2_with fail
      go_quiet (fail)
      go_wp2
      go_roundw
      case rel => exact ⟨k + 1, by omega, by go_num, _, rfl⟩
      case measure => simp [intOf]; omega
    · clear H H'
      go_wp2
      go_ret
      exact ⟨rfl, _, rfl⟩

end Go.Proofs.YtgpabfbnbmbmeaaGreatDoor

/- What a law's walk carries along, for tables: they read as listed, in a world that has kept all that was there; comparison of equal tables. No conditions but small sizes. -/
import Derived.Test.YtblippeklbhepaaSt
import Derived.Test.YtblippeklbhepaaMat
namespace Go.Proofs.Ytblippeklbhepaa
open Go.RowKit

/-- The world w has kept all of w0, and the listed tables read as listed. -/
structure StTb (w0 w : World) (L : List (Value × List (List Int))) : Prop where
  below : Below w0.heap.size w0 w
  all : ∀ p, p ∈ L → RowsV w p.1 p.2
theorem StTb.start (w : World) : StTb w w [] := ⟨Below.refl _ _, fun _ h => by cases h⟩
theorem StTb.next {w0 w w' : World} {L : List (Value × List (List Int))} (h : StTb w0 w L) (hB : Below w.heap.size w w') : StTb w0 w' L :=
  ⟨h.below.trans (hB.mono h.below.size), fun p hp => (h.all p hp).below hB⟩
theorem StTb.push {w0 w w' : World} {L : List (Value × List (List Int))} {v : Value} {xs : List (List Int)} (h : StTb w0 w L) (hB : Below w.heap.size w w') (hv : RowsV w' v xs) : StTb w0 w' ((v, xs) :: L) :=
  ⟨h.below.trans (hB.mono h.below.size), fun p hp => by
    rcases List.mem_cons.1 hp with rfl | hp
    · exact hv
    · exact (h.all p hp).below hB⟩
theorem StTb.get {w0 w : World} {L : List (Value × List (List Int))} {v : Value} {xs : List (List Int)} (h : StTb w0 w L) (hm : (v, xs) ∈ L) : RowsV w v xs := h.all _ hm
theorem StTb.drop {w0 w : World} {L : List (Value × List (List Int))} {p : Value × List (List Int)} (h : StTb w0 w (p :: L)) : StTb w0 w L := ⟨h.below, fun q hq => h.all q (.tail _ hq)⟩

theorem qLists_same (v u : Value) (xss : List (List Int)) (w : World) (hv : RowsV w v xss) (hu : RowsV w u xss) (hm : szIntSS xss ≤ 1099511627776) :
    Calls Try.prog 19 #[v, u] w (Ret (.bool true) w) := by
  have hc : ∀ i, i < xss.length → (row xss i).length ≤ 1099511627776 := fun i hi => by
    have := row_len_le hi; unfold szIntSS at hm; unfold cntIntSS at this; omega
  have hl : xss.length ≤ 1099511627776 := by unfold szIntSS at hm; omega
  clear hm
  obtain ⟨ao, cap, rfl, _, _, H⟩ := hv
  obtain ⟨bo, bcap, rfl, _, _, H'⟩ := hu
  obtain ⟨n, hn⟩ : ∃ n, xss.length = n := ⟨_, rfl⟩
  rw [hn] at hl hc H H' ⊢
  have hc' := Lib.hid hc
  have h1 := Lib.hid H
  have h2 := Lib.hid H'
  clear hc H H' hn
  go_enter Try.func19, Try.ntmps19
  go_wp2
  go_loopw [13] (fun i wr => ∃ k : Nat, k ≤ n ∧ i = .int .i64 k ∧ ∃ q, wr = w.drewN q) (fun i _ => n - (intOf i).toNat)
  case atStart => exact ⟨0, Nat.zero_le _, rfl, 0, rfl⟩
  case round =>
    obtain ⟨k, hk, rfl, q, rfl⟩ := hrel
    by_cases hlt : k < n
    · obtain ⟨b, off, x, rfl, hcx, hx⟩ := h1.out k hlt
      obtain ⟨b', off', x', rfl, hcx', hx'⟩ := h2.out k hlt
      have hq := fun n' => qInts_drew x x' _ (w.drewN n') (hx.below (below_drewN (Below.refl _ _) n')) (hx'.below (below_drewN (Below.refl _ _) n')) (hc'.out k hlt)
      have hq' := Lib.hid hq
      clear hq hx hx'
      go_wp2_with fail
      go_quiet (first | (refine (hq'.out _).mono ?_; rintro _ _ ⟨h5, m, h6⟩; exact ⟨h5, _, by rw [h6, World.drewN_drewN, Nat.add_assoc]⟩))
      go_wp2
      go_roundw
      case rel => exact ⟨k + 1, by omega, by go_num, _, rfl⟩
      case measure => simp [intOf]; omega
    · go_wp2
      go_ret
      exact ⟨rfl, below_drewN (Below.refl _ _) _⟩

end Go.Proofs.Ytblippeklbhepaa

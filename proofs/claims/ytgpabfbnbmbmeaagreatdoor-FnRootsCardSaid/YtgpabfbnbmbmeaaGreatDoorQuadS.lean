/- The laws' own helpers on points and intervals. No conditions but lengths far beyond any machine. -/
import Derived.Test.YtgpabfbnbmbmeaaGreatDoorQuad
import Derived.Test.YtgpabfbnbmbmeaaGreatDoorRatS
import Derived.Test.YtgpabfbnbmbmeaaGreatDoorPkC
import Derived.Deep.RegionHeld3
namespace Go.Proofs.YtgpabfbnbmbmeaaGreatDoor
open Go.RowKit
set_option maxRecDepth 100000

def I64I (q : Quad) : Prop := I64R q.1 ∧ I64R q.2
theorem step_fill4 (xs : List Quad) (n k : Nat) (hk : k < n) (hn : xs.length = n) :
    ((((fl4 (xs.take k) ++ List.replicate ((n - k) * 4) 0).set (k * 4) (nth4 xs k).1.1).set (k * 4 + 1) (nth4 xs k).1.2).set (k * 4 + 2) (nth4 xs k).2.1).set (k * 4 + 3) (nth4 xs k).2.2 = fl4 (xs.take (k + 1)) ++ List.replicate ((n - (k + 1)) * 4) 0 := by
  have h1 : (n - k) * 4 = (n - (k + 1)) * 4 + 1 + 1 + 1 + 1 := by omega
  have e2 : (fl4 (xs.take k)).length = k * 4 := by rw [fl4_len, List.length_take]; omega
  rw [h1, List.replicate_succ, List.replicate_succ, List.replicate_succ, List.replicate_succ]
  rw [List.set_append_right _ _ (by omega), e2, Nat.sub_self, List.set_cons_zero, List.set_append_right _ _ (by omega), e2, show k * 4 + 1 - k * 4 = 1 by omega, List.set_cons_succ, List.set_cons_zero,
    List.set_append_right _ _ (by omega), e2, show k * 4 + 2 - k * 4 = 2 by omega, List.set_cons_succ, List.set_cons_succ, List.set_cons_zero,
    List.set_append_right _ _ (by omega), e2, show k * 4 + 3 - k * 4 = 3 by omega, List.set_cons_succ, List.set_cons_succ, List.set_cons_succ, List.set_cons_zero,
    take_nth4 (by omega), fl4_append, fl4_one, List.append_assoc]; rfl

theorem gfrozen' {w w' : World} (hB : Below w.heap.size w w') {a : Addr} {v : Value} (hc : w.cell? a = some v) (hf : w.frozen? a = false) : w'.frozen? a = false :=
  ((bgrow hB none).frozen_far a (World.block_lt_of_cell? _ _ hc) (by simp)).trans hf


end Go.Proofs.YtgpabfbnbmbmeaaGreatDoor

/- From a law's walk to its row, for arguments that are bytes which a draw reads. No conditions. -/
import Derived.Test.YtfhhofecfllbfaaGreatPkA
import Derived.Test.YtfhhofecfllbfaaGreatPkP
import Derived.OpenShut
import Derived.SizedLaws
namespace Go.Proofs.YtfhhofecfllbfaaGreat
open Go.ChangeShapes Go.WideShapes Go.ChangeAt Go.RowKit
theorem Tryz.cellsByte : Tryz.prog.cellsOf 5 = 1 := by kernel_rfl
def CodeX (w : World) (v : Value) : Prop := ∃ ao n cap, v = .slice ao n cap ∧ n ≤ 140737488355328 ∧ (n ≤ 1048576 → CodeV w v n)
theorem Tryz.bytesByte : Tryz.prog.bytesOf 5 = 1 := by kernel_rfl
set_option maxRecDepth 100000 in
theorem open_codeX {H : Type} {enc : TypeId × Value → H} {W : World} {base : Nat} {v : Value} {d : DataW H} {p : List MemPlace}
  (hval : Value.okWide Tryz.prog W .any base 40 v) (h : DataW.Trod enc Tryz.prog W 0 (fun _ => true) true 40 v d p)
  (hs : ∀ elems spare, d = .slice elems spare → (elems.length + spare.length) * Tryz.prog.bytesOf 5 ≤ reachBytes) : CodeX W v := by
 obtain ⟨a0, len, cap, rfl⟩ := okWide_slice Tryz.underlying40 hval
 obtain ⟨fuel, hf⟩ := h
 rcases open_ints Tryz.underlying40 Tryz.underlying5 Tryz.cellsByte hf with ⟨hcs, hx⟩ | ⟨a, len', cap', zs, hcs, _, hl, hm, hz, hx, hcell, hwz⟩
 ·simp [Value.cells] at hcs
  obtain ⟨rfl, rfl, rfl⟩ := hcs
  exact ⟨none, 0, 0, rfl, Nat.zero_le _, fun hn => ⟨none, 0, rfl, hn, fun i hi => absurd hi (Nat.not_lt_zero i)⟩⟩
 ·simp [Value.cells] at hcs
  obtain ⟨rfl, rfl, rfl⟩ := hcs
  simp only [if_true] at hz
  have hr : len ≤ 140737488355328 := by
   simp only [Prod.mk.injEq] at hx
   have := hs _ _ hx.1
   rw [Tryz.bytesByte] at this
   simp [lits] at this
   have h2 := reachBytes_lt
   omega
  refine ⟨_, _, _, rfl, hr, fun hn => ⟨_, _, rfl, hn, fun i hi => ?_⟩⟩
  obtain ⟨b, off, spot⟩ := a
  have hc := hcell i (by omega)
  have hspot : spot = none := by
   have := hcell 0 (by omega)
   simpa [Addr.add] using World.cell?_spot this
  subst hspot
  rw [add_plain] at hc
  have hb := range_u8 hwz i
  rw [List.getD_eq_getElem?_getD] at hc
  exact ⟨b, off, _, rfl, World.block_lt_of_cell? W _ hc, hc, hb.1, hb.2⟩
end Go.Proofs.YtfhhofecfllbfaaGreat

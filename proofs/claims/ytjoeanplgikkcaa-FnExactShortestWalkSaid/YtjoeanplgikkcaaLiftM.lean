/- A slice of slices of ints that came in, as YtjoeanplgikkcaaLift has it for a slice of ints. -/
import Derived.Test.YtjoeanplgikkcaaLift
import Derived.Test.YtjoeanplgikkcaaMat
import Derived.Deep.Matrix
namespace Go.Proofs.Ytjoeanplgikkcaa
open Go.ChangeShapes Go.WideShapes Go.ChangeAt Go.RowKit

theorem Try.cellsInts : Try.prog.cellsOf 29 = 1 := by kernel_rfl

set_option maxRecDepth 100000 in
theorem open_rowsV {H : Type} {enc : TypeId × Value → H} {W : World} {base : Nat} {v : Value} {d : DataW H} {p : List MemPlace}
    (hval : Value.okWide Try.prog W .any base 22 v) (h : DataW.Trod enc Try.prog W 0 (fun _ => true) true 22 v d p) : ∃ xss, RowsV W v xss := by
  obtain ⟨a0, len, cap, rfl⟩ := okWide_slice Try.underlying22 hval
  obtain ⟨fuel, hf⟩ := h
  rcases Go.Deep.open_int_rows Try.underlying22 Try.underlying29 Try.underlying3 Try.cellsInts Try.cellsInt hf with ⟨hcs, hx⟩ | ⟨a, len', cap', A, L, C, Z, hcs, _, hl, hm, hx, hrows⟩
  · simp [Value.cells] at hcs
    obtain ⟨rfl, rfl, rfl⟩ := hcs
    exact ⟨[], none, 0, rfl, ⟨Nat.le_refl _, fun _ => rfl⟩, by simp [maxLen], fun i hi => absurd hi (Nat.not_lt_zero i)⟩
  · simp [Value.cells] at hcs
    obtain ⟨rfl, rfl, rfl⟩ := hcs
    refine ⟨(List.range len).map fun r => (Z r).take (L r), some a, cap, by simp, ⟨by simpa using hl, fun e => by cases e⟩, hm, fun i hi => ?_⟩
    have hi' : i < len := by simpa using hi
    obtain ⟨hc, hL, hC, hZ, _, hA, hcells⟩ := hrows i (by omega)
    obtain ⟨b, off, spot⟩ := a
    have hspot : spot = none := by
      obtain ⟨hc0, _⟩ := hrows 0 (by omega)
      simpa [Addr.add] using World.cell?_spot hc0
    subst hspot
    rw [add_plain] at hc
    refine ⟨b, off, .slice (A i) (L i) (C i), rfl, hc, ?_⟩
    have e : row ((List.range len).map fun r => (Z r).take (L r)) i = (Z i).take (L i) := by simp [row, hi']
    rw [e]
    have hlen : ((Z i).take (L i)).length = L i := by simp; omega
    refine ⟨A i, C i, by rw [hlen], ⟨by omega, hA⟩, hC, fun j hj => ?_⟩
    have hj' : j < L i := by omega
    rcases hAi : A i with _ | ⟨b', off', sp'⟩
    · have := hA hAi; omega
    · have hq := (hcells _ hAi).2 j (by omega)
      have hsp : sp' = none := by simpa [Addr.add] using World.cell?_spot ((hcells _ hAi).2 0 (by omega))
      subst hsp
      rw [add_plain] at hq
      refine ⟨b', off', rfl, ?_⟩
      rw [hq, nth_eq hj]
      have : j < (Z i).length := by omega
      simp [List.getD, List.getElem?_eq_getElem this]

end Go.Proofs.Ytjoeanplgikkcaa

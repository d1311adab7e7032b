/- Slices of fractions that came in. -/
import Derived.Test.YtnggopbehohjnaaLiftR
import Derived.Test.YtnggopbehohjnaaFlat
namespace Go.Proofs.Ytnggopbehohjnaa
open Go.ChangeShapes Go.WideShapes Go.ChangeAt Go.RowKit

theorem Try.cellsLRat : Try.prog.cellsOf 36 = 2 := by kernel_rfl
set_option maxRecDepth 100000 in
/-- A slice of fractions that came in. -/
theorem open_ratsV {H : Type} {enc : TypeId × Value → H} {W : World} {base : Nat} {v : Value} {d : DataW H} {p : List MemPlace}
    (hval : Value.okWide Try.prog W .any base 22 v) (h : DataW.Trod enc Try.prog W 0 (fun _ => true) true 22 v d p) : ∃ xs, RatsV W v xs := by
  obtain ⟨a0, len, cap, rfl⟩ := okWide_slice Try.underlying22 hval
  obtain ⟨fuel, hf⟩ := h
  rcases Go.Deep.open_slice_pairs Try.underlying22 Try.underlying36 Try.cellsLRat rfl rfl Try.cellsInt Try.cellsInt hf with ⟨hcs, hx⟩ | ⟨a, len', cap', m, n, V0, V1, D0, D1, P0, P1, hcs, _, hl, hm, hmm, hx, hcell⟩
  · simp [Value.cells] at hcs
    obtain ⟨rfl, rfl, rfl⟩ := hcs
    exact ⟨[], RatsV.mk (xs := []) ⟨Nat.le_refl _, fun _ => rfl⟩ (by simp [maxLen]) (fun i hi => absurd hi (Nat.not_lt_zero i))⟩
  · simp [Value.cells] at hcs
    obtain ⟨rfl, rfl, rfl⟩ := hcs
    simp only [if_true] at hmm
    subst hmm
    have each : ∀ i, i < len → ∃ r : Int × Int, V0 i = .int .i64 r.1 ∧ V1 i = .int .i64 r.2 := by
      intro i hi
      obtain ⟨_, _, h0, h1⟩ := hcell i (by omega)
      obtain ⟨x, e0, _⟩ := int_of_trod h0
      obtain ⟨y, e1, _⟩ := int_of_trod h1
      exact ⟨(x, y), e0, e1⟩
    obtain ⟨f, hf'⟩ : ∃ f : Nat → Int × Int, ∀ i, i < len → V0 i = .int .i64 (f i).1 ∧ V1 i = .int .i64 (f i).2 := by
      refine ⟨fun i => if h : i < len then (each i h).choose else (0, 0), fun i hi => ?_⟩
      simp only [dif_pos hi]
      exact (each i hi).choose_spec
    have hlen : ((List.range len).map f).length = len := by simp
    refine ⟨(List.range len).map f, ?_⟩
    have key : ∀ n c, n = ((List.range len).map f).length → RatsV W (.slice (some a) ((List.range len).map f).length c) ((List.range len).map f) → RatsV W (.slice (some a) n c) ((List.range len).map f) := fun n c e h => by rw [e]; exact h
    refine key _ _ hlen.symm ?_
    refine RatsV.mk ⟨by omega, fun e => by cases e⟩ hm (fun i hi => ?_)
    rw [hlen] at hi
    obtain ⟨c0, c1, _, _⟩ := hcell i (by omega)
    obtain ⟨e0, e1⟩ := hf' i hi
    obtain ⟨b, off, spot⟩ := a
    have hspot : spot = none := by
      obtain ⟨c00, _⟩ := hcell 0 (by omega)
      simpa [Addr.add] using World.cell?_spot c00
    subst hspot
    have hn : nthR ((List.range len).map f) i = f i := by rw [nthR_eq (by rw [hlen]; exact hi)]; simp
    rw [add_plain, e0] at c0
    rw [add_plain, e1, ← Nat.add_assoc] at c1
    exact ⟨b, off, rfl, by rw [hn]; exact c0, by rw [hn]; exact c1⟩

end Go.Proofs.Ytnggopbehohjnaa

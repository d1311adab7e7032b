/- The graph of the coverings of intervals: the reference's; both for all arguments. No conditions. -/
import Derived.Test.YtfcanpebagpdbaaGreatCovGraph
namespace Go.Proofs.YtfcanpebagpdbaaGreat
open Go.RowKit

theorem CoverGraph_yes {f l : List Quad} (h : mapB f = true ∧ ivsB l = true) : CoverGraph_v f l = cg_v f l := by unfold CoverGraph_v; rw [if_pos h]
theorem CoverGraph_no {f l : List Quad} (h : ¬ (mapB f = true ∧ ivsB l = true)) : CoverGraph_v f l = ([], false) := by unfold CoverGraph_v; rw [if_neg h]
theorem implCoverGraph_any (v : Value) (f : List Quad) (u : Value) (l : List Quad) (w : World) (hv : QuadV w v f) (hm : szPointS f ≤ 1099511627776) (hu : QuadV w u l) (hn : szIntervalS l ≤ 1099511627776) :
    Calls Tryz.prog 25 #[v, u] w (RetOB OwnSS (CoverGraph_v f l) w) := by
  have c1 := fun w' (hB : Below w.heap.size w w') => isMap_any v f w' (hv.below hB) hm
  have c2 := fun w' (hB : Below w.heap.size w w') => areIntervals_any u l w' (hu.below hB) hn
  by_cases h : mapB f = true ∧ ivsB l = true
  · rw [CoverGraph_yes h]
    rw [h.1] at c1
    rw [h.2] at c2
    exact coverGraph_in v u f l w hv hu (mapB_true h.1) h.2 c1 c2
  · rw [CoverGraph_no h]
    generalize mapB f = M at *
    generalize ivsB l = I at *
    clear hv hu
    have c1' := Lib.hid c1
    have c2' := Lib.hid c2
    have h' := Lib.hid h
    clear c1 c2 h
    cases M
    · go_enter Tryz.func25, Tryz.ntmps25
      go_wp2_with fail
      refine (c1'.out _ (Below.refl _ _)).mono ?_
      rintro e w1 ⟨rfl, hB1⟩
      go_wp2
      go_ret2
      exact ⟨_, rfl, OwnSS.nil _ _ _, hB1⟩
    · cases I
      · go_enter Tryz.func25, Tryz.ntmps25
        go_wp2_with fail
        refine (c1'.out _ (Below.refl _ _)).mono ?_
        rintro e w1 ⟨rfl, hB1⟩
        have hs1 := hB1.size
        go_wp2_with fail
        refine (c2'.out _ hB1).mono ?_
        rintro e w2 ⟨rfl, hB2⟩
        have hb2 := hB1.trans (hB2.mono hs1)
        go_wp2
        go_ret2
        exact ⟨_, rfl, OwnSS.nil _ _ _, hb2⟩
      · exact absurd ⟨rfl, rfl⟩ h'.out

end Go.Proofs.YtfcanpebagpdbaaGreat

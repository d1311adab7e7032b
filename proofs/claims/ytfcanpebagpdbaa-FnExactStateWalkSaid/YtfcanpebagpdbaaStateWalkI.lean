/- The program's StateWalk, whole. No conditions. -/
import Derived.Test.YtfcanpebagpdbaaStWalk
import Derived.Test.YtfcanpebagpdbaaQuadS
namespace Go.Proofs.Ytfcanpebagpdbaa
open Go.RowKit

set_option maxHeartbeats 1600000 in
theorem implStateWalk_any (v : Value) (f : List Quad) (u : Value) (xs : List (Int × Int)) (x : Int × Int) (n : Int) (w : World) (hv : QuadV w v f) (hm : szPointS f ≤ 1099511627776) (hu : RatsV w u xs) (hn : szRatS xs ≤ 1099511627776) (_hi : I64R x) (_hj : I64 n) :
    Calls Try.prog 28 #[v, u, .agg #[.int .i64 x.1, .int .i64 x.2], .int .i64 n] w (RetOB Own (StateWalk_v f xs x n) w) := by
  have c1 := fun w' (hB : Below w.heap.size w w') => isMap_any v f w' (hv.below hB) hm
  have c2 := fun w' (hB : Below w.heap.size w w') => isPartition_any u xs w' (hu.below hB) hn
  have c3 := fun w' => isUnit_any x.1 x.2 w'
  have c4 := fun w' => within_any n 0 40 w'
  by_cases hall : mapB f = true ∧ partB xs = true ∧ unitR x.1 x.2 = true ∧ inB n 0 40 = true
  · obtain ⟨k, rfl⟩ : ∃ k : Nat, n = k := ⟨n.toNat, by have := inB_true.1 hall.2.2.2; omega⟩
    have hk := inB_true.1 hall.2.2.2
    have e : StateWalk_v f xs x k = sw_v f xs x k := by unfold StateWalk_v; rw [if_pos hall, Int.toNat_natCast]
    rw [e]
    obtain ⟨h1, h2, h3, h4⟩ := hall
    rw [h1] at c1
    rw [h2] at c2
    rw [h3] at c3
    rw [h4] at c4
    exact stWalk_in v u f xs x k w hv hu (mapB_true h1) h2 h3 (by omega) c1 c2 c3 c4
  · have e : StateWalk_v f xs x n = ([], false) := by unfold StateWalk_v; rw [if_neg hall]
    rw [e]
    generalize mapB f = M at *
    generalize partB xs = P at *
    generalize unitR x.1 x.2 = U at *
    generalize inB n 0 40 = I at *
    clear hv hu e
    obtain ⟨x0, x1⟩ := x
    simp only at c3
    obtain ⟨w0, hw0⟩ : ∃ W, w.alloc (.cells #[.int .i64 x0, .int .i64 x1] 34) = W := ⟨_, rfl⟩
    have hB0 : Below w.heap.size w w0 := by rw [← hw0]; exact (Below.refl _ _).alloc (Nat.le_refl _) _
    have e0 : w0.cell? ⟨w.heap.size, 0, none⟩ = some (.int .i64 x0) := by rw [← hw0]; simp [go_sem]
    have e1 : w0.cell? ⟨w.heap.size, 1, none⟩ = some (.int .i64 x1) := by rw [← hw0]; simp [go_sem]
    have c1' := Lib.hid c1
    have c2' := Lib.hid c2
    have c3' := Lib.hid c3
    have c4' := Lib.hid c4
    have hw0' := Lib.hid hw0
    have hall' := Lib.hid hall
    clear c1 c2 c3 c4 hw0 hall
    show Calls _ _ #[_, _, .agg #[.int .i64 x0, .int .i64 x1], _] w _
    cases M
    · go_enter Try.func28, Try.ntmps28
      go_wp2_with fail
      rw [hw0'.out]
      go_wp2_with fail
      refine (c1'.out _ hB0).mono ?_
      rintro e w1 ⟨rfl, hB1⟩
      have hb1 := hB0.trans (hB1.mono hB0.size)
      go_wp2
      go_ret2
      exact ⟨_, rfl, Own.nil _ _ _, hb1⟩
    · cases P
      · go_enter Try.func28, Try.ntmps28
        go_wp2_with fail
        rw [hw0'.out]
        go_wp2_with fail
        refine (c1'.out _ hB0).mono ?_
        rintro e w1 ⟨rfl, hB1⟩
        have hb1 := hB0.trans (hB1.mono hB0.size)
        go_wp2_with fail
        refine (c2'.out _ hb1).mono ?_
        rintro e w2 ⟨rfl, hB2⟩
        have hb2 := hb1.trans (hB2.mono hb1.size)
        go_wp2
        go_ret2
        exact ⟨_, rfl, Own.nil _ _ _, hb2⟩
      · cases U
        · go_enter Try.func28, Try.ntmps28
          go_wp2_with fail
          rw [hw0'.out]
          go_wp2_with fail
          refine (c1'.out _ hB0).mono ?_
          rintro e w1 ⟨rfl, hB1⟩
          have hb1 := hB0.trans (hB1.mono hB0.size)
          replace e0 := bkeep hB1 e0
          replace e1 := bkeep hB1 e1
          go_wp2_with fail
          refine (c2'.out _ hb1).mono ?_
          rintro e w2 ⟨rfl, hB2⟩
          have hb2 := hb1.trans (hB2.mono hb1.size)
          replace e0 := bkeep hB2 e0
          replace e1 := bkeep hB2 e1
          go_wp2_with fail
          refine (c3'.out _).mono ?_
          rintro e w3 ⟨rfl, hB3⟩
          have hb3 := hb2.trans (hB3.mono hb2.size)
          go_wp2
          go_ret2
          exact ⟨_, rfl, Own.nil _ _ _, hb3⟩
        · cases I
          · go_enter Try.func28, Try.ntmps28
            go_wp2_with fail
            rw [hw0'.out]
            go_wp2_with fail
            refine (c1'.out _ hB0).mono ?_
            rintro e w1 ⟨rfl, hB1⟩
            have hb1 := hB0.trans (hB1.mono hB0.size)
            replace e0 := bkeep hB1 e0
            replace e1 := bkeep hB1 e1
            go_wp2_with fail
            refine (c2'.out _ hb1).mono ?_
            rintro e w2 ⟨rfl, hB2⟩
            have hb2 := hb1.trans (hB2.mono hb1.size)
            replace e0 := bkeep hB2 e0
            replace e1 := bkeep hB2 e1
            go_wp2_with fail
            refine (c3'.out _).mono ?_
            rintro e w3 ⟨rfl, hB3⟩
            have hb3 := hb2.trans (hB3.mono hb2.size)
            go_wp2_with fail
            refine (c4'.out _).mono ?_
            rintro e w4 ⟨rfl, rfl⟩
            go_wp2
            go_ret2
            exact ⟨_, rfl, Own.nil _ _ _, hb3⟩
          · exact absurd ⟨rfl, rfl, rfl, rfl⟩ hall'.out

end Go.Proofs.Ytfcanpebagpdbaa

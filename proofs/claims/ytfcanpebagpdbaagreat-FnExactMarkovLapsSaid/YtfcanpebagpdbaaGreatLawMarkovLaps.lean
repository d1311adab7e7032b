/- FnExactMarkovLaps: for every input the law returns true, and the arguments read as before. No conditions. -/
import Derived.Test.YtfcanpebagpdbaaGreatMkLaps
import Derived.Test.YtfcanpebagpdbaaGreatPkH
import Derived.Test.YtfcanpebagpdbaaGreatPkB
import Derived.Test.YtfcanpebagpdbaaGreatPkC
import Derived.Test.YtfcanpebagpdbaaGreatPkA
namespace Go.Proofs.YtfcanpebagpdbaaGreat
open Go.RowKit

set_option maxHeartbeats 400000 in
theorem lawMarkovLaps_over0 (a0 : Value) (x0 : List ((Int × Int) × (Int × Int))) (a1 : Value) (x2 : Int) (w : World) (hv0 : Hid (QuadV w a0 x0)) (hl0 : ¬ szPointS x0 ≤ 1048576) :
    Calls Tryz.prog 4 #[a0, a1, .int .i64 x2] w (Ret (.bool true) w) := by
  go_enter Tryz.func4, Tryz.ntmps4
  go_wp2_with fail
  refine (szPointS_over a0 x0 (1048576) _ hv0.out (by omega) (by omega)).mono ?_
  rintro e w_ ⟨rfl, rfl⟩
  go_wp2
  go_ret
  exact ⟨rfl, Below.refl _ _⟩

set_option maxHeartbeats 400000 in
theorem lawMarkovLaps_over1 (a0 : Value) (x0 : List ((Int × Int) × (Int × Int))) (a1 : Value) (x1 : List (Int × Int)) (x2 : Int) (w : World) (hv0 : Hid (QuadV w a0 x0)) (hv1 : Hid (RatsV w a1 x1)) (hl0 : szPointS x0 ≤ 1048576) (hl1 : ¬ szPointS x0 + szRatS x1 ≤ 1048576) :
    Calls Tryz.prog 4 #[a0, a1, .int .i64 x2] w (Ret (.bool true) w) := by
  go_enter Tryz.func4, Tryz.ntmps4
  go_wp2_with fail
  refine (szPointS_fits a0 x0 (1048576) _ hv0.out (by omega) (by omega)).mono ?_
  rintro e w_ ⟨rfl, rfl⟩
  go_wp2_with fail
  refine (szRatS_over a1 x1 (1048576 - ((szPointS x0 : Nat) : Int)) _ hv1.out (by omega) (by omega)).mono ?_
  rintro e w_ ⟨rfl, rfl⟩
  go_wp2
  go_ret
  exact ⟨rfl, Below.refl _ _⟩

set_option maxHeartbeats 1600000 in
theorem lawMarkovLaps_main (a0 : Value) (x0 : List ((Int × Int) × (Int × Int))) (a1 : Value) (x1 : List (Int × Int)) (x2 : Int) (w : World) (hv0 : Hid (QuadV w a0 x0)) (hv1 : Hid (RatsV w a1 x1)) (hi2 : I64 x2) (hl0 : szPointS x0 ≤ 1048576) (hl1 : szPointS x0 + szRatS x1 ≤ 1048576) :
    Calls Tryz.prog 4 #[a0, a1, .int .i64 x2] w (Ret (.bool true) w) := by
  have hm0 : szPointS x0 ≤ 1099511627776 := by omega
  have hk0 := cntPointS_le x0
  have hm1 : szRatS x1 ≤ 1099511627776 := by omega
  have hk1 := cntRatS_le x1
  obtain ⟨r, hr⟩ : ∃ r, MarkovLaps_v x0 x1 x2 = r := ⟨_, rfl⟩
  have hr := Lib.hid hr
  go_enter Tryz.func4, Tryz.ntmps4
  go_wp2_with fail
  refine (szPointS_fits a0 x0 (1048576) _ hv0.out (by omega) (by omega)).mono ?_
  rintro e w_ ⟨rfl, rfl⟩
  go_wp2_with fail
  refine (szRatS_fits a1 x1 (1048576 - ((szPointS x0 : Nat) : Int)) _ hv1.out (by omega) (by omega)).mono ?_
  rintro e w_ ⟨rfl, rfl⟩
  go_wp2_with fail
  have hb0 := Below.refl w.heap.size w
  refine (toPointS_any _ x0 _ (hv0.out.below hb0) hm0).mono ?_
  rintro e w1 ⟨c1, rfl, hc1, hB1⟩
  have hs1 := hB1.size
  have hb1 := hb0.trans (hB1.mono hb0.size)
  clear hb0
  clear hB1
  go_wp2_with fail
  refine (toRatS_any _ x1 _ (hv1.out.below hb1) hm1).mono ?_
  rintro e w2 ⟨c2, rfl, hc2, hB2⟩
  have hs2 := hB2.size
  have hb2 := hb1.trans (hB2.mono hb1.size)
  clear hb1
  replace hc1 := hc1.below hB2 (by omega)
  clear hB2
  go_wp2_with fail
  refine (specMarkovLaps_any c1 x0 c2 x1 x2 _ hc1.read hm0 hc2.read hm1 hi2).mono ?_
  rw [hr.out]
  rintro e w3 ⟨rfl, hB3⟩
  have hs3 := hB3.size
  have hb3 := hb2.trans (hB3.mono hb2.size)
  clear hb2
  replace hc1 := hc1.below hB3 (by omega)
  replace hc2 := hc2.below hB3 (by omega)
  clear hB3
  go_wp2_with fail
  refine (toPointS_any _ x0 _ (hv0.out.below hb3) hm0).mono ?_
  rintro e w4 ⟨c4, rfl, hc4, hB4⟩
  have hs4 := hB4.size
  have hb4 := hb3.trans (hB4.mono hb3.size)
  clear hb3
  replace hc1 := hc1.below hB4 (by omega)
  replace hc2 := hc2.below hB4 (by omega)
  clear hB4
  go_wp2_with fail
  refine (toRatS_any _ x1 _ (hv1.out.below hb4) hm1).mono ?_
  rintro e w5 ⟨c5, rfl, hc5, hB5⟩
  have hs5 := hB5.size
  have hb5 := hb4.trans (hB5.mono hb4.size)
  clear hb4
  replace hc1 := hc1.below hB5 (by omega)
  replace hc2 := hc2.below hB5 (by omega)
  replace hc4 := hc4.below hB5 (by omega)
  clear hB5
  go_wp2_with fail
  refine (implMarkovLaps_any c4 x0 c5 x1 x2 _ hc4.read hm0 hc5.read hm1 hi2).mono ?_
  rw [hr.out]
  rintro e w6 ⟨rfl, hB6⟩
  have hs6 := hB6.size
  have hb6 := hb5.trans (hB6.mono hb5.size)
  clear hb5
  replace hc1 := hc1.below hB6 (by omega)
  replace hc2 := hc2.below hB6 (by omega)
  replace hc4 := hc4.below hB6 (by omega)
  replace hc5 := hc5.below hB6 (by omega)
  clear hB6
  go_wp2_with fail
  refine (toPointS_any _ x0 _ (hv0.out.below hb6) hm0).mono ?_
  rintro e w7 ⟨c7, rfl, hc7, hB7⟩
  have hs7 := hB7.size
  have hb7 := hb6.trans (hB7.mono hb6.size)
  clear hb6
  replace hc1 := hc1.below hB7 (by omega)
  replace hc2 := hc2.below hB7 (by omega)
  replace hc4 := hc4.below hB7 (by omega)
  replace hc5 := hc5.below hB7 (by omega)
  clear hB7
  go_wp2_with fail
  refine (eqPointS_same _ _ x0 _ hc4.read hc7.read hm0).mono ?_
  rintro e w8 ⟨rfl, hB8⟩
  clear hc7
  have hs8 := hB8.size
  have hb8 := hb7.trans (hB8.mono hb7.size)
  clear hb7
  replace hc1 := hc1.below hB8 (by omega)
  replace hc2 := hc2.below hB8 (by omega)
  replace hc4 := hc4.below hB8 (by omega)
  replace hc5 := hc5.below hB8 (by omega)
  clear hB8
  go_wp2_with fail
  refine (toRatS_any _ x1 _ (hv1.out.below hb8) hm1).mono ?_
  rintro e w9 ⟨c9, rfl, hc9, hB9⟩
  have hs9 := hB9.size
  have hb9 := hb8.trans (hB9.mono hb8.size)
  clear hb8
  replace hc1 := hc1.below hB9 (by omega)
  replace hc2 := hc2.below hB9 (by omega)
  replace hc4 := hc4.below hB9 (by omega)
  replace hc5 := hc5.below hB9 (by omega)
  clear hB9
  go_wp2_with fail
  refine (eqRatS_same _ _ x1 _ hc5.read hc9.read hm1).mono ?_
  rintro e w10 ⟨rfl, hB10⟩
  clear hc9
  have hs10 := hB10.size
  have hb10 := hb9.trans (hB10.mono hb9.size)
  clear hb9
  replace hc1 := hc1.below hB10 (by omega)
  replace hc2 := hc2.below hB10 (by omega)
  replace hc4 := hc4.below hB10 (by omega)
  replace hc5 := hc5.below hB10 (by omega)
  clear hB10
  go_wp2
  go_ret
  exact ⟨rfl, hb10⟩

theorem lawMarkovLaps_any (a0 : Value) (x0 : List ((Int × Int) × (Int × Int))) (a1 : Value) (x1 : List (Int × Int)) (x2 : Int) (w : World) (hv0 : QuadV w a0 x0) (hv1 : RatsV w a1 x1) (hi2 : I64 x2) :
    Calls Tryz.prog 4 #[a0, a1, .int .i64 x2] w (Ret (.bool true) w) := by
  by_cases hl0 : szPointS x0 ≤ 1048576
  rotate_left
  · exact lawMarkovLaps_over0 _ x0 _ x2 w (Lib.hid hv0) hl0
  by_cases hl1 : szPointS x0 + szRatS x1 ≤ 1048576
  rotate_left
  · exact lawMarkovLaps_over1 _ x0 _ x1 x2 w (Lib.hid hv0) (Lib.hid hv1) hl0 hl1
  exact lawMarkovLaps_main _ x0 _ x1 x2 w (Lib.hid hv0) (Lib.hid hv1) hi2 hl0 hl1

open Go.ChangeShapes Go.WideShapes Go.ChangeAt in
set_option maxRecDepth 100000 in
theorem lawMarkovLaps_lifted (os : Os) (started : os.Started) (H : Type) (enc : TypeId × Value → H) :
    ReturnsInHanded {} Tryz.checked os 4 .any (Rows.fnExactMarkovLapsSpec.pre6 enc Tryz.prog Tryz.f4 Rows.fnExactMarkovLapsRow.domain false) (Rows.fnExactMarkovLapsSpec.post enc Tryz.prog Tryz.f4 false true false false) := by
  refine returnsInHanded_of_change (C := Tryz.checked) Tryz.own started (by kernel_rfl) Tryz.func4
    (ChangeSpec.witness6 (enc := enc) (C := Tryz.checked) false ⟨#[], #[.slice none 0 0, .slice none 0 0, .int .i64 0], []⟩ 8 (by kernel_rfl) (by kernel_rfl) (by kernel_rfl) (by kernel_rfl)) ?_
  intro W base args ds gs before hval0 hW _ _
  have hval : ∀ (j : Nat) t v, Tryz.f4.params[j]? = some t → args[j]? = some v → Value.okWide Tryz.prog W .any base t v := hval0
  have hW' := hW
  obtain ⟨p, q, hA0, hV, rfl, _, _⟩ := hW
  have hA : DataW.TrodAll enc Tryz.prog W 0 (fun _ => true) true Tryz.f4.params.toList args.toList ds p := hA0
  have hA' := hA
  rw [Tryz.params4] at hA hval
  obtain ⟨v0, v1, v2, d0, d1, d2, p0, p1, p2, rfl, rfl, rfl, h0, h1, h2⟩ := trodAll_three hA
  obtain ⟨rfl, rfl⟩ := trodVars_none hV
  obtain ⟨x0, hx0⟩ := open_ptsV (hval 0 22 v0 rfl rfl) h0
  obtain ⟨x1, hx1⟩ := open_ratsV (hval 1 23 v1 rfl rfl) h1
  obtain ⟨x2, rfl, hx2⟩ := open_intX (hval 2 3 v2 rfl rfl) h2
  refine (lawMarkovLaps_any v0 x0 v1 x1 x2 W hx0 hx1 hx2).mono fun e W' ⟨he, hB⟩ => ?_
  subst he
  exact law_post hW' rfl hA' (by rw [Tryz.params4]; decide +kernel) rfl rfl rfl rfl hB

theorem fnExactMarkovLaps_holds : Rows.FnExactMarkovLapsSaid :=
  OpenClaim.holds_of_wide 4 Tryz.f4 rfl rfl rfl rfl rfl rfl rfl ⟨rfl, rfl, rfl, rfl, rfl⟩ rfl rfl rfl rfl rfl (by kernel_rfl) Tryz.func4 (by kernel_rfl)
    (of_decide_eq_true (by kernel_rfl)) (by unfold Func.isWrapper; rw [if_neg (of_decide_eq_false (by kernel_rfl))]; exact ⟨rfl, rfl⟩)
    (fun os started H enc _ => lawMarkovLaps_lifted os started H enc)

#print axioms fnExactMarkovLaps_holds
end Go.Proofs.YtfcanpebagpdbaaGreat

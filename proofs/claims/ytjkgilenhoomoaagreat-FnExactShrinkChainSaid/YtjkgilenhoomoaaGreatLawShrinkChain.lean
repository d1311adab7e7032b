/- FnExactShrinkChain: for every input the law returns true, and the arguments read as before. No conditions. -/
import Derived.Test.YtjkgilenhoomoaaGreatPkO
import Derived.Test.YtjkgilenhoomoaaGreatHeldI
import Derived.Test.YtjkgilenhoomoaaGreatPkH
import Derived.Test.YtjkgilenhoomoaaGreatPkB
import Derived.Test.YtjkgilenhoomoaaGreatPkC
import Derived.Test.YtjkgilenhoomoaaGreatPkA
namespace Go.Proofs.YtjkgilenhoomoaaGreat
open Go.RowKit

set_option maxHeartbeats 400000 in
theorem lawShrinkChain_over0 (a0 : Value) (x0 : List ((Int × Int) × (Int × Int))) (a1 : Value) (w : World) (hv0 : Hid (QuadV w a0 x0)) (hl0 : ¬ szPointS x0 ≤ 1048576) :
    Calls Tryz.prog 3 #[a0, a1] w (Ret (.bool true) w) := by
  go_enter Tryz.func3, Tryz.ntmps3
  go_wp2_with fail
  refine (szPointS_over a0 x0 (1048576) _ hv0.out (by omega) (by omega)).mono ?_
  rintro e w_ ⟨rfl, rfl⟩
  go_wp2
  go_ret
  exact ⟨rfl, Below.refl _ _⟩

set_option maxHeartbeats 400000 in
theorem lawShrinkChain_over1 (a0 : Value) (x0 : List ((Int × Int) × (Int × Int))) (a1 : Value) (x1 : List ((Int × Int) × (Int × Int))) (w : World) (hv0 : Hid (QuadV w a0 x0)) (hv1 : Hid (QuadV w a1 x1)) (hl0 : szPointS x0 ≤ 1048576) (hl1 : ¬ szPointS x0 + szIntervalS x1 ≤ 1048576) :
    Calls Tryz.prog 3 #[a0, a1] w (Ret (.bool true) w) := by
  go_enter Tryz.func3, Tryz.ntmps3
  go_wp2_with fail
  refine (szPointS_fits a0 x0 (1048576) _ hv0.out (by omega) (by omega)).mono ?_
  rintro e w_ ⟨rfl, rfl⟩
  go_wp2_with fail
  refine (szIntervalS_over a1 x1 (1048576 - ((szPointS x0 : Nat) : Int)) _ hv1.out (by omega) (by omega)).mono ?_
  rintro e w_ ⟨rfl, rfl⟩
  go_wp2
  go_ret
  exact ⟨rfl, Below.refl _ _⟩

set_option maxHeartbeats 1600000 in
theorem lawShrinkChain_main (a0 : Value) (x0 : List ((Int × Int) × (Int × Int))) (a1 : Value) (x1 : List ((Int × Int) × (Int × Int))) (w : World) (hv0 : Hid (QuadV w a0 x0)) (hv1 : Hid (QuadV w a1 x1)) (hl0 : szPointS x0 ≤ 1048576) (hl1 : szPointS x0 + szIntervalS x1 ≤ 1048576) :
    Calls Tryz.prog 3 #[a0, a1] w (Ret (.bool true) w) := by
  have hm0 : szPointS x0 ≤ 1099511627776 := by omega
  have hk0 := cntPointS_le x0
  have hm1 : szIntervalS x1 ≤ 1099511627776 := by omega
  have hk1 := cntIntervalS_le x1
  have hlen := ShrinkChain_len x0 x1
  obtain ⟨r, hr⟩ : ∃ r, ShrinkChain_v x0 x1 = r := ⟨_, rfl⟩
  rw [hr] at hlen
  have hl_0 : szIntervalS (r.1) ≤ 1099511627776 := hlen
  have hkr0 := cntIntervalS_le (r.1)
  have hr := Lib.hid hr
  go_enter Tryz.func3, Tryz.ntmps3
  go_wp2_with fail
  refine (szPointS_fits a0 x0 (1048576) _ hv0.out (by omega) (by omega)).mono ?_
  rintro e w_ ⟨rfl, rfl⟩
  go_wp2_with fail
  refine (szIntervalS_fits a1 x1 (1048576 - ((szPointS x0 : Nat) : Int)) _ hv1.out (by omega) (by omega)).mono ?_
  rintro e w_ ⟨rfl, rfl⟩
  go_wp2_with fail
  have hb0 := Below.refl w.heap.size w
  refine (toPointS_any _ x0 _ (hv0.out.below hb0) hm0).mono ?_
  rintro e w1 ⟨c1, rfl, hc1, hB1⟩
  have hs1 := hB1.size
  have hb1 := hb0.trans (hB1.mono hb0.size)
  clear hb0
  clear hB1
  go_wp2_with fail
  refine (toIntervalS_any _ x1 _ (hv1.out.below hb1) hm1).mono ?_
  rintro e w2 ⟨c2, rfl, hc2, hB2⟩
  have hs2 := hB2.size
  have hb2 := hb1.trans (hB2.mono hb1.size)
  clear hb1
  replace hc1 := hc1.below hB2 (by omega)
  clear hB2
  go_wp2_with fail
  refine (specShrinkChain_any c1 x0 c2 x1 _ hc1.read hm0 hc2.read hm1).mono ?_
  rw [hr.out]
  rintro e w3 ⟨u0, rfl, hu0, hB3⟩
  have hs3 := hB3.size
  have hb3 := hb2.trans (hB3.mono hb2.size)
  clear hb2
  replace hc1 := hc1.below hB3 (by omega)
  replace hc2 := hc2.below hB3 (by omega)
  clear hB3
  go_wp2_with fail
  refine (toPointS_any _ x0 _ (hv0.out.below hb3) hm0).mono ?_
  rintro e w4 ⟨c4, rfl, hc4, hB4⟩
  have hs4 := hB4.size
  have hb4 := hb3.trans (hB4.mono hb3.size)
  clear hb3
  replace hc1 := hc1.below hB4 (by omega)
  replace hc2 := hc2.below hB4 (by omega)
  replace hu0 := hu0.below hB4 (by omega)
  clear hB4
  go_wp2_with fail
  refine (toIntervalS_any _ x1 _ (hv1.out.below hb4) hm1).mono ?_
  rintro e w5 ⟨c5, rfl, hc5, hB5⟩
  have hs5 := hB5.size
  have hb5 := hb4.trans (hB5.mono hb4.size)
  clear hb4
  replace hc1 := hc1.below hB5 (by omega)
  replace hc2 := hc2.below hB5 (by omega)
  replace hu0 := hu0.below hB5 (by omega)
  replace hc4 := hc4.below hB5 (by omega)
  clear hB5
  go_wp2_with fail
  refine (implShrinkChain_any c4 x0 c5 x1 _ hc4.read hm0 hc5.read hm1).mono ?_
  rw [hr.out]
  rintro e w6 ⟨g0, rfl, hg0, hB6⟩
  have hs6 := hB6.size
  have hb6 := hb5.trans (hB6.mono hb5.size)
  clear hb5
  replace hc1 := hc1.below hB6 (by omega)
  replace hc2 := hc2.below hB6 (by omega)
  replace hu0 := hu0.below hB6 (by omega)
  replace hc4 := hc4.below hB6 (by omega)
  replace hc5 := hc5.below hB6 (by omega)
  clear hB6
  go_wp2_with fail
  refine (eqIntervalS_same _ _ (r.1) _ hg0.read hu0.read hl_0).mono ?_
  rintro e w7 ⟨rfl, hB7⟩
  have hs7 := hB7.size
  have hb7 := hb6.trans (hB7.mono hb6.size)
  clear hb6
  replace hc1 := hc1.below hB7 (by omega)
  replace hc2 := hc2.below hB7 (by omega)
  replace hu0 := hu0.below hB7 (by omega)
  replace hc4 := hc4.below hB7 (by omega)
  replace hc5 := hc5.below hB7 (by omega)
  replace hg0 := hg0.below hB7 (by omega)
  clear hB7
  go_wp2_with fail
  refine (toPointS_any _ x0 _ (hv0.out.below hb7) hm0).mono ?_
  rintro e w8 ⟨c8, rfl, hc8, hB8⟩
  have hs8 := hB8.size
  have hb8 := hb7.trans (hB8.mono hb7.size)
  clear hb7
  replace hc1 := hc1.below hB8 (by omega)
  replace hc2 := hc2.below hB8 (by omega)
  replace hu0 := hu0.below hB8 (by omega)
  replace hc4 := hc4.below hB8 (by omega)
  replace hc5 := hc5.below hB8 (by omega)
  replace hg0 := hg0.below hB8 (by omega)
  clear hB8
  go_wp2_with fail
  refine (eqPointS_same _ _ x0 _ hc4.read hc8.read hm0).mono ?_
  rintro e w9 ⟨rfl, hB9⟩
  clear hc8
  have hs9 := hB9.size
  have hb9 := hb8.trans (hB9.mono hb8.size)
  clear hb8
  replace hc1 := hc1.below hB9 (by omega)
  replace hc2 := hc2.below hB9 (by omega)
  replace hu0 := hu0.below hB9 (by omega)
  replace hc4 := hc4.below hB9 (by omega)
  replace hc5 := hc5.below hB9 (by omega)
  replace hg0 := hg0.below hB9 (by omega)
  clear hB9
  go_wp2_with fail
  refine (toIntervalS_any _ x1 _ (hv1.out.below hb9) hm1).mono ?_
  rintro e w10 ⟨c10, rfl, hc10, hB10⟩
  have hs10 := hB10.size
  have hb10 := hb9.trans (hB10.mono hb9.size)
  clear hb9
  replace hc1 := hc1.below hB10 (by omega)
  replace hc2 := hc2.below hB10 (by omega)
  replace hu0 := hu0.below hB10 (by omega)
  replace hc4 := hc4.below hB10 (by omega)
  replace hc5 := hc5.below hB10 (by omega)
  replace hg0 := hg0.below hB10 (by omega)
  clear hB10
  go_wp2_with fail
  refine (eqIntervalS_same _ _ x1 _ hc5.read hc10.read hm1).mono ?_
  rintro e w11 ⟨rfl, hB11⟩
  clear hc10
  have hs11 := hB11.size
  have hb11 := hb10.trans (hB11.mono hb10.size)
  clear hb10
  replace hc1 := hc1.below hB11 (by omega)
  replace hc2 := hc2.below hB11 (by omega)
  replace hu0 := hu0.below hB11 (by omega)
  replace hc4 := hc4.below hB11 (by omega)
  replace hc5 := hc5.below hB11 (by omega)
  replace hg0 := hg0.below hB11 (by omega)
  clear hB11
  go_wp2_with fail
  refine (markPointS_any _ x0 (1) _ _ w3.heap.size w4.heap.size hc4 hm0 (by omega) (by omega)).mono ?_
  rintro e w12 ⟨rfl, hm_, hT12⟩
  have hs12 := Nat.le_of_eq hT12.size.symm
  have hb12 := hb11.trans (hT12.below.mono (by omega))
  clear hb11
  replace hc1 := hc1.turned hT12 (by omega)
  replace hc2 := hc2.turned hT12 (by omega)
  replace hu0 := hu0.turned hT12 (by omega)
  replace hc5 := hc5.turned hT12 (by omega)
  replace hg0 := hg0.turned hT12 (by omega)
  clear hT12 hc4
  clear hm_
  go_wp2_with fail
  refine (markIntervalS_any _ x1 (1 + cntPointS x0) _ _ w4.heap.size w5.heap.size hc5 hm1 (by omega) (by omega)).mono ?_
  rintro e w13 ⟨rfl, hm_, hT13⟩
  have hs13 := Nat.le_of_eq hT13.size.symm
  have hb13 := hb12.trans (hT13.below.mono (by omega))
  clear hb12
  replace hc1 := hc1.turned hT13 (by omega)
  replace hc2 := hc2.turned hT13 (by omega)
  replace hu0 := hu0.turned hT13 (by omega)
  replace hg0 := hg0.turned hT13 (by omega)
  clear hT13 hc5
  clear hm_
  go_wp2_with fail
  refine (eqIntervalS_same _ _ (r.1) _ hg0.read hu0.read hl_0).mono ?_
  rintro e w14 ⟨rfl, hB14⟩
  have hs14 := hB14.size
  have hb14 := hb13.trans (hB14.mono hb13.size)
  clear hb13
  replace hc1 := hc1.below hB14 (by omega)
  replace hc2 := hc2.below hB14 (by omega)
  replace hu0 := hu0.below hB14 (by omega)
  replace hg0 := hg0.below hB14 (by omega)
  clear hB14
  go_wp2_with fail
  refine (markIntervalS_any _ (r.1) (1) _ _ w5.heap.size w6.heap.size hg0 hl_0 (by omega) (by omega)).mono ?_
  rintro e w15 ⟨rfl, hm_, hT15⟩
  have hs15 := Nat.le_of_eq hT15.size.symm
  have hb15 := hb14.trans (hT15.below.mono (by omega))
  clear hb14
  replace hc1 := hc1.turned hT15 (by omega)
  replace hc2 := hc2.turned hT15 (by omega)
  replace hu0 := hu0.turned hT15 (by omega)
  clear hT15 hg0
  have hg0 := hm_
  clear hm_
  go_wp2_with fail
  refine (heldIntervalS_any _ (r.1) (1) _ _ hg0.read hl_0 (by omega) (by omega)).mono ?_
  rintro e w16 ⟨rfl, hB16⟩
  have hs16 := hB16.size
  have hb16 := hb15.trans (hB16.mono hb15.size)
  clear hb15
  replace hc1 := hc1.below hB16 (by omega)
  replace hc2 := hc2.below hB16 (by omega)
  replace hu0 := hu0.below hB16 (by omega)
  replace hg0 := hg0.below hB16 (by omega)
  clear hB16
  go_wp2_with fail
  refine (toPointS_any _ x0 _ (hv0.out.below hb16) hm0).mono ?_
  rintro e w17 ⟨c17, rfl, hc17, hB17⟩
  have hs17 := hB17.size
  have hb17 := hb16.trans (hB17.mono hb16.size)
  clear hb16
  replace hc1 := hc1.below hB17 (by omega)
  replace hc2 := hc2.below hB17 (by omega)
  replace hu0 := hu0.below hB17 (by omega)
  replace hg0 := hg0.below hB17 (by omega)
  clear hB17
  go_wp2_with fail
  refine (toIntervalS_any _ x1 _ (hv1.out.below hb17) hm1).mono ?_
  rintro e w18 ⟨c18, rfl, hc18, hB18⟩
  have hs18 := hB18.size
  have hb18 := hb17.trans (hB18.mono hb17.size)
  clear hb17
  replace hc1 := hc1.below hB18 (by omega)
  replace hc2 := hc2.below hB18 (by omega)
  replace hu0 := hu0.below hB18 (by omega)
  replace hg0 := hg0.below hB18 (by omega)
  replace hc17 := hc17.below hB18 (by omega)
  clear hB18
  go_wp2_with fail
  refine (implShrinkChain_any c17 x0 c18 x1 _ hc17.read hm0 hc18.read hm1).mono ?_
  rw [hr.out]
  rintro e w19 ⟨h_0, rfl, hh_0, hB19⟩
  have hs19 := hB19.size
  have hb19 := hb18.trans (hB19.mono hb18.size)
  clear hb18
  replace hc1 := hc1.below hB19 (by omega)
  replace hc2 := hc2.below hB19 (by omega)
  replace hu0 := hu0.below hB19 (by omega)
  replace hg0 := hg0.below hB19 (by omega)
  replace hc17 := hc17.below hB19 (by omega)
  replace hc18 := hc18.below hB19 (by omega)
  clear hB19
  go_wp2_with fail
  refine (eqIntervalS_same _ _ (r.1) _ hh_0.read hu0.read hl_0).mono ?_
  rintro e w20 ⟨rfl, hB20⟩
  have hs20 := hB20.size
  have hb20 := hb19.trans (hB20.mono hb19.size)
  clear hb19
  replace hc1 := hc1.below hB20 (by omega)
  replace hc2 := hc2.below hB20 (by omega)
  replace hu0 := hu0.below hB20 (by omega)
  replace hg0 := hg0.below hB20 (by omega)
  replace hc17 := hc17.below hB20 (by omega)
  replace hc18 := hc18.below hB20 (by omega)
  replace hh_0 := hh_0.below hB20 (by omega)
  clear hB20
  go_wp2_with fail
  refine (heldIntervalS_any _ (r.1) (1) _ _ hg0.read hl_0 (by omega) (by omega)).mono ?_
  rintro e w21 ⟨rfl, hB21⟩
  have hs21 := hB21.size
  have hb21 := hb20.trans (hB21.mono hb20.size)
  clear hb20
  replace hc1 := hc1.below hB21 (by omega)
  replace hc2 := hc2.below hB21 (by omega)
  replace hu0 := hu0.below hB21 (by omega)
  replace hg0 := hg0.below hB21 (by omega)
  replace hc17 := hc17.below hB21 (by omega)
  replace hc18 := hc18.below hB21 (by omega)
  replace hh_0 := hh_0.below hB21 (by omega)
  clear hB21
  go_wp2
  go_ret
  exact ⟨rfl, hb21⟩

theorem lawShrinkChain_any (a0 : Value) (x0 : List ((Int × Int) × (Int × Int))) (a1 : Value) (x1 : List ((Int × Int) × (Int × Int))) (w : World) (hv0 : QuadV w a0 x0) (hv1 : QuadV w a1 x1) :
    Calls Tryz.prog 3 #[a0, a1] w (Ret (.bool true) w) := by
  by_cases hl0 : szPointS x0 ≤ 1048576
  rotate_left
  · exact lawShrinkChain_over0 _ x0 _ w (Lib.hid hv0) hl0
  by_cases hl1 : szPointS x0 + szIntervalS x1 ≤ 1048576
  rotate_left
  · exact lawShrinkChain_over1 _ x0 _ x1 w (Lib.hid hv0) (Lib.hid hv1) hl0 hl1
  exact lawShrinkChain_main _ x0 _ x1 w (Lib.hid hv0) (Lib.hid hv1) hl0 hl1

open Go.ChangeShapes Go.WideShapes Go.ChangeAt in
set_option maxRecDepth 100000 in
theorem lawShrinkChain_lifted (os : Os) (started : os.Started) (H : Type) (enc : TypeId × Value → H) :
    ReturnsInHanded {} Tryz.checked os 3 .any (Rows.fnExactShrinkChainSpec.pre6 enc Tryz.prog Tryz.f3 Rows.fnExactShrinkChainRow.domain false) (Rows.fnExactShrinkChainSpec.post enc Tryz.prog Tryz.f3 false true false false) := by
  refine returnsInHanded_of_change (C := Tryz.checked) Tryz.own started (by kernel_rfl) Tryz.func3
    (ChangeSpec.witness6 (enc := enc) (C := Tryz.checked) false ⟨#[], #[.slice none 0 0, .slice none 0 0], []⟩ 8 (by kernel_rfl) (by kernel_rfl) (by kernel_rfl) (by kernel_rfl)) ?_
  intro W base args ds gs before hval0 hW _ _
  have hval : ∀ (j : Nat) t v, Tryz.f3.params[j]? = some t → args[j]? = some v → Value.okWide Tryz.prog W .any base t v := hval0
  have hW' := hW
  obtain ⟨p, q, hA0, hV, rfl, _, _⟩ := hW
  have hA : DataW.TrodAll enc Tryz.prog W 0 (fun _ => true) true Tryz.f3.params.toList args.toList ds p := hA0
  have hA' := hA
  rw [Tryz.params3] at hA hval
  obtain ⟨v0, v1, d0, d1, p0, p1, rfl, rfl, rfl, h0, h1⟩ := trodAll_two hA
  obtain ⟨rfl, rfl⟩ := trodVars_none hV
  obtain ⟨x0, hx0⟩ := open_ptsV (hval 0 22 v0 rfl rfl) h0
  obtain ⟨x1, hx1⟩ := open_ivsV (hval 1 23 v1 rfl rfl) h1
  refine (lawShrinkChain_any v0 x0 v1 x1 W hx0 hx1).mono fun e W' ⟨he, hB⟩ => ?_
  subst he
  exact law_post hW' rfl hA' (by rw [Tryz.params3]; decide +kernel) rfl rfl rfl rfl hB

theorem fnExactShrinkChain_holds : Rows.FnExactShrinkChainSaid :=
  OpenClaim.holds_of_wide 3 Tryz.f3 rfl rfl rfl rfl rfl rfl rfl ⟨rfl, rfl, rfl, rfl, rfl⟩ rfl rfl rfl rfl rfl (by kernel_rfl) Tryz.func3 (by kernel_rfl)
    (of_decide_eq_true (by kernel_rfl)) (by unfold Func.isWrapper; rw [if_neg (of_decide_eq_false (by kernel_rfl))]; exact ⟨rfl, rfl⟩)
    (fun os started H enc _ => lawShrinkChain_lifted os started H enc)

#print axioms fnExactShrinkChain_holds
end Go.Proofs.YtjkgilenhoomoaaGreat

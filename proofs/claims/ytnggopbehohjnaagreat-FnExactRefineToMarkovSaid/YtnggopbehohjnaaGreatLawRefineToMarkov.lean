/- FnExactRefineToMarkov: for every input the law returns true, and the arguments read as before. No conditions. -/
import Derived.Test.YtnggopbehohjnaaGreatRefI
import Derived.Test.YtnggopbehohjnaaGreatPkH
import Derived.Test.YtnggopbehohjnaaGreatPkB
import Derived.Test.YtnggopbehohjnaaGreatPkC
import Derived.Test.YtnggopbehohjnaaGreatPkA
namespace Go.Proofs.YtnggopbehohjnaaGreat
open Go.RowKit

set_option maxHeartbeats 400000 in
theorem lawRefineToMarkov_over0 (a0 : Value) (x0 : List ((Int × Int) × (Int × Int))) (x1 : Bool) (w : World) (hv0 : Hid (QuadV w a0 x0)) (hl0 : ¬ szPointS x0 ≤ 1048576) :
    Calls Tryz.prog 3 #[a0, .bool x1] w (Ret (.bool true) w) := by
  go_enter Tryz.func3, Tryz.ntmps3
  go_wp2_with fail
  refine (szPointS_over a0 x0 (1048576) _ hv0.out (by omega) (by omega)).mono ?_
  rintro e w_ ⟨rfl, rfl⟩
  go_wp2
  go_ret
  exact ⟨rfl, Below.refl _ _⟩

set_option maxHeartbeats 1600000 in
theorem lawRefineToMarkov_main (a0 : Value) (x0 : List ((Int × Int) × (Int × Int))) (x1 : Bool) (w : World) (hv0 : Hid (QuadV w a0 x0)) (hl0 : szPointS x0 ≤ 1048576) :
    Calls Tryz.prog 3 #[a0, .bool x1] w (Ret (.bool true) w) := by
  have hm0 : szPointS x0 ≤ 1099511627776 := by omega
  have hk0 := cntPointS_le x0
  have hlen := RefineToMarkov_len x0 x1
  obtain ⟨r, hr⟩ : ∃ r, RefineToMarkov_v x0 x1 = r := ⟨_, rfl⟩
  rw [hr] at hlen
  have hl_0 : szRatS (r.1) ≤ 1099511627776 := hlen
  have hkr0 := cntRatS_le (r.1)
  have hr := Lib.hid hr
  go_enter Tryz.func3, Tryz.ntmps3
  go_wp2_with fail
  refine (szPointS_fits a0 x0 (1048576) _ hv0.out (by omega) (by omega)).mono ?_
  rintro e w_ ⟨rfl, rfl⟩
  go_wp2_with fail
  have hb0 := Below.refl w.heap.size w
  refine (toPointS_any _ x0 _ (hv0.out.below hb0) hm0).mono ?_
  rintro e w1 ⟨c1, rfl, hc1, hB1⟩
  have hs1 := hB1.size
  have hb1 := hb0.trans (hB1.mono hb0.size)
  clear hb0
  clear hB1
  go_wp2_with fail
  refine (specRefineToMarkov_any c1 x0 x1 _ hc1.read hm0 ).mono ?_
  rw [hr.out]
  rintro e w2 ⟨u0, rfl, hu0, hB2⟩
  have hs2 := hB2.size
  have hb2 := hb1.trans (hB2.mono hb1.size)
  clear hb1
  replace hc1 := hc1.below hB2 (by omega)
  clear hB2
  go_wp2_with fail
  refine (toPointS_any _ x0 _ (hv0.out.below hb2) hm0).mono ?_
  rintro e w3 ⟨c3, rfl, hc3, hB3⟩
  have hs3 := hB3.size
  have hb3 := hb2.trans (hB3.mono hb2.size)
  clear hb2
  replace hc1 := hc1.below hB3 (by omega)
  replace hu0 := hu0.below hB3 (by omega)
  clear hB3
  go_wp2_with fail
  refine (implRefineToMarkov_any c3 x0 x1 _ hc3.read hm0 ).mono ?_
  rw [hr.out]
  rintro e w4 ⟨g0, rfl, hg0, hB4⟩
  have hs4 := hB4.size
  have hb4 := hb3.trans (hB4.mono hb3.size)
  clear hb3
  replace hc1 := hc1.below hB4 (by omega)
  replace hu0 := hu0.below hB4 (by omega)
  replace hc3 := hc3.below hB4 (by omega)
  clear hB4
  go_wp2_with fail
  refine (eqRatS_same _ _ (r.1) _ hg0.read hu0.read hl_0).mono ?_
  rintro e w5 ⟨rfl, hB5⟩
  have hs5 := hB5.size
  have hb5 := hb4.trans (hB5.mono hb4.size)
  clear hb4
  replace hc1 := hc1.below hB5 (by omega)
  replace hu0 := hu0.below hB5 (by omega)
  replace hc3 := hc3.below hB5 (by omega)
  replace hg0 := hg0.below hB5 (by omega)
  clear hB5
  go_wp2_with fail
  refine (toPointS_any _ x0 _ (hv0.out.below hb5) hm0).mono ?_
  rintro e w6 ⟨c6, rfl, hc6, hB6⟩
  have hs6 := hB6.size
  have hb6 := hb5.trans (hB6.mono hb5.size)
  clear hb5
  replace hc1 := hc1.below hB6 (by omega)
  replace hu0 := hu0.below hB6 (by omega)
  replace hc3 := hc3.below hB6 (by omega)
  replace hg0 := hg0.below hB6 (by omega)
  clear hB6
  go_wp2_with fail
  refine (eqPointS_same _ _ x0 _ hc3.read hc6.read hm0).mono ?_
  rintro e w7 ⟨rfl, hB7⟩
  clear hc6
  have hs7 := hB7.size
  have hb7 := hb6.trans (hB7.mono hb6.size)
  clear hb6
  replace hc1 := hc1.below hB7 (by omega)
  replace hu0 := hu0.below hB7 (by omega)
  replace hc3 := hc3.below hB7 (by omega)
  replace hg0 := hg0.below hB7 (by omega)
  clear hB7
  go_wp2_with fail
  refine (markPointS_any _ x0 (1) _ _ w2.heap.size w3.heap.size hc3 hm0 (by omega) (by omega)).mono ?_
  rintro e w8 ⟨rfl, hm_, hT8⟩
  have hs8 := Nat.le_of_eq hT8.size.symm
  have hb8 := hb7.trans (hT8.below.mono (by omega))
  clear hb7
  replace hc1 := hc1.turned hT8 (by omega)
  replace hu0 := hu0.turned hT8 (by omega)
  replace hg0 := hg0.turned hT8 (by omega)
  clear hT8 hc3
  clear hm_
  go_wp2_with fail
  refine (eqRatS_same _ _ (r.1) _ hg0.read hu0.read hl_0).mono ?_
  rintro e w9 ⟨rfl, hB9⟩
  have hs9 := hB9.size
  have hb9 := hb8.trans (hB9.mono hb8.size)
  clear hb8
  replace hc1 := hc1.below hB9 (by omega)
  replace hu0 := hu0.below hB9 (by omega)
  replace hg0 := hg0.below hB9 (by omega)
  clear hB9
  go_wp2_with fail
  refine (markRatS_any _ (r.1) (1) _ _ w3.heap.size w4.heap.size hg0 hl_0 (by omega) (by omega)).mono ?_
  rintro e w10 ⟨rfl, hm_, hT10⟩
  have hs10 := Nat.le_of_eq hT10.size.symm
  have hb10 := hb9.trans (hT10.below.mono (by omega))
  clear hb9
  replace hc1 := hc1.turned hT10 (by omega)
  replace hu0 := hu0.turned hT10 (by omega)
  clear hT10 hg0
  have hg0 := hm_
  clear hm_
  go_wp2_with fail
  refine (heldRatS_any _ (r.1) (1) _ _ hg0.read hl_0 (by omega) (by omega)).mono ?_
  rintro e w11 ⟨rfl, hB11⟩
  have hs11 := hB11.size
  have hb11 := hb10.trans (hB11.mono hb10.size)
  clear hb10
  replace hc1 := hc1.below hB11 (by omega)
  replace hu0 := hu0.below hB11 (by omega)
  replace hg0 := hg0.below hB11 (by omega)
  clear hB11
  go_wp2_with fail
  refine (toPointS_any _ x0 _ (hv0.out.below hb11) hm0).mono ?_
  rintro e w12 ⟨c12, rfl, hc12, hB12⟩
  have hs12 := hB12.size
  have hb12 := hb11.trans (hB12.mono hb11.size)
  clear hb11
  replace hc1 := hc1.below hB12 (by omega)
  replace hu0 := hu0.below hB12 (by omega)
  replace hg0 := hg0.below hB12 (by omega)
  clear hB12
  go_wp2_with fail
  refine (implRefineToMarkov_any c12 x0 x1 _ hc12.read hm0 ).mono ?_
  rw [hr.out]
  rintro e w13 ⟨h_0, rfl, hh_0, hB13⟩
  have hs13 := hB13.size
  have hb13 := hb12.trans (hB13.mono hb12.size)
  clear hb12
  replace hc1 := hc1.below hB13 (by omega)
  replace hu0 := hu0.below hB13 (by omega)
  replace hg0 := hg0.below hB13 (by omega)
  replace hc12 := hc12.below hB13 (by omega)
  clear hB13
  go_wp2_with fail
  refine (eqRatS_same _ _ (r.1) _ hh_0.read hu0.read hl_0).mono ?_
  rintro e w14 ⟨rfl, hB14⟩
  have hs14 := hB14.size
  have hb14 := hb13.trans (hB14.mono hb13.size)
  clear hb13
  replace hc1 := hc1.below hB14 (by omega)
  replace hu0 := hu0.below hB14 (by omega)
  replace hg0 := hg0.below hB14 (by omega)
  replace hc12 := hc12.below hB14 (by omega)
  replace hh_0 := hh_0.below hB14 (by omega)
  clear hB14
  go_wp2_with fail
  refine (heldRatS_any _ (r.1) (1) _ _ hg0.read hl_0 (by omega) (by omega)).mono ?_
  rintro e w15 ⟨rfl, hB15⟩
  have hs15 := hB15.size
  have hb15 := hb14.trans (hB15.mono hb14.size)
  clear hb14
  replace hc1 := hc1.below hB15 (by omega)
  replace hu0 := hu0.below hB15 (by omega)
  replace hg0 := hg0.below hB15 (by omega)
  replace hc12 := hc12.below hB15 (by omega)
  replace hh_0 := hh_0.below hB15 (by omega)
  clear hB15
  go_wp2
  go_ret
  exact ⟨rfl, hb15⟩

theorem lawRefineToMarkov_any (a0 : Value) (x0 : List ((Int × Int) × (Int × Int))) (x1 : Bool) (w : World) (hv0 : QuadV w a0 x0)  :
    Calls Tryz.prog 3 #[a0, .bool x1] w (Ret (.bool true) w) := by
  by_cases hl0 : szPointS x0 ≤ 1048576
  rotate_left
  · exact lawRefineToMarkov_over0 _ x0 x1 w (Lib.hid hv0) hl0
  exact lawRefineToMarkov_main _ x0 x1 w (Lib.hid hv0) hl0

open Go.ChangeShapes Go.WideShapes Go.ChangeAt in
set_option maxRecDepth 100000 in
theorem lawRefineToMarkov_lifted (os : Os) (started : os.Started) (H : Type) (enc : TypeId × Value → H) :
    ReturnsInHanded {} Tryz.checked os 3 .any (Rows.fnExactRefineToMarkovSpec.pre6 enc Tryz.prog Tryz.f3 Rows.fnExactRefineToMarkovRow.domain false) (Rows.fnExactRefineToMarkovSpec.post enc Tryz.prog Tryz.f3 false true false false) := by
  refine returnsInHanded_of_change (C := Tryz.checked) Tryz.own started (by kernel_rfl) Tryz.func3
    (ChangeSpec.witness6 (enc := enc) (C := Tryz.checked) false ⟨#[], #[.slice none 0 0, .bool false], []⟩ 8 (by kernel_rfl) (by kernel_rfl) (by kernel_rfl) (by kernel_rfl)) ?_
  intro W base args ds gs before hval0 hW _ _
  have hval : ∀ (j : Nat) t v, Tryz.f3.params[j]? = some t → args[j]? = some v → Value.okWide Tryz.prog W .any base t v := hval0
  have hW' := hW
  obtain ⟨p, q, hA0, hV, rfl, _, _⟩ := hW
  have hA : DataW.TrodAll enc Tryz.prog W 0 (fun _ => true) true Tryz.f3.params.toList args.toList ds p := hA0
  have hA' := hA
  rw [Tryz.params3] at hA hval
  obtain ⟨v0, v1, d0, d1, p0, p1, rfl, rfl, rfl, h0, h1⟩ := trodAll_two hA
  obtain ⟨rfl, rfl⟩ := trodVars_none hV
  obtain ⟨x0, hx0⟩ := open_ptsV (hval 0 22 v0 rfl rfl) h0
  obtain ⟨x1, rfl⟩ := open_boolX (hval 1 4 v1 rfl rfl) h1
  refine (lawRefineToMarkov_any v0 x0 x1 W hx0).mono fun e W' ⟨he, hB⟩ => ?_
  subst he
  exact law_post hW' rfl hA' (by rw [Tryz.params3]; decide +kernel) rfl rfl rfl rfl hB

theorem fnExactRefineToMarkov_holds : Rows.FnExactRefineToMarkovSaid :=
  OpenClaim.holds_of_wide 3 Tryz.f3 rfl rfl rfl rfl rfl rfl rfl ⟨rfl, rfl, rfl, rfl, rfl⟩ rfl rfl rfl rfl rfl (by kernel_rfl) Tryz.func3 (by kernel_rfl)
    (of_decide_eq_true (by kernel_rfl)) (by unfold Func.isWrapper; rw [if_neg (of_decide_eq_false (by kernel_rfl))]; exact ⟨rfl, rfl⟩)
    (fun os started H enc _ => lawRefineToMarkov_lifted os started H enc)

#print axioms fnExactRefineToMarkov_holds
end Go.Proofs.YtnggopbehohjnaaGreat

/- FnExactShortestWalk: for every input the law returns true, and the arguments read as before. No conditions. -/
import Derived.Test.YtjoeanplgikkcaaShortest
import Derived.Test.YtjoeanplgikkcaaLiftM
import Derived.Test.YtjoeanplgikkcaaInts
import Derived.Test.YtjoeanplgikkcaaLift
namespace Go.Proofs.Ytjoeanplgikkcaa
open Go.RowKit

set_option maxHeartbeats 400000 in
theorem lawShortestWalk_over0 (a0 : Value) (x0 : List (List Int)) (x1 : Int) (x2 : Int) (w : World) (hv0 : Hid (RowsV w a0 x0)) (hl0 : ¬ szIntSS x0 ≤ 1048576) :
    Calls Try.prog 5 #[a0, .int .i64 x1, .int .i64 x2] w (Ret (.bool true) w) := by
  go_enter Try.func5, Try.ntmps5
  go_wp2_with fail
  refine (szIntSS_over a0 x0 (1048576) _ hv0.out (by omega) (by omega)).mono ?_
  rintro e w_ ⟨rfl, rfl⟩
  go_wp2
  go_ret
  exact ⟨rfl, Below.refl _ _⟩

set_option maxHeartbeats 1600000 in
theorem lawShortestWalk_main (a0 : Value) (x0 : List (List Int)) (x1 : Int) (x2 : Int) (w : World) (hv0 : Hid (RowsV w a0 x0)) (hi1 : I64 x1) (hi2 : I64 x2) (hl0 : szIntSS x0 ≤ 1048576) :
    Calls Try.prog 5 #[a0, .int .i64 x1, .int .i64 x2] w (Ret (.bool true) w) := by
  have hm0 : szIntSS x0 ≤ 1099511627776 := by omega
  have hk0 := cntIntSS_le x0
  have hlen := ShortestWalk_len x0 x1 x2
  obtain ⟨r, hr⟩ : ∃ r, ShortestWalk_v x0 x1 x2 = r := ⟨_, rfl⟩
  rw [hr] at hlen
  have hl_0 : szIntS (r.1) ≤ 1099511627776 := hlen
  have hkr0 := cntIntS_le (r.1)
  have hr := Lib.hid hr
  go_enter Try.func5, Try.ntmps5
  go_wp2_with fail
  refine (szIntSS_fits a0 x0 (1048576) _ hv0.out (by omega) (by omega)).mono ?_
  rintro e w_ ⟨rfl, rfl⟩
  go_wp2_with fail
  have hb0 := Below.refl w.heap.size w
  refine (toIntSS_any _ x0 _ (hv0.out.below hb0) hm0).mono ?_
  rintro e w1 ⟨c1, rfl, hc1, hB1⟩
  have hs1 := hB1.size
  have hb1 := hb0.trans (hB1.mono hb0.size)
  clear hb0
  clear hB1
  go_wp2_with fail
  refine (specShortestWalk_any c1 x0 x1 x2 _ hc1.read hm0 hi1 hi2).mono ?_
  rw [hr.out]
  rintro e w2 ⟨u0, rfl, hu0, hB2⟩
  have hs2 := hB2.size
  have hb2 := hb1.trans (hB2.mono hb1.size)
  clear hb1
  replace hc1 := hc1.below hB2 (by omega)
  clear hB2
  go_wp2_with fail
  refine (toIntSS_any _ x0 _ (hv0.out.below hb2) hm0).mono ?_
  rintro e w3 ⟨c3, rfl, hc3, hB3⟩
  have hs3 := hB3.size
  have hb3 := hb2.trans (hB3.mono hb2.size)
  clear hb2
  replace hc1 := hc1.below hB3 (by omega)
  replace hu0 := hu0.below hB3 (by omega)
  clear hB3
  go_wp2_with fail
  refine (implShortestWalk_any c3 x0 x1 x2 _ hc3.read hm0 hi1 hi2).mono ?_
  rw [hr.out]
  rintro e w4 ⟨g0, rfl, hg0, hB4⟩
  have hs4 := hB4.size
  have hb4 := hb3.trans (hB4.mono hb3.size)
  clear hb3
  replace hc1 := hc1.below hB4 (by omega)
  replace hu0 := hu0.below hB4 (by omega)
  replace hc3 := hc3.below hB4 (by omega)
  clear hB4
  go_wp2_with fail
  refine (eqIntS_same _ _ (r.1) _ hg0.read hu0.read hl_0).mono ?_
  rintro e w5 ⟨rfl, hB5⟩
  have hs5 := hB5.size
  have hb5 := hb4.trans (hB5.mono hb4.size)
  clear hb4
  replace hc1 := hc1.below hB5 (by omega)
  replace hu0 := hu0.below hB5 (by omega)
  replace hc3 := hc3.below hB5 (by omega)
  replace hg0 := hg0.below hB5 (by omega)
  clear hB5
  go_wp2_with fail
  refine (toIntSS_any _ x0 _ (hv0.out.below hb5) hm0).mono ?_
  rintro e w6 ⟨c6, rfl, hc6, hB6⟩
  have hs6 := hB6.size
  have hb6 := hb5.trans (hB6.mono hb5.size)
  clear hb5
  replace hc1 := hc1.below hB6 (by omega)
  replace hu0 := hu0.below hB6 (by omega)
  replace hc3 := hc3.below hB6 (by omega)
  replace hg0 := hg0.below hB6 (by omega)
  clear hB6
  go_wp2_with fail
  refine (eqIntSS_same _ _ x0 _ hc3.read hc6.read hm0).mono ?_
  rintro e w7 ⟨rfl, hB7⟩
  clear hc6
  have hs7 := hB7.size
  have hb7 := hb6.trans (hB7.mono hb6.size)
  clear hb6
  replace hc1 := hc1.below hB7 (by omega)
  replace hu0 := hu0.below hB7 (by omega)
  replace hc3 := hc3.below hB7 (by omega)
  replace hg0 := hg0.below hB7 (by omega)
  clear hB7
  go_wp2_with fail
  refine (markIntSS_any _ x0 (1) _ _ w2.heap.size w3.heap.size hc3 hm0 (by omega) (by omega)).mono ?_
  rintro e w8 ⟨rfl, hm_, hT8⟩
  have hs8 := Nat.le_of_eq hT8.size.symm
  have hb8 := hb7.trans (hT8.below.mono (by omega))
  clear hb7
  replace hc1 := hc1.turned hT8 (by omega)
  replace hu0 := hu0.turned hT8 (by omega)
  replace hg0 := hg0.turned hT8 (by omega)
  clear hT8 hc3
  clear hm_
  go_wp2_with fail
  refine (eqIntS_same _ _ (r.1) _ hg0.read hu0.read hl_0).mono ?_
  rintro e w9 ⟨rfl, hB9⟩
  have hs9 := hB9.size
  have hb9 := hb8.trans (hB9.mono hb8.size)
  clear hb8
  replace hc1 := hc1.below hB9 (by omega)
  replace hu0 := hu0.below hB9 (by omega)
  replace hg0 := hg0.below hB9 (by omega)
  clear hB9
  go_wp2_with fail
  refine (markIntS_any _ (r.1) (1) _ _ w3.heap.size w4.heap.size hg0 hl_0 (by omega) (by omega)).mono ?_
  rintro e w10 ⟨rfl, hm_, hT10⟩
  have hs10 := Nat.le_of_eq hT10.size.symm
  have hb10 := hb9.trans (hT10.below.mono (by omega))
  clear hb9
  replace hc1 := hc1.turned hT10 (by omega)
  replace hu0 := hu0.turned hT10 (by omega)
  clear hT10 hg0
  have hg0 := hm_
  clear hm_
  go_wp2_with fail
  refine (heldIntS_any _ (r.1) (1) _ _ hg0.read hl_0 (by omega) (by omega)).mono ?_
  rintro e w11 ⟨rfl, hB11⟩
  have hs11 := hB11.size
  have hb11 := hb10.trans (hB11.mono hb10.size)
  clear hb10
  replace hc1 := hc1.below hB11 (by omega)
  replace hu0 := hu0.below hB11 (by omega)
  replace hg0 := hg0.below hB11 (by omega)
  clear hB11
  go_wp2_with fail
  refine (toIntSS_any _ x0 _ (hv0.out.below hb11) hm0).mono ?_
  rintro e w12 ⟨c12, rfl, hc12, hB12⟩
  have hs12 := hB12.size
  have hb12 := hb11.trans (hB12.mono hb11.size)
  clear hb11
  replace hc1 := hc1.below hB12 (by omega)
  replace hu0 := hu0.below hB12 (by omega)
  replace hg0 := hg0.below hB12 (by omega)
  clear hB12
  go_wp2_with fail
  refine (implShortestWalk_any c12 x0 x1 x2 _ hc12.read hm0 hi1 hi2).mono ?_
  rw [hr.out]
  rintro e w13 ⟨h_0, rfl, hh_0, hB13⟩
  have hs13 := hB13.size
  have hb13 := hb12.trans (hB13.mono hb12.size)
  clear hb12
  replace hc1 := hc1.below hB13 (by omega)
  replace hu0 := hu0.below hB13 (by omega)
  replace hg0 := hg0.below hB13 (by omega)
  replace hc12 := hc12.below hB13 (by omega)
  clear hB13
  go_wp2_with fail
  refine (eqIntS_same _ _ (r.1) _ hh_0.read hu0.read hl_0).mono ?_
  rintro e w14 ⟨rfl, hB14⟩
  have hs14 := hB14.size
  have hb14 := hb13.trans (hB14.mono hb13.size)
  clear hb13
  replace hc1 := hc1.below hB14 (by omega)
  replace hu0 := hu0.below hB14 (by omega)
  replace hg0 := hg0.below hB14 (by omega)
  replace hc12 := hc12.below hB14 (by omega)
  replace hh_0 := hh_0.below hB14 (by omega)
  clear hB14
  go_wp2_with fail
  refine (heldIntS_any _ (r.1) (1) _ _ hg0.read hl_0 (by omega) (by omega)).mono ?_
  rintro e w15 ⟨rfl, hB15⟩
  have hs15 := hB15.size
  have hb15 := hb14.trans (hB15.mono hb14.size)
  clear hb14
  replace hc1 := hc1.below hB15 (by omega)
  replace hu0 := hu0.below hB15 (by omega)
  replace hg0 := hg0.below hB15 (by omega)
  replace hc12 := hc12.below hB15 (by omega)
  replace hh_0 := hh_0.below hB15 (by omega)
  clear hB15
  go_wp2
  go_ret
  exact ⟨rfl, hb15⟩

theorem lawShortestWalk_any (a0 : Value) (x0 : List (List Int)) (x1 : Int) (x2 : Int) (w : World) (hv0 : RowsV w a0 x0) (hi1 : I64 x1) (hi2 : I64 x2) :
    Calls Try.prog 5 #[a0, .int .i64 x1, .int .i64 x2] w (Ret (.bool true) w) := by
  by_cases hl0 : szIntSS x0 ≤ 1048576
  rotate_left
  · exact lawShortestWalk_over0 _ x0 x1 x2 w (Lib.hid hv0) hl0
  exact lawShortestWalk_main _ x0 x1 x2 w (Lib.hid hv0) hi1 hi2 hl0

open Go.ChangeShapes Go.WideShapes Go.ChangeAt in
set_option maxRecDepth 100000 in
theorem lawShortestWalk_lifted (os : Os) (started : os.Started) (H : Type) (enc : TypeId × Value → H) :
    ReturnsInHanded {} Try.checked os 5 .any (Rows.fnExactShortestWalkSpec.pre6 enc Try.prog Try.f5 Rows.fnExactShortestWalkRow.domain false) (Rows.fnExactShortestWalkSpec.post enc Try.prog Try.f5 false true false false) := by
  refine returnsInHanded_of_change (C := Try.checked) Try.own started (by kernel_rfl) Try.func5
    (ChangeSpec.witness6 (enc := enc) (C := Try.checked) false ⟨#[], #[.slice none 0 0, .int .i64 0, .int .i64 0], []⟩ 8 (by kernel_rfl) (by kernel_rfl) (by kernel_rfl) (by kernel_rfl)) ?_
  intro W base args ds gs before hval0 hW _ _
  have hval : ∀ (j : Nat) t v, Try.f5.params[j]? = some t → args[j]? = some v → Value.okWide Try.prog W .any base t v := hval0
  have hW' := hW
  obtain ⟨p, q, hA0, hV, rfl, _, _⟩ := hW
  have hA : DataW.TrodAll enc Try.prog W 0 (fun _ => true) true Try.f5.params.toList args.toList ds p := hA0
  have hA' := hA
  rw [Try.params5] at hA hval
  obtain ⟨v0, v1, v2, d0, d1, d2, p0, p1, p2, rfl, rfl, rfl, h0, h1, h2⟩ := trodAll_three hA
  obtain ⟨rfl, rfl⟩ := trodVars_none hV
  obtain ⟨x0, hx0⟩ := open_rowsV (hval 0 22 v0 rfl rfl) h0
  obtain ⟨x1, rfl, hx1⟩ := open_intX (hval 1 3 v1 rfl rfl) h1
  obtain ⟨x2, rfl, hx2⟩ := open_intX (hval 2 3 v2 rfl rfl) h2
  refine (lawShortestWalk_any v0 x0 x1 x2 W hx0 hx1 hx2).mono fun e W' ⟨he, hB⟩ => ?_
  subst he
  exact law_post hW' rfl hA' (by rw [Try.params5]; decide +kernel) rfl rfl rfl rfl hB

theorem fnExactShortestWalk_holds : Rows.FnExactShortestWalkSaid :=
  OpenClaim.holds_of_wide 5 Try.f5 rfl rfl rfl rfl rfl rfl rfl ⟨rfl, rfl, rfl, rfl, rfl⟩ rfl rfl rfl rfl rfl (by kernel_rfl) Try.func5 (by kernel_rfl)
    (of_decide_eq_true (by kernel_rfl)) (by unfold Func.isWrapper; rw [if_neg (of_decide_eq_false (by kernel_rfl))]; exact ⟨rfl, rfl⟩)
    (fun os started H enc _ => lawShortestWalk_lifted os started H enc)

#print axioms fnExactShortestWalk_holds
end Go.Proofs.Ytjoeanplgikkcaa

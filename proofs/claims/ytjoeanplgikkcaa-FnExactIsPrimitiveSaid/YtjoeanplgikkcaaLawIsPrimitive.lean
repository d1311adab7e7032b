/- FnExactIsPrimitive: for every input the law returns true, and the arguments read as before. No conditions. -/
import Derived.Test.YtjoeanplgikkcaaGraphPeriod
import Derived.Test.YtjoeanplgikkcaaLiftM
import Derived.Test.YtjoeanplgikkcaaLift
namespace Go.Proofs.Ytjoeanplgikkcaa
open Go.RowKit

set_option maxHeartbeats 400000 in
theorem lawIsPrimitive_over0 (a0 : Value) (x0 : List (List Int)) (w : World) (hv0 : Hid (RowsV w a0 x0)) (hl0 : ¬ szIntSS x0 ≤ 1048576) :
    Calls Try.prog 8 #[a0] w (Ret (.bool true) w) := by
  go_enter Try.func8, Try.ntmps8
  go_wp2_with fail
  refine (szIntSS_over a0 x0 (1048576) _ hv0.out (by omega) (by omega)).mono ?_
  rintro e w_ ⟨rfl, rfl⟩
  go_wp2
  go_ret
  exact ⟨rfl, Below.refl _ _⟩

set_option maxHeartbeats 1600000 in
theorem lawIsPrimitive_main (a0 : Value) (x0 : List (List Int)) (w : World) (hv0 : Hid (RowsV w a0 x0)) (hl0 : szIntSS x0 ≤ 1048576) :
    Calls Try.prog 8 #[a0] w (Ret (.bool true) w) := by
  have hm0 : szIntSS x0 ≤ 1099511627776 := by omega
  have hk0 := cntIntSS_le x0
  obtain ⟨r, hr⟩ : ∃ r, IsPrimitive_v x0 = r := ⟨_, rfl⟩
  have hr := Lib.hid hr
  go_enter Try.func8, Try.ntmps8
  go_wp2_with fail
  refine (szIntSS_fits a0 x0 (1048576) _ hv0.out (by omega) (by omega)).mono ?_
  rintro e w_ ⟨rfl, rfl⟩
  go_wp2_with fail
  have hb0 := Below.refl w.heap.size w
  refine (toIntSS_any _ x0 _ (hv0.out.below hb0) hm0).mono ?_
  rintro e w1 ⟨c1, rfl, hc1, hB1⟩
  have hs1 := hB1.size
  have hb1 := hb0.trans (hB1.mono hb0.size)
  clear hb0
  clear hB1
  go_wp2_with fail
  refine (specIsPrimitive_any c1 x0 _ hc1.read hm0).mono ?_
  rw [hr.out]
  rintro e w2 ⟨rfl, hB2⟩
  have hs2 := hB2.size
  have hb2 := hb1.trans (hB2.mono hb1.size)
  clear hb1
  replace hc1 := hc1.below hB2 (by omega)
  clear hB2
  go_wp2_with fail
  refine (toIntSS_any _ x0 _ (hv0.out.below hb2) hm0).mono ?_
  rintro e w3 ⟨c3, rfl, hc3, hB3⟩
  have hs3 := hB3.size
  have hb3 := hb2.trans (hB3.mono hb2.size)
  clear hb2
  replace hc1 := hc1.below hB3 (by omega)
  clear hB3
  go_wp2_with fail
  refine (implIsPrimitive_any c3 x0 _ hc3.read hm0).mono ?_
  rw [hr.out]
  rintro e w4 ⟨rfl, hB4⟩
  have hs4 := hB4.size
  have hb4 := hb3.trans (hB4.mono hb3.size)
  clear hb3
  replace hc1 := hc1.below hB4 (by omega)
  replace hc3 := hc3.below hB4 (by omega)
  clear hB4
  go_wp2_with fail
  refine (toIntSS_any _ x0 _ (hv0.out.below hb4) hm0).mono ?_
  rintro e w5 ⟨c5, rfl, hc5, hB5⟩
  have hs5 := hB5.size
  have hb5 := hb4.trans (hB5.mono hb4.size)
  clear hb4
  replace hc1 := hc1.below hB5 (by omega)
  replace hc3 := hc3.below hB5 (by omega)
  clear hB5
  go_wp2_with fail
  refine (eqIntSS_same _ _ x0 _ hc3.read hc5.read hm0).mono ?_
  rintro e w6 ⟨rfl, hB6⟩
  clear hc5
  have hs6 := hB6.size
  have hb6 := hb5.trans (hB6.mono hb5.size)
  clear hb5
  replace hc1 := hc1.below hB6 (by omega)
  replace hc3 := hc3.below hB6 (by omega)
  clear hB6
  go_wp2
  go_ret
  exact ⟨rfl, hb6⟩

theorem lawIsPrimitive_any (a0 : Value) (x0 : List (List Int)) (w : World) (hv0 : RowsV w a0 x0) :
    Calls Try.prog 8 #[a0] w (Ret (.bool true) w) := by
  by_cases hl0 : szIntSS x0 ≤ 1048576
  rotate_left
  · exact lawIsPrimitive_over0 _ x0 w (Lib.hid hv0) hl0
  exact lawIsPrimitive_main _ x0 w (Lib.hid hv0) hl0

open Go.ChangeShapes Go.WideShapes Go.ChangeAt in
set_option maxRecDepth 100000 in
theorem lawIsPrimitive_lifted (os : Os) (started : os.Started) (H : Type) (enc : TypeId × Value → H) :
    ReturnsInHanded {} Try.checked os 8 .any (Rows.fnExactIsPrimitiveSpec.pre6 enc Try.prog Try.f8 Rows.fnExactIsPrimitiveRow.domain false) (Rows.fnExactIsPrimitiveSpec.post enc Try.prog Try.f8 false true false false) := by
  refine returnsInHanded_of_change (C := Try.checked) Try.own started (by kernel_rfl) Try.func8
    (ChangeSpec.witness6 (enc := enc) (C := Try.checked) false ⟨#[], #[.slice none 0 0], []⟩ 8 (by kernel_rfl) (by kernel_rfl) (by kernel_rfl) (by kernel_rfl)) ?_
  intro W base args ds gs before hval0 hW _ _
  have hval : ∀ (j : Nat) t v, Try.f8.params[j]? = some t → args[j]? = some v → Value.okWide Try.prog W .any base t v := hval0
  have hW' := hW
  obtain ⟨p, q, hA0, hV, rfl, _, _⟩ := hW
  have hA : DataW.TrodAll enc Try.prog W 0 (fun _ => true) true Try.f8.params.toList args.toList ds p := hA0
  have hA' := hA
  rw [Try.params8] at hA hval
  obtain ⟨v0, d0, rfl, rfl, h0⟩ := trodAll_one hA
  obtain ⟨rfl, rfl⟩ := trodVars_none hV
  obtain ⟨x0, hx0⟩ := open_rowsV (hval 0 22 v0 rfl rfl) h0
  refine (lawIsPrimitive_any v0 x0 W hx0).mono fun e W' ⟨he, hB⟩ => ?_
  subst he
  exact law_post hW' rfl hA' (by rw [Try.params8]; decide +kernel) rfl rfl rfl rfl hB

theorem fnExactIsPrimitive_holds : Rows.FnExactIsPrimitiveSaid :=
  OpenClaim.holds_of_wide 8 Try.f8 rfl rfl rfl rfl rfl rfl rfl ⟨rfl, rfl, rfl, rfl, rfl⟩ rfl rfl rfl rfl rfl (by kernel_rfl) Try.func8 (by kernel_rfl)
    (of_decide_eq_true (by kernel_rfl)) (by unfold Func.isWrapper; rw [if_neg (of_decide_eq_false (by kernel_rfl))]; exact ⟨rfl, rfl⟩)
    (fun os started H enc _ => lawIsPrimitive_lifted os started H enc)

#print axioms fnExactIsPrimitive_holds
end Go.Proofs.Ytjoeanplgikkcaa

/- FnExactIsPolynomial: for every list the law returns true, and the list reads as before. No conditions. -/
import Derived.Test.YtlhakkkgfejhcaaInts
import Derived.Test.YtlhakkkgfejhcaaPolyIs
import Derived.Test.YtlhakkkgfejhcaaLift
namespace Go.Proofs.Ytlhakkkgfejhcaa
open Go.RowKit

set_option maxHeartbeats 400000 in
theorem lawIsPolynomial_any (v : Value) (xs : List Int) (w : World) (hv : IntsV w v xs) :
    Calls Try.prog 3 #[v] w (Ret (.bool true) w) := by
  obtain ⟨ao, cap, rfl, h1, h2, H⟩ := id hv
  by_cases hl : xs.length ≤ 1048576
  · clear H
    have hm : xs.length ≤ 1099511627776 := by omega
    obtain ⟨n, hn⟩ : ∃ n, xs.length = n := ⟨_, rfl⟩
    have hv' := Lib.hid hv
    rw [hn] at hl hv' ⊢
    clear hv hn
    go_enter Try.func3, Try.ntmps3
    go_wp2_with fail
    refine (toIntS_any _ xs _ hv'.out hm).mono ?_
    rintro e w1 ⟨v1, rfl, ho1, hB1⟩
    go_wp2_with fail
    refine (specIsPolynomial_any _ xs _ ho1.ints hm).mono ?_
    rintro e w2 ⟨rfl, hB2⟩
    have hB02 := hB1.trans (hB2.mono hB1.size)
    go_wp2_with fail
    refine (toIntS_any _ xs _ (hv'.out.below hB02) hm).mono ?_
    rintro e w3 ⟨v3, rfl, ho3, hB3⟩
    have hB03 := hB02.trans (hB3.mono hB02.size)
    go_wp2_with fail
    refine (implIsPolynomial_any _ xs _ ho3.ints hm).mono ?_
    rintro e w4 ⟨rfl, hB4⟩
    have hB04 := hB03.trans (hB4.mono hB03.size)
    go_wp2_with fail
    refine (toIntS_any _ xs _ (hv'.out.below hB04) hm).mono ?_
    rintro e w5 ⟨v5, rfl, ho5, hB5⟩
    have hB05 := hB04.trans (hB5.mono hB04.size)
    go_wp2_with fail
    refine (eqIntS_same _ _ xs _ ((ho3.below hB4 (Nat.le_refl _)).below hB5 hB4.size).ints ho5.ints hm).mono ?_
    rintro e w6 ⟨rfl, hB6⟩
    go_wp2
    go_ret
    exact ⟨rfl, hB05.trans (hB6.mono hB05.size)⟩
  · clear H hv
    go_enter Try.func3, Try.ntmps3
    go_wp2
    go_ret
    exact ⟨rfl, Below.refl _ _⟩

open Go.ChangeShapes Go.WideShapes Go.ChangeAt in
set_option maxRecDepth 100000 in
theorem lawIsPolynomial_lifted (os : Os) (started : os.Started) (H : Type) (enc : TypeId × Value → H) :
    ReturnsInHanded {} Try.checked os 3 .any (Rows.fnExactIsPolynomialSpec.pre6 enc Try.prog Try.f3 Rows.fnExactIsPolynomialRow.domain false) (Rows.fnExactIsPolynomialSpec.post enc Try.prog Try.f3 false true false false) := by
  refine returnsInHanded_of_change (C := Try.checked) Try.own started (by kernel_rfl) Try.func3
    (ChangeSpec.witness6 (enc := enc) (C := Try.checked) false ⟨#[], #[.slice none 0 0], []⟩ 8 (by kernel_rfl) (by kernel_rfl) (by kernel_rfl) (by kernel_rfl)) ?_
  intro W base args ds gs before hval0 hW _ _
  have hval : ∀ (j : Nat) t v, Try.f3.params[j]? = some t → args[j]? = some v → Value.okWide Try.prog W .any base t v := hval0
  have hW' := hW
  obtain ⟨p, q, hA0, hV, rfl, _, _⟩ := hW
  have hA : DataW.TrodAll enc Try.prog W 0 (fun _ => true) true Try.f3.params.toList args.toList ds p := hA0
  have hA' := hA
  rw [Try.params3] at hA hval
  obtain ⟨v0, d0, rfl, rfl, h0⟩ := trodAll_one hA
  obtain ⟨rfl, rfl⟩ := trodVars_none hV
  obtain ⟨x0, hx0⟩ := open_intsV (hval 0 22 v0 rfl rfl) h0
  refine (lawIsPolynomial_any v0 x0 W hx0).mono fun e W' ⟨he, hB⟩ => ?_
  subst he
  exact law_post hW' rfl hA' (by rw [Try.params3]; decide +kernel) rfl rfl rfl rfl hB

theorem fnExactIsPolynomial_holds : Rows.FnExactIsPolynomialSaid :=
  OpenClaim.holds_of_wide 3 Try.f3 rfl rfl rfl rfl rfl rfl rfl ⟨rfl, rfl, rfl, rfl, rfl⟩ rfl rfl rfl rfl rfl (by kernel_rfl) Try.func3 (by kernel_rfl)
    (of_decide_eq_true (by kernel_rfl)) (by unfold Func.isWrapper; rw [if_neg (of_decide_eq_false (by kernel_rfl))]; exact ⟨rfl, rfl⟩)
    (fun os started H enc _ => lawIsPolynomial_lifted os started H enc)

#print axioms fnExactIsPolynomial_holds
end Go.Proofs.Ytlhakkkgfejhcaa

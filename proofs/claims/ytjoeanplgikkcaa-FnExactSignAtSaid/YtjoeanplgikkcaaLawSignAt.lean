/- FnExactSignAt: for every input the law returns true, and the arguments read as before. No conditions. -/
import Derived.Test.YtjoeanplgikkcaaSignAt
import Derived.Test.YtjoeanplgikkcaaLiftR
import Derived.Test.YtjoeanplgikkcaaInts
import Derived.Test.YtjoeanplgikkcaaLift
import Derived.Deep.RegionHeld3
namespace Go.Proofs.Ytjoeanplgikkcaa
open Go.RowKit

set_option maxHeartbeats 400000 in
theorem lawSignAt_over0 (ao0 : Option Addr) (n0 cap0 : Nat) (x1 : Int × Int) (w : World) (hl0 : ¬ n0 ≤ 1048576) :
    Calls Try.prog 11 #[.slice ao0 n0 cap0, .agg #[.int .i64 x1.1, .int .i64 x1.2]] w (Ret (.bool true) w) := by
  obtain ⟨w0, hw0⟩ : ∃ W, (w.alloc (.cells #[.int .i64 x1.1, .int .i64 x1.2] 60)) = W := ⟨_, rfl⟩
  have hb0 : Below w.heap.size w w0 := by rw [← hw0]; exact (Below.refl _ _).alloc (Nat.le_refl _) _
  have hz0 : w.heap.size + 1 ≤ w0.heap.size := by rw [← hw0]; simp
  have hx1_0 : w0.cell? ⟨w.heap.size, 0, none⟩ = some (.int .i64 x1.1) := by rw [← hw0]; simp [go_sem]
  have hx1_1 : w0.cell? ⟨w.heap.size, 1, none⟩ = some (.int .i64 x1.2) := by rw [← hw0]; simp [go_sem]
  have hw0' := Lib.hid hw0
  clear hw0
  go_enter Try.func11, Try.ntmps11
  go_wp2_with fail
  rw [hw0'.out]
  clear hw0'
  go_wp2
  go_ret
  exact ⟨rfl, hb0⟩

set_option maxHeartbeats 1600000 in
theorem lawSignAt_main (ao0 : Option Addr) (n0 cap0 : Nat) (x0 : List Int) (x1 : Int × Int) (w : World) (hv0 : Hid (IntsV w (.slice ao0 n0 cap0) x0)) (hn0 : Hid (x0.length = n0)) (hi1 : I64R x1) (hl0 : n0 ≤ 1048576) :
    Calls Try.prog 11 #[.slice ao0 n0 cap0, .agg #[.int .i64 x1.1, .int .i64 x1.2]] w (Ret (.bool true) w) := by
  have hm0 : szIntS x0 ≤ 1099511627776 := by show x0.length ≤ _; rw [hn0.out]; omega
  have hk0 := cntIntS_le x0
  obtain ⟨r, hr⟩ : ∃ r, SignAt_v x0 x1 = r := ⟨_, rfl⟩
  have hr := Lib.hid hr
  obtain ⟨w0, hw0⟩ : ∃ W, (w.alloc (.cells #[.int .i64 x1.1, .int .i64 x1.2] 60)) = W := ⟨_, rfl⟩
  have hb0 : Below w.heap.size w w0 := by rw [← hw0]; exact (Below.refl _ _).alloc (Nat.le_refl _) _
  have hz0 : w.heap.size + 1 ≤ w0.heap.size := by rw [← hw0]; simp
  have hx1_0 : w0.cell? ⟨w.heap.size, 0, none⟩ = some (.int .i64 x1.1) := by rw [← hw0]; simp [go_sem]
  have hx1_1 : w0.cell? ⟨w.heap.size, 1, none⟩ = some (.int .i64 x1.2) := by rw [← hw0]; simp [go_sem]
  have hw0' := Lib.hid hw0
  clear hw0
  go_enter Try.func11, Try.ntmps11
  go_wp2_with fail
  rw [hw0'.out]
  clear hw0'
  have hb0d : Below w.heap.size w w0.drew := hb0.drew
  go_region_held3 (fun w' => w'.cell? ⟨w.heap.size, 0, none⟩ = some (.int .i64 x1.1) ∧ w'.cell? ⟨w.heap.size, 1, none⟩ = some (.int .i64 x1.2))
    (first | exact ⟨hx1_0, hx1_1⟩ | exact ⟨hx1_0_r1, hx1_1_r1⟩ | exact ⟨hx1_0_r2, hx1_1_r2⟩ | exact ⟨hx1_0_r3, hx1_1_r3⟩)
    (first
      | (go_at_call 47
         refine (toIntS_any _ x0 _ (hv0.out.below hb0d) hm0).mono ?_
         rintro e w1 ⟨c1, rfl, hc1d, hB1d⟩
         have hc1 : Own w1 w0.heap.size w1.heap.size c1 x0 := hc1d
         have hB1 : Below w0.heap.size w0 w1 := ⟨hB1d.os, hB1d.tape, hB1d.output, hB1d.size, hB1d.block⟩
         have hs1 : w0.heap.size ≤ w1.heap.size := hB1.size
         have hb1 := hb0.trans (hB1.mono hb0.size)
         have hx1_0_r1 := (hB1.cell (p := ⟨w.heap.size, 0, none⟩) (by show w.heap.size < w0.heap.size; omega)).trans hx1_0
         have hx1_1_r1 := (hB1.cell (p := ⟨w.heap.size, 1, none⟩) (by show w.heap.size < w0.heap.size; omega)).trans hx1_1)
      | (go_at_call 51
         refine (toRat_any x1 _).mono ?_
         rintro e w2 ⟨rfl, hB2⟩
         have hs2 : w1.heap.size ≤ w2.heap.size := hB2.size
         have hb2 := hb1.trans (hB2.mono hb1.size)
         have hc1_r2 := hc1.below hB2 (by omega)
         have hx1_0_r2 := (hB2.cell (p := ⟨w.heap.size, 0, none⟩) (by show w.heap.size < w1.heap.size; omega)).trans hx1_0_r1
         have hx1_1_r2 := (hB2.cell (p := ⟨w.heap.size, 1, none⟩) (by show w.heap.size < w1.heap.size; omega)).trans hx1_1_r1)
      | (go_at_call 50
         refine (specSignAt_any c1 x0 x1 _ hc1_r2.read hm0 hi1).mono ?_
         rw [hr.out]
         rintro e w3 ⟨rfl, hB3⟩
         have hs3 : w2.heap.size ≤ w3.heap.size := hB3.size
         have hb3 := hb2.trans (hB3.mono hb2.size)
         have hc1_r3 := hc1_r2.below hB3 (by omega)
         have hx1_0_r3 := (hB3.cell (p := ⟨w.heap.size, 0, none⟩) (by show w.heap.size < w2.heap.size; omega)).trans hx1_0_r2
         have hx1_1_r3 := (hB3.cell (p := ⟨w.heap.size, 1, none⟩) (by show w.heap.size < w2.heap.size; omega)).trans hx1_1_r2))
  clear hx1_0; have hx1_0 := hx1_0_r3
  clear hx1_1; have hx1_1 := hx1_1_r3
  clear hc1; have hc1 := hc1_r3
  clear hB1
  clear hB2
  clear hB3
  go_wp2_with fail
  refine (toIntS_any _ x0 _ (hv0.out.below hb3) hm0).mono ?_
  rintro e w4 ⟨c4, rfl, hc4, hB4⟩
  have hs4 := hB4.size
  have hb4 := hb3.trans (hB4.mono hb3.size)
  clear hb3
  replace hc1 := hc1.below hB4 (by omega)
  replace hx1_0 := (hB4.cell (p := ⟨w.heap.size, 0, none⟩) (by show w.heap.size < _; omega)).trans hx1_0
  replace hx1_1 := (hB4.cell (p := ⟨w.heap.size, 1, none⟩) (by show w.heap.size < _; omega)).trans hx1_1
  clear hB4
  go_wp2_with fail
  refine (toRat_any x1 _).mono ?_
  rintro e w5 ⟨rfl, hB5⟩
  have hs5 := hB5.size
  have hb5 := hb4.trans (hB5.mono hb4.size)
  clear hb4
  replace hc1 := hc1.below hB5 (by omega)
  replace hc4 := hc4.below hB5 (by omega)
  replace hx1_0 := (hB5.cell (p := ⟨w.heap.size, 0, none⟩) (by show w.heap.size < _; omega)).trans hx1_0
  replace hx1_1 := (hB5.cell (p := ⟨w.heap.size, 1, none⟩) (by show w.heap.size < _; omega)).trans hx1_1
  clear hB5
  go_wp2_with fail
  refine (implSignAt_any c4 x0 x1 _ hc4.read hm0 hi1).mono ?_
  rw [hr.out]
  rintro e w6 ⟨rfl, hB6⟩
  have hs6 := hB6.size
  have hb6 := hb5.trans (hB6.mono hb5.size)
  clear hb5
  replace hc1 := hc1.below hB6 (by omega)
  replace hc4 := hc4.below hB6 (by omega)
  replace hx1_0 := (hB6.cell (p := ⟨w.heap.size, 0, none⟩) (by show w.heap.size < _; omega)).trans hx1_0
  replace hx1_1 := (hB6.cell (p := ⟨w.heap.size, 1, none⟩) (by show w.heap.size < _; omega)).trans hx1_1
  clear hB6
  go_wp2_with fail
  refine (toIntS_any _ x0 _ (hv0.out.below hb6) hm0).mono ?_
  rintro e w7 ⟨c7, rfl, hc7, hB7⟩
  have hs7 := hB7.size
  have hb7 := hb6.trans (hB7.mono hb6.size)
  clear hb6
  replace hc1 := hc1.below hB7 (by omega)
  replace hc4 := hc4.below hB7 (by omega)
  replace hx1_0 := (hB7.cell (p := ⟨w.heap.size, 0, none⟩) (by show w.heap.size < _; omega)).trans hx1_0
  replace hx1_1 := (hB7.cell (p := ⟨w.heap.size, 1, none⟩) (by show w.heap.size < _; omega)).trans hx1_1
  clear hB7
  go_wp2_with fail
  refine (eqIntS_same _ _ x0 _ hc4.read hc7.read hm0).mono ?_
  rintro e w8 ⟨rfl, hB8⟩
  clear hc7
  have hs8 := hB8.size
  have hb8 := hb7.trans (hB8.mono hb7.size)
  clear hb7
  replace hc1 := hc1.below hB8 (by omega)
  replace hc4 := hc4.below hB8 (by omega)
  replace hx1_0 := (hB8.cell (p := ⟨w.heap.size, 0, none⟩) (by show w.heap.size < _; omega)).trans hx1_0
  replace hx1_1 := (hB8.cell (p := ⟨w.heap.size, 1, none⟩) (by show w.heap.size < _; omega)).trans hx1_1
  clear hB8
  go_wp2
  go_ret
  exact ⟨rfl, hb8⟩

theorem lawSignAt_any (a0 : Value) (x0 : List Int) (x1 : Int × Int) (w : World) (hv0 : IntsV w a0 x0) (hi1 : I64R x1) :
    Calls Try.prog 11 #[a0, .agg #[.int .i64 x1.1, .int .i64 x1.2]] w (Ret (.bool true) w) := by
  obtain ⟨ao0, cap0, rfl, -, -, -⟩ := id hv0
  by_cases hl0 : x0.length ≤ 1048576
  rotate_left
  · exact lawSignAt_over0 _ _ _ x1 w hl0
  exact lawSignAt_main _ _ _ x0 x1 w (Lib.hid hv0) (Lib.hid rfl) hi1 hl0

open Go.ChangeShapes Go.WideShapes Go.ChangeAt in
set_option maxRecDepth 100000 in
theorem lawSignAt_lifted (os : Os) (started : os.Started) (H : Type) (enc : TypeId × Value → H) :
    ReturnsInHanded {} Try.checked os 11 .any (Rows.fnExactSignAtSpec.pre6 enc Try.prog Try.f11 Rows.fnExactSignAtRow.domain false) (Rows.fnExactSignAtSpec.post enc Try.prog Try.f11 false true false false) := by
  refine returnsInHanded_of_change (C := Try.checked) Try.own started (by kernel_rfl) Try.func11
    (ChangeSpec.witness6 (enc := enc) (C := Try.checked) false ⟨#[], #[.slice none 0 0, .agg #[.int .i64 0, .int .i64 0]], []⟩ 8 (by kernel_rfl) (by kernel_rfl) (by kernel_rfl) (by kernel_rfl)) ?_
  intro W base args ds gs before hval0 hW _ _
  have hval : ∀ (j : Nat) t v, Try.f11.params[j]? = some t → args[j]? = some v → Value.okWide Try.prog W .any base t v := hval0
  have hW' := hW
  obtain ⟨p, q, hA0, hV, rfl, _, _⟩ := hW
  have hA : DataW.TrodAll enc Try.prog W 0 (fun _ => true) true Try.f11.params.toList args.toList ds p := hA0
  have hA' := hA
  rw [Try.params11] at hA hval
  obtain ⟨v0, v1, d0, d1, p0, p1, rfl, rfl, rfl, h0, h1⟩ := trodAll_two hA
  obtain ⟨rfl, rfl⟩ := trodVars_none hV
  obtain ⟨x0, hx0⟩ := open_intsV (hval 0 29 v0 rfl rfl) h0
  obtain ⟨x1, rfl, hx1⟩ := open_ratX (hval 1 60 v1 rfl rfl) h1
  refine (lawSignAt_any v0 x0 x1 W hx0 hx1).mono fun e W' ⟨he, hB⟩ => ?_
  subst he
  exact law_post hW' rfl hA' (by rw [Try.params11]; decide +kernel) rfl rfl rfl rfl hB

theorem fnExactSignAt_holds : Rows.FnExactSignAtSaid :=
  OpenClaim.holds_of_wide 11 Try.f11 rfl rfl rfl rfl rfl rfl rfl ⟨rfl, rfl, rfl, rfl, rfl⟩ rfl rfl rfl rfl rfl (by kernel_rfl) Try.func11 (by kernel_rfl)
    (of_decide_eq_true (by kernel_rfl)) (by unfold Func.isWrapper; rw [if_neg (of_decide_eq_false (by kernel_rfl))]; exact ⟨rfl, rfl⟩)
    (fun os started H enc _ => lawSignAt_lifted os started H enc)

#print axioms fnExactSignAt_holds
end Go.Proofs.Ytjoeanplgikkcaa

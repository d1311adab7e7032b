/- FnExactRunsThrough: for every input the law returns true, and the arguments read as before. No conditions. -/
import Derived.Test.YtfcanpebagpdbaaRunsThrough
import Derived.Test.YtfcanpebagpdbaaLiftQ
import Derived.Test.YtfcanpebagpdbaaLiftR
import Derived.Test.YtfcanpebagpdbaaInts
import Derived.Test.YtfcanpebagpdbaaLift
import Derived.Deep.RegionHeld3
namespace Go.Proofs.Ytfcanpebagpdbaa
open Go.RowKit

set_option maxHeartbeats 400000 in
theorem lawRunsThrough_over0 (a0 : Value) (x0 : List ((Int × Int) × (Int × Int))) (a1 : Value) (x2 : Int × Int) (w : World) (hv0 : Hid (QuadV w a0 x0)) (hl0 : ¬ szPointS x0 ≤ 1048576) :
    Calls Try.prog 3 #[a0, a1, .agg #[.int .i64 x2.1, .int .i64 x2.2]] w (Ret (.bool true) w) := by
  obtain ⟨w0, hw0⟩ : ∃ W, (w.alloc (.cells #[.int .i64 x2.1, .int .i64 x2.2] 25)) = W := ⟨_, rfl⟩
  have hb0 : Below w.heap.size w w0 := by rw [← hw0]; exact (Below.refl _ _).alloc (Nat.le_refl _) _
  have hz0 : w.heap.size + 1 ≤ w0.heap.size := by rw [← hw0]; simp
  have hx2_0 : w0.cell? ⟨w.heap.size, 0, none⟩ = some (.int .i64 x2.1) := by rw [← hw0]; simp [go_sem]
  have hx2_1 : w0.cell? ⟨w.heap.size, 1, none⟩ = some (.int .i64 x2.2) := by rw [← hw0]; simp [go_sem]
  have hw0' := Lib.hid hw0
  clear hw0
  go_enter Try.func3, Try.ntmps3
  go_wp2_with fail
  rw [hw0'.out]
  clear hw0'
  refine (szPointS_over a0 x0 (1048576) _ (hv0.out.below hb0) (by omega) (by omega)).mono ?_
  rintro e w_ ⟨rfl, rfl⟩
  go_wp2
  go_ret
  exact ⟨rfl, hb0⟩

set_option maxHeartbeats 400000 in
theorem lawRunsThrough_over1 (a0 : Value) (x0 : List ((Int × Int) × (Int × Int))) (a1 : Value) (x1 : List ((Int × Int) × (Int × Int))) (x2 : Int × Int) (w : World) (hv0 : Hid (QuadV w a0 x0)) (hv1 : Hid (QuadV w a1 x1)) (hl0 : szPointS x0 ≤ 1048576) (hl1 : ¬ szPointS x0 + szIntervalS x1 ≤ 1048576) :
    Calls Try.prog 3 #[a0, a1, .agg #[.int .i64 x2.1, .int .i64 x2.2]] w (Ret (.bool true) w) := by
  obtain ⟨w0, hw0⟩ : ∃ W, (w.alloc (.cells #[.int .i64 x2.1, .int .i64 x2.2] 25)) = W := ⟨_, rfl⟩
  have hb0 : Below w.heap.size w w0 := by rw [← hw0]; exact (Below.refl _ _).alloc (Nat.le_refl _) _
  have hz0 : w.heap.size + 1 ≤ w0.heap.size := by rw [← hw0]; simp
  have hx2_0 : w0.cell? ⟨w.heap.size, 0, none⟩ = some (.int .i64 x2.1) := by rw [← hw0]; simp [go_sem]
  have hx2_1 : w0.cell? ⟨w.heap.size, 1, none⟩ = some (.int .i64 x2.2) := by rw [← hw0]; simp [go_sem]
  have hw0' := Lib.hid hw0
  clear hw0
  go_enter Try.func3, Try.ntmps3
  go_wp2_with fail
  rw [hw0'.out]
  clear hw0'
  refine (szPointS_fits a0 x0 (1048576) _ (hv0.out.below hb0) (by omega) (by omega)).mono ?_
  rintro e w_ ⟨rfl, rfl⟩
  go_wp2_with fail
  refine (szIntervalS_over a1 x1 (1048576 - ((szPointS x0 : Nat) : Int)) _ (hv1.out.below hb0) (by omega) (by omega)).mono ?_
  rintro e w_ ⟨rfl, rfl⟩
  go_wp2
  go_ret
  exact ⟨rfl, hb0⟩

set_option maxHeartbeats 1600000 in
theorem lawRunsThrough_main (a0 : Value) (x0 : List ((Int × Int) × (Int × Int))) (a1 : Value) (x1 : List ((Int × Int) × (Int × Int))) (x2 : Int × Int) (w : World) (hv0 : Hid (QuadV w a0 x0)) (hv1 : Hid (QuadV w a1 x1)) (hi2 : I64R x2) (hl0 : szPointS x0 ≤ 1048576) (hl1 : szPointS x0 + szIntervalS x1 ≤ 1048576) :
    Calls Try.prog 3 #[a0, a1, .agg #[.int .i64 x2.1, .int .i64 x2.2]] w (Ret (.bool true) w) := by
  have hm0 : szPointS x0 ≤ 1099511627776 := by omega
  have hk0 := cntPointS_le x0
  have hm1 : szIntervalS x1 ≤ 1099511627776 := by omega
  have hk1 := cntIntervalS_le x1
  obtain ⟨r, hr⟩ : ∃ r, RunsThrough_v x0 x1 x2 = r := ⟨_, rfl⟩
  have hr := Lib.hid hr
  obtain ⟨w0, hw0⟩ : ∃ W, (w.alloc (.cells #[.int .i64 x2.1, .int .i64 x2.2] 25)) = W := ⟨_, rfl⟩
  have hb0 : Below w.heap.size w w0 := by rw [← hw0]; exact (Below.refl _ _).alloc (Nat.le_refl _) _
  have hz0 : w.heap.size + 1 ≤ w0.heap.size := by rw [← hw0]; simp
  have hx2_0 : w0.cell? ⟨w.heap.size, 0, none⟩ = some (.int .i64 x2.1) := by rw [← hw0]; simp [go_sem]
  have hx2_1 : w0.cell? ⟨w.heap.size, 1, none⟩ = some (.int .i64 x2.2) := by rw [← hw0]; simp [go_sem]
  have hw0' := Lib.hid hw0
  clear hw0
  go_enter Try.func3, Try.ntmps3
  go_wp2_with fail
  rw [hw0'.out]
  clear hw0'
  refine (szPointS_fits a0 x0 (1048576) _ (hv0.out.below hb0) (by omega) (by omega)).mono ?_
  rintro e w_ ⟨rfl, rfl⟩
  go_wp2_with fail
  refine (szIntervalS_fits a1 x1 (1048576 - ((szPointS x0 : Nat) : Int)) _ (hv1.out.below hb0) (by omega) (by omega)).mono ?_
  rintro e w_ ⟨rfl, rfl⟩
  go_wp2_with fail
  have hb0d : Below w.heap.size w w0.drew := hb0.drew
  go_region_held3 (fun w' => w'.cell? ⟨w.heap.size, 0, none⟩ = some (.int .i64 x2.1) ∧ w'.cell? ⟨w.heap.size, 1, none⟩ = some (.int .i64 x2.2))
    (first | exact ⟨hx2_0, hx2_1⟩ | exact ⟨hx2_0_r1, hx2_1_r1⟩ | exact ⟨hx2_0_r2, hx2_1_r2⟩ | exact ⟨hx2_0_r3, hx2_1_r3⟩ | exact ⟨hx2_0_r4, hx2_1_r4⟩)
    (first
      | (go_at_call 16
         refine (toPointS_any _ x0 _ (hv0.out.below hb0d) hm0).mono ?_
         rintro e w1 ⟨c1, rfl, hc1d, hB1d⟩
         have hc1 : OwnP w1 w0.heap.size w1.heap.size c1 x0 := hc1d
         have hB1 : Below w0.heap.size w0 w1 := ⟨hB1d.os, hB1d.tape, hB1d.output, hB1d.size, hB1d.block⟩
         have hs1 : w0.heap.size ≤ w1.heap.size := hB1.size
         have hb1 := hb0.trans (hB1.mono hb0.size)
         have hx2_0_r1 := (hB1.cell (p := ⟨w.heap.size, 0, none⟩) (by show w.heap.size < w0.heap.size; omega)).trans hx2_0
         have hx2_1_r1 := (hB1.cell (p := ⟨w.heap.size, 1, none⟩) (by show w.heap.size < w0.heap.size; omega)).trans hx2_1)
      | (go_at_call 17
         refine (toIntervalS_any _ x1 _ (hv1.out.below hb1) hm1).mono ?_
         rintro e w2 ⟨c2, rfl, hc2, hB2⟩
         have hs2 : w1.heap.size ≤ w2.heap.size := hB2.size
         have hb2 := hb1.trans (hB2.mono hb1.size)
         have hc1_r2 := hc1.below hB2 (by omega)
         have hx2_0_r2 := (hB2.cell (p := ⟨w.heap.size, 0, none⟩) (by show w.heap.size < w1.heap.size; omega)).trans hx2_0_r1
         have hx2_1_r2 := (hB2.cell (p := ⟨w.heap.size, 1, none⟩) (by show w.heap.size < w1.heap.size; omega)).trans hx2_1_r1)
      | (go_at_call 18
         refine (toRat_any x2 _).mono ?_
         rintro e w3 ⟨rfl, hB3⟩
         have hs3 : w2.heap.size ≤ w3.heap.size := hB3.size
         have hb3 := hb2.trans (hB3.mono hb2.size)
         have hc1_r3 := hc1_r2.below hB3 (by omega)
         have hc2_r3 := hc2.below hB3 (by omega)
         have hx2_0_r3 := (hB3.cell (p := ⟨w.heap.size, 0, none⟩) (by show w.heap.size < w2.heap.size; omega)).trans hx2_0_r2
         have hx2_1_r3 := (hB3.cell (p := ⟨w.heap.size, 1, none⟩) (by show w.heap.size < w2.heap.size; omega)).trans hx2_1_r2)
      | (go_at_call 15
         refine (specRunsThrough_any c1 x0 c2 x1 x2 _ hc1_r3.read hm0 hc2_r3.read hm1 hi2).mono ?_
         rw [hr.out]
         rintro e w4 ⟨rfl, hB4⟩
         have hs4 : w3.heap.size ≤ w4.heap.size := hB4.size
         have hb4 := hb3.trans (hB4.mono hb3.size)
         have hc1_r4 := hc1_r3.below hB4 (by omega)
         have hc2_r4 := hc2_r3.below hB4 (by omega)
         have hx2_0_r4 := (hB4.cell (p := ⟨w.heap.size, 0, none⟩) (by show w.heap.size < w3.heap.size; omega)).trans hx2_0_r3
         have hx2_1_r4 := (hB4.cell (p := ⟨w.heap.size, 1, none⟩) (by show w.heap.size < w3.heap.size; omega)).trans hx2_1_r3))
  clear hx2_0; have hx2_0 := hx2_0_r4
  clear hx2_1; have hx2_1 := hx2_1_r4
  clear hc1; have hc1 := hc1_r4
  clear hc2; have hc2 := hc2_r4
  clear hB1
  clear hB2
  clear hB3
  clear hB4
  go_wp2_with fail
  refine (toPointS_any _ x0 _ (hv0.out.below hb4) hm0).mono ?_
  rintro e w5 ⟨c5, rfl, hc5, hB5⟩
  have hs5 := hB5.size
  have hb5 := hb4.trans (hB5.mono hb4.size)
  clear hb4
  replace hc1 := hc1.below hB5 (by omega)
  replace hc2 := hc2.below hB5 (by omega)
  replace hx2_0 := (hB5.cell (p := ⟨w.heap.size, 0, none⟩) (by show w.heap.size < _; omega)).trans hx2_0
  replace hx2_1 := (hB5.cell (p := ⟨w.heap.size, 1, none⟩) (by show w.heap.size < _; omega)).trans hx2_1
  clear hB5
  go_wp2_with fail
  refine (toIntervalS_any _ x1 _ (hv1.out.below hb5) hm1).mono ?_
  rintro e w6 ⟨c6, rfl, hc6, hB6⟩
  have hs6 := hB6.size
  have hb6 := hb5.trans (hB6.mono hb5.size)
  clear hb5
  replace hc1 := hc1.below hB6 (by omega)
  replace hc2 := hc2.below hB6 (by omega)
  replace hc5 := hc5.below hB6 (by omega)
  replace hx2_0 := (hB6.cell (p := ⟨w.heap.size, 0, none⟩) (by show w.heap.size < _; omega)).trans hx2_0
  replace hx2_1 := (hB6.cell (p := ⟨w.heap.size, 1, none⟩) (by show w.heap.size < _; omega)).trans hx2_1
  clear hB6
  go_wp2_with fail
  refine (toRat_any x2 _).mono ?_
  rintro e w7 ⟨rfl, hB7⟩
  have hs7 := hB7.size
  have hb7 := hb6.trans (hB7.mono hb6.size)
  clear hb6
  replace hc1 := hc1.below hB7 (by omega)
  replace hc2 := hc2.below hB7 (by omega)
  replace hc5 := hc5.below hB7 (by omega)
  replace hc6 := hc6.below hB7 (by omega)
  replace hx2_0 := (hB7.cell (p := ⟨w.heap.size, 0, none⟩) (by show w.heap.size < _; omega)).trans hx2_0
  replace hx2_1 := (hB7.cell (p := ⟨w.heap.size, 1, none⟩) (by show w.heap.size < _; omega)).trans hx2_1
  clear hB7
  go_wp2_with fail
  refine (implRunsThrough_any c5 x0 c6 x1 x2 _ hc5.read hm0 hc6.read hm1 hi2).mono ?_
  rw [hr.out]
  rintro e w8 ⟨rfl, hB8⟩
  have hs8 := hB8.size
  have hb8 := hb7.trans (hB8.mono hb7.size)
  clear hb7
  replace hc1 := hc1.below hB8 (by omega)
  replace hc2 := hc2.below hB8 (by omega)
  replace hc5 := hc5.below hB8 (by omega)
  replace hc6 := hc6.below hB8 (by omega)
  replace hx2_0 := (hB8.cell (p := ⟨w.heap.size, 0, none⟩) (by show w.heap.size < _; omega)).trans hx2_0
  replace hx2_1 := (hB8.cell (p := ⟨w.heap.size, 1, none⟩) (by show w.heap.size < _; omega)).trans hx2_1
  clear hB8
  go_wp2_with fail
  refine (toPointS_any _ x0 _ (hv0.out.below hb8) hm0).mono ?_
  rintro e w9 ⟨c9, rfl, hc9, hB9⟩
  have hs9 := hB9.size
  have hb9 := hb8.trans (hB9.mono hb8.size)
  clear hb8
  replace hc1 := hc1.below hB9 (by omega)
  replace hc2 := hc2.below hB9 (by omega)
  replace hc5 := hc5.below hB9 (by omega)
  replace hc6 := hc6.below hB9 (by omega)
  replace hx2_0 := (hB9.cell (p := ⟨w.heap.size, 0, none⟩) (by show w.heap.size < _; omega)).trans hx2_0
  replace hx2_1 := (hB9.cell (p := ⟨w.heap.size, 1, none⟩) (by show w.heap.size < _; omega)).trans hx2_1
  clear hB9
  go_wp2_with fail
  refine (eqPointS_same _ _ x0 _ hc5.read hc9.read hm0).mono ?_
  rintro e w10 ⟨rfl, hB10⟩
  clear hc9
  have hs10 := hB10.size
  have hb10 := hb9.trans (hB10.mono hb9.size)
  clear hb9
  replace hc1 := hc1.below hB10 (by omega)
  replace hc2 := hc2.below hB10 (by omega)
  replace hc5 := hc5.below hB10 (by omega)
  replace hc6 := hc6.below hB10 (by omega)
  replace hx2_0 := (hB10.cell (p := ⟨w.heap.size, 0, none⟩) (by show w.heap.size < _; omega)).trans hx2_0
  replace hx2_1 := (hB10.cell (p := ⟨w.heap.size, 1, none⟩) (by show w.heap.size < _; omega)).trans hx2_1
  clear hB10
  go_wp2_with fail
  refine (toIntervalS_any _ x1 _ (hv1.out.below hb10) hm1).mono ?_
  rintro e w11 ⟨c11, rfl, hc11, hB11⟩
  have hs11 := hB11.size
  have hb11 := hb10.trans (hB11.mono hb10.size)
  clear hb10
  replace hc1 := hc1.below hB11 (by omega)
  replace hc2 := hc2.below hB11 (by omega)
  replace hc5 := hc5.below hB11 (by omega)
  replace hc6 := hc6.below hB11 (by omega)
  replace hx2_0 := (hB11.cell (p := ⟨w.heap.size, 0, none⟩) (by show w.heap.size < _; omega)).trans hx2_0
  replace hx2_1 := (hB11.cell (p := ⟨w.heap.size, 1, none⟩) (by show w.heap.size < _; omega)).trans hx2_1
  clear hB11
  go_wp2_with fail
  refine (eqIntervalS_same _ _ x1 _ hc6.read hc11.read hm1).mono ?_
  rintro e w12 ⟨rfl, hB12⟩
  clear hc11
  have hs12 := hB12.size
  have hb12 := hb11.trans (hB12.mono hb11.size)
  clear hb11
  replace hc1 := hc1.below hB12 (by omega)
  replace hc2 := hc2.below hB12 (by omega)
  replace hc5 := hc5.below hB12 (by omega)
  replace hc6 := hc6.below hB12 (by omega)
  replace hx2_0 := (hB12.cell (p := ⟨w.heap.size, 0, none⟩) (by show w.heap.size < _; omega)).trans hx2_0
  replace hx2_1 := (hB12.cell (p := ⟨w.heap.size, 1, none⟩) (by show w.heap.size < _; omega)).trans hx2_1
  clear hB12
  go_wp2
  go_ret
  exact ⟨rfl, hb12⟩

theorem lawRunsThrough_any (a0 : Value) (x0 : List ((Int × Int) × (Int × Int))) (a1 : Value) (x1 : List ((Int × Int) × (Int × Int))) (x2 : Int × Int) (w : World) (hv0 : QuadV w a0 x0) (hv1 : QuadV w a1 x1) (hi2 : I64R x2) :
    Calls Try.prog 3 #[a0, a1, .agg #[.int .i64 x2.1, .int .i64 x2.2]] w (Ret (.bool true) w) := by
  by_cases hl0 : szPointS x0 ≤ 1048576
  rotate_left
  · exact lawRunsThrough_over0 _ x0 _ x2 w (Lib.hid hv0) hl0
  by_cases hl1 : szPointS x0 + szIntervalS x1 ≤ 1048576
  rotate_left
  · exact lawRunsThrough_over1 _ x0 _ x1 x2 w (Lib.hid hv0) (Lib.hid hv1) hl0 hl1
  exact lawRunsThrough_main _ x0 _ x1 x2 w (Lib.hid hv0) (Lib.hid hv1) hi2 hl0 hl1

open Go.ChangeShapes Go.WideShapes Go.ChangeAt in
set_option maxRecDepth 100000 in
theorem lawRunsThrough_lifted (os : Os) (started : os.Started) (H : Type) (enc : TypeId × Value → H) :
    ReturnsInHanded {} Try.checked os 3 .any (Rows.fnExactRunsThroughSpec.pre6 enc Try.prog Try.f3 Rows.fnExactRunsThroughRow.domain false) (Rows.fnExactRunsThroughSpec.post enc Try.prog Try.f3 false true false false) := by
  refine returnsInHanded_of_change (C := Try.checked) Try.own started (by kernel_rfl) Try.func3
    (ChangeSpec.witness6 (enc := enc) (C := Try.checked) false ⟨#[], #[.slice none 0 0, .slice none 0 0, .agg #[.int .i64 0, .int .i64 0]], []⟩ 8 (by kernel_rfl) (by kernel_rfl) (by kernel_rfl) (by kernel_rfl)) ?_
  intro W base args ds gs before hval0 hW _ _
  have hval : ∀ (j : Nat) t v, Try.f3.params[j]? = some t → args[j]? = some v → Value.okWide Try.prog W .any base t v := hval0
  have hW' := hW
  obtain ⟨p, q, hA0, hV, rfl, _, _⟩ := hW
  have hA : DataW.TrodAll enc Try.prog W 0 (fun _ => true) true Try.f3.params.toList args.toList ds p := hA0
  have hA' := hA
  rw [Try.params3] at hA hval
  obtain ⟨v0, v1, v2, d0, d1, d2, p0, p1, p2, rfl, rfl, rfl, h0, h1, h2⟩ := trodAll_three hA
  obtain ⟨rfl, rfl⟩ := trodVars_none hV
  obtain ⟨x0, hx0⟩ := open_ptsV (hval 0 22 v0 rfl rfl) h0
  obtain ⟨x1, hx1⟩ := open_ivsV (hval 1 23 v1 rfl rfl) h1
  obtain ⟨x2, rfl, hx2⟩ := open_ratX (hval 2 25 v2 rfl rfl) h2
  refine (lawRunsThrough_any v0 x0 v1 x1 x2 W hx0 hx1 hx2).mono fun e W' ⟨he, hB⟩ => ?_
  subst he
  exact law_post hW' rfl hA' (by rw [Try.params3]; decide +kernel) rfl rfl rfl rfl hB

theorem fnExactRunsThrough_holds : Rows.FnExactRunsThroughSaid :=
  OpenClaim.holds_of_wide 3 Try.f3 rfl rfl rfl rfl rfl rfl rfl ⟨rfl, rfl, rfl, rfl, rfl⟩ rfl rfl rfl rfl rfl (by kernel_rfl) Try.func3 (by kernel_rfl)
    (of_decide_eq_true (by kernel_rfl)) (by unfold Func.isWrapper; rw [if_neg (of_decide_eq_false (by kernel_rfl))]; exact ⟨rfl, rfl⟩)
    (fun os started H enc _ => lawRunsThrough_lifted os started H enc)

#print axioms fnExactRunsThrough_holds
end Go.Proofs.Ytfcanpebagpdbaa

/- FnExactStatesOf: for every input the law returns true, and the arguments read as before. No conditions. -/
import Derived.Test.YtjoeanplgikkcaaStatesOf
import Derived.Test.YtjoeanplgikkcaaLiftRs
import Derived.Test.YtjoeanplgikkcaaInts
import Derived.Test.YtjoeanplgikkcaaLift
import Derived.Deep.RegionHeld3
namespace Go.Proofs.Ytjoeanplgikkcaa
open Go.RowKit

set_option maxHeartbeats 400000 in
theorem lawStatesOf_over0 (a0 : Value) (x0 : List (Int × Int)) (x1 : Int × Int) (w : World) (hv0 : Hid (RatsV w a0 x0)) (hl0 : ¬ szRatS x0 ≤ 1048576) :
    Calls Try.prog 13 #[a0, .agg #[.int .i64 x1.1, .int .i64 x1.2]] w (Ret (.bool true) w) := by
  obtain ⟨w0, hw0⟩ : ∃ W, (w.alloc (.cells #[.int .i64 x1.1, .int .i64 x1.2] 60)) = W := ⟨_, rfl⟩
  have hb0 : Below w.heap.size w w0 := by rw [← hw0]; exact (Below.refl _ _).alloc (Nat.le_refl _) _
  have hz0 : w.heap.size + 1 ≤ w0.heap.size := by rw [← hw0]; simp
  have hx1_0 : w0.cell? ⟨w.heap.size, 0, none⟩ = some (.int .i64 x1.1) := by rw [← hw0]; simp [go_sem]
  have hx1_1 : w0.cell? ⟨w.heap.size, 1, none⟩ = some (.int .i64 x1.2) := by rw [← hw0]; simp [go_sem]
  have hw0' := Lib.hid hw0
  clear hw0
  go_enter Try.func13, Try.ntmps13
  go_wp2_with fail
  rw [hw0'.out]
  clear hw0'
  refine (szRatS_over a0 x0 (1048576) _ (hv0.out.below hb0) (by omega) (by omega)).mono ?_
  rintro e w_ ⟨rfl, rfl⟩
  go_wp2
  go_ret
  exact ⟨rfl, hb0⟩

set_option maxHeartbeats 1600000 in
theorem lawStatesOf_main (a0 : Value) (x0 : List (Int × Int)) (x1 : Int × Int) (w : World) (hv0 : Hid (RatsV w a0 x0)) (hi1 : I64R x1) (hl0 : szRatS x0 ≤ 1048576) :
    Calls Try.prog 13 #[a0, .agg #[.int .i64 x1.1, .int .i64 x1.2]] w (Ret (.bool true) w) := by
  have hm0 : szRatS x0 ≤ 1099511627776 := by omega
  have hk0 := cntRatS_le x0
  have hlen := StatesOf_len x0 x1
  obtain ⟨r, hr⟩ : ∃ r, StatesOf_v x0 x1 = r := ⟨_, rfl⟩
  rw [hr] at hlen
  have hl_0 : szIntS (r.1) ≤ 1099511627776 := hlen
  have hkr0 := cntIntS_le (r.1)
  have hr := Lib.hid hr
  obtain ⟨w0, hw0⟩ : ∃ W, (w.alloc (.cells #[.int .i64 x1.1, .int .i64 x1.2] 60)) = W := ⟨_, rfl⟩
  have hb0 : Below w.heap.size w w0 := by rw [← hw0]; exact (Below.refl _ _).alloc (Nat.le_refl _) _
  have hz0 : w.heap.size + 1 ≤ w0.heap.size := by rw [← hw0]; simp
  have hx1_0 : w0.cell? ⟨w.heap.size, 0, none⟩ = some (.int .i64 x1.1) := by rw [← hw0]; simp [go_sem]
  have hx1_1 : w0.cell? ⟨w.heap.size, 1, none⟩ = some (.int .i64 x1.2) := by rw [← hw0]; simp [go_sem]
  have hw0' := Lib.hid hw0
  clear hw0
  go_enter Try.func13, Try.ntmps13
  go_wp2_with fail
  rw [hw0'.out]
  clear hw0'
  refine (szRatS_fits a0 x0 (1048576) _ (hv0.out.below hb0) (by omega) (by omega)).mono ?_
  rintro e w_ ⟨rfl, rfl⟩
  go_wp2_with fail
  have hb0d : Below w.heap.size w w0.drew := hb0.drew
  go_region_held3 (fun w' => w'.cell? ⟨w.heap.size, 0, none⟩ = some (.int .i64 x1.1) ∧ w'.cell? ⟨w.heap.size, 1, none⟩ = some (.int .i64 x1.2))
    (first | exact ⟨hx1_0, hx1_1⟩ | exact ⟨hx1_0_r1, hx1_1_r1⟩ | exact ⟨hx1_0_r2, hx1_1_r2⟩ | exact ⟨hx1_0_r3, hx1_1_r3⟩)
    (first
      | (go_at_call 55
         refine (toRatS_any _ x0 _ (hv0.out.below hb0d) hm0).mono ?_
         rintro e w1 ⟨c1, rfl, hc1d, hB1d⟩
         have hc1 : OwnR w1 w0.heap.size w1.heap.size c1 x0 := hc1d
         have hB1 : Below w0.heap.size w0 w1 := ⟨hB1d.os, hB1d.tape, hB1d.output, hB1d.size, hB1d.block⟩
         have hs1 : w0.heap.size ≤ w1.heap.size := hB1.size
         have hb1 := hb0.trans (hB1.mono hb0.size)
         have hx1_0_r1 := (hB1.cell (p := ⟨w.heap.size, 0, none⟩) (by show w.heap.size < w0.heap.size; omega)).trans hx1_0
         have hx1_1_r1 := (hB1.cell (p := ⟨w.heap.size, 1, none⟩) (by show w.heap.size < w0.heap.size; omega)).trans hx1_1)
      | (go_at_call 51
         refine (toRat_any x1 _).mono ?_
         rintro e w2 ⟨rfl, hB2⟩
         have hs2 : w1.heap.size ≤ w2.heap.size := hB2.size
         have hb2 := hb1.trans (hB2.mono hb1.size)
         have hc1_r2 := hc1.below hB2 (by omega)
         have hx1_0_r2 := (hB2.cell (p := ⟨w.heap.size, 0, none⟩) (by show w.heap.size < w1.heap.size; omega)).trans hx1_0_r1
         have hx1_1_r2 := (hB2.cell (p := ⟨w.heap.size, 1, none⟩) (by show w.heap.size < w1.heap.size; omega)).trans hx1_1_r1)
      | (go_at_call 58
         refine (specStatesOf_any c1 x0 x1 _ hc1_r2.read hm0 hi1).mono ?_
         rw [hr.out]
         rintro e w3 ⟨u0, rfl, hu0, hB3⟩
         have hs3 : w2.heap.size ≤ w3.heap.size := hB3.size
         have hb3 := hb2.trans (hB3.mono hb2.size)
         have hc1_r3 := hc1_r2.below hB3 (by omega)
         have hx1_0_r3 := (hB3.cell (p := ⟨w.heap.size, 0, none⟩) (by show w.heap.size < w2.heap.size; omega)).trans hx1_0_r2
         have hx1_1_r3 := (hB3.cell (p := ⟨w.heap.size, 1, none⟩) (by show w.heap.size < w2.heap.size; omega)).trans hx1_1_r2))
  clear hx1_0; have hx1_0 := hx1_0_r3
  clear hx1_1; have hx1_1 := hx1_1_r3
  clear hc1; have hc1 := hc1_r3
  clear hB1
  clear hB2
  clear hB3
  go_wp2_with fail
  refine (toRatS_any _ x0 _ (hv0.out.below hb3) hm0).mono ?_
  rintro e w4 ⟨c4, rfl, hc4, hB4⟩
  have hs4 := hB4.size
  have hb4 := hb3.trans (hB4.mono hb3.size)
  clear hb3
  replace hc1 := hc1.below hB4 (by omega)
  replace hu0 := hu0.below hB4 (by omega)
  replace hx1_0 := (hB4.cell (p := ⟨w.heap.size, 0, none⟩) (by show w.heap.size < _; omega)).trans hx1_0
  replace hx1_1 := (hB4.cell (p := ⟨w.heap.size, 1, none⟩) (by show w.heap.size < _; omega)).trans hx1_1
  clear hB4
  go_wp2_with fail
  refine (toRat_any x1 _).mono ?_
  rintro e w5 ⟨rfl, hB5⟩
  have hs5 := hB5.size
  have hb5 := hb4.trans (hB5.mono hb4.size)
  clear hb4
  replace hc1 := hc1.below hB5 (by omega)
  replace hu0 := hu0.below hB5 (by omega)
  replace hc4 := hc4.below hB5 (by omega)
  replace hx1_0 := (hB5.cell (p := ⟨w.heap.size, 0, none⟩) (by show w.heap.size < _; omega)).trans hx1_0
  replace hx1_1 := (hB5.cell (p := ⟨w.heap.size, 1, none⟩) (by show w.heap.size < _; omega)).trans hx1_1
  clear hB5
  go_wp2_with fail
  refine (implStatesOf_any c4 x0 x1 _ hc4.read hm0 hi1).mono ?_
  rw [hr.out]
  rintro e w6 ⟨g0, rfl, hg0, hB6⟩
  have hs6 := hB6.size
  have hb6 := hb5.trans (hB6.mono hb5.size)
  clear hb5
  replace hc1 := hc1.below hB6 (by omega)
  replace hu0 := hu0.below hB6 (by omega)
  replace hc4 := hc4.below hB6 (by omega)
  replace hx1_0 := (hB6.cell (p := ⟨w.heap.size, 0, none⟩) (by show w.heap.size < _; omega)).trans hx1_0
  replace hx1_1 := (hB6.cell (p := ⟨w.heap.size, 1, none⟩) (by show w.heap.size < _; omega)).trans hx1_1
  clear hB6
  go_wp2_with fail
  refine (eqIntS_same _ _ (r.1) _ hg0.read hu0.read hl_0).mono ?_
  rintro e w7 ⟨rfl, hB7⟩
  have hs7 := hB7.size
  have hb7 := hb6.trans (hB7.mono hb6.size)
  clear hb6
  replace hc1 := hc1.below hB7 (by omega)
  replace hu0 := hu0.below hB7 (by omega)
  replace hc4 := hc4.below hB7 (by omega)
  replace hg0 := hg0.below hB7 (by omega)
  replace hx1_0 := (hB7.cell (p := ⟨w.heap.size, 0, none⟩) (by show w.heap.size < _; omega)).trans hx1_0
  replace hx1_1 := (hB7.cell (p := ⟨w.heap.size, 1, none⟩) (by show w.heap.size < _; omega)).trans hx1_1
  clear hB7
  go_wp2_with fail
  refine (toRatS_any _ x0 _ (hv0.out.below hb7) hm0).mono ?_
  rintro e w8 ⟨c8, rfl, hc8, hB8⟩
  have hs8 := hB8.size
  have hb8 := hb7.trans (hB8.mono hb7.size)
  clear hb7
  replace hc1 := hc1.below hB8 (by omega)
  replace hu0 := hu0.below hB8 (by omega)
  replace hc4 := hc4.below hB8 (by omega)
  replace hg0 := hg0.below hB8 (by omega)
  replace hx1_0 := (hB8.cell (p := ⟨w.heap.size, 0, none⟩) (by show w.heap.size < _; omega)).trans hx1_0
  replace hx1_1 := (hB8.cell (p := ⟨w.heap.size, 1, none⟩) (by show w.heap.size < _; omega)).trans hx1_1
  clear hB8
  go_wp2_with fail
  refine (eqRatS_same _ _ x0 _ hc4.read hc8.read hm0).mono ?_
  rintro e w9 ⟨rfl, hB9⟩
  clear hc8
  have hs9 := hB9.size
  have hb9 := hb8.trans (hB9.mono hb8.size)
  clear hb8
  replace hc1 := hc1.below hB9 (by omega)
  replace hu0 := hu0.below hB9 (by omega)
  replace hc4 := hc4.below hB9 (by omega)
  replace hg0 := hg0.below hB9 (by omega)
  replace hx1_0 := (hB9.cell (p := ⟨w.heap.size, 0, none⟩) (by show w.heap.size < _; omega)).trans hx1_0
  replace hx1_1 := (hB9.cell (p := ⟨w.heap.size, 1, none⟩) (by show w.heap.size < _; omega)).trans hx1_1
  clear hB9
  go_wp2_with fail
  refine (markRatS_any _ x0 (1) _ _ w3.heap.size w4.heap.size hc4 hm0 (by omega) (by omega)).mono ?_
  rintro e w10 ⟨rfl, hm_, hT10⟩
  have hs10 := Nat.le_of_eq hT10.size.symm
  have hb10 := hb9.trans (hT10.below.mono (by omega))
  clear hb9
  replace hc1 := hc1.turned hT10 (by omega)
  replace hu0 := hu0.turned hT10 (by omega)
  replace hg0 := hg0.turned hT10 (by omega)
  replace hx1_0 := (hT10.below.cell (p := ⟨w.heap.size, 0, none⟩) (by show w.heap.size < _; omega)).trans hx1_0
  replace hx1_1 := (hT10.below.cell (p := ⟨w.heap.size, 1, none⟩) (by show w.heap.size < _; omega)).trans hx1_1
  clear hT10 hc4
  clear hm_
  go_wp2_with fail
  refine (eqIntS_same _ _ (r.1) _ hg0.read hu0.read hl_0).mono ?_
  rintro e w11 ⟨rfl, hB11⟩
  have hs11 := hB11.size
  have hb11 := hb10.trans (hB11.mono hb10.size)
  clear hb10
  replace hc1 := hc1.below hB11 (by omega)
  replace hu0 := hu0.below hB11 (by omega)
  replace hg0 := hg0.below hB11 (by omega)
  replace hx1_0 := (hB11.cell (p := ⟨w.heap.size, 0, none⟩) (by show w.heap.size < _; omega)).trans hx1_0
  replace hx1_1 := (hB11.cell (p := ⟨w.heap.size, 1, none⟩) (by show w.heap.size < _; omega)).trans hx1_1
  clear hB11
  go_wp2_with fail
  refine (markIntS_any _ (r.1) (1) _ _ w5.heap.size w6.heap.size hg0 hl_0 (by omega) (by omega)).mono ?_
  rintro e w12 ⟨rfl, hm_, hT12⟩
  have hs12 := Nat.le_of_eq hT12.size.symm
  have hb12 := hb11.trans (hT12.below.mono (by omega))
  clear hb11
  replace hc1 := hc1.turned hT12 (by omega)
  replace hu0 := hu0.turned hT12 (by omega)
  replace hx1_0 := (hT12.below.cell (p := ⟨w.heap.size, 0, none⟩) (by show w.heap.size < _; omega)).trans hx1_0
  replace hx1_1 := (hT12.below.cell (p := ⟨w.heap.size, 1, none⟩) (by show w.heap.size < _; omega)).trans hx1_1
  clear hT12 hg0
  have hg0 := hm_
  clear hm_
  go_wp2_with fail
  refine (heldIntS_any _ (r.1) (1) _ _ hg0.read hl_0 (by omega) (by omega)).mono ?_
  rintro e w13 ⟨rfl, hB13⟩
  have hs13 := hB13.size
  have hb13 := hb12.trans (hB13.mono hb12.size)
  clear hb12
  replace hc1 := hc1.below hB13 (by omega)
  replace hu0 := hu0.below hB13 (by omega)
  replace hg0 := hg0.below hB13 (by omega)
  replace hx1_0 := (hB13.cell (p := ⟨w.heap.size, 0, none⟩) (by show w.heap.size < _; omega)).trans hx1_0
  replace hx1_1 := (hB13.cell (p := ⟨w.heap.size, 1, none⟩) (by show w.heap.size < _; omega)).trans hx1_1
  clear hB13
  go_wp2_with fail
  have hb13d : Below w.heap.size w w13.drew := hb13.drew
  go_region_held3 (fun w' => w'.cell? ⟨w.heap.size, 0, none⟩ = some (.int .i64 x1.1) ∧ w'.cell? ⟨w.heap.size, 1, none⟩ = some (.int .i64 x1.2))
    (first | exact ⟨hx1_0, hx1_1⟩ | exact ⟨hx1_0_r14, hx1_1_r14⟩ | exact ⟨hx1_0_r15, hx1_1_r15⟩ | exact ⟨hx1_0_r16, hx1_1_r16⟩)
    (first
      | (go_at_call 55
         refine (toRatS_any _ x0 _ (hv0.out.below hb13d) hm0).mono ?_
         rintro e w14 ⟨c14, rfl, hc14d, hB14d⟩
         have hc14 : OwnR w14 w13.heap.size w14.heap.size c14 x0 := hc14d
         have hB14 : Below w13.heap.size w13 w14 := ⟨hB14d.os, hB14d.tape, hB14d.output, hB14d.size, hB14d.block⟩
         have hs14 : w13.heap.size ≤ w14.heap.size := hB14.size
         have hb14 := hb13.trans (hB14.mono hb13.size)
         have hc1_r14 := hc1.below hB14 (by omega)
         have hu0_r14 := hu0.below hB14 (by omega)
         have hg0_r14 := hg0.below hB14 (by omega)
         have hx1_0_r14 := (hB14.cell (p := ⟨w.heap.size, 0, none⟩) (by show w.heap.size < w13.heap.size; omega)).trans hx1_0
         have hx1_1_r14 := (hB14.cell (p := ⟨w.heap.size, 1, none⟩) (by show w.heap.size < w13.heap.size; omega)).trans hx1_1)
      | (go_at_call 51
         refine (toRat_any x1 _).mono ?_
         rintro e w15 ⟨rfl, hB15⟩
         have hs15 : w14.heap.size ≤ w15.heap.size := hB15.size
         have hb15 := hb14.trans (hB15.mono hb14.size)
         have hc1_r15 := hc1_r14.below hB15 (by omega)
         have hu0_r15 := hu0_r14.below hB15 (by omega)
         have hg0_r15 := hg0_r14.below hB15 (by omega)
         have hc14_r15 := hc14.below hB15 (by omega)
         have hx1_0_r15 := (hB15.cell (p := ⟨w.heap.size, 0, none⟩) (by show w.heap.size < w14.heap.size; omega)).trans hx1_0_r14
         have hx1_1_r15 := (hB15.cell (p := ⟨w.heap.size, 1, none⟩) (by show w.heap.size < w14.heap.size; omega)).trans hx1_1_r14)
      | (go_at_call 59
         refine (implStatesOf_any c14 x0 x1 _ hc14_r15.read hm0 hi1).mono ?_
         rw [hr.out]
         rintro e w16 ⟨h_0, rfl, hh_0, hB16⟩
         have hs16 : w15.heap.size ≤ w16.heap.size := hB16.size
         have hb16 := hb15.trans (hB16.mono hb15.size)
         have hc1_r16 := hc1_r15.below hB16 (by omega)
         have hu0_r16 := hu0_r15.below hB16 (by omega)
         have hg0_r16 := hg0_r15.below hB16 (by omega)
         have hc14_r16 := hc14_r15.below hB16 (by omega)
         have hx1_0_r16 := (hB16.cell (p := ⟨w.heap.size, 0, none⟩) (by show w.heap.size < w15.heap.size; omega)).trans hx1_0_r15
         have hx1_1_r16 := (hB16.cell (p := ⟨w.heap.size, 1, none⟩) (by show w.heap.size < w15.heap.size; omega)).trans hx1_1_r15))
  clear hx1_0; have hx1_0 := hx1_0_r16
  clear hx1_1; have hx1_1 := hx1_1_r16
  clear hc1; have hc1 := hc1_r16
  clear hu0; have hu0 := hu0_r16
  clear hg0; have hg0 := hg0_r16
  clear hc14; have hc14 := hc14_r16
  clear hB14
  clear hB15
  clear hB16
  go_wp2_with fail
  refine (eqIntS_same _ _ (r.1) _ hh_0.read hu0.read hl_0).mono ?_
  rintro e w17 ⟨rfl, hB17⟩
  have hs17 := hB17.size
  have hb17 := hb16.trans (hB17.mono hb16.size)
  clear hb16
  replace hc1 := hc1.below hB17 (by omega)
  replace hu0 := hu0.below hB17 (by omega)
  replace hg0 := hg0.below hB17 (by omega)
  replace hc14 := hc14.below hB17 (by omega)
  replace hh_0 := hh_0.below hB17 (by omega)
  replace hx1_0 := (hB17.cell (p := ⟨w.heap.size, 0, none⟩) (by show w.heap.size < _; omega)).trans hx1_0
  replace hx1_1 := (hB17.cell (p := ⟨w.heap.size, 1, none⟩) (by show w.heap.size < _; omega)).trans hx1_1
  clear hB17
  go_wp2_with fail
  refine (heldIntS_any _ (r.1) (1) _ _ hg0.read hl_0 (by omega) (by omega)).mono ?_
  rintro e w18 ⟨rfl, hB18⟩
  have hs18 := hB18.size
  have hb18 := hb17.trans (hB18.mono hb17.size)
  clear hb17
  replace hc1 := hc1.below hB18 (by omega)
  replace hu0 := hu0.below hB18 (by omega)
  replace hg0 := hg0.below hB18 (by omega)
  replace hc14 := hc14.below hB18 (by omega)
  replace hh_0 := hh_0.below hB18 (by omega)
  replace hx1_0 := (hB18.cell (p := ⟨w.heap.size, 0, none⟩) (by show w.heap.size < _; omega)).trans hx1_0
  replace hx1_1 := (hB18.cell (p := ⟨w.heap.size, 1, none⟩) (by show w.heap.size < _; omega)).trans hx1_1
  clear hB18
  go_wp2
  go_ret
  exact ⟨rfl, hb18⟩

theorem lawStatesOf_any (a0 : Value) (x0 : List (Int × Int)) (x1 : Int × Int) (w : World) (hv0 : RatsV w a0 x0) (hi1 : I64R x1) :
    Calls Try.prog 13 #[a0, .agg #[.int .i64 x1.1, .int .i64 x1.2]] w (Ret (.bool true) w) := by
  by_cases hl0 : szRatS x0 ≤ 1048576
  rotate_left
  · exact lawStatesOf_over0 _ x0 x1 w (Lib.hid hv0) hl0
  exact lawStatesOf_main _ x0 x1 w (Lib.hid hv0) hi1 hl0

open Go.ChangeShapes Go.WideShapes Go.ChangeAt in
set_option maxRecDepth 100000 in
theorem lawStatesOf_lifted (os : Os) (started : os.Started) (H : Type) (enc : TypeId × Value → H) :
    ReturnsInHanded {} Try.checked os 13 .any (Rows.fnExactStatesOfSpec.pre6 enc Try.prog Try.f13 Rows.fnExactStatesOfRow.domain false) (Rows.fnExactStatesOfSpec.post enc Try.prog Try.f13 false true false false) := by
  refine returnsInHanded_of_change (C := Try.checked) Try.own started (by kernel_rfl) Try.func13
    (ChangeSpec.witness6 (enc := enc) (C := Try.checked) false ⟨#[], #[.slice none 0 0, .agg #[.int .i64 0, .int .i64 0]], []⟩ 8 (by kernel_rfl) (by kernel_rfl) (by kernel_rfl) (by kernel_rfl)) ?_
  intro W base args ds gs before hval0 hW _ _
  have hval : ∀ (j : Nat) t v, Try.f13.params[j]? = some t → args[j]? = some v → Value.okWide Try.prog W .any base t v := hval0
  have hW' := hW
  obtain ⟨p, q, hA0, hV, rfl, _, _⟩ := hW
  have hA : DataW.TrodAll enc Try.prog W 0 (fun _ => true) true Try.f13.params.toList args.toList ds p := hA0
  have hA' := hA
  rw [Try.params13] at hA hval
  obtain ⟨v0, v1, d0, d1, p0, p1, rfl, rfl, rfl, h0, h1⟩ := trodAll_two hA
  obtain ⟨rfl, rfl⟩ := trodVars_none hV
  obtain ⟨x0, hx0⟩ := open_ratsV (hval 0 64 v0 rfl rfl) h0
  obtain ⟨x1, rfl, hx1⟩ := open_ratX (hval 1 60 v1 rfl rfl) h1
  refine (lawStatesOf_any v0 x0 x1 W hx0 hx1).mono fun e W' ⟨he, hB⟩ => ?_
  subst he
  exact law_post hW' rfl hA' (by rw [Try.params13]; decide +kernel) rfl rfl rfl rfl hB

theorem fnExactStatesOf_holds : Rows.FnExactStatesOfSaid :=
  OpenClaim.holds_of_wide 13 Try.f13 rfl rfl rfl rfl rfl rfl rfl ⟨rfl, rfl, rfl, rfl, rfl⟩ rfl rfl rfl rfl rfl (by kernel_rfl) Try.func13 (by kernel_rfl)
    (of_decide_eq_true (by kernel_rfl)) (by unfold Func.isWrapper; rw [if_neg (of_decide_eq_false (by kernel_rfl))]; exact ⟨rfl, rfl⟩)
    (fun os started H enc _ => lawStatesOf_lifted os started H enc)

#print axioms fnExactStatesOf_holds
end Go.Proofs.Ytjoeanplgikkcaa

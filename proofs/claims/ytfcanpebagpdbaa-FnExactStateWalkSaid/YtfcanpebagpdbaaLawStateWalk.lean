/- FnExactStateWalk: for every input the law returns true, and the arguments read as before. No conditions. -/
import Derived.Test.YtfcanpebagpdbaaStateWalk
import Derived.Test.YtfcanpebagpdbaaLiftQ
import Derived.Test.YtfcanpebagpdbaaLiftR
import Derived.Test.YtfcanpebagpdbaaLiftRs
import Derived.Test.YtfcanpebagpdbaaMarkQ
import Derived.Test.YtfcanpebagpdbaaInts
import Derived.Test.YtfcanpebagpdbaaLift
import Derived.Deep.RegionHeld3
namespace Go.Proofs.Ytfcanpebagpdbaa
open Go.RowKit

set_option maxHeartbeats 400000 in
theorem lawStateWalk_over0 (a0 : Value) (x0 : List ((Int × Int) × (Int × Int))) (a1 : Value) (x2 : Int × Int) (x3 : Int) (w : World) (hv0 : Hid (QuadV w a0 x0)) (hl0 : ¬ szPointS x0 ≤ 1048576) :
    Calls Try.prog 5 #[a0, a1, .agg #[.int .i64 x2.1, .int .i64 x2.2], .int .i64 x3] w (Ret (.bool true) w) := by
  obtain ⟨w0, hw0⟩ : ∃ W, (w.alloc (.cells #[.int .i64 x2.1, .int .i64 x2.2] 25)) = W := ⟨_, rfl⟩
  have hb0 : Below w.heap.size w w0 := by rw [← hw0]; exact (Below.refl _ _).alloc (Nat.le_refl _) _
  have hz0 : w.heap.size + 1 ≤ w0.heap.size := by rw [← hw0]; simp
  have hx2_0 : w0.cell? ⟨w.heap.size, 0, none⟩ = some (.int .i64 x2.1) := by rw [← hw0]; simp [go_sem]
  have hx2_1 : w0.cell? ⟨w.heap.size, 1, none⟩ = some (.int .i64 x2.2) := by rw [← hw0]; simp [go_sem]
  have hw0' := Lib.hid hw0
  clear hw0
  go_enter Try.func5, Try.ntmps5
  go_wp2_with fail
  rw [hw0'.out]
  clear hw0'
  refine (szPointS_over a0 x0 (1048576) _ (hv0.out.below hb0) (by omega) (by omega)).mono ?_
  rintro e w_ ⟨rfl, rfl⟩
  go_wp2
  go_ret
  exact ⟨rfl, hb0⟩

set_option maxHeartbeats 400000 in
theorem lawStateWalk_over1 (a0 : Value) (x0 : List ((Int × Int) × (Int × Int))) (a1 : Value) (x1 : List (Int × Int)) (x2 : Int × Int) (x3 : Int) (w : World) (hv0 : Hid (QuadV w a0 x0)) (hv1 : Hid (RatsV w a1 x1)) (hl0 : szPointS x0 ≤ 1048576) (hl1 : ¬ szPointS x0 + szRatS x1 ≤ 1048576) :
    Calls Try.prog 5 #[a0, a1, .agg #[.int .i64 x2.1, .int .i64 x2.2], .int .i64 x3] w (Ret (.bool true) w) := by
  obtain ⟨w0, hw0⟩ : ∃ W, (w.alloc (.cells #[.int .i64 x2.1, .int .i64 x2.2] 25)) = W := ⟨_, rfl⟩
  have hb0 : Below w.heap.size w w0 := by rw [← hw0]; exact (Below.refl _ _).alloc (Nat.le_refl _) _
  have hz0 : w.heap.size + 1 ≤ w0.heap.size := by rw [← hw0]; simp
  have hx2_0 : w0.cell? ⟨w.heap.size, 0, none⟩ = some (.int .i64 x2.1) := by rw [← hw0]; simp [go_sem]
  have hx2_1 : w0.cell? ⟨w.heap.size, 1, none⟩ = some (.int .i64 x2.2) := by rw [← hw0]; simp [go_sem]
  have hw0' := Lib.hid hw0
  clear hw0
  go_enter Try.func5, Try.ntmps5
  go_wp2_with fail
  rw [hw0'.out]
  clear hw0'
  refine (szPointS_fits a0 x0 (1048576) _ (hv0.out.below hb0) (by omega) (by omega)).mono ?_
  rintro e w_ ⟨rfl, rfl⟩
  go_wp2_with fail
  refine (szRatS_over a1 x1 (1048576 - ((szPointS x0 : Nat) : Int)) _ (hv1.out.below hb0) (by omega) (by omega)).mono ?_
  rintro e w_ ⟨rfl, rfl⟩
  go_wp2
  go_ret
  exact ⟨rfl, hb0⟩

set_option maxHeartbeats 1600000 in
theorem lawStateWalk_main (a0 : Value) (x0 : List ((Int × Int) × (Int × Int))) (a1 : Value) (x1 : List (Int × Int)) (x2 : Int × Int) (x3 : Int) (w : World) (hv0 : Hid (QuadV w a0 x0)) (hv1 : Hid (RatsV w a1 x1)) (hi2 : I64R x2) (hi3 : I64 x3) (hl0 : szPointS x0 ≤ 1048576) (hl1 : szPointS x0 + szRatS x1 ≤ 1048576) :
    Calls Try.prog 5 #[a0, a1, .agg #[.int .i64 x2.1, .int .i64 x2.2], .int .i64 x3] w (Ret (.bool true) w) := by
  have hm0 : szPointS x0 ≤ 1099511627776 := by omega
  have hk0 := cntPointS_le x0
  have hm1 : szRatS x1 ≤ 1099511627776 := by omega
  have hk1 := cntRatS_le x1
  have hlen := StateWalk_len x0 x1 x2 x3
  obtain ⟨r, hr⟩ : ∃ r, StateWalk_v x0 x1 x2 x3 = r := ⟨_, rfl⟩
  rw [hr] at hlen
  have hl_0 : szIntS (r.1) ≤ 1099511627776 := hlen
  have hkr0 := cntIntS_le (r.1)
  have hr := Lib.hid hr
  obtain ⟨w0, hw0⟩ : ∃ W, (w.alloc (.cells #[.int .i64 x2.1, .int .i64 x2.2] 25)) = W := ⟨_, rfl⟩
  have hb0 : Below w.heap.size w w0 := by rw [← hw0]; exact (Below.refl _ _).alloc (Nat.le_refl _) _
  have hz0 : w.heap.size + 1 ≤ w0.heap.size := by rw [← hw0]; simp
  have hx2_0 : w0.cell? ⟨w.heap.size, 0, none⟩ = some (.int .i64 x2.1) := by rw [← hw0]; simp [go_sem]
  have hx2_1 : w0.cell? ⟨w.heap.size, 1, none⟩ = some (.int .i64 x2.2) := by rw [← hw0]; simp [go_sem]
  have hw0' := Lib.hid hw0
  clear hw0
  go_enter Try.func5, Try.ntmps5
  go_wp2_with fail
  rw [hw0'.out]
  clear hw0'
  refine (szPointS_fits a0 x0 (1048576) _ (hv0.out.below hb0) (by omega) (by omega)).mono ?_
  rintro e w_ ⟨rfl, rfl⟩
  go_wp2_with fail
  refine (szRatS_fits a1 x1 (1048576 - ((szPointS x0 : Nat) : Int)) _ (hv1.out.below hb0) (by omega) (by omega)).mono ?_
  rintro e w_ ⟨rfl, rfl⟩
  go_wp2_with fail
  have hb0d : Below w.heap.size w w0.drew := hb0.drew
  go_region_held3 (fun w' => w'.cell? ⟨w.heap.size, 0, none⟩ = some (.int .i64 x2.1) ∧ w'.cell? ⟨w.heap.size, 1, none⟩ = some (.int .i64 x2.2))
    (first | exact ⟨hx2_0, hx2_1⟩ | exact ⟨hx2_0_r1, hx2_1_r1⟩ | exact ⟨hx2_0_r2, hx2_1_r2⟩ | exact ⟨hx2_0_r3, hx2_1_r3⟩ | exact ⟨hx2_0_r4, hx2_1_r4⟩)
    (first
      | (go_at_call 16
         refine (toPointS_any _ x0 _ (hv0.out.below hb0d) hm0).mono ?_
         rintro e w1 ⟨c1, rfl, hc1d, hB1d⟩
         have hc1 : OwnP w1 w0.heap.size w1.heap.size c1 x0 := hc1d
         have hB1 : Below w0.heap.size w0 w1 := ⟨hB1d.os, hB1d.tape, hB1d.output, hB1d.size, hB1d.block⟩
         have hs1 : w0.heap.size ≤ w1.heap.size := hB1.size
         have hb1 := hb0.trans (hB1.mono hb0.size)
         have hx2_0_r1 := (hB1.cell (p := ⟨w.heap.size, 0, none⟩) (by show w.heap.size < w0.heap.size; omega)).trans hx2_0
         have hx2_1_r1 := (hB1.cell (p := ⟨w.heap.size, 1, none⟩) (by show w.heap.size < w0.heap.size; omega)).trans hx2_1)
      | (go_at_call 27
         refine (toRatS_any _ x1 _ (hv1.out.below hb1) hm1).mono ?_
         rintro e w2 ⟨c2, rfl, hc2, hB2⟩
         have hs2 : w1.heap.size ≤ w2.heap.size := hB2.size
         have hb2 := hb1.trans (hB2.mono hb1.size)
         have hc1_r2 := hc1.below hB2 (by omega)
         have hx2_0_r2 := (hB2.cell (p := ⟨w.heap.size, 0, none⟩) (by show w.heap.size < w1.heap.size; omega)).trans hx2_0_r1
         have hx2_1_r2 := (hB2.cell (p := ⟨w.heap.size, 1, none⟩) (by show w.heap.size < w1.heap.size; omega)).trans hx2_1_r1)
      | (go_at_call 18
         refine (toRat_any x2 _).mono ?_
         rintro e w3 ⟨rfl, hB3⟩
         have hs3 : w2.heap.size ≤ w3.heap.size := hB3.size
         have hb3 := hb2.trans (hB3.mono hb2.size)
         have hc1_r3 := hc1_r2.below hB3 (by omega)
         have hc2_r3 := hc2.below hB3 (by omega)
         have hx2_0_r3 := (hB3.cell (p := ⟨w.heap.size, 0, none⟩) (by show w.heap.size < w2.heap.size; omega)).trans hx2_0_r2
         have hx2_1_r3 := (hB3.cell (p := ⟨w.heap.size, 1, none⟩) (by show w.heap.size < w2.heap.size; omega)).trans hx2_1_r2)
      | (go_at_call 26
         refine (specStateWalk_any c1 x0 c2 x1 x2 x3 _ hc1_r3.read hm0 hc2_r3.read hm1 hi2 hi3).mono ?_
         rw [hr.out]
         rintro e w4 ⟨u0, rfl, hu0, hB4⟩
         have hs4 : w3.heap.size ≤ w4.heap.size := hB4.size
         have hb4 := hb3.trans (hB4.mono hb3.size)
         have hc1_r4 := hc1_r3.below hB4 (by omega)
         have hc2_r4 := hc2_r3.below hB4 (by omega)
         have hx2_0_r4 := (hB4.cell (p := ⟨w.heap.size, 0, none⟩) (by show w.heap.size < w3.heap.size; omega)).trans hx2_0_r3
         have hx2_1_r4 := (hB4.cell (p := ⟨w.heap.size, 1, none⟩) (by show w.heap.size < w3.heap.size; omega)).trans hx2_1_r3))
  clear hx2_0; have hx2_0 := hx2_0_r4
  clear hx2_1; have hx2_1 := hx2_1_r4
  clear hc1; have hc1 := hc1_r4
  clear hc2; have hc2 := hc2_r4
  clear hB1
  clear hB2
  clear hB3
  clear hB4
  go_wp2_with fail
  refine (toPointS_any _ x0 _ (hv0.out.below hb4) hm0).mono ?_
  rintro e w5 ⟨c5, rfl, hc5, hB5⟩
  have hs5 := hB5.size
  have hb5 := hb4.trans (hB5.mono hb4.size)
  clear hb4
  replace hc1 := hc1.below hB5 (by omega)
  replace hc2 := hc2.below hB5 (by omega)
  replace hu0 := hu0.below hB5 (by omega)
  replace hx2_0 := (hB5.cell (p := ⟨w.heap.size, 0, none⟩) (by show w.heap.size < _; omega)).trans hx2_0
  replace hx2_1 := (hB5.cell (p := ⟨w.heap.size, 1, none⟩) (by show w.heap.size < _; omega)).trans hx2_1
  clear hB5
  go_wp2_with fail
  refine (toRatS_any _ x1 _ (hv1.out.below hb5) hm1).mono ?_
  rintro e w6 ⟨c6, rfl, hc6, hB6⟩
  have hs6 := hB6.size
  have hb6 := hb5.trans (hB6.mono hb5.size)
  clear hb5
  replace hc1 := hc1.below hB6 (by omega)
  replace hc2 := hc2.below hB6 (by omega)
  replace hu0 := hu0.below hB6 (by omega)
  replace hc5 := hc5.below hB6 (by omega)
  replace hx2_0 := (hB6.cell (p := ⟨w.heap.size, 0, none⟩) (by show w.heap.size < _; omega)).trans hx2_0
  replace hx2_1 := (hB6.cell (p := ⟨w.heap.size, 1, none⟩) (by show w.heap.size < _; omega)).trans hx2_1
  clear hB6
  go_wp2_with fail
  refine (toRat_any x2 _).mono ?_
  rintro e w7 ⟨rfl, hB7⟩
  have hs7 := hB7.size
  have hb7 := hb6.trans (hB7.mono hb6.size)
  clear hb6
  replace hc1 := hc1.below hB7 (by omega)
  replace hc2 := hc2.below hB7 (by omega)
  replace hu0 := hu0.below hB7 (by omega)
  replace hc5 := hc5.below hB7 (by omega)
  replace hc6 := hc6.below hB7 (by omega)
  replace hx2_0 := (hB7.cell (p := ⟨w.heap.size, 0, none⟩) (by show w.heap.size < _; omega)).trans hx2_0
  replace hx2_1 := (hB7.cell (p := ⟨w.heap.size, 1, none⟩) (by show w.heap.size < _; omega)).trans hx2_1
  clear hB7
  go_wp2_with fail
  refine (implStateWalk_any c5 x0 c6 x1 x2 x3 _ hc5.read hm0 hc6.read hm1 hi2 hi3).mono ?_
  rw [hr.out]
  rintro e w8 ⟨g0, rfl, hg0, hB8⟩
  have hs8 := hB8.size
  have hb8 := hb7.trans (hB8.mono hb7.size)
  clear hb7
  replace hc1 := hc1.below hB8 (by omega)
  replace hc2 := hc2.below hB8 (by omega)
  replace hu0 := hu0.below hB8 (by omega)
  replace hc5 := hc5.below hB8 (by omega)
  replace hc6 := hc6.below hB8 (by omega)
  replace hx2_0 := (hB8.cell (p := ⟨w.heap.size, 0, none⟩) (by show w.heap.size < _; omega)).trans hx2_0
  replace hx2_1 := (hB8.cell (p := ⟨w.heap.size, 1, none⟩) (by show w.heap.size < _; omega)).trans hx2_1
  clear hB8
  go_wp2_with fail
  refine (eqIntS_same _ _ (r.1) _ hg0.read hu0.read hl_0).mono ?_
  rintro e w9 ⟨rfl, hB9⟩
  have hs9 := hB9.size
  have hb9 := hb8.trans (hB9.mono hb8.size)
  clear hb8
  replace hc1 := hc1.below hB9 (by omega)
  replace hc2 := hc2.below hB9 (by omega)
  replace hu0 := hu0.below hB9 (by omega)
  replace hc5 := hc5.below hB9 (by omega)
  replace hc6 := hc6.below hB9 (by omega)
  replace hg0 := hg0.below hB9 (by omega)
  replace hx2_0 := (hB9.cell (p := ⟨w.heap.size, 0, none⟩) (by show w.heap.size < _; omega)).trans hx2_0
  replace hx2_1 := (hB9.cell (p := ⟨w.heap.size, 1, none⟩) (by show w.heap.size < _; omega)).trans hx2_1
  clear hB9
  go_wp2_with fail
  refine (toPointS_any _ x0 _ (hv0.out.below hb9) hm0).mono ?_
  rintro e w10 ⟨c10, rfl, hc10, hB10⟩
  have hs10 := hB10.size
  have hb10 := hb9.trans (hB10.mono hb9.size)
  clear hb9
  replace hc1 := hc1.below hB10 (by omega)
  replace hc2 := hc2.below hB10 (by omega)
  replace hu0 := hu0.below hB10 (by omega)
  replace hc5 := hc5.below hB10 (by omega)
  replace hc6 := hc6.below hB10 (by omega)
  replace hg0 := hg0.below hB10 (by omega)
  replace hx2_0 := (hB10.cell (p := ⟨w.heap.size, 0, none⟩) (by show w.heap.size < _; omega)).trans hx2_0
  replace hx2_1 := (hB10.cell (p := ⟨w.heap.size, 1, none⟩) (by show w.heap.size < _; omega)).trans hx2_1
  clear hB10
  go_wp2_with fail
  refine (eqPointS_same _ _ x0 _ hc5.read hc10.read hm0).mono ?_
  rintro e w11 ⟨rfl, hB11⟩
  clear hc10
  have hs11 := hB11.size
  have hb11 := hb10.trans (hB11.mono hb10.size)
  clear hb10
  replace hc1 := hc1.below hB11 (by omega)
  replace hc2 := hc2.below hB11 (by omega)
  replace hu0 := hu0.below hB11 (by omega)
  replace hc5 := hc5.below hB11 (by omega)
  replace hc6 := hc6.below hB11 (by omega)
  replace hg0 := hg0.below hB11 (by omega)
  replace hx2_0 := (hB11.cell (p := ⟨w.heap.size, 0, none⟩) (by show w.heap.size < _; omega)).trans hx2_0
  replace hx2_1 := (hB11.cell (p := ⟨w.heap.size, 1, none⟩) (by show w.heap.size < _; omega)).trans hx2_1
  clear hB11
  go_wp2_with fail
  refine (toRatS_any _ x1 _ (hv1.out.below hb11) hm1).mono ?_
  rintro e w12 ⟨c12, rfl, hc12, hB12⟩
  have hs12 := hB12.size
  have hb12 := hb11.trans (hB12.mono hb11.size)
  clear hb11
  replace hc1 := hc1.below hB12 (by omega)
  replace hc2 := hc2.below hB12 (by omega)
  replace hu0 := hu0.below hB12 (by omega)
  replace hc5 := hc5.below hB12 (by omega)
  replace hc6 := hc6.below hB12 (by omega)
  replace hg0 := hg0.below hB12 (by omega)
  replace hx2_0 := (hB12.cell (p := ⟨w.heap.size, 0, none⟩) (by show w.heap.size < _; omega)).trans hx2_0
  replace hx2_1 := (hB12.cell (p := ⟨w.heap.size, 1, none⟩) (by show w.heap.size < _; omega)).trans hx2_1
  clear hB12
  go_wp2_with fail
  refine (eqRatS_same _ _ x1 _ hc6.read hc12.read hm1).mono ?_
  rintro e w13 ⟨rfl, hB13⟩
  clear hc12
  have hs13 := hB13.size
  have hb13 := hb12.trans (hB13.mono hb12.size)
  clear hb12
  replace hc1 := hc1.below hB13 (by omega)
  replace hc2 := hc2.below hB13 (by omega)
  replace hu0 := hu0.below hB13 (by omega)
  replace hc5 := hc5.below hB13 (by omega)
  replace hc6 := hc6.below hB13 (by omega)
  replace hg0 := hg0.below hB13 (by omega)
  replace hx2_0 := (hB13.cell (p := ⟨w.heap.size, 0, none⟩) (by show w.heap.size < _; omega)).trans hx2_0
  replace hx2_1 := (hB13.cell (p := ⟨w.heap.size, 1, none⟩) (by show w.heap.size < _; omega)).trans hx2_1
  clear hB13
  go_wp2_with fail
  refine (markPointS_any _ x0 (1) _ _ w4.heap.size w5.heap.size hc5 hm0 (by omega) (by omega)).mono ?_
  rintro e w14 ⟨rfl, hm_, hT14⟩
  have hs14 := Nat.le_of_eq hT14.size.symm
  have hb14 := hb13.trans (hT14.below.mono (by omega))
  clear hb13
  replace hc1 := hc1.turned hT14 (by omega)
  replace hc2 := hc2.turned hT14 (by omega)
  replace hu0 := hu0.turned hT14 (by omega)
  replace hc6 := hc6.turned hT14 (by omega)
  replace hg0 := hg0.turned hT14 (by omega)
  replace hx2_0 := (hT14.below.cell (p := ⟨w.heap.size, 0, none⟩) (by show w.heap.size < _; omega)).trans hx2_0
  replace hx2_1 := (hT14.below.cell (p := ⟨w.heap.size, 1, none⟩) (by show w.heap.size < _; omega)).trans hx2_1
  clear hT14 hc5
  clear hm_
  go_wp2_with fail
  refine (markRatS_any _ x1 (1 + cntPointS x0) _ _ w5.heap.size w6.heap.size hc6 hm1 (by omega) (by omega)).mono ?_
  rintro e w15 ⟨rfl, hm_, hT15⟩
  have hs15 := Nat.le_of_eq hT15.size.symm
  have hb15 := hb14.trans (hT15.below.mono (by omega))
  clear hb14
  replace hc1 := hc1.turned hT15 (by omega)
  replace hc2 := hc2.turned hT15 (by omega)
  replace hu0 := hu0.turned hT15 (by omega)
  replace hg0 := hg0.turned hT15 (by omega)
  replace hx2_0 := (hT15.below.cell (p := ⟨w.heap.size, 0, none⟩) (by show w.heap.size < _; omega)).trans hx2_0
  replace hx2_1 := (hT15.below.cell (p := ⟨w.heap.size, 1, none⟩) (by show w.heap.size < _; omega)).trans hx2_1
  clear hT15 hc6
  clear hm_
  go_wp2_with fail
  refine (eqIntS_same _ _ (r.1) _ hg0.read hu0.read hl_0).mono ?_
  rintro e w16 ⟨rfl, hB16⟩
  have hs16 := hB16.size
  have hb16 := hb15.trans (hB16.mono hb15.size)
  clear hb15
  replace hc1 := hc1.below hB16 (by omega)
  replace hc2 := hc2.below hB16 (by omega)
  replace hu0 := hu0.below hB16 (by omega)
  replace hg0 := hg0.below hB16 (by omega)
  replace hx2_0 := (hB16.cell (p := ⟨w.heap.size, 0, none⟩) (by show w.heap.size < _; omega)).trans hx2_0
  replace hx2_1 := (hB16.cell (p := ⟨w.heap.size, 1, none⟩) (by show w.heap.size < _; omega)).trans hx2_1
  clear hB16
  go_wp2_with fail
  refine (markIntS_any _ (r.1) (1) _ _ w7.heap.size w8.heap.size hg0 hl_0 (by omega) (by omega)).mono ?_
  rintro e w17 ⟨rfl, hm_, hT17⟩
  have hs17 := Nat.le_of_eq hT17.size.symm
  have hb17 := hb16.trans (hT17.below.mono (by omega))
  clear hb16
  replace hc1 := hc1.turned hT17 (by omega)
  replace hc2 := hc2.turned hT17 (by omega)
  replace hu0 := hu0.turned hT17 (by omega)
  replace hx2_0 := (hT17.below.cell (p := ⟨w.heap.size, 0, none⟩) (by show w.heap.size < _; omega)).trans hx2_0
  replace hx2_1 := (hT17.below.cell (p := ⟨w.heap.size, 1, none⟩) (by show w.heap.size < _; omega)).trans hx2_1
  clear hT17 hg0
  have hg0 := hm_
  clear hm_
  go_wp2_with fail
  refine (heldIntS_any _ (r.1) (1) _ _ hg0.read hl_0 (by omega) (by omega)).mono ?_
  rintro e w18 ⟨rfl, hB18⟩
  have hs18 := hB18.size
  have hb18 := hb17.trans (hB18.mono hb17.size)
  clear hb17
  replace hc1 := hc1.below hB18 (by omega)
  replace hc2 := hc2.below hB18 (by omega)
  replace hu0 := hu0.below hB18 (by omega)
  replace hg0 := hg0.below hB18 (by omega)
  replace hx2_0 := (hB18.cell (p := ⟨w.heap.size, 0, none⟩) (by show w.heap.size < _; omega)).trans hx2_0
  replace hx2_1 := (hB18.cell (p := ⟨w.heap.size, 1, none⟩) (by show w.heap.size < _; omega)).trans hx2_1
  clear hB18
  go_wp2_with fail
  have hb18d : Below w.heap.size w w18.drew := hb18.drew
  go_region_held3 (fun w' => w'.cell? ⟨w.heap.size, 0, none⟩ = some (.int .i64 x2.1) ∧ w'.cell? ⟨w.heap.size, 1, none⟩ = some (.int .i64 x2.2))
    (first | exact ⟨hx2_0, hx2_1⟩ | exact ⟨hx2_0_r19, hx2_1_r19⟩ | exact ⟨hx2_0_r20, hx2_1_r20⟩ | exact ⟨hx2_0_r21, hx2_1_r21⟩ | exact ⟨hx2_0_r22, hx2_1_r22⟩)
    (first
      | (go_at_call 16
         refine (toPointS_any _ x0 _ (hv0.out.below hb18d) hm0).mono ?_
         rintro e w19 ⟨c19, rfl, hc19d, hB19d⟩
         have hc19 : OwnP w19 w18.heap.size w19.heap.size c19 x0 := hc19d
         have hB19 : Below w18.heap.size w18 w19 := ⟨hB19d.os, hB19d.tape, hB19d.output, hB19d.size, hB19d.block⟩
         have hs19 : w18.heap.size ≤ w19.heap.size := hB19.size
         have hb19 := hb18.trans (hB19.mono hb18.size)
         have hc1_r19 := hc1.below hB19 (by omega)
         have hc2_r19 := hc2.below hB19 (by omega)
         have hu0_r19 := hu0.below hB19 (by omega)
         have hg0_r19 := hg0.below hB19 (by omega)
         have hx2_0_r19 := (hB19.cell (p := ⟨w.heap.size, 0, none⟩) (by show w.heap.size < w18.heap.size; omega)).trans hx2_0
         have hx2_1_r19 := (hB19.cell (p := ⟨w.heap.size, 1, none⟩) (by show w.heap.size < w18.heap.size; omega)).trans hx2_1)
      | (go_at_call 27
         refine (toRatS_any _ x1 _ (hv1.out.below hb19) hm1).mono ?_
         rintro e w20 ⟨c20, rfl, hc20, hB20⟩
         have hs20 : w19.heap.size ≤ w20.heap.size := hB20.size
         have hb20 := hb19.trans (hB20.mono hb19.size)
         have hc1_r20 := hc1_r19.below hB20 (by omega)
         have hc2_r20 := hc2_r19.below hB20 (by omega)
         have hu0_r20 := hu0_r19.below hB20 (by omega)
         have hg0_r20 := hg0_r19.below hB20 (by omega)
         have hc19_r20 := hc19.below hB20 (by omega)
         have hx2_0_r20 := (hB20.cell (p := ⟨w.heap.size, 0, none⟩) (by show w.heap.size < w19.heap.size; omega)).trans hx2_0_r19
         have hx2_1_r20 := (hB20.cell (p := ⟨w.heap.size, 1, none⟩) (by show w.heap.size < w19.heap.size; omega)).trans hx2_1_r19)
      | (go_at_call 18
         refine (toRat_any x2 _).mono ?_
         rintro e w21 ⟨rfl, hB21⟩
         have hs21 : w20.heap.size ≤ w21.heap.size := hB21.size
         have hb21 := hb20.trans (hB21.mono hb20.size)
         have hc1_r21 := hc1_r20.below hB21 (by omega)
         have hc2_r21 := hc2_r20.below hB21 (by omega)
         have hu0_r21 := hu0_r20.below hB21 (by omega)
         have hg0_r21 := hg0_r20.below hB21 (by omega)
         have hc19_r21 := hc19_r20.below hB21 (by omega)
         have hc20_r21 := hc20.below hB21 (by omega)
         have hx2_0_r21 := (hB21.cell (p := ⟨w.heap.size, 0, none⟩) (by show w.heap.size < w20.heap.size; omega)).trans hx2_0_r20
         have hx2_1_r21 := (hB21.cell (p := ⟨w.heap.size, 1, none⟩) (by show w.heap.size < w20.heap.size; omega)).trans hx2_1_r20)
      | (go_at_call 28
         refine (implStateWalk_any c19 x0 c20 x1 x2 x3 _ hc19_r21.read hm0 hc20_r21.read hm1 hi2 hi3).mono ?_
         rw [hr.out]
         rintro e w22 ⟨h_0, rfl, hh_0, hB22⟩
         have hs22 : w21.heap.size ≤ w22.heap.size := hB22.size
         have hb22 := hb21.trans (hB22.mono hb21.size)
         have hc1_r22 := hc1_r21.below hB22 (by omega)
         have hc2_r22 := hc2_r21.below hB22 (by omega)
         have hu0_r22 := hu0_r21.below hB22 (by omega)
         have hg0_r22 := hg0_r21.below hB22 (by omega)
         have hc19_r22 := hc19_r21.below hB22 (by omega)
         have hc20_r22 := hc20_r21.below hB22 (by omega)
         have hx2_0_r22 := (hB22.cell (p := ⟨w.heap.size, 0, none⟩) (by show w.heap.size < w21.heap.size; omega)).trans hx2_0_r21
         have hx2_1_r22 := (hB22.cell (p := ⟨w.heap.size, 1, none⟩) (by show w.heap.size < w21.heap.size; omega)).trans hx2_1_r21))
  clear hx2_0; have hx2_0 := hx2_0_r22
  clear hx2_1; have hx2_1 := hx2_1_r22
  clear hc1; have hc1 := hc1_r22
  clear hc2; have hc2 := hc2_r22
  clear hu0; have hu0 := hu0_r22
  clear hg0; have hg0 := hg0_r22
  clear hc19; have hc19 := hc19_r22
  clear hc20; have hc20 := hc20_r22
  clear hB19
  clear hB20
  clear hB21
  clear hB22
  go_wp2_with fail
  refine (eqIntS_same _ _ (r.1) _ hh_0.read hu0.read hl_0).mono ?_
  rintro e w23 ⟨rfl, hB23⟩
  have hs23 := hB23.size
  have hb23 := hb22.trans (hB23.mono hb22.size)
  clear hb22
  replace hc1 := hc1.below hB23 (by omega)
  replace hc2 := hc2.below hB23 (by omega)
  replace hu0 := hu0.below hB23 (by omega)
  replace hg0 := hg0.below hB23 (by omega)
  replace hc19 := hc19.below hB23 (by omega)
  replace hc20 := hc20.below hB23 (by omega)
  replace hh_0 := hh_0.below hB23 (by omega)
  replace hx2_0 := (hB23.cell (p := ⟨w.heap.size, 0, none⟩) (by show w.heap.size < _; omega)).trans hx2_0
  replace hx2_1 := (hB23.cell (p := ⟨w.heap.size, 1, none⟩) (by show w.heap.size < _; omega)).trans hx2_1
  clear hB23
  go_wp2_with fail
  refine (heldIntS_any _ (r.1) (1) _ _ hg0.read hl_0 (by omega) (by omega)).mono ?_
  rintro e w24 ⟨rfl, hB24⟩
  have hs24 := hB24.size
  have hb24 := hb23.trans (hB24.mono hb23.size)
  clear hb23
  replace hc1 := hc1.below hB24 (by omega)
  replace hc2 := hc2.below hB24 (by omega)
  replace hu0 := hu0.below hB24 (by omega)
  replace hg0 := hg0.below hB24 (by omega)
  replace hc19 := hc19.below hB24 (by omega)
  replace hc20 := hc20.below hB24 (by omega)
  replace hh_0 := hh_0.below hB24 (by omega)
  replace hx2_0 := (hB24.cell (p := ⟨w.heap.size, 0, none⟩) (by show w.heap.size < _; omega)).trans hx2_0
  replace hx2_1 := (hB24.cell (p := ⟨w.heap.size, 1, none⟩) (by show w.heap.size < _; omega)).trans hx2_1
  clear hB24
  go_wp2
  go_ret
  exact ⟨rfl, hb24⟩

theorem lawStateWalk_any (a0 : Value) (x0 : List ((Int × Int) × (Int × Int))) (a1 : Value) (x1 : List (Int × Int)) (x2 : Int × Int) (x3 : Int) (w : World) (hv0 : QuadV w a0 x0) (hv1 : RatsV w a1 x1) (hi2 : I64R x2) (hi3 : I64 x3) :
    Calls Try.prog 5 #[a0, a1, .agg #[.int .i64 x2.1, .int .i64 x2.2], .int .i64 x3] w (Ret (.bool true) w) := by
  by_cases hl0 : szPointS x0 ≤ 1048576
  rotate_left
  · exact lawStateWalk_over0 _ x0 _ x2 x3 w (Lib.hid hv0) hl0
  by_cases hl1 : szPointS x0 + szRatS x1 ≤ 1048576
  rotate_left
  · exact lawStateWalk_over1 _ x0 _ x1 x2 x3 w (Lib.hid hv0) (Lib.hid hv1) hl0 hl1
  exact lawStateWalk_main _ x0 _ x1 x2 x3 w (Lib.hid hv0) (Lib.hid hv1) hi2 hi3 hl0 hl1

open Go.ChangeShapes Go.WideShapes Go.ChangeAt in
set_option maxRecDepth 100000 in
theorem lawStateWalk_lifted (os : Os) (started : os.Started) (H : Type) (enc : TypeId × Value → H) :
    ReturnsInHanded {} Try.checked os 5 .any (Rows.fnExactStateWalkSpec.pre6 enc Try.prog Try.f5 Rows.fnExactStateWalkRow.domain false) (Rows.fnExactStateWalkSpec.post enc Try.prog Try.f5 false true false false) := by
  refine returnsInHanded_of_change (C := Try.checked) Try.own started (by kernel_rfl) Try.func5
    (ChangeSpec.witness6 (enc := enc) (C := Try.checked) false ⟨#[], #[.slice none 0 0, .slice none 0 0, .agg #[.int .i64 0, .int .i64 0], .int .i64 0], []⟩ 8 (by kernel_rfl) (by kernel_rfl) (by kernel_rfl) (by kernel_rfl)) ?_
  intro W base args ds gs before hval0 hW _ _
  have hval : ∀ (j : Nat) t v, Try.f5.params[j]? = some t → args[j]? = some v → Value.okWide Try.prog W .any base t v := hval0
  have hW' := hW
  obtain ⟨p, q, hA0, hV, rfl, _, _⟩ := hW
  have hA : DataW.TrodAll enc Try.prog W 0 (fun _ => true) true Try.f5.params.toList args.toList ds p := hA0
  have hA' := hA
  rw [Try.params5] at hA hval
  obtain ⟨v0, v1, v2, v3, d0, d1, d2, d3, p0, p1, p2, p3, rfl, rfl, rfl, h0, h1, h2, h3⟩ := trodAll_four hA
  obtain ⟨rfl, rfl⟩ := trodVars_none hV
  obtain ⟨x0, hx0⟩ := open_ptsV (hval 0 22 v0 rfl rfl) h0
  obtain ⟨x1, hx1⟩ := open_ratsV (hval 1 46 v1 rfl rfl) h1
  obtain ⟨x2, rfl, hx2⟩ := open_ratX (hval 2 25 v2 rfl rfl) h2
  obtain ⟨x3, rfl, hx3⟩ := open_intX (hval 3 3 v3 rfl rfl) h3
  refine (lawStateWalk_any v0 x0 v1 x1 x2 x3 W hx0 hx1 hx2 hx3).mono fun e W' ⟨he, hB⟩ => ?_
  subst he
  exact law_post hW' rfl hA' (by rw [Try.params5]; decide +kernel) rfl rfl rfl rfl hB

theorem fnExactStateWalk_holds : Rows.FnExactStateWalkSaid :=
  OpenClaim.holds_of_wide 5 Try.f5 rfl rfl rfl rfl rfl rfl rfl ⟨rfl, rfl, rfl, rfl, rfl⟩ rfl rfl rfl rfl rfl (by kernel_rfl) Try.func5 (by kernel_rfl)
    (of_decide_eq_true (by kernel_rfl)) (by unfold Func.isWrapper; rw [if_neg (of_decide_eq_false (by kernel_rfl))]; exact ⟨rfl, rfl⟩)
    (fun os started H enc _ => lawStateWalk_lifted os started H enc)

#print axioms fnExactStateWalk_holds
end Go.Proofs.Ytfcanpebagpdbaa

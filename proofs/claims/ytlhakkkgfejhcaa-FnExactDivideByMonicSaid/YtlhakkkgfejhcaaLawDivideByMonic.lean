/- FnExactDivideByMonic: for every input the law returns true, and the arguments read as before. No conditions. -/
import Derived.Test.YtlhakkkgfejhcaaInts
import Derived.Test.YtlhakkkgfejhcaaDivide
import Derived.Test.YtlhakkkgfejhcaaLift
namespace Go.Proofs.Ytlhakkkgfejhcaa
open Go.RowKit

set_option maxHeartbeats 400000 in
theorem lawDivideByMonic_over0 (ao0 : Option Addr) (n0 cap0 : Nat) (ao1 : Option Addr) (n1 cap1 : Nat) (w : World) (hl0 : ¬ n0 ≤ 1048576) :
    Calls Try.prog 12 #[.slice ao0 n0 cap0, .slice ao1 n1 cap1] w (Ret (.bool true) w) := by
  go_enter Try.func12, Try.ntmps12
  go_wp2_with fail
  go_wp2
  go_ret
  exact ⟨rfl, Below.refl _ _⟩

set_option maxHeartbeats 400000 in
theorem lawDivideByMonic_over1 (ao0 : Option Addr) (n0 cap0 : Nat) (ao1 : Option Addr) (n1 cap1 : Nat) (w : World) (hl0 : n0 ≤ 1048576) (hl1 : ¬ n1 ≤ 1048576) :
    Calls Try.prog 12 #[.slice ao0 n0 cap0, .slice ao1 n1 cap1] w (Ret (.bool true) w) := by
  go_enter Try.func12, Try.ntmps12
  go_wp2_with fail
  go_wp2
  go_ret
  exact ⟨rfl, Below.refl _ _⟩

set_option maxHeartbeats 1600000 in
theorem lawDivideByMonic_main (ao0 : Option Addr) (n0 cap0 : Nat) (x0 : List Int) (ao1 : Option Addr) (n1 cap1 : Nat) (x1 : List Int) (w : World) (hv0 : Hid (IntsV w (.slice ao0 n0 cap0) x0)) (hn0 : Hid (x0.length = n0)) (hv1 : Hid (IntsV w (.slice ao1 n1 cap1) x1)) (hn1 : Hid (x1.length = n1)) (hl0 : n0 ≤ 1048576) (hl1 : n1 ≤ 1048576) :
    Calls Try.prog 12 #[.slice ao0 n0 cap0, .slice ao1 n1 cap1] w (Ret (.bool true) w) := by
  have hm0 : szIntS x0 ≤ 1099511627776 := by show x0.length ≤ _; rw [hn0.out]; omega
  have hk0 := cntIntS_le x0
  have hm1 : szIntS x1 ≤ 1099511627776 := by show x1.length ≤ _; rw [hn1.out]; omega
  have hk1 := cntIntS_le x1
  have hlen := DivideByMonic_len x0 x1
  obtain ⟨r, hr⟩ : ∃ r, DivideByMonic_v x0 x1 = r := ⟨_, rfl⟩
  rw [hr] at hlen
  obtain ⟨hl_0, hl_1⟩ := hlen
  have hkr0 := cntIntS_le (r.1)
  have hkr1 := cntIntS_le (r.2.1)
  have hr := Lib.hid hr
  go_enter Try.func12, Try.ntmps12
  go_wp2_with fail
  have hb0 := Below.refl w.heap.size w
  refine (toIntS_any _ x0 _ (hv0.out.below hb0) hm0).mono ?_
  rintro e w1 ⟨c1, rfl, hc1, hB1⟩
  have hs1 := hB1.size
  have hb1 := hb0.trans (hB1.mono hb0.size)
  clear hb0
  clear hB1
  go_wp2_with fail
  refine (toIntS_any _ x1 _ (hv1.out.below hb1) hm1).mono ?_
  rintro e w2 ⟨c2, rfl, hc2, hB2⟩
  have hs2 := hB2.size
  have hb2 := hb1.trans (hB2.mono hb1.size)
  clear hb1
  replace hc1 := hc1.below hB2 (by omega)
  clear hB2
  go_wp2_with fail
  refine (specDivideByMonic_any c1 x0 c2 x1 _ hc1.read hm0 hc2.read hm1).mono ?_
  rw [hr.out]
  rintro e w3 ⟨u0, u1, m_u0, rfl, hu0, hu1, hlo_m_u0, hhi_m_u0, hB3⟩
  have hs3 := hB3.size
  have hb3 := hb2.trans (hB3.mono hb2.size)
  clear hb2
  replace hc1 := hc1.below hB3 (by omega)
  replace hc2 := hc2.below hB3 (by omega)
  clear hB3
  go_wp2_with fail
  refine (toIntS_any _ x0 _ (hv0.out.below hb3) hm0).mono ?_
  rintro e w4 ⟨c4, rfl, hc4, hB4⟩
  have hs4 := hB4.size
  have hb4 := hb3.trans (hB4.mono hb3.size)
  clear hb3
  replace hc1 := hc1.below hB4 (by omega)
  replace hc2 := hc2.below hB4 (by omega)
  replace hu0 := hu0.below hB4 (by omega)
  replace hu1 := hu1.below hB4 (by omega)
  clear hB4
  go_wp2_with fail
  refine (toIntS_any _ x1 _ (hv1.out.below hb4) hm1).mono ?_
  rintro e w5 ⟨c5, rfl, hc5, hB5⟩
  have hs5 := hB5.size
  have hb5 := hb4.trans (hB5.mono hb4.size)
  clear hb4
  replace hc1 := hc1.below hB5 (by omega)
  replace hc2 := hc2.below hB5 (by omega)
  replace hu0 := hu0.below hB5 (by omega)
  replace hu1 := hu1.below hB5 (by omega)
  replace hc4 := hc4.below hB5 (by omega)
  clear hB5
  go_wp2_with fail
  refine (implDivideByMonic_any c4 x0 c5 x1 _ hc4.read hm0 hc5.read hm1).mono ?_
  rw [hr.out]
  rintro e w6 ⟨g0, g1, m_g0, rfl, hg0, hg1, hlo_m_g0, hhi_m_g0, hB6⟩
  have hs6 := hB6.size
  have hb6 := hb5.trans (hB6.mono hb5.size)
  clear hb5
  replace hc1 := hc1.below hB6 (by omega)
  replace hc2 := hc2.below hB6 (by omega)
  replace hu0 := hu0.below hB6 (by omega)
  replace hu1 := hu1.below hB6 (by omega)
  replace hc4 := hc4.below hB6 (by omega)
  replace hc5 := hc5.below hB6 (by omega)
  clear hB6
  go_wp2_with fail
  refine (eqIntS_same _ _ (r.1) _ hg0.read hu0.read hl_0).mono ?_
  rintro e w7 ⟨rfl, hB7⟩
  have hs7 := hB7.size
  have hb7 := hb6.trans (hB7.mono hb6.size)
  clear hb6
  replace hc1 := hc1.below hB7 (by omega)
  replace hc2 := hc2.below hB7 (by omega)
  replace hu0 := hu0.below hB7 (by omega)
  replace hu1 := hu1.below hB7 (by omega)
  replace hc4 := hc4.below hB7 (by omega)
  replace hc5 := hc5.below hB7 (by omega)
  replace hg0 := hg0.below hB7 (by omega)
  replace hg1 := hg1.below hB7 (by omega)
  clear hB7
  go_wp2_with fail
  refine (eqIntS_same _ _ (r.2.1) _ hg1.read hu1.read hl_1).mono ?_
  rintro e w8 ⟨rfl, hB8⟩
  have hs8 := hB8.size
  have hb8 := hb7.trans (hB8.mono hb7.size)
  clear hb7
  replace hc1 := hc1.below hB8 (by omega)
  replace hc2 := hc2.below hB8 (by omega)
  replace hu0 := hu0.below hB8 (by omega)
  replace hu1 := hu1.below hB8 (by omega)
  replace hc4 := hc4.below hB8 (by omega)
  replace hc5 := hc5.below hB8 (by omega)
  replace hg0 := hg0.below hB8 (by omega)
  replace hg1 := hg1.below hB8 (by omega)
  clear hB8
  go_wp2_with fail
  refine (toIntS_any _ x0 _ (hv0.out.below hb8) hm0).mono ?_
  rintro e w9 ⟨c9, rfl, hc9, hB9⟩
  have hs9 := hB9.size
  have hb9 := hb8.trans (hB9.mono hb8.size)
  clear hb8
  replace hc1 := hc1.below hB9 (by omega)
  replace hc2 := hc2.below hB9 (by omega)
  replace hu0 := hu0.below hB9 (by omega)
  replace hu1 := hu1.below hB9 (by omega)
  replace hc4 := hc4.below hB9 (by omega)
  replace hc5 := hc5.below hB9 (by omega)
  replace hg0 := hg0.below hB9 (by omega)
  replace hg1 := hg1.below hB9 (by omega)
  clear hB9
  go_wp2_with fail
  refine (eqIntS_same _ _ x0 _ hc4.read hc9.read hm0).mono ?_
  rintro e w10 ⟨rfl, hB10⟩
  clear hc9
  have hs10 := hB10.size
  have hb10 := hb9.trans (hB10.mono hb9.size)
  clear hb9
  replace hc1 := hc1.below hB10 (by omega)
  replace hc2 := hc2.below hB10 (by omega)
  replace hu0 := hu0.below hB10 (by omega)
  replace hu1 := hu1.below hB10 (by omega)
  replace hc4 := hc4.below hB10 (by omega)
  replace hc5 := hc5.below hB10 (by omega)
  replace hg0 := hg0.below hB10 (by omega)
  replace hg1 := hg1.below hB10 (by omega)
  clear hB10
  go_wp2_with fail
  refine (toIntS_any _ x1 _ (hv1.out.below hb10) hm1).mono ?_
  rintro e w11 ⟨c11, rfl, hc11, hB11⟩
  have hs11 := hB11.size
  have hb11 := hb10.trans (hB11.mono hb10.size)
  clear hb10
  replace hc1 := hc1.below hB11 (by omega)
  replace hc2 := hc2.below hB11 (by omega)
  replace hu0 := hu0.below hB11 (by omega)
  replace hu1 := hu1.below hB11 (by omega)
  replace hc4 := hc4.below hB11 (by omega)
  replace hc5 := hc5.below hB11 (by omega)
  replace hg0 := hg0.below hB11 (by omega)
  replace hg1 := hg1.below hB11 (by omega)
  clear hB11
  go_wp2_with fail
  refine (eqIntS_same _ _ x1 _ hc5.read hc11.read hm1).mono ?_
  rintro e w12 ⟨rfl, hB12⟩
  clear hc11
  have hs12 := hB12.size
  have hb12 := hb11.trans (hB12.mono hb11.size)
  clear hb11
  replace hc1 := hc1.below hB12 (by omega)
  replace hc2 := hc2.below hB12 (by omega)
  replace hu0 := hu0.below hB12 (by omega)
  replace hu1 := hu1.below hB12 (by omega)
  replace hc4 := hc4.below hB12 (by omega)
  replace hc5 := hc5.below hB12 (by omega)
  replace hg0 := hg0.below hB12 (by omega)
  replace hg1 := hg1.below hB12 (by omega)
  clear hB12
  go_wp2_with fail
  refine (markIntS_any _ x0 (1) _ _ w3.heap.size w4.heap.size hc4 hm0 (by omega) (by omega)).mono ?_
  rintro e w13 ⟨rfl, hm_, hT13⟩
  have hs13 := Nat.le_of_eq hT13.size.symm
  have hb13 := hb12.trans (hT13.below.mono (by omega))
  clear hb12
  replace hc1 := hc1.turned hT13 (by omega)
  replace hc2 := hc2.turned hT13 (by omega)
  replace hu0 := hu0.turned hT13 (by omega)
  replace hu1 := hu1.turned hT13 (by omega)
  replace hc5 := hc5.turned hT13 (by omega)
  replace hg0 := hg0.turned hT13 (by omega)
  replace hg1 := hg1.turned hT13 (by omega)
  clear hT13 hc4
  clear hm_
  go_wp2_with fail
  refine (markIntS_any _ x1 (1 + cntIntS x0) _ _ w4.heap.size w5.heap.size hc5 hm1 (by omega) (by omega)).mono ?_
  rintro e w14 ⟨rfl, hm_, hT14⟩
  have hs14 := Nat.le_of_eq hT14.size.symm
  have hb14 := hb13.trans (hT14.below.mono (by omega))
  clear hb13
  replace hc1 := hc1.turned hT14 (by omega)
  replace hc2 := hc2.turned hT14 (by omega)
  replace hu0 := hu0.turned hT14 (by omega)
  replace hu1 := hu1.turned hT14 (by omega)
  replace hg0 := hg0.turned hT14 (by omega)
  replace hg1 := hg1.turned hT14 (by omega)
  clear hT14 hc5
  clear hm_
  go_wp2_with fail
  refine (eqIntS_same _ _ (r.1) _ hg0.read hu0.read hl_0).mono ?_
  rintro e w15 ⟨rfl, hB15⟩
  have hs15 := hB15.size
  have hb15 := hb14.trans (hB15.mono hb14.size)
  clear hb14
  replace hc1 := hc1.below hB15 (by omega)
  replace hc2 := hc2.below hB15 (by omega)
  replace hu0 := hu0.below hB15 (by omega)
  replace hu1 := hu1.below hB15 (by omega)
  replace hg0 := hg0.below hB15 (by omega)
  replace hg1 := hg1.below hB15 (by omega)
  clear hB15
  go_wp2_with fail
  refine (eqIntS_same _ _ (r.2.1) _ hg1.read hu1.read hl_1).mono ?_
  rintro e w16 ⟨rfl, hB16⟩
  have hs16 := hB16.size
  have hb16 := hb15.trans (hB16.mono hb15.size)
  clear hb15
  replace hc1 := hc1.below hB16 (by omega)
  replace hc2 := hc2.below hB16 (by omega)
  replace hu0 := hu0.below hB16 (by omega)
  replace hu1 := hu1.below hB16 (by omega)
  replace hg0 := hg0.below hB16 (by omega)
  replace hg1 := hg1.below hB16 (by omega)
  clear hB16
  go_wp2_with fail
  refine (markIntS_any _ (r.1) (1) _ _ w5.heap.size m_g0 hg0 hl_0 (by omega) (by omega)).mono ?_
  rintro e w17 ⟨rfl, hm_, hT17⟩
  have hs17 := Nat.le_of_eq hT17.size.symm
  have hb17 := hb16.trans (hT17.below.mono (by omega))
  clear hb16
  replace hc1 := hc1.turned hT17 (by omega)
  replace hc2 := hc2.turned hT17 (by omega)
  replace hu0 := hu0.turned hT17 (by omega)
  replace hu1 := hu1.turned hT17 (by omega)
  replace hg1 := hg1.turned hT17 (by omega)
  clear hT17 hg0
  have hg0 := hm_
  clear hm_
  go_wp2_with fail
  refine (markIntS_any _ (r.2.1) (1 + cntIntS (r.1)) _ _ m_g0 w6.heap.size hg1 hl_1 (by omega) (by omega)).mono ?_
  rintro e w18 ⟨rfl, hm_, hT18⟩
  have hs18 := Nat.le_of_eq hT18.size.symm
  have hb18 := hb17.trans (hT18.below.mono (by omega))
  clear hb17
  replace hc1 := hc1.turned hT18 (by omega)
  replace hc2 := hc2.turned hT18 (by omega)
  replace hu0 := hu0.turned hT18 (by omega)
  replace hu1 := hu1.turned hT18 (by omega)
  replace hg0 := hg0.turned hT18 (by omega)
  clear hT18 hg1
  have hg1 := hm_
  clear hm_
  go_wp2_with fail
  refine (heldIntS_any _ (r.1) (1) _ _ hg0.read hl_0 (by omega) (by omega)).mono ?_
  rintro e w19 ⟨rfl, hB19⟩
  have hs19 := hB19.size
  have hb19 := hb18.trans (hB19.mono hb18.size)
  clear hb18
  replace hc1 := hc1.below hB19 (by omega)
  replace hc2 := hc2.below hB19 (by omega)
  replace hu0 := hu0.below hB19 (by omega)
  replace hu1 := hu1.below hB19 (by omega)
  replace hg0 := hg0.below hB19 (by omega)
  replace hg1 := hg1.below hB19 (by omega)
  clear hB19
  go_wp2_with fail
  refine (heldIntS_any _ (r.2.1) (1 + cntIntS (r.1)) _ _ hg1.read hl_1 (by omega) (by omega)).mono ?_
  rintro e w20 ⟨rfl, hB20⟩
  have hs20 := hB20.size
  have hb20 := hb19.trans (hB20.mono hb19.size)
  clear hb19
  replace hc1 := hc1.below hB20 (by omega)
  replace hc2 := hc2.below hB20 (by omega)
  replace hu0 := hu0.below hB20 (by omega)
  replace hu1 := hu1.below hB20 (by omega)
  replace hg0 := hg0.below hB20 (by omega)
  replace hg1 := hg1.below hB20 (by omega)
  clear hB20
  go_wp2_with fail
  refine (toIntS_any _ x0 _ (hv0.out.below hb20) hm0).mono ?_
  rintro e w21 ⟨c21, rfl, hc21, hB21⟩
  have hs21 := hB21.size
  have hb21 := hb20.trans (hB21.mono hb20.size)
  clear hb20
  replace hc1 := hc1.below hB21 (by omega)
  replace hc2 := hc2.below hB21 (by omega)
  replace hu0 := hu0.below hB21 (by omega)
  replace hu1 := hu1.below hB21 (by omega)
  replace hg0 := hg0.below hB21 (by omega)
  replace hg1 := hg1.below hB21 (by omega)
  clear hB21
  go_wp2_with fail
  refine (toIntS_any _ x1 _ (hv1.out.below hb21) hm1).mono ?_
  rintro e w22 ⟨c22, rfl, hc22, hB22⟩
  have hs22 := hB22.size
  have hb22 := hb21.trans (hB22.mono hb21.size)
  clear hb21
  replace hc1 := hc1.below hB22 (by omega)
  replace hc2 := hc2.below hB22 (by omega)
  replace hu0 := hu0.below hB22 (by omega)
  replace hu1 := hu1.below hB22 (by omega)
  replace hg0 := hg0.below hB22 (by omega)
  replace hg1 := hg1.below hB22 (by omega)
  replace hc21 := hc21.below hB22 (by omega)
  clear hB22
  go_wp2_with fail
  refine (implDivideByMonic_any c21 x0 c22 x1 _ hc21.read hm0 hc22.read hm1).mono ?_
  rw [hr.out]
  rintro e w23 ⟨h_0, h_1, m_h_0, rfl, hh_0, hh_1, hlo_m_h_0, hhi_m_h_0, hB23⟩
  have hs23 := hB23.size
  have hb23 := hb22.trans (hB23.mono hb22.size)
  clear hb22
  replace hc1 := hc1.below hB23 (by omega)
  replace hc2 := hc2.below hB23 (by omega)
  replace hu0 := hu0.below hB23 (by omega)
  replace hu1 := hu1.below hB23 (by omega)
  replace hg0 := hg0.below hB23 (by omega)
  replace hg1 := hg1.below hB23 (by omega)
  replace hc21 := hc21.below hB23 (by omega)
  replace hc22 := hc22.below hB23 (by omega)
  clear hB23
  go_wp2_with fail
  refine (eqIntS_same _ _ (r.1) _ hh_0.read hu0.read hl_0).mono ?_
  rintro e w24 ⟨rfl, hB24⟩
  have hs24 := hB24.size
  have hb24 := hb23.trans (hB24.mono hb23.size)
  clear hb23
  replace hc1 := hc1.below hB24 (by omega)
  replace hc2 := hc2.below hB24 (by omega)
  replace hu0 := hu0.below hB24 (by omega)
  replace hu1 := hu1.below hB24 (by omega)
  replace hg0 := hg0.below hB24 (by omega)
  replace hg1 := hg1.below hB24 (by omega)
  replace hc21 := hc21.below hB24 (by omega)
  replace hc22 := hc22.below hB24 (by omega)
  replace hh_0 := hh_0.below hB24 (by omega)
  replace hh_1 := hh_1.below hB24 (by omega)
  clear hB24
  go_wp2_with fail
  refine (eqIntS_same _ _ (r.2.1) _ hh_1.read hu1.read hl_1).mono ?_
  rintro e w25 ⟨rfl, hB25⟩
  have hs25 := hB25.size
  have hb25 := hb24.trans (hB25.mono hb24.size)
  clear hb24
  replace hc1 := hc1.below hB25 (by omega)
  replace hc2 := hc2.below hB25 (by omega)
  replace hu0 := hu0.below hB25 (by omega)
  replace hu1 := hu1.below hB25 (by omega)
  replace hg0 := hg0.below hB25 (by omega)
  replace hg1 := hg1.below hB25 (by omega)
  replace hc21 := hc21.below hB25 (by omega)
  replace hc22 := hc22.below hB25 (by omega)
  replace hh_0 := hh_0.below hB25 (by omega)
  replace hh_1 := hh_1.below hB25 (by omega)
  clear hB25
  go_wp2_with fail
  refine (heldIntS_any _ (r.1) (1) _ _ hg0.read hl_0 (by omega) (by omega)).mono ?_
  rintro e w26 ⟨rfl, hB26⟩
  have hs26 := hB26.size
  have hb26 := hb25.trans (hB26.mono hb25.size)
  clear hb25
  replace hc1 := hc1.below hB26 (by omega)
  replace hc2 := hc2.below hB26 (by omega)
  replace hu0 := hu0.below hB26 (by omega)
  replace hu1 := hu1.below hB26 (by omega)
  replace hg0 := hg0.below hB26 (by omega)
  replace hg1 := hg1.below hB26 (by omega)
  replace hc21 := hc21.below hB26 (by omega)
  replace hc22 := hc22.below hB26 (by omega)
  replace hh_0 := hh_0.below hB26 (by omega)
  replace hh_1 := hh_1.below hB26 (by omega)
  clear hB26
  go_wp2_with fail
  refine (heldIntS_any _ (r.2.1) (1 + cntIntS (r.1)) _ _ hg1.read hl_1 (by omega) (by omega)).mono ?_
  rintro e w27 ⟨rfl, hB27⟩
  have hs27 := hB27.size
  have hb27 := hb26.trans (hB27.mono hb26.size)
  clear hb26
  replace hc1 := hc1.below hB27 (by omega)
  replace hc2 := hc2.below hB27 (by omega)
  replace hu0 := hu0.below hB27 (by omega)
  replace hu1 := hu1.below hB27 (by omega)
  replace hg0 := hg0.below hB27 (by omega)
  replace hg1 := hg1.below hB27 (by omega)
  replace hc21 := hc21.below hB27 (by omega)
  replace hc22 := hc22.below hB27 (by omega)
  replace hh_0 := hh_0.below hB27 (by omega)
  replace hh_1 := hh_1.below hB27 (by omega)
  clear hB27
  go_wp2
  go_ret
  exact ⟨rfl, hb27⟩

theorem lawDivideByMonic_any (a0 : Value) (x0 : List Int) (a1 : Value) (x1 : List Int) (w : World) (hv0 : IntsV w a0 x0) (hv1 : IntsV w a1 x1) :
    Calls Try.prog 12 #[a0, a1] w (Ret (.bool true) w) := by
  obtain ⟨ao0, cap0, rfl, -, -, -⟩ := id hv0
  obtain ⟨ao1, cap1, rfl, -, -, -⟩ := id hv1
  by_cases hl0 : x0.length ≤ 1048576
  rotate_left
  · exact lawDivideByMonic_over0 _ _ _ _ _ _ w hl0
  by_cases hl1 : x1.length ≤ 1048576
  rotate_left
  · exact lawDivideByMonic_over1 _ _ _ _ _ _ w hl0 hl1
  exact lawDivideByMonic_main _ _ _ x0 _ _ _ x1 w (Lib.hid hv0) (Lib.hid rfl) (Lib.hid hv1) (Lib.hid rfl) hl0 hl1

open Go.ChangeShapes Go.WideShapes Go.ChangeAt in
set_option maxRecDepth 100000 in
theorem lawDivideByMonic_lifted (os : Os) (started : os.Started) (H : Type) (enc : TypeId × Value → H) :
    ReturnsInHanded {} Try.checked os 12 .any (Rows.fnExactDivideByMonicSpec.pre6 enc Try.prog Try.f12 Rows.fnExactDivideByMonicRow.domain false) (Rows.fnExactDivideByMonicSpec.post enc Try.prog Try.f12 false true false false) := by
  refine returnsInHanded_of_change (C := Try.checked) Try.own started (by kernel_rfl) Try.func12
    (ChangeSpec.witness6 (enc := enc) (C := Try.checked) false ⟨#[], #[.slice none 0 0, .slice none 0 0], []⟩ 8 (by kernel_rfl) (by kernel_rfl) (by kernel_rfl) (by kernel_rfl)) ?_
  intro W base args ds gs before hval0 hW _ _
  have hval : ∀ (j : Nat) t v, Try.f12.params[j]? = some t → args[j]? = some v → Value.okWide Try.prog W .any base t v := hval0
  have hW' := hW
  obtain ⟨p, q, hA0, hV, rfl, _, _⟩ := hW
  have hA : DataW.TrodAll enc Try.prog W 0 (fun _ => true) true Try.f12.params.toList args.toList ds p := hA0
  have hA' := hA
  rw [Try.params12] at hA hval
  obtain ⟨v0, v1, d0, d1, p0, p1, rfl, rfl, rfl, h0, h1⟩ := trodAll_two hA
  obtain ⟨rfl, rfl⟩ := trodVars_none hV
  obtain ⟨x0, hx0⟩ := open_intsV (hval 0 22 v0 rfl rfl) h0
  obtain ⟨x1, hx1⟩ := open_intsV (hval 1 22 v1 rfl rfl) h1
  refine (lawDivideByMonic_any v0 x0 v1 x1 W hx0 hx1).mono fun e W' ⟨he, hB⟩ => ?_
  subst he
  exact law_post hW' rfl hA' (by rw [Try.params12]; decide +kernel) rfl rfl rfl rfl hB

theorem fnExactDivideByMonic_holds : Rows.FnExactDivideByMonicSaid :=
  OpenClaim.holds_of_wide 12 Try.f12 rfl rfl rfl rfl rfl rfl rfl ⟨rfl, rfl, rfl, rfl, rfl⟩ rfl rfl rfl rfl rfl (by kernel_rfl) Try.func12 (by kernel_rfl)
    (of_decide_eq_true (by kernel_rfl)) (by unfold Func.isWrapper; rw [if_neg (of_decide_eq_false (by kernel_rfl))]; exact ⟨rfl, rfl⟩)
    (fun os started H enc _ => lawDivideByMonic_lifted os started H enc)

#print axioms fnExactDivideByMonic_holds
end Go.Proofs.Ytlhakkkgfejhcaa

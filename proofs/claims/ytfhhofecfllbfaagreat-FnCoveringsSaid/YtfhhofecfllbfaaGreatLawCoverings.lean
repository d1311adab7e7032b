/- FnCoverings: for every input the law returns true, and the arguments read as before. No conditions. -/
import Derived.Test.YtfhhofecfllbfaaGreatDrawI5
import Derived.Test.YtfhhofecfllbfaaGreatCovLaw
import Derived.Test.YtfhhofecfllbfaaGreatQUp
import Derived.Test.YtfhhofecfllbfaaGreatPkQ
import Derived.Test.YtfhhofecfllbfaaGreatPkP
import Derived.Test.YtfhhofecfllbfaaGreatLiftC
import Derived.Deep.Cut
import Derived.Deep.CutRange
import Derived.Deep.CutBlock
namespace Go.Proofs.YtfhhofecfllbfaaGreat
open Go.RowKit

set_option linter.unusedSimpArgs false in
set_option maxRecDepth 100000 in
set_option maxHeartbeats 12000000 in
theorem lawCoverings_main (ao0 : Option Addr) (n0 cap0 : Nat) (ao1 : Option Addr) (n1 cap1 : Nat) (w : World) (h0 : Hid (CodeV w (.slice ao0 n0 cap0) n0)) (h1 : Hid (CodeV w (.slice ao1 n1 cap1) n1)) (hl : n0 + n1 ≤ 1048576) :
    Calls Tryz.prog 4 #[.slice ao0 n0 cap0, .slice ao1 n1 cap1] w (Ret (.bool true) w) := by
  go_enter Tryz.func4, Tryz.ntmps4
  go_wp2_with fail
  refine (DrawShrinkTo_any _ _ w h0.out).mono ?_
  rintro e w1 ⟨v1, f, ⟨⟨i0, i1⟩, ⟨i2, i3⟩⟩, ⟨⟨k0, k1⟩, ⟨k2, k3⟩⟩, rfl, ⟨hq, hl1⟩, -, hB1⟩
  obtain ⟨fo, fc, rfl, -⟩ := hq.form
  have hqw : ∀ w', Below w1.heap.size w1 w' → QuadV w' (.slice fo f.length fc) f := fun w' h => hq.below h
  have hsh := @shrunk_fact f ((i0, i1), (i2, i3)) ((k0, k1), (k2, k3))
  have him := @image_fact f ((i0, i1), (i2, i3))
  have hf9 : f.length ≤ 1099511627776 := by omega
  have a1 := fun w' (hB : Below w1.heap.size w1 w') => implShrinkTo_any _ f ((i0, i1), (i2, i3)) ((k0, k1), (k2, k3)) w' (hqw w' hB) hf9
  have a2 := fun w' (hB : Below w1.heap.size w1 w') => specShrinkTo_any _ f ((i0, i1), (i2, i3)) ((k0, k1), (k2, k3)) w' (hqw w' hB) hf9
  have b1 := fun w' (hB : Below w1.heap.size w1 w') => implCoversIv_any _ f ((i0, i1), (i2, i3)) ((k0, k1), (k2, k3)) w' (hqw w' hB) hf9
  have b2 := fun w' (hB : Below w1.heap.size w1 w') => specCoversIv_any _ f ((i0, i1), (i2, i3)) ((k0, k1), (k2, k3)) w' (hqw w' hB) hf9
  have c1 := fun w' (hB : Below w1.heap.size w1 w') => implImageIv_any _ f ((i0, i1), (i2, i3)) w' (hqw w' hB) hf9
  have c2 := fun w' (hB : Below w1.heap.size w1 w') => specImageIv_any _ f ((i0, i1), (i2, i3)) w' (hqw w' hB) hf9
  have d1 := fun w' (hB : Below w1.heap.size w1 w') => implLeastSlope_any _ f ((i0, i1), (i2, i3)) w' (hqw w' hB) hf9
  have d2 := fun w' (hB : Below w1.heap.size w1 w') => specLeastSlope_any _ f ((i0, i1), (i2, i3)) w' (hqw w' hB) hf9
  have cm := fun w' (hB : Below w1.heap.size w1 w') (m : Quad) => implCoversIv_any _ f ((i0, i1), (i2, i3)) m w' (hqw w' hB) hf9
  have co := fun w' (hB : Below w1.heap.size w1 w') (a b : Int × Int) ha hb hab => implImageOf_any _ f a b w' (hqw w' hB) hf9 ha hb hab
  obtain ⟨⟨⟨⟨s0, s1⟩, ⟨s2, s3⟩⟩, ok⟩, av⟩ : ∃ r, ShrinkTo_v f ((i0, i1), (i2, i3)) ((k0, k1), (k2, k3)) = r := ⟨_, rfl⟩
  rw [av] at a1 a2
  obtain ⟨⟨c, one⟩, bv⟩ : ∃ r, CoversInterval_v f ((i0, i1), (i2, i3)) ((k0, k1), (k2, k3)) = r := ⟨_, rfl⟩
  rw [bv] at b1 b2
  obtain ⟨⟨⟨⟨m0, m1⟩, ⟨m2, m3⟩⟩, three⟩, cv⟩ : ∃ r, ImageInterval_v f ((i0, i1), (i2, i3)) = r := ⟨_, rfl⟩
  rw [cv] at c1 c2
  obtain ⟨⟨⟨l0, l1⟩, five⟩, dv⟩ : ∃ r, LeastSlope_v f ((i0, i1), (i2, i3)) = r := ⟨_, rfl⟩
  rw [dv] at d1 d2
  have fa : ok = true → (one = true ∧ c = true) ∧ _ := fun h => by subst h; have q := hsh av; rw [bv] at q; exact ⟨⟨(Prod.mk.inj q.1).2, (Prod.mk.inj q.1).1⟩, q.2⟩
  have fc3 : three = true → _ := fun h => by subst h; exact him cv
  have hb1 := Below.refl w1.heap.size w1
  obtain ⟨m, hm⟩ : ∃ m, f.length = m := ⟨_, rfl⟩
  rw [hm] at a1 a2 b1 b2 c1 c2 d1 d2 cm co ⊢
  clear hq hqw hsh him hf9
  have a1' := Lib.hid a1
  have a2' := Lib.hid a2
  have b1' := Lib.hid b1
  have b2' := Lib.hid b2
  have c1' := Lib.hid c1
  have c2' := Lib.hid c2
  have d1' := Lib.hid d1
  have d2' := Lib.hid d2
  have cm' := Lib.hid cm
  have co' := Lib.hid co
  have av' := Lib.hid av
  have bv' := Lib.hid bv
  have cv' := Lib.hid cv
  have dv' := Lib.hid dv
  have fa' := Lib.hid fa
  have fc3' := Lib.hid fc3
  have hm' := Lib.hid hm
  clear a1 a2 b1 b2 c1 c2 d1 d2 cm co av bv cv dv fa fc3 hm
  obtain ⟨w2, hw2⟩ : ∃ W, ((w1.alloc (.cells #[.int .i64 i0, .int .i64 i1, .int .i64 i2, .int .i64 i3] 44)).alloc (.cells #[.int .i64 k0, .int .i64 k1, .int .i64 k2, .int .i64 k3] 44)) = W := ⟨_, rfl⟩
  have hB2 : Below w1.heap.size w1 w2 := by rw [← hw2]; exact ((Below.refl _ _).alloc (Nat.le_refl _) _).alloc (by simp) _
  have hb2 := hb1.trans (hB2.mono hb1.size)
  have x6 : BoxQ w2 (w1.heap.size) ((i0, i1), (i2, i3)) := by rw [← hw2]; refine ⟨?_, ?_, ?_, ?_⟩ <;> simp [go_sem]
  have x7 : BoxQ w2 (w1.heap.size + 1) ((k0, k1), (k2, k3)) := by rw [← hw2]; refine ⟨?_, ?_, ?_, ?_⟩ <;> simp [go_sem]
  clear hB2
  have x6' := Lib.hid x6
  clear x6
  have x7' := Lib.hid x7
  clear x7
  have hw2' := Lib.hid hw2
  clear hw2
  go_upto_region 4 with fail
  rw [hw2'.out]
  clear hw2'
  obtain ⟨z60, z61, z62, z63⟩ := x6'.out
  simp only at z60 z61 z62 z63
  obtain ⟨z70, z71, z72, z73⟩ := x7'.out
  simp only at z70 z71 z72 z73
  go_wp2_with fail
  refine (a1'.out _ hb2).mono ?_
  rintro e w3 ⟨rfl, hB3⟩
  clear z60 z61 z62 z63
  clear z70 z71 z72 z73
  have y6 := x6'.out.below hB3
  have y7 := x7'.out.below hB3
  clear x6' x7'
  have x6' := Lib.hid y6
  have x7' := Lib.hid y7
  clear y6 y7
  have hb3 := hb2.trans (hB3.mono hb2.size)
  obtain ⟨w4, hw4⟩ : ∃ W, (w3.alloc (.cells #[.int .i64 s0, .int .i64 s1, .int .i64 s2, .int .i64 s3] 44)) = W := ⟨_, rfl⟩
  have hB4 : Below w3.heap.size w3 w4 := by rw [← hw4]; exact (Below.refl _ _).alloc (Nat.le_refl _) _
  have y6 := x6'.out.below hB4
  have y7 := x7'.out.below hB4
  clear x6' x7'
  have x6' := Lib.hid y6
  have x7' := Lib.hid y7
  clear y6 y7
  have hb4 := hb3.trans (hB4.mono hb3.size)
  have x8 : BoxQ w4 (w3.heap.size) ((s0, s1), (s2, s3)) := by rw [← hw4]; refine ⟨?_, ?_, ?_, ?_⟩ <;> simp [go_sem]
  clear hB4
  have x8' := Lib.hid x8
  clear x8
  have hw4' := Lib.hid hw4
  clear hw4
  go_upto_region 5 with fail
  rw [hw4'.out]
  clear hw4'
  obtain ⟨z60, z61, z62, z63⟩ := x6'.out
  simp only at z60 z61 z62 z63
  obtain ⟨z70, z71, z72, z73⟩ := x7'.out
  simp only at z70 z71 z72 z73
  go_wp2_with fail
  refine (a2'.out _ hb4).mono ?_
  rintro e w5 ⟨rfl, hB5⟩
  clear z60 z61 z62 z63
  clear z70 z71 z72 z73
  have y6 := x6'.out.below hB5
  have y7 := x7'.out.below hB5
  have y8 := x8'.out.below hB5
  clear x6' x7' x8'
  have x6' := Lib.hid y6
  have x7' := Lib.hid y7
  have x8' := Lib.hid y8
  clear y6 y7 y8
  have hb5 := hb4.trans (hB5.mono hb4.size)
  obtain ⟨w6, hw6⟩ : ∃ W, (w5.alloc (.cells #[.int .i64 s0, .int .i64 s1, .int .i64 s2, .int .i64 s3] 44)) = W := ⟨_, rfl⟩
  have hB6 : Below w5.heap.size w5 w6 := by rw [← hw6]; exact (Below.refl _ _).alloc (Nat.le_refl _) _
  have y6 := x6'.out.below hB6
  have y7 := x7'.out.below hB6
  have y8 := x8'.out.below hB6
  clear x6' x7' x8'
  have x6' := Lib.hid y6
  have x7' := Lib.hid y7
  have x8' := Lib.hid y8
  clear y6 y7 y8
  have hb6 := hb5.trans (hB6.mono hb5.size)
  have xA : BoxQ w6 (w5.heap.size) ((s0, s1), (s2, s3)) := by rw [← hw6]; refine ⟨?_, ?_, ?_, ?_⟩ <;> simp [go_sem]
  clear hB6
  have xA' := Lib.hid xA
  clear xA
  have hw6' := Lib.hid hw6
  clear hw6
  go_upto_region 6 with fail
  rw [hw6'.out]
  clear hw6'
  obtain ⟨z60, z61, z62, z63⟩ := x6'.out
  simp only at z60 z61 z62 z63
  obtain ⟨z70, z71, z72, z73⟩ := x7'.out
  simp only at z70 z71 z72 z73
  go_wp2_with fail
  refine (b1'.out _ hb6).mono ?_
  rintro e w7 ⟨rfl, hB7⟩
  clear z60 z61 z62 z63
  clear z70 z71 z72 z73
  have y6 := x6'.out.below hB7
  have y7 := x7'.out.below hB7
  have y8 := x8'.out.below hB7
  have yA := xA'.out.below hB7
  clear x6' x7' x8' xA'
  have x6' := Lib.hid y6
  have x7' := Lib.hid y7
  have x8' := Lib.hid y8
  have xA' := Lib.hid yA
  clear y6 y7 y8 yA
  have hb7 := hb6.trans (hB7.mono hb6.size)
  obtain ⟨z60, z61, z62, z63⟩ := x6'.out
  simp only at z60 z61 z62 z63
  obtain ⟨z70, z71, z72, z73⟩ := x7'.out
  simp only at z70 z71 z72 z73
  go_wp2_with fail
  refine (b2'.out _ hb7).mono ?_
  rintro e w8 ⟨rfl, hB8⟩
  clear z60 z61 z62 z63
  clear z70 z71 z72 z73
  have y6 := x6'.out.below hB8
  have y7 := x7'.out.below hB8
  have y8 := x8'.out.below hB8
  have yA := xA'.out.below hB8
  clear x6' x7' x8' xA'
  have x6' := Lib.hid y6
  have x7' := Lib.hid y7
  have x8' := Lib.hid y8
  have xA' := Lib.hid yA
  clear y6 y7 y8 yA
  have hb8 := hb7.trans (hB8.mono hb7.size)
  obtain ⟨z60, z61, z62, z63⟩ := x6'.out
  simp only at z60 z61 z62 z63
  go_wp2_with fail
  refine (c1'.out _ hb8).mono ?_
  rintro e w9 ⟨rfl, hB9⟩
  clear z60 z61 z62 z63
  have y6 := x6'.out.below hB9
  have y7 := x7'.out.below hB9
  have y8 := x8'.out.below hB9
  have yA := xA'.out.below hB9
  clear x6' x7' x8' xA'
  have x6' := Lib.hid y6
  have x7' := Lib.hid y7
  have x8' := Lib.hid y8
  have xA' := Lib.hid yA
  clear y6 y7 y8 yA
  have hb9 := hb8.trans (hB9.mono hb8.size)
  obtain ⟨w10, hw10⟩ : ∃ W, (w9.alloc (.cells #[.int .i64 m0, .int .i64 m1, .int .i64 m2, .int .i64 m3] 44)) = W := ⟨_, rfl⟩
  have hB10 : Below w9.heap.size w9 w10 := by rw [← hw10]; exact (Below.refl _ _).alloc (Nat.le_refl _) _
  have y6 := x6'.out.below hB10
  have y7 := x7'.out.below hB10
  have y8 := x8'.out.below hB10
  have yA := xA'.out.below hB10
  clear x6' x7' x8' xA'
  have x6' := Lib.hid y6
  have x7' := Lib.hid y7
  have x8' := Lib.hid y8
  have xA' := Lib.hid yA
  clear y6 y7 y8 yA
  have hb10 := hb9.trans (hB10.mono hb9.size)
  have xG : BoxQ w10 (w9.heap.size) ((m0, m1), (m2, m3)) := by rw [← hw10]; refine ⟨?_, ?_, ?_, ?_⟩ <;> simp [go_sem]
  clear hB10
  have xG' := Lib.hid xG
  clear xG
  have hw10' := Lib.hid hw10
  clear hw10
  go_upto_region 9 with fail
  rw [hw10'.out]
  clear hw10'
  obtain ⟨z60, z61, z62, z63⟩ := x6'.out
  simp only at z60 z61 z62 z63
  go_wp2_with fail
  refine (c2'.out _ hb10).mono ?_
  rintro e w11 ⟨rfl, hB11⟩
  clear z60 z61 z62 z63
  have y6 := x6'.out.below hB11
  have y7 := x7'.out.below hB11
  have y8 := x8'.out.below hB11
  have yA := xA'.out.below hB11
  have yG := xG'.out.below hB11
  clear x6' x7' x8' xA' xG'
  have x6' := Lib.hid y6
  have x7' := Lib.hid y7
  have x8' := Lib.hid y8
  have xA' := Lib.hid yA
  have xG' := Lib.hid yG
  clear y6 y7 y8 yA yG
  have hb11 := hb10.trans (hB11.mono hb10.size)
  obtain ⟨w12, hw12⟩ : ∃ W, (w11.alloc (.cells #[.int .i64 m0, .int .i64 m1, .int .i64 m2, .int .i64 m3] 44)) = W := ⟨_, rfl⟩
  have hB12 : Below w11.heap.size w11 w12 := by rw [← hw12]; exact (Below.refl _ _).alloc (Nat.le_refl _) _
  have y6 := x6'.out.below hB12
  have y7 := x7'.out.below hB12
  have y8 := x8'.out.below hB12
  have yA := xA'.out.below hB12
  have yG := xG'.out.below hB12
  clear x6' x7' x8' xA' xG'
  have x6' := Lib.hid y6
  have x7' := Lib.hid y7
  have x8' := Lib.hid y8
  have xA' := Lib.hid yA
  have xG' := Lib.hid yG
  clear y6 y7 y8 yA yG
  have hb12 := hb11.trans (hB12.mono hb11.size)
  have xJ : BoxQ w12 (w11.heap.size) ((m0, m1), (m2, m3)) := by rw [← hw12]; refine ⟨?_, ?_, ?_, ?_⟩ <;> simp [go_sem]
  clear hB12
  have xJ' := Lib.hid xJ
  clear xJ
  have hw12' := Lib.hid hw12
  clear hw12
  go_upto_region 10 with fail
  rw [hw12'.out]
  clear hw12'
  obtain ⟨z60, z61, z62, z63⟩ := x6'.out
  simp only at z60 z61 z62 z63
  go_wp2_with fail
  refine (d1'.out _ hb12).mono ?_
  rintro e w13 ⟨rfl, hB13⟩
  clear z60 z61 z62 z63
  have y6 := x6'.out.below hB13
  have y7 := x7'.out.below hB13
  have y8 := x8'.out.below hB13
  have yA := xA'.out.below hB13
  have yG := xG'.out.below hB13
  have yJ := xJ'.out.below hB13
  clear x6' x7' x8' xA' xG' xJ'
  have x6' := Lib.hid y6
  have x7' := Lib.hid y7
  have x8' := Lib.hid y8
  have xA' := Lib.hid yA
  have xG' := Lib.hid yG
  have xJ' := Lib.hid yJ
  clear y6 y7 y8 yA yG yJ
  have hb13 := hb12.trans (hB13.mono hb12.size)
  obtain ⟨w14, hw14⟩ : ∃ W, (w13.alloc (.cells #[.int .i64 l0, .int .i64 l1] 42)) = W := ⟨_, rfl⟩
  have hB14 : Below w13.heap.size w13 w14 := by rw [← hw14]; exact (Below.refl _ _).alloc (Nat.le_refl _) _
  have y6 := x6'.out.below hB14
  have y7 := x7'.out.below hB14
  have y8 := x8'.out.below hB14
  have yA := xA'.out.below hB14
  have yG := xG'.out.below hB14
  have yJ := xJ'.out.below hB14
  clear x6' x7' x8' xA' xG' xJ'
  have x6' := Lib.hid y6
  have x7' := Lib.hid y7
  have x8' := Lib.hid y8
  have xA' := Lib.hid yA
  have xG' := Lib.hid yG
  have xJ' := Lib.hid yJ
  clear y6 y7 y8 yA yG yJ
  have hb14 := hb13.trans (hB14.mono hb13.size)
  have xP : BoxV w14 (w13.heap.size) (l0, l1) := by rw [← hw14]; refine ⟨⟨?_, ?_⟩, ?_, ?_⟩ <;> simp [go_sem]
  clear hB14
  have xP' := Lib.hid xP
  clear xP
  have hw14' := Lib.hid hw14
  clear hw14
  go_upto_region 11 with fail
  rw [hw14'.out]
  clear hw14'
  obtain ⟨z60, z61, z62, z63⟩ := x6'.out
  simp only at z60 z61 z62 z63
  go_wp2_with fail
  refine (d2'.out _ hb14).mono ?_
  rintro e w15 ⟨rfl, hB15⟩
  clear z60 z61 z62 z63
  have y6 := x6'.out.below hB15
  have y7 := x7'.out.below hB15
  have y8 := x8'.out.below hB15
  have yA := xA'.out.below hB15
  have yG := xG'.out.below hB15
  have yJ := xJ'.out.below hB15
  have yP := xP'.out.below hB15
  clear x6' x7' x8' xA' xG' xJ' xP'
  have x6' := Lib.hid y6
  have x7' := Lib.hid y7
  have x8' := Lib.hid y8
  have xA' := Lib.hid yA
  have xG' := Lib.hid yG
  have xJ' := Lib.hid yJ
  have xP' := Lib.hid yP
  clear y6 y7 y8 yA yG yJ yP
  have hb15 := hb14.trans (hB15.mono hb14.size)
  obtain ⟨w16, hw16⟩ : ∃ W, (w15.alloc (.cells #[.int .i64 l0, .int .i64 l1] 42)) = W := ⟨_, rfl⟩
  have hB16 : Below w15.heap.size w15 w16 := by rw [← hw16]; exact (Below.refl _ _).alloc (Nat.le_refl _) _
  have y6 := x6'.out.below hB16
  have y7 := x7'.out.below hB16
  have y8 := x8'.out.below hB16
  have yA := xA'.out.below hB16
  have yG := xG'.out.below hB16
  have yJ := xJ'.out.below hB16
  have yP := xP'.out.below hB16
  clear x6' x7' x8' xA' xG' xJ' xP'
  have x6' := Lib.hid y6
  have x7' := Lib.hid y7
  have x8' := Lib.hid y8
  have xA' := Lib.hid yA
  have xG' := Lib.hid yG
  have xJ' := Lib.hid yJ
  have xP' := Lib.hid yP
  clear y6 y7 y8 yA yG yJ yP
  have hb16 := hb15.trans (hB16.mono hb15.size)
  have xR : BoxV w16 (w15.heap.size) (l0, l1) := by rw [← hw16]; refine ⟨⟨?_, ?_⟩, ?_, ?_⟩ <;> simp [go_sem]
  clear hB16
  have xR' := Lib.hid xR
  clear xR
  have hw16' := Lib.hid hw16
  clear hw16
  go_upto_region 12 with fail
  rw [hw16'.out]
  clear hw16'
  clear a1' a2' b1' b2' c1' c2' d1' d2'
  have hbw := hB1.trans (hb16.mono hB1.size)
  go_wp2_with fail
  refine (DrawCoverGraph_any _ _ w16 (h1.out.below hbw)).mono ?_
  rintro e w17 ⟨v24, g, v25, lst, rfl, ⟨hg, hlg⟩, ⟨hll, hln⟩, hB17⟩
  have y6 := x6'.out.below hB17
  have y7 := x7'.out.below hB17
  have y8 := x8'.out.below hB17
  have yA := xA'.out.below hB17
  have yG := xG'.out.below hB17
  have yJ := xJ'.out.below hB17
  have yP := xP'.out.below hB17
  have yR := xR'.out.below hB17
  clear x6' x7' x8' xA' xG' xJ' xP' xR'
  have x6' := Lib.hid y6
  have x7' := Lib.hid y7
  have x8' := Lib.hid y8
  have xA' := Lib.hid yA
  have xG' := Lib.hid yG
  have xJ' := Lib.hid yJ
  have xP' := Lib.hid yP
  have xR' := Lib.hid yR
  clear y6 y7 y8 yA yG yJ yP yR
  have hb17 := hb16.trans (hB17.mono hb16.size)
  have hgw : ∀ w', Below w17.heap.size w17 w' → QuadV w' v24 g := fun w' h => hg.below h
  have hlw : ∀ w', Below w17.heap.size w17 w' → QuadV w' v25 lst := fun w' h => hll.below h
  obtain ⟨go, gc, rfl, -⟩ := hg.form
  obtain ⟨lo, lc, rfl, -⟩ := hll.form
  have g1 := fun w' (hB : Below w17.heap.size w17 w') => implCoverGraph_any _ g _ lst w' (hgw w' hB) (show g.length ≤ _ by omega) (hlw w' hB) (show lst.length ≤ _ by omega)
  have g2 := fun w' (hB : Below w17.heap.size w17 w') => specCoverGraph_any _ g _ lst w' (hgw w' hB) (show g.length ≤ _ by omega) (hlw w' hB) (show lst.length ≤ _ by omega)
  have cy := fun w' (hB : Below w17.heap.size w17 w') (x y : Quad) => implCoversIv_any _ g x y w' (hgw w' hB) (by omega)
  have hgl := CoverGraph_len g lst
  have hgf := @graph_fact g lst
  obtain ⟨⟨h, seven⟩, hv5⟩ : ∃ r, CoverGraph_v g lst = r := ⟨_, rfl⟩
  rw [hv5] at g1 g2 hgl hgf
  have fg : seven = true → _ := fun q => by subst q; exact hgf rfl
  obtain ⟨mg, hm2⟩ : ∃ m, g.length = m := ⟨_, rfl⟩
  obtain ⟨n, hn⟩ : ∃ n, lst.length = n := ⟨_, rfl⟩
  rw [hm2] at g1 g2 cy ⊢
  rw [hn] at g1 g2 hlw fg hln ⊢
  have hbG := Below.refl w17.heap.size w17
  clear hg hll hgw hgf hv5
  have g1' := Lib.hid g1
  have g2' := Lib.hid g2
  have cy' := Lib.hid cy
  have hgl' := Lib.hid hgl
  have hlw' := Lib.hid hlw
  have fg' := Lib.hid fg
  have hn' := Lib.hid hn
  have hm2' := Lib.hid hm2
  clear g1 g2 cy hgl hlw fg hn hm2
  go_wp2_with fail
  refine (g1'.out _ hbG).mono ?_
  rintro e w18 ⟨v26, rfl, ho26, hB18⟩
  have y6 := x6'.out.below hB18
  have y7 := x7'.out.below hB18
  have y8 := x8'.out.below hB18
  have yA := xA'.out.below hB18
  have yG := xG'.out.below hB18
  have yJ := xJ'.out.below hB18
  have yP := xP'.out.below hB18
  have yR := xR'.out.below hB18
  clear x6' x7' x8' xA' xG' xJ' xP' xR'
  have x6' := Lib.hid y6
  have x7' := Lib.hid y7
  have x8' := Lib.hid y8
  have xA' := Lib.hid yA
  have xG' := Lib.hid yG
  have xJ' := Lib.hid yJ
  have xP' := Lib.hid yP
  have xR' := Lib.hid yR
  clear y6 y7 y8 yA yG yJ yP yR
  have hb18 := hb17.trans (hB18.mono hb17.size)
  have hbG18 := hbG.trans (hB18.mono hbG.size)
  have r26 := ho26.read
  go_wp2_with fail
  refine (g2'.out _ hbG18).mono ?_
  rintro e w19 ⟨v28, rfl, ho28, hB19⟩
  have y6 := x6'.out.below hB19
  have y7 := x7'.out.below hB19
  have y8 := x8'.out.below hB19
  have yA := xA'.out.below hB19
  have yG := xG'.out.below hB19
  have yJ := xJ'.out.below hB19
  have yP := xP'.out.below hB19
  have yR := xR'.out.below hB19
  clear x6' x7' x8' xA' xG' xJ' xP' xR'
  have x6' := Lib.hid y6
  have x7' := Lib.hid y7
  have x8' := Lib.hid y8
  have xA' := Lib.hid yA
  have xG' := Lib.hid yG
  have xJ' := Lib.hid yJ
  have xP' := Lib.hid yP
  have xR' := Lib.hid yR
  clear y6 y7 y8 yA yG yJ yP yR
  have hb19 := hb18.trans (hB19.mono hb18.size)
  have hbG19 := hbG18.trans (hB19.mono hbG18.size)
  replace r26 := r26.below hB19
  have r28 := ho28.read
  have cq := qLists_same v26 v28 h w19 r26 r28 hgl'.out
  obtain ⟨_, _, rfl, -⟩ := id r26
  obtain ⟨_, _, rfl, -⟩ := id r28
  clear ho26 ho28 g1' g2'
  have r26' := Lib.hid r26
  have r28' := Lib.hid r28
  have cq' := Lib.hid cq
  clear r26 r28 cq
  go_upto_region 15 with fail
  go_cut [180] from 122 to 180 (fun s wx => s = .bool false ∧ Below w19.heap.size w19 wx)
  case first => as_aux_lemma =>
    obtain ⟨z80, z81, z82, z83⟩ := x8'.out
    simp only at z80 z81 z82 z83
    obtain ⟨zA0, zA1, zA2, zA3⟩ := xA'.out
    simp only at zA0 zA1 zA2 zA3
    obtain ⟨zG0, zG1, zG2, zG3⟩ := xG'.out
    simp only at zG0 zG1 zG2 zG3
    obtain ⟨zJ0, zJ1, zJ2, zJ3⟩ := xJ'.out
    simp only at zJ0 zJ1 zJ2 zJ3
    obtain ⟨⟨zP0, zP1⟩, -, -⟩ := xP'.out
    simp only at zP0 zP1
    obtain ⟨⟨zR0, zR1⟩, -, -⟩ := xR'.out
    simp only at zR0 zR1
    cases ok
    · go_wp2_with fail
      refine (cq'.out).mono ?_
      rintro e wq ⟨rfl, hBq⟩
      go_wp2_with fail
      go_meet
      exact ⟨rfl, hBq⟩
    · obtain ⟨⟨rfl, rfl⟩, -⟩ := fa'.out rfl
      go_wp2_with fail
      refine (cq'.out).mono ?_
      rintro e wq ⟨rfl, hBq⟩
      go_wp2_with fail
      go_meet
      exact ⟨rfl, hBq⟩
  case rest => as_aux_lemma =>
  clear cq'
  obtain ⟨rfl, hB20⟩ := hcut
  obtain ⟨w20, rfl⟩ : ∃ wo : World, wo = wc := ⟨_, rfl⟩
  have y6 := x6'.out.below hB20
  have y7 := x7'.out.below hB20
  have y8 := x8'.out.below hB20
  have yA := xA'.out.below hB20
  have yG := xG'.out.below hB20
  have yJ := xJ'.out.below hB20
  have yP := xP'.out.below hB20
  have yR := xR'.out.below hB20
  clear x6' x7' x8' xA' xG' xJ' xP' xR'
  have x6' := Lib.hid y6
  have x7' := Lib.hid y7
  have x8' := Lib.hid y8
  have xA' := Lib.hid yA
  have xG' := Lib.hid yG
  have xJ' := Lib.hid yJ
  have xP' := Lib.hid yP
  have xR' := Lib.hid yR
  clear y6 y7 y8 yA yG yJ yP yR
  have hb20 := hb19.trans (hB20.mono hb19.size)
  have hbG20 := hbG19.trans (hB20.mono hbG19.size)
  have s26 := r26'.out.below hB20
  have s28 := r28'.out.below hB20
  clear r26' r28'
  have s26' := Lib.hid s26
  have s28' := Lib.hid s28
  clear s26 s28
  go_upto_if 181 with fail
  go_cut [] from 182 to 214 (fun wx => Below w20.heap.size w20 wx)
  case first => as_aux_lemma =>
    cases three
    · go_wp2_with fail
      go_meet
      exact Below.refl _ _
    obtain ⟨p1, p2, p3, p4⟩ := fc3'.out rfl
    have p5 := fun h => p4 ((k0, k1), (k2, k3)) h
    have cM := cm'.out w20 hb20 ((m0, m1), (m2, m3))
    rw [p1] at cM
    have hcv : one = true → c = true → _ := fun e1 e2 => p5 (by rw [bv'.out, e1, e2])
    simp only at hcv p2 p3
    clear p1 p4 p5
    have hcv' := Lib.hid hcv
    have cM' := Lib.hid cM
    have p2' := Lib.hid p2
    have p3' := Lib.hid p3
    clear hcv cM p2 p3
    obtain ⟨z60, z61, z62, z63⟩ := x6'.out
    simp only at z60 z61 z62 z63
    obtain ⟨zJ0, zJ1, zJ2, zJ3⟩ := xJ'.out
    simp only at zJ0 zJ1 zJ2 zJ3
    go_wp2_with fail
    refine (cM'.out).mono ?_
    rintro e wa ⟨rfl, hBa⟩
    clear z60 z61 z62 z63
    clear zJ0 zJ1 zJ2 zJ3
    have x6a := x6'.out.below hBa
    have x7a := x7'.out.below hBa
    have xJa := xJ'.out.below hBa
    have hBa' := Lib.hid hBa
    have x6a' := Lib.hid x6a
    have x7a' := Lib.hid x7a
    have xJa' := Lib.hid xJa
    clear hBa x6a x7a xJa
    cases one
    · go_wp2_with fail
      go_meet
      exact hBa'.out
    cases c
    · go_wp2_with fail
      go_meet
      exact hBa'.out
    obtain ⟨q1, q2, q3, q4⟩ := hcv'.out rfl rfl
    try simp only at q1 q2 q3 q4
    have u1 := fun w' => qUp_any m0 m1 k0 k1 w' p2'.out q3
    have u2 := fun w' => qUp_any k2 k3 m2 m3 w' q4 p3'.out
    generalize cmpN m0 m1 k0 k1 = X at *
    generalize cmpN k2 k3 m2 m3 = Y at *
    have nX : ¬ (0 < X) := by omega
    have nY : ¬ (0 < Y) := by omega
    obtain ⟨z70, z71, z72, z73⟩ := x7a'.out
    obtain ⟨zJ0, zJ1, zJ2, zJ3⟩ := xJa'.out
    simp only at z70 z71 z72 z73 zJ0 zJ1 zJ2 zJ3
    have u1' := Lib.hid u1
    have u2' := Lib.hid u2
    clear u1 u2
    go_wp2_with fail
    refine (u1'.out _).mono ?_
    rintro e wb ⟨rfl, hBb⟩
    obtain ⟨t70, t71, t72, t73⟩ := x7a'.out.below hBb
    obtain ⟨tJ0, tJ1, tJ2, tJ3⟩ := xJa'.out.below hBb
    simp only at t70 t71 t72 t73 tJ0 tJ1 tJ2 tJ3
    clear z70 z71 z72 z73 zJ0 zJ1 zJ2 zJ3
    go_wp2_with fail
    refine (u2'.out _).mono ?_
    rintro e wd ⟨rfl, hBd⟩
    have hBz := hBa'.out.trans ((hBb.trans (hBd.mono hBb.size)).mono hBa'.out.size)
    clear hBb hBd t70 t71 t72 t73 tJ0 tJ1 tJ2 tJ3
    have hBz' := Lib.hid hBz
    clear hBz
    go_wp2_with fail
    go_meet
    exact hBz'.out
  case rest => as_aux_lemma =>
  have hB21 := hcut
  clear hcut
  obtain ⟨w21, rfl⟩ : ∃ wo : World, wo = wc := ⟨_, rfl⟩
  have y6 := x6'.out.below hB21
  have y7 := x7'.out.below hB21
  have y8 := x8'.out.below hB21
  have yA := xA'.out.below hB21
  have yG := xG'.out.below hB21
  have yJ := xJ'.out.below hB21
  have yP := xP'.out.below hB21
  have yR := xR'.out.below hB21
  clear x6' x7' x8' xA' xG' xJ' xP' xR'
  have x6' := Lib.hid y6
  have x7' := Lib.hid y7
  have x8' := Lib.hid y8
  have xA' := Lib.hid yA
  have xG' := Lib.hid yG
  have xJ' := Lib.hid yJ
  have xP' := Lib.hid yP
  have xR' := Lib.hid yR
  clear y6 y7 y8 yA yG yJ yP yR
  have hb21 := hb20.trans (hB21.mono hb20.size)
  have hbG21 := hbG20.trans (hB21.mono hbG20.size)
  have t26 := s26'.out.below hB21
  have t28 := s28'.out.below hB21
  clear s26' s28' cm' fc3'
  have t26' := Lib.hid t26
  have t28' := Lib.hid t28
  clear t26 t28
  go_upto_if 215 with fail
  go_cut [] from 216 to 255 (fun wx => Below w21.heap.size w21 wx)
  case first => as_aux_lemma =>
    cases seven
    · go_wp2_with fail
      go_meet
      exact Below.refl _ _
    obtain ⟨f1, f2, f3⟩ := fg'.out rfl
    have f2b := f2
    subst f2b
    have cG := fun w' (hB : Below w21.heap.size w21 w') => implIsGraph_any _ h w' (t26'.out.below hB) hgl'.out
    rw [show IsGraph_v h = true from f1] at cG
    obtain ⟨B, O, oc, ro, rof, rc, e28, HG⟩ := t28'.out.graph f1 rfl
    obtain ⟨rfl, -, rfl⟩ := Value.slice.inj e28
    have hlx := fun w' (hB : Below w21.heap.size w21 w') => hlw'.out w' (hbG21.trans (hB.mono hbG21.size))
    obtain ⟨lo2, lc2, el, -, -, HL⟩ := (hlx w21 (Below.refl _ _)).form
    rw [hn'.out] at HL el
    have el1 : lo2 = lo := (Value.slice.inj el).1.symm
    subst el1
    have cz := fun w' (hB : Below w21.heap.size w21 w') => cy'.out w' (hbG21.trans (hB.mono hbG21.size))
    have hGw := fun w' (hB : Below w21.heap.size w21 w') => GR.below HG hB
    clear el hlx cy' hlw' HG t26' t28'
    have cG' := Lib.hid cG
    have f3' := Lib.hid f3
    have HL' := Lib.hid HL
    have cz' := Lib.hid cz
    have hGw' := Lib.hid hGw
    clear cG f3 HL cz hGw
    go_wp2_with fail
    refine (cG'.out w21 (Below.refl _ _)).mono ?_
    rintro e wa ⟨rfl, hBa⟩
    have hBa' := Lib.hid hBa
    clear hBa
    go_wp2_with fail
    go_loopw [221] (fun i wr => ∃ a : Nat, a ≤ h.length ∧ i = .int .i64 a ∧ Below w21.heap.size w21 wr) (fun i _ => h.length - (intOf i).toNat)
    case atStart => exact ⟨0, Nat.zero_le _, rfl, hBa'.out⟩
    case round =>
      obtain ⟨a, ha, rfl, hBr⟩ := hrel
      obtain ⟨w21a, rfl⟩ : ∃ wo : World, wo = wr := ⟨_, rfl⟩
      clear hBa'
      by_cases hlt : a < h.length
      · obtain ⟨bl, ol, rfl, y0, y1, y2, y3⟩ := HL'.out a hlt
        replace y0 := bkeep hBr y0
        replace y1 := bkeep hBr y1
        replace y2 := bkeep hBr y2
        replace y3 := bkeep hBr y3
        have f4 := fun b hb => f3'.out a b hlt hb
        have cz2 := fun w' hB y => cz'.out w' hB (nth4 lst a) y
        generalize nth4 lst a = X at *
        obtain ⟨⟨a0, a1⟩, ⟨a2, a3⟩⟩ := X
        simp only at y0 y1 y2 y3
        obtain ⟨w8, hw8⟩ : ∃ W, w21a.alloc (.cells #[.int .i64 a0, .int .i64 a1, .int .i64 a2, .int .i64 a3] 44) = W := ⟨_, rfl⟩
        have hB8 : Below w21a.heap.size w21a w8 := by rw [← hw8]; exact (Below.refl _ _).alloc (Nat.le_refl _) _
        have xa : BoxQ w8 w21a.heap.size ((a0, a1), (a2, a3)) := by rw [← hw8]; refine ⟨?_, ?_, ?_, ?_⟩ <;> simp [go_sem]
        have hb8 := hBr.trans (hB8.mono hBr.size)
        obtain ⟨ba, hba⟩ : ∃ b, w21a.heap.size = b := ⟨_, rfl⟩
        rw [hba] at xa
        clear hB8 hBr
        have f4' := Lib.hid f4
        have cz2' := Lib.hid cz2
        have hw8' := Lib.hid hw8
        have xa' := Lib.hid xa
        have hb8' := Lib.hid hb8
        clear f4 cz2 hw8 xa hb8
        go_upto_region 29 with fail
        rw [hw8'.out]
        clear y0 y1 y2 y3
        go_wp2_with fail
        go_loopw [228] (fun j wr => ∃ b : Nat, b ≤ h.length ∧ j = .int .i64 b ∧ BoxQ wr ba ((a0, a1), (a2, a3)) ∧ Below w21.heap.size w21 wr) (fun j _ => h.length - (intOf j).toNat)
        case atStart => exact ⟨0, Nat.zero_le _, rfl, xa'.out, hb8'.out⟩
        case round =>
          obtain ⟨b, hb, rfl, xb, hBr⟩ := hrel
          obtain ⟨w9, rfl⟩ : ∃ wo : World, wo = wr := ⟨_, rfl⟩
          clear xa' hb8' hw8'
          by_cases hltb : b < h.length
          · obtain ⟨_, _, eb, y0, y1, y2, y3⟩ := HL'.out b hltb
            cases eb
            replace y0 := bkeep hBr y0
            replace y1 := bkeep hBr y1
            replace y2 := bkeep hBr y2
            replace y3 := bkeep hBr y3
            have f5 := f4'.out b hltb
            have cz3 := fun w' hB => cz2'.out w' hB (nth4 lst b)
            rw [f5] at cz3
            generalize nth4 lst b = Y at *
            obtain ⟨⟨b0, b1⟩, ⟨b2, b3⟩⟩ := Y
            simp only at y0 y1 y2 y3
            obtain ⟨w10, hw10⟩ : ∃ W, w9.alloc (.cells #[.int .i64 b0, .int .i64 b1, .int .i64 b2, .int .i64 b3] 44) = W := ⟨_, rfl⟩
            have hB10 : Below w9.heap.size w9 w10 := by rw [← hw10]; exact (Below.refl _ _).alloc (Nat.le_refl _) _
            have xc : BoxQ w10 w9.heap.size ((b0, b1), (b2, b3)) := by rw [← hw10]; refine ⟨?_, ?_, ?_, ?_⟩ <;> simp [go_sem]
            have xb10 := xb.below hB10
            have hb10 := hBr.trans (hB10.mono hBr.size)
            have cz4 := cz3 w10 hb10
            clear hB10 hBr xb cz3
            have cz4' := Lib.hid cz4
            have hw10' := Lib.hid hw10
            have xc' := Lib.hid xc
            have xb10' := Lib.hid xb10
            have hb10' := Lib.hid hb10
            have f5' := Lib.hid f5
            clear cz4 hw10 xc xb10 hb10 f5
            go_upto_region 32 with fail
            rw [hw10'.out]
            clear y0 y1 y2 y3
            obtain ⟨y0, y1, y2, y3⟩ := xc'.out
            obtain ⟨z0, z1, z2, z3⟩ := xb10'.out
            simp only at y0 y1 y2 y3 z0 z1 z2 z3
            go_wp2_with fail
            refine (cz4'.out).mono ?_
            rintro e w11 ⟨rfl, hB11⟩
            have hb11 := hb10'.out.trans (hB11.mono hb10'.out.size)
            have xb11 := xb10'.out.below hB11
            obtain ⟨p0, -, p1⟩ := hGw'.out w11 hb11 a hlt
            replace p1 := p1 b hltb
            have ep : ent h a b = nth (row h a) b := rfl
            rw [ep] at p1
            generalize nth (row h a) b = V at *
            clear hB11 y0 y1 y2 y3 z0 z1 z2 z3 xc' xb10' hb10' f5' cz4' hw10' ep
            have hb11' := Lib.hid hb11
            have xb11' := Lib.hid xb11
            clear hb11 xb11
            by_cases hV : V = 1
            · subst hV
              go_wp2
              go_roundw
              case rel => exact ⟨b + 1, by omega, by go_num, xb11'.out, hb11'.out⟩
              case measure => simp [intOf]; omega
            · have hV2 : (V == 1) = false := by rw [beq_eq_false_iff_ne]; exact hV
              go_wp2
              go_roundw
              case rel => exact ⟨b + 1, by omega, by go_num, xb11'.out, hb11'.out⟩
              case measure => simp [intOf]; omega
          · have q0 : ¬ ((b : Int) < (h.length : Int)) := by omega
            have hBe := hBr
            clear hBr xb
            have hBe' := Lib.hid hBe
            clear hBe
            go_wp2
            go_roundw
            case rel => exact ⟨a + 1, by omega, by go_num, hBe'.out⟩
            case measure => simp [intOf]; omega
      · have q0 : ¬ ((a : Int) < (h.length : Int)) := by omega
        have hBr' := Lib.hid hBr
        clear hBr
        go_wp2_with fail
        go_meet
        exact hBr'.out
  case rest => as_aux_lemma =>
  clear t26' t28' cy' hlw'
  have hB22 := hcut
  clear hcut
  obtain ⟨w22, rfl⟩ : ∃ wo : World, wo = wc := ⟨_, rfl⟩
  have y6 := x6'.out.below hB22
  have y7 := x7'.out.below hB22
  have y8 := x8'.out.below hB22
  have yA := xA'.out.below hB22
  have yG := xG'.out.below hB22
  have yJ := xJ'.out.below hB22
  have yP := xP'.out.below hB22
  have yR := xR'.out.below hB22
  clear x6' x7' x8' xA' xG' xJ' xP' xR'
  have x6' := Lib.hid y6
  have x7' := Lib.hid y7
  have x8' := Lib.hid y8
  have xA' := Lib.hid yA
  have xG' := Lib.hid yG
  have xJ' := Lib.hid yJ
  have xP' := Lib.hid yP
  have xR' := Lib.hid yR
  clear y6 y7 y8 yA yG yJ yP yR
  have hb22 := hb21.trans (hB22.mono hb21.size)
  have hbG22 := hbG21.trans (hB22.mono hbG21.size)
  have hbE := hB1.trans (hb22.mono hB1.size)
  have hbE' := Lib.hid hbE
  clear hbE
  cases ok
  · go_wp2
    go_ret
    exact ⟨rfl, hbE'.out⟩
  obtain ⟨-, p1, p2, p3, p4, p5, p6⟩ := fa'.out rfl
  obtain ⟨t1, t2, -⟩ := ivB_true p1
  have cO := co'.out w22 hb22 (s0, s1) (s2, s3) t1 t2 (iv_asym p1)
  try simp only at p2
  rw [p2] at cO
  have u1 := fun w' => qUp_any i0 i1 s0 s1 w' p5 (unit_bd t1)
  have u2 := fun w' => qUp_any s2 s3 i2 i3 w' (unit_bd t2) p6
  have u3 := fun w' => IsInterval_any ((s0, s1), (s2, s3)) w'
  rw [p1] at u3
  try simp only at p3 p4
  try simp only at u1 u2
  generalize cmpN i0 i1 s0 s1 = X at *
  generalize cmpN s2 s3 i2 i3 = Y at *
  clear p1 p2 t1 t2 p5 p6 fa' co'
  have cO' := Lib.hid cO
  have u1' := Lib.hid u1
  have u2' := Lib.hid u2
  have u3' := Lib.hid u3
  clear cO u1 u2 u3
  obtain ⟨z80, z81, z82, z83⟩ := x8'.out
  simp only at z80 z81 z82 z83
  go_wp2_with fail
  refine (cO'.out).mono ?_
  rintro e w23 ⟨rfl, hB23⟩
  clear z80 z81 z82 z83
  have y6 := x6'.out.below hB23
  have y7 := x7'.out.below hB23
  have y8 := x8'.out.below hB23
  have yA := xA'.out.below hB23
  have yG := xG'.out.below hB23
  have yJ := xJ'.out.below hB23
  have yP := xP'.out.below hB23
  have yR := xR'.out.below hB23
  clear x6' x7' x8' xA' xG' xJ' xP' xR'
  have x6' := Lib.hid y6
  have x7' := Lib.hid y7
  have x8' := Lib.hid y8
  have xA' := Lib.hid yA
  have xG' := Lib.hid yG
  have xJ' := Lib.hid yJ
  have xP' := Lib.hid yP
  have xR' := Lib.hid yR
  clear y6 y7 y8 yA yG yJ yP yR
  have hb23 := hb22.trans (hB23.mono hb22.size)
  obtain ⟨w24, hw24⟩ : ∃ W, ((w23.alloc (.cells #[.int .i64 k0, .int .i64 k1] 42)).alloc (.cells #[.int .i64 k2, .int .i64 k3] 42)) = W := ⟨_, rfl⟩
  have hB24 : Below w23.heap.size w23 w24 := by rw [← hw24]; exact ((Below.refl _ _).alloc (Nat.le_refl _) _).alloc (by simp) _
  have y6 := x6'.out.below hB24
  have y7 := x7'.out.below hB24
  have y8 := x8'.out.below hB24
  have yA := xA'.out.below hB24
  have yG := xG'.out.below hB24
  have yJ := xJ'.out.below hB24
  have yP := xP'.out.below hB24
  have yR := xR'.out.below hB24
  clear x6' x7' x8' xA' xG' xJ' xP' xR'
  have x6' := Lib.hid y6
  have x7' := Lib.hid y7
  have x8' := Lib.hid y8
  have xA' := Lib.hid yA
  have xG' := Lib.hid yG
  have xJ' := Lib.hid yJ
  have xP' := Lib.hid yP
  have xR' := Lib.hid yR
  clear y6 y7 y8 yA yG yJ yP yR
  have hb24 := hb23.trans (hB24.mono hb23.size)
  have xE : BoxV w24 (w23.heap.size) (k0, k1) := by rw [← hw24]; refine ⟨⟨?_, ?_⟩, ?_, ?_⟩ <;> simp [go_sem]
  have xF : BoxV w24 (w23.heap.size + 1) (k2, k3) := by rw [← hw24]; refine ⟨⟨?_, ?_⟩, ?_, ?_⟩ <;> simp [go_sem]
  clear hB24
  have xE' := Lib.hid xE
  clear xE
  have xF' := Lib.hid xF
  clear xF
  have hw24' := Lib.hid hw24
  clear hw24
  go_upto_region 40 with fail
  rw [hw24'.out]
  clear hw24'
  obtain ⟨⟨zE0, zE1⟩, -, -⟩ := xE'.out
  simp only at zE0 zE1
  obtain ⟨⟨zF0, zF1⟩, -, -⟩ := xF'.out
  simp only at zF0 zF1
  obtain ⟨z70, z71, z72, z73⟩ := x7'.out
  simp only at z70 z71 z72 z73
  obtain ⟨z60, z61, z62, z63⟩ := x6'.out
  simp only at z60 z61 z62 z63
  obtain ⟨zA0, zA1, zA2, zA3⟩ := xA'.out
  simp only at zA0 zA1 zA2 zA3
  obtain ⟨z80, z81, z82, z83⟩ := x8'.out
  simp only at z80 z81 z82 z83
  go_wp2_with fail
  refine (u1'.out _).mono ?_
  rintro e w25 ⟨rfl, hB25⟩
  clear z70 z71 z72 z73 z60 z61 z62 z63 zA0 zA1 zA2 zA3 z80 z81 z82 z83 zE0 zE1 zF0 zF1
  have y6 := x6'.out.below hB25
  have y7 := x7'.out.below hB25
  have y8 := x8'.out.below hB25
  have yA := xA'.out.below hB25
  have yG := xG'.out.below hB25
  have yJ := xJ'.out.below hB25
  have yP := xP'.out.below hB25
  have yR := xR'.out.below hB25
  have yE := xE'.out.below hB25
  have yF := xF'.out.below hB25
  clear x6' x7' x8' xA' xG' xJ' xP' xR' xE' xF'
  have x6' := Lib.hid y6
  have x7' := Lib.hid y7
  have x8' := Lib.hid y8
  have xA' := Lib.hid yA
  have xG' := Lib.hid yG
  have xJ' := Lib.hid yJ
  have xP' := Lib.hid yP
  have xR' := Lib.hid yR
  have xE' := Lib.hid yE
  have xF' := Lib.hid yF
  clear y6 y7 y8 yA yG yJ yP yR yE yF
  have hb25 := hb24.trans (hB25.mono hb24.size)
  obtain ⟨⟨zE0, zE1⟩, -, -⟩ := xE'.out
  simp only at zE0 zE1
  obtain ⟨⟨zF0, zF1⟩, -, -⟩ := xF'.out
  simp only at zF0 zF1
  obtain ⟨z70, z71, z72, z73⟩ := x7'.out
  simp only at z70 z71 z72 z73
  obtain ⟨z60, z61, z62, z63⟩ := x6'.out
  simp only at z60 z61 z62 z63
  obtain ⟨zA0, zA1, zA2, zA3⟩ := xA'.out
  simp only at zA0 zA1 zA2 zA3
  obtain ⟨z80, z81, z82, z83⟩ := x8'.out
  simp only at z80 z81 z82 z83
  go_wp2_with fail
  refine (u2'.out _).mono ?_
  rintro e w26 ⟨rfl, hB26⟩
  clear z70 z71 z72 z73 z60 z61 z62 z63 zA0 zA1 zA2 zA3 z80 z81 z82 z83 zE0 zE1 zF0 zF1
  have y6 := x6'.out.below hB26
  have y7 := x7'.out.below hB26
  have y8 := x8'.out.below hB26
  have yA := xA'.out.below hB26
  have yG := xG'.out.below hB26
  have yJ := xJ'.out.below hB26
  have yP := xP'.out.below hB26
  have yR := xR'.out.below hB26
  have yE := xE'.out.below hB26
  have yF := xF'.out.below hB26
  clear x6' x7' x8' xA' xG' xJ' xP' xR' xE' xF'
  have x6' := Lib.hid y6
  have x7' := Lib.hid y7
  have x8' := Lib.hid y8
  have xA' := Lib.hid yA
  have xG' := Lib.hid yG
  have xJ' := Lib.hid yJ
  have xP' := Lib.hid yP
  have xR' := Lib.hid yR
  have xE' := Lib.hid yE
  have xF' := Lib.hid yF
  clear y6 y7 y8 yA yG yJ yP yR yE yF
  have hb26 := hb25.trans (hB26.mono hb25.size)
  obtain ⟨⟨zE0, zE1⟩, -, -⟩ := xE'.out
  simp only at zE0 zE1
  obtain ⟨⟨zF0, zF1⟩, -, -⟩ := xF'.out
  simp only at zF0 zF1
  obtain ⟨z70, z71, z72, z73⟩ := x7'.out
  simp only at z70 z71 z72 z73
  obtain ⟨z60, z61, z62, z63⟩ := x6'.out
  simp only at z60 z61 z62 z63
  obtain ⟨zA0, zA1, zA2, zA3⟩ := xA'.out
  simp only at zA0 zA1 zA2 zA3
  obtain ⟨z80, z81, z82, z83⟩ := x8'.out
  simp only at z80 z81 z82 z83
  go_wp2_with fail
  refine (u3'.out _).mono ?_
  rintro e w27 ⟨rfl, hB27⟩
  clear z70 z71 z72 z73 z60 z61 z62 z63 zA0 zA1 zA2 zA3 z80 z81 z82 z83 zE0 zE1 zF0 zF1
  have y6 := x6'.out.below hB27
  have y7 := x7'.out.below hB27
  have y8 := x8'.out.below hB27
  have yA := xA'.out.below hB27
  have yG := xG'.out.below hB27
  have yJ := xJ'.out.below hB27
  have yP := xP'.out.below hB27
  have yR := xR'.out.below hB27
  have yE := xE'.out.below hB27
  have yF := xF'.out.below hB27
  clear x6' x7' x8' xA' xG' xJ' xP' xR' xE' xF'
  have x6' := Lib.hid y6
  have x7' := Lib.hid y7
  have x8' := Lib.hid y8
  have xA' := Lib.hid yA
  have xG' := Lib.hid yG
  have xJ' := Lib.hid yJ
  have xP' := Lib.hid yP
  have xR' := Lib.hid yR
  have xE' := Lib.hid yE
  have xF' := Lib.hid yF
  clear y6 y7 y8 yA yG yJ yP yR yE yF
  have hb27 := hb26.trans (hB27.mono hb26.size)
  obtain ⟨⟨zE0, zE1⟩, -, -⟩ := xE'.out
  simp only at zE0 zE1
  obtain ⟨⟨zF0, zF1⟩, -, -⟩ := xF'.out
  simp only at zF0 zF1
  obtain ⟨z70, z71, z72, z73⟩ := x7'.out
  simp only at z70 z71 z72 z73
  obtain ⟨z60, z61, z62, z63⟩ := x6'.out
  simp only at z60 z61 z62 z63
  obtain ⟨zA0, zA1, zA2, zA3⟩ := xA'.out
  simp only at zA0 zA1 zA2 zA3
  obtain ⟨z80, z81, z82, z83⟩ := x8'.out
  simp only at z80 z81 z82 z83
  have hbF := hB1.trans (hb27.mono hB1.size)
  have hbF' := Lib.hid hbF
  clear hbF
  go_wp2
  go_ret
  exact ⟨rfl, hbF'.out⟩

set_option maxRecDepth 100000 in
theorem lawCoverings_over (ao0 : Option Addr) (n0 cap0 : Nat) (ao1 : Option Addr) (n1 cap1 : Nat) (w : World) (hn0 : n0 ≤ 140737488355328) (hn1 : n1 ≤ 140737488355328) (hl : ¬ n0 + n1 ≤ 1048576) :
    Calls Tryz.prog 4 #[.slice ao0 n0 cap0, .slice ao1 n1 cap1] w (Ret (.bool true) w) := by
  go_enter Tryz.func4, Tryz.ntmps4
  go_wp2
  go_ret
  exact ⟨rfl, Below.refl _ _⟩

theorem lawCoverings_any (a0 a1 : Value) (w : World) (h0 : CodeX w a0) (h1 : CodeX w a1) :
    Calls Tryz.prog 4 #[a0, a1] w (Ret (.bool true) w) := by
  obtain ⟨ao0, n0, cap0, rfl, hn0, h0⟩ := h0
  obtain ⟨ao1, n1, cap1, rfl, hn1, h1⟩ := h1
  by_cases hl : n0 + n1 ≤ 1048576
  · exact lawCoverings_main ao0 n0 cap0 ao1 n1 cap1 w (Lib.hid (h0 (by omega))) (Lib.hid (h1 (by omega))) hl
  · exact lawCoverings_over ao0 n0 cap0 ao1 n1 cap1 w hn0 hn1 hl

open Go.ChangeShapes Go.WideShapes Go.ChangeAt in
set_option maxRecDepth 100000 in
theorem lawCoverings_lifted (os : Os) (started : os.Started) (H : Type) (enc : TypeId × Value → H) :
    ReturnsInHanded {} Tryz.checked os 4 .any (Rows.fnCoveringsSpec.pre6 enc Tryz.prog Tryz.f4 Rows.fnCoveringsRow.domain false) (Rows.fnCoveringsSpec.post enc Tryz.prog Tryz.f4 false true false false) := by
  refine returnsInHanded_of_change_sized (C := Tryz.checked) Tryz.own started (by kernel_rfl) Tryz.func4
    (ChangeSpec.witness6 (enc := enc) (C := Tryz.checked) false ⟨#[], #[.slice none 0 0, .slice none 0 0], []⟩ 8 (by kernel_rfl) (by kernel_rfl) (by kernel_rfl) (by kernel_rfl)) ?_
  intro W base args ds gs before hval0 hW _ hsz0 _
  have hsz : (DataW.weightsEach Tryz.prog (Tryz.f4.params.toList ++ Rows.fnCoveringsSpec.plain.varTypes Tryz.prog) (ds ++ gs)).all (· ≤ reachBytes) = true := hsz0
  clear hsz0
  have hval : ∀ (j : Nat) t v, Tryz.f4.params[j]? = some t → args[j]? = some v → Value.okWide Tryz.prog W .any base t v := hval0
  have hW' := hW
  obtain ⟨p, q, hA0, hV, rfl, _, _⟩ := hW
  have hA : DataW.TrodAll enc Tryz.prog W 0 (fun _ => true) true Tryz.f4.params.toList args.toList ds p := hA0
  have hA' := hA
  rw [Tryz.params4] at hA hval hsz
  obtain ⟨v0, v1, d0, d1, p0, p1, rfl, rfl, rfl, h0, h1⟩ := trodAll_two hA
  obtain ⟨rfl, rfl⟩ := trodVars_none hV
  refine (lawCoverings_any v0 v1 W (open_codeX (hval 0 40 v0 rfl rfl) h0 fun _ _ e => by subst e; exact sized_slice hsz (j := 0) rfl rfl Tryz.underlying40) (open_codeX (hval 1 40 v1 rfl rfl) h1 fun _ _ e => by subst e; exact sized_slice hsz (j := 1) rfl rfl Tryz.underlying40)).mono fun e W' ⟨he, hB⟩ => ?_
  subst he
  exact law_post hW' rfl hA' (by rw [Tryz.params4]; decide +kernel) rfl rfl rfl rfl hB

theorem fnCoverings_holds : Rows.FnCoveringsSaid :=
  OpenClaim.holds_of_wide 4 Tryz.f4 rfl rfl rfl rfl rfl rfl rfl ⟨rfl, rfl, rfl, rfl, rfl⟩ rfl rfl rfl rfl rfl (by kernel_rfl) Tryz.func4 (by kernel_rfl)
    (of_decide_eq_true (by kernel_rfl)) (by unfold Func.isWrapper; rw [if_neg (of_decide_eq_false (by kernel_rfl))]; exact ⟨rfl, rfl⟩)
    (fun os started H enc _ => lawCoverings_lifted os started H enc)

#print axioms fnCoverings_holds
end Go.Proofs.YtfhhofecfllbfaaGreat

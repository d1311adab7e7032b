/- Several texts in one: DrawI DrawI2. No conditions but those that each theorem states. -/
import Derived.Test.YtfhhofecfllbfaaGreatPkQ
import Derived.Test.YtfhhofecfllbfaaGreatImgIv
import Derived.Test.YtfhhofecfllbfaaGreatPkC
namespace Go.Proofs.YtfhhofecfllbfaaGreat
open Go.RowKit
set_option linter.unusedSimpArgs false in
set_option maxHeartbeats 1600000 in
theorem ivLess_any (n d n' d' : Int) (w : World) (h1 : BdR n d) (h2 : BdR n' d') :
  Calls Tryz.prog 178 #[.agg #[.int .i64 n, .int .i64 d], .agg #[.int .i64 n', .int .i64 d']] w (Ret (ratV (if cmpN n d n' d' < 0 then (n, d) else (n', d'))) w) := by
 have c1 := fun w => raCmp_any n d n' d' w h1 h2
 generalize cmpN n d n' d' = K at *
 obtain ⟨V, hV⟩ : ∃ V, (if K < 0 then (n, d) else (n', d')) = V := ⟨_, rfl⟩
 rw [hV]
 obtain ⟨w1, hw1⟩ : ∃ W, ((w.alloc (.cells #[.int .i64 n, .int .i64 d] 42)).alloc (.cells #[.int .i64 n', .int .i64 d'] 42)).alloc (.cells #[.int .i64 0, .int .i64 0] 42) = W := ⟨_, rfl⟩
 have hB1 : Below w.heap.size w w1 := by rw [← hw1]; exact (((Below.refl _ _).alloc (Nat.le_refl _) _).alloc (by simp) _).alloc (by simp; omega) _
 have xa : BoxV w1 w.heap.size (n, d) := by rw [← hw1]; refine ⟨⟨?_, ?_⟩, ?_, ?_⟩ <;> simp [go_sem]
 have xb : BoxV w1 (w.heap.size + 1) (n', d') := by rw [← hw1]; refine ⟨⟨?_, ?_⟩, ?_, ?_⟩ <;> simp [go_sem]
 have xr : BoxV w1 (w.heap.size + 1 + 1) (0, 0) := by rw [← hw1]; refine ⟨⟨?_, ?_⟩, ?_, ?_⟩ <;> simp [go_sem]
 obtain ⟨⟨a0, a1⟩, _, _⟩ := id xa
 obtain ⟨⟨b0, b1⟩, _, _⟩ := id xb
 simp only at a0 a1 b0 b1
 have c1' := Lib.hid c1; have hw1' := Lib.hid hw1; have hV' := Lib.hid hV; clear c1 hw1 hV
 go_enter Tryz.func178, Tryz.ntmps178
 go_wp2_with fail
 rw [hw1'.out]
 go_wp2_with fail
 refine (c1'.out _).mono ?_
 rintro e w2 ⟨rfl, hB2⟩
 have hb2 := hB1.trans (hB2.mono hB1.size)
 obtain ⟨⟨a2, a3⟩, _, _⟩ := xa.below hB2
 obtain ⟨⟨b2, b3⟩, _, _⟩ := xb.below hB2
 obtain ⟨⟨r2, r3⟩, r4, r5⟩ := xr.below hB2
 have hr2 := (xr.below hB2).lt
 simp only at a2 a3 b2 b3 r2 r3 r4 r5
 clear hB2 a0 a1 b0 b1 xa xb xr c1' hw1'
 have hset : ∀ z0 z1, Below w.heap.size w ((w2.setCell ⟨w.heap.size + 1 + 1, 0, none⟩ z0).setCell ⟨w.heap.size + 1 + 1, 1, none⟩ z1) := fun z0 z1 => (hb2.setCell (p := ⟨w.heap.size + 1 + 1, 0, none⟩) (by show w.heap.size ≤ w.heap.size + 1 + 1; omega) _).setCell (p := ⟨w.heap.size + 1 + 1, 1, none⟩) (by show w.heap.size ≤ w.heap.size + 1 + 1; omega) _
 clear hb2
 have hset' := Lib.hid hset; clear hset
 by_cases hK : K < 0
 ·have hV2 := hV'.out
  rw [if_pos hK] at hV2
  subst hV2
  go_wp2
  exact bodyPost_ret (v := ratV (n, d)) (by simp [results, Tryz.results178, go_sem, r2, r3, hr2, ratV]) rfl ⟨rfl, hset'.out _ _⟩
 ·have hV2 := hV'.out
  rw [if_neg hK] at hV2
  subst hV2
  go_wp2
  exact bodyPost_ret (v := ratV (n', d')) (by simp [results, Tryz.results178, go_sem, r2, r3, hr2, ratV]) rfl ⟨rfl, hset'.out _ _⟩
set_option linter.unusedSimpArgs false in
set_option maxHeartbeats 1600000 in
theorem ivGreater_any (n d n' d' : Int) (w : World) (h1 : BdR n d) (h2 : BdR n' d') :
  Calls Tryz.prog 179 #[.agg #[.int .i64 n, .int .i64 d], .agg #[.int .i64 n', .int .i64 d']] w (Ret (ratV (if cmpN n d n' d' < 0 then (n', d') else (n, d))) w) := by
 have c1 := fun w => raCmp_any n d n' d' w h1 h2
 generalize cmpN n d n' d' = K at *
 obtain ⟨V, hV⟩ : ∃ V, (if K < 0 then (n', d') else (n, d)) = V := ⟨_, rfl⟩
 rw [hV]
 obtain ⟨w1, hw1⟩ : ∃ W, ((w.alloc (.cells #[.int .i64 n, .int .i64 d] 42)).alloc (.cells #[.int .i64 n', .int .i64 d'] 42)).alloc (.cells #[.int .i64 0, .int .i64 0] 42) = W := ⟨_, rfl⟩
 have hB1 : Below w.heap.size w w1 := by rw [← hw1]; exact (((Below.refl _ _).alloc (Nat.le_refl _) _).alloc (by simp) _).alloc (by simp; omega) _
 have xa : BoxV w1 w.heap.size (n, d) := by rw [← hw1]; refine ⟨⟨?_, ?_⟩, ?_, ?_⟩ <;> simp [go_sem]
 have xb : BoxV w1 (w.heap.size + 1) (n', d') := by rw [← hw1]; refine ⟨⟨?_, ?_⟩, ?_, ?_⟩ <;> simp [go_sem]
 have xr : BoxV w1 (w.heap.size + 1 + 1) (0, 0) := by rw [← hw1]; refine ⟨⟨?_, ?_⟩, ?_, ?_⟩ <;> simp [go_sem]
 obtain ⟨⟨a0, a1⟩, _, _⟩ := id xa
 obtain ⟨⟨b0, b1⟩, _, _⟩ := id xb
 simp only at a0 a1 b0 b1
 have c1' := Lib.hid c1; have hw1' := Lib.hid hw1; have hV' := Lib.hid hV; clear c1 hw1 hV
 go_enter Tryz.func179, Tryz.ntmps179
 go_wp2_with fail
 rw [hw1'.out]
 go_wp2_with fail
 refine (c1'.out _).mono ?_
 rintro e w2 ⟨rfl, hB2⟩
 have hb2 := hB1.trans (hB2.mono hB1.size)
 obtain ⟨⟨a2, a3⟩, _, _⟩ := xa.below hB2
 obtain ⟨⟨b2, b3⟩, _, _⟩ := xb.below hB2
 obtain ⟨⟨r2, r3⟩, r4, r5⟩ := xr.below hB2
 have hr2 := (xr.below hB2).lt
 simp only at a2 a3 b2 b3 r2 r3 r4 r5
 clear hB2 a0 a1 b0 b1 xa xb xr c1' hw1'
 have hset : ∀ z0 z1, Below w.heap.size w ((w2.setCell ⟨w.heap.size + 1 + 1, 0, none⟩ z0).setCell ⟨w.heap.size + 1 + 1, 1, none⟩ z1) := fun z0 z1 => (hb2.setCell (p := ⟨w.heap.size + 1 + 1, 0, none⟩) (by show w.heap.size ≤ w.heap.size + 1 + 1; omega) _).setCell (p := ⟨w.heap.size + 1 + 1, 1, none⟩) (by show w.heap.size ≤ w.heap.size + 1 + 1; omega) _
 clear hb2
 have hset' := Lib.hid hset; clear hset
 by_cases hK : K < 0
 ·have hV2 := hV'.out
  rw [if_pos hK] at hV2
  subst hV2
  go_wp2
  exact bodyPost_ret (v := ratV (n', d')) (by simp [results, Tryz.results179, go_sem, r2, r3, hr2, ratV]) rfl ⟨rfl, hset'.out _ _⟩
 ·have hV2 := hV'.out
  rw [if_neg hK] at hV2
  subst hV2
  go_wp2
  exact bodyPost_ret (v := ratV (n, d)) (by simp [results, Tryz.results179, go_sem, r2, r3, hr2, ratV]) rfl ⟨rfl, hset'.out _ _⟩
set_option maxRecDepth 100000
def PicksQ (c N : Nat) (w : World) (e : Ending) (w' : World) : Prop := ∃ i : Quad, e = .returned (quadV i) ∧ CurAt w' c N ∧ w.grownBy w' (some c)
theorem BoxW.below {w w' : World} {b : Nat} {q : Quad} (h : BoxW w b q) (hB : Below w.heap.size w w') : BoxW w' b q := h.grown (bgrow hB none) (by simp)
theorem BoxW.lt {w : World} {b : Nat} {q : Quad} (h : BoxW w b q) : b < w.heap.size := h.1.lt
theorem BoxV.set4 {w : World} {b g : Nat} {r : Int × Int} (h : BoxV w b r) (hne : g ≠ b) (q : Quad) : BoxV (YtfhhofecfllbfaaGreat.set4 w g q) b r := by
 unfold YtfhhofecfllbfaaGreat.set4
 exact h.grown ((((grownBy_setCell_some w g 0 _).trans (grownBy_setCell_some _ g 1 _)).trans (grownBy_setCell_some _ g 2 _)).trans (grownBy_setCell_some _ g 3 _)) (fun e => hne (Option.some.inj e))
set_option linter.unusedSimpArgs false in
set_option maxHeartbeats 3200000 in
theorem intervalOf_any (c N : Nat) (v : Value) (f : List Quad) (w : World) (h : CurAt w c N) (hN : N ≤ 549755810000) (hv : QuadV w v f) (ho : Off c v) (hf : ∀ i, i < f.length → I64I (nth4 f i)) (hm : f.length ≤ 1000) :
  Calls Tryz.prog 120 #[.pointer (some ⟨c, 0, none⟩), v] w (PicksQ c (N + 70) w) := by
 obtain ⟨w0, hw0⟩ : ∃ W, w.alloc (.cells #[.int .i64 0, .int .i64 0, .int .i64 0, .int .i64 0] 44) = W := ⟨_, rfl⟩
 have hB0 : Below w.heap.size w w0 := by rw [← hw0]; exact (Below.refl _ _).alloc (Nat.le_refl _) _
 have xr0 : BoxW w0 w.heap.size ((0, 0), (0, 0)) := by rw [← hw0]; refine ⟨⟨?_, ?_, ?_, ?_⟩, ?_, ?_, ?_, ?_⟩ <;> simp [go_sem]
 have hlt := h.lt
 have h0 := h.below hB0 hlt
 have g0 : w.grownBy w0 (some c) := bgrow hB0 _
 have hne : some c ≠ some w.heap.size := fun e => by have := Option.some.inj e; omega
 have hsz : w.heap.size < w0.heap.size := by rw [← hw0]; simp
 have hv0 := fun (w' : World) (hg : w0.grownBy w' (some c)) => (hv.below hB0).cellOff ho hg
 have c1 := xOf_any c N v f w0 h0 (by omega) (hv.below hB0) ho hf hm
 have c2 := fun w1 (hc1 : CurAt w1 c (N + 30)) (hg : w0.grownBy w1 (some c)) => xOf_any c (N + 30) v f w1 hc1 (by omega) (hv0 w1 hg) ho hf hm
 obtain ⟨ao, cap, rfl, -⟩ := hv.form
 clear h h0 hB0 hv ho hf hv0
 have c1' := Lib.hid c1; have c2' := Lib.hid c2; have hw0' := Lib.hid hw0; have xr0' := Lib.hid xr0; have hne' := Lib.hid hne; clear c1 c2 hw0 xr0 hne
 go_enter Tryz.func120, Tryz.ntmps120
 go_wp2_with fail
 rw [hw0'.out]
 go_wp2_with fail
 refine (c1'.out).mono ?_
 rintro e w1 ⟨⟨a0, a1⟩, rfl, -, hc1, hg1⟩
 have c3 := c2'.out w1 hc1 hg1
 clear c1' c2' hc1
 have c3' := Lib.hid c3; have hg1' := Lib.hid hg1; clear c3 hg1
 go_wp2_with fail
 refine (c3'.out).mono ?_
 rintro e w2 ⟨⟨b0, b1⟩, rfl, -, hc2, hg2⟩
 have hg12 := hg1'.out.trans hg2
 have g2 := g0.trans hg12
 have xr2 := xr0'.out.grown hg12 hne'.out
 obtain ⟨w3, hw3⟩ : ∃ W, (w2.alloc (.cells #[.int .i64 a0, .int .i64 a1] 42)).alloc (.cells #[.int .i64 b0, .int .i64 b1] 42) = W := ⟨_, rfl⟩
 have hB3 : Below w2.heap.size w2 w3 := by rw [← hw3]; exact ((Below.refl _ _).alloc (Nat.le_refl _) _).alloc (by simp) _
 have xa3 : BoxV w3 w2.heap.size (a0, a1) := by rw [← hw3]; refine ⟨⟨?_, ?_⟩, ?_, ?_⟩ <;> simp [go_sem]
 have xb3 : BoxV w3 (w2.heap.size + 1) (b0, b1) := by rw [← hw3]; refine ⟨⟨?_, ?_⟩, ?_, ?_⟩ <;> simp [go_sem]
 have hc3 := hc2.below hB3 hc2.lt
 have g3 := g2.trans (bgrow hB3 _)
 have xr3 := xr2.below hB3
 have hl2 : w.heap.size < w2.heap.size := by have := hg12.size; omega
 have hend : ∀ (wk : World) (M : Nat), CurAt wk c M → M ≤ N + 70 → w.grownBy wk (some c) → ∀ q : Quad, PicksQ c (N + 70) w (.returned (quadV q)) (set4 wk w.heap.size q) := fun wk M hc hM hg q => ⟨q, rfl, by
  have := picks_end hc hg hlt (Nat.le_refl _) (below_set4 (Below.refl _ wk) (Nat.le_refl _) q)
  exact ⟨this.1.mono hM, this.2⟩⟩
 obtain ⟨⟨a2, a3⟩, _, _⟩ := id xa3
 simp only at a2 a3
 clear hc2 hg2 hg12 g2 hB3 xr2 xr0' hg1' c3' hw0' g0
 have hw3' := Lib.hid hw3; have xa3' := Lib.hid xa3; have xb3' := Lib.hid xb3; have hc3' := Lib.hid hc3; have g3' := Lib.hid g3; have xr3' := Lib.hid xr3; have hend' := Lib.hid hend; have hl2' := Lib.hid hl2; clear hw3 xa3 xb3 hc3 g3 xr3 hend hl2
 go_upto_region 2 with fail
 rw [hw3'.out]
 go_wp2_with fail
 refine (raUnit_any a0 a1 _).mono ?_
 rintro e w4 ⟨rfl, hB4⟩
 have xa4 := xa3'.out.below hB4
 have xb4 := xb3'.out.below hB4
 have xr4 := xr3'.out.below hB4
 have hc4 := hc3'.out.below hB4 hc3'.out.lt
 have g4 := g3'.out.trans (bgrow hB4 _)
 obtain ⟨⟨b2, b3⟩, _, _⟩ := id xb4
 obtain ⟨⟨a4, a5⟩, _, _⟩ := id xa4
 simp only at b2 b3 a4 a5
 have hA : unitR a0 a1 = true → BdR a0 a1 := unit_bd (r := (a0, a1))
 generalize unitR a0 a1 = A at *
 clear hB4 hc3' g3' xa3' xb3' xr3' a2 a3 hw3'
 cases A
 ·obtain ⟨⟨n0, n1, n2, n3⟩, f0, f1, f2, f3⟩ := id xr4
  have hr4 := xr4.lt
  have hq := hend'.out w4 _ hc4 (by omega) g4 ((a0, a1), (b0, b1))
  clear xa4 xb4 xr4 hend' g4 hc4 hA
  have hq' := Lib.hid hq; clear hq
  go_wp2
  exact bodyPost_ret (v := quadV ((a0, a1), (b0, b1))) (by simp [results, Tryz.results120, go_sem, quadV, n0, n1, n2, n3]) rfl hq'.out
 replace hA := hA rfl
 have xa4' := Lib.hid xa4; have xb4' := Lib.hid xb4; have xr4' := Lib.hid xr4; have hc4' := Lib.hid hc4; have g4' := Lib.hid g4; have hA' := Lib.hid hA; clear xa4 xb4 xr4 hc4 g4 hA
 go_wp2_with fail
 refine (raUnit_any b0 b1 _).mono ?_
 rintro e w5 ⟨rfl, hB5⟩
 have xa5 := xa4'.out.below hB5
 have xb5 := xb4'.out.below hB5
 have xr5 := xr4'.out.below hB5
 have hc5 := hc4'.out.below hB5 hc4'.out.lt
 have g5 := g4'.out.trans (bgrow hB5 _)
 have hA2 : unitR b0 b1 = true → BdR b0 b1 := unit_bd (r := (b0, b1))
 obtain ⟨⟨b2, b3⟩, _, _⟩ := id xb5
 obtain ⟨⟨a4, a5⟩, _, _⟩ := id xa5
 simp only at b2 b3 a4 a5
 generalize unitR b0 b1 = A2 at *
 clear hB5 hc4' g4' xa4' xb4' xr4'
 cases A2
 ·obtain ⟨⟨n0, n1, n2, n3⟩, f0, f1, f2, f3⟩ := id xr5
  have hq := hend'.out w5 _ hc5 (by omega) g5 ((a0, a1), (b0, b1))
  clear xa5 xb5 xr5 hend' g5 hc5 hA2
  have hq' := Lib.hid hq; clear hq
  go_wp2
  exact bodyPost_ret (v := quadV ((a0, a1), (b0, b1))) (by simp [results, Tryz.results120, go_sem, quadV, n0, n1, n2, n3]) rfl hq'.out
 replace hA2 := hA2 rfl
 clear b2 b3 a4 a5
 have xa5' := Lib.hid xa5; have xb5' := Lib.hid xb5; have xr5' := Lib.hid xr5; have g5' := Lib.hid g5; have hA2' := Lib.hid hA2; clear xa5 xb5 xr5 g5 hA2
 go_wp2_with fail
 refine (one_any c _ 16 w5 hc5 (by omega) (by omega) (by omega)).mono ?_
 rintro e w6 ⟨v6, rfl, ⟨o, rfl⟩, hc6, hg6⟩
 have hca : some c ≠ some w2.heap.size := fun e => by have := Option.some.inj e; have := hl2'.out; omega
 have hcb : some c ≠ some (w2.heap.size + 1) := fun e => by have := Option.some.inj e; have := hl2'.out; omega
 have xa6 := xa5'.out.grown hg6 hca
 have xb6 := xb5'.out.grown hg6 hcb
 have xr6 := xr5'.out.grown hg6 hne'.out
 have g6 := g5'.out.trans hg6
 obtain ⟨⟨b2, b3⟩, _, _⟩ := id xb6
 obtain ⟨⟨a4, a5⟩, _, _⟩ := id xa6
 simp only at b2 b3 a4 a5
 clear hg6 xa5' xb5' xr5' g5' hca hcb hc5
 cases o
 rotate_left
 ·obtain ⟨⟨n0, n1, n2, n3⟩, f0, f1, f2, f3⟩ := id xr6
  have hq := hend'.out w6 _ hc6 (by omega) g6 ((a0, a1), (b0, b1))
  clear xa6 xb6 xr6 hend' g6 hc6
  have hq' := Lib.hid hq; clear hq
  go_wp2
  exact bodyPost_ret (v := quadV ((a0, a1), (b0, b1))) (by simp [results, Tryz.results120, go_sem, quadV, n0, n1, n2, n3]) rfl hq'.out
 have cc := fun w => raCmp_any a0 a1 b0 b1 w hA'.out hA2'.out
 have cl := fun w => ivLess_any a0 a1 b0 b1 w hA'.out hA2'.out
 have cg := fun w => ivGreater_any a0 a1 b0 b1 w hA'.out hA2'.out
 generalize cmpN a0 a1 b0 b1 = K at *
 have xa6' := Lib.hid xa6; have xb6' := Lib.hid xb6; have xr6' := Lib.hid xr6; have hc6' := Lib.hid hc6; have g6' := Lib.hid g6; have cc' := Lib.hid cc; have cl' := Lib.hid cl; have cg' := Lib.hid cg; clear xa6 xb6 xr6 hc6 g6 cc cl cg
 go_wp2_with fail
 refine (cc'.out _).mono ?_
 rintro e w7 ⟨rfl, hB7⟩
 have xa7 := xa6'.out.below hB7
 have xb7 := xb6'.out.below hB7
 have xr7 := xr6'.out.below hB7
 have hc7 := hc6'.out.below hB7 hc6'.out.lt
 have g7 := g6'.out.trans (bgrow hB7 _)
 clear hB7 xa6' xb6' xr6' hc6' g6' cc' b2 b3 a4 a5
 by_cases hK : K = 0
 ·subst hK
  clear xa7 xb7
  have xr7' := Lib.hid xr7; have hc7' := Lib.hid hc7; have g7' := Lib.hid g7; clear xr7 hc7 g7
  go_wp2_with fail
  refine (raInt_any 0 _).mono ?_
  rintro e w8 ⟨rfl, hB8⟩
  have xr8 := xr7'.out.below hB8
  have hc8 := hc7'.out.below hB8 hc7'.out.lt
  have g8 := g7'.out.trans (bgrow hB8 _)
  clear hB8 xr7' hc7' g7'
  have xr8' := Lib.hid xr8; have hc8' := Lib.hid hc8; have g8' := Lib.hid g8; clear xr8 hc8 g8
  go_wp2_with fail
  refine (raInt_any 1 _).mono ?_
  rintro e w9 ⟨rfl, hB9⟩
  have hc9 := hc8'.out.below hB9 hc8'.out.lt
  have g9 := g8'.out.trans (bgrow hB9 _)
  obtain ⟨⟨n0, n1, n2, n3⟩, f0, f1, f2, f3⟩ := xr8'.out.below hB9
  have hq := hend'.out w9 _ hc9 (by omega) g9 ((0, 1), (1, 1))
  clear hB9 xr8' hc8' g8' hend' hc9 g9
  have hq' := Lib.hid hq; clear hq
  go_wp2
  exact bodyPost_ret (v := quadV ((0, 1), (1, 1))) (by simp [results, Tryz.results120, go_sem, quadV, n0, n1, n2, n3]) rfl hq'.out
 ·have hK2 : (K == 0) = false := by rw [beq_eq_false_iff_ne]; exact hK
  clear hK
  obtain ⟨⟨l0, l1⟩, hL⟩ : ∃ L, (if K < 0 then (a0, a1) else (b0, b1)) = L := ⟨_, rfl⟩
  obtain ⟨⟨m0, m1⟩, hM⟩ : ∃ L, (if K < 0 then (b0, b1) else (a0, a1)) = L := ⟨_, rfl⟩
  have cl2 := fun w => by have h := cl'.out w; rw [hL] at h; exact h
  have cg2 := fun w => by have h := cg'.out w; rw [hM] at h; exact h
  have at' : ∀ w', Below w7.heap.size w7 w' → (w'.cell? ⟨w2.heap.size, 0, none⟩ = some (.int .i64 a0) ∧ w'.cell? ⟨w2.heap.size, 1, none⟩ = some (.int .i64 a1)) ∧ w'.cell? ⟨w2.heap.size + 1, 0, none⟩ = some (.int .i64 b0) ∧ w'.cell? ⟨w2.heap.size + 1, 1, none⟩ = some (.int .i64 b1) := fun w' h => ⟨(xa7.below h).1, (xb7.below h).1⟩
  have at2 : ∀ w', Below w7.heap.size w7 w' → ∀ q, ((set4 w' w.heap.size q).cell? ⟨w2.heap.size, 0, none⟩ = some (.int .i64 a0) ∧ (set4 w' w.heap.size q).cell? ⟨w2.heap.size, 1, none⟩ = some (.int .i64 a1)) ∧ (set4 w' w.heap.size q).cell? ⟨w2.heap.size + 1, 0, none⟩ = some (.int .i64 b0) ∧ (set4 w' w.heap.size q).cell? ⟨w2.heap.size + 1, 1, none⟩ = some (.int .i64 b1) := fun w' h q => ⟨((xa7.below h).set4 (by have := hl2'.out; omega) q).1, ((xb7.below h).set4 (by have := hl2'.out; omega) q).1⟩
  have hd : Below w7.heap.size w7 w7.drew := (Below.refl _ _).drew
  obtain ⟨⟨n0, n1, n2, n3⟩, f0, f1, f2, f3⟩ := xr7.below hd
  have hwg : w.heap.size ≤ w7.heap.size := g7.size
  clear xa7 xb7 xr7 cl' cg' hL hM hA' hA2'
  have at'' := Lib.hid at'; have at2' := Lib.hid at2; have hc7' := Lib.hid hc7; have g7' := Lib.hid g7; have cl2' := Lib.hid cl2; have cg2' := Lib.hid cg2; clear at' at2 hc7 g7 cl2 cg2
  go_wp2_with fail
  refine wp_region_held_drew (S := (fun w' => Below w.heap.size w7 w' ∧ (w'.cell? ⟨w2.heap.size, 0, none⟩ = some (.int .i64 a0) ∧ w'.cell? ⟨w2.heap.size, 1, none⟩ = some (.int .i64 a1)) ∧ w'.cell? ⟨w2.heap.size + 1, 0, none⟩ = some (.int .i64 b0) ∧ w'.cell? ⟨w2.heap.size + 1, 1, none⟩ = some (.int .i64 b1))) (by kernel_rfl) (by (try dsimp only); (first | exact ⟨hd.mono hwg, at''.out _ hd⟩ | exact ⟨below_set4 (hd.mono hwg) (Nat.le_refl _) ((l0, l1), (m0, m1)), at2'.out _ hd ((l0, l1), (m0, m1))⟩)) (fun hHeld => ?_)
  refine ly_s 0 hHeld ?_
  refine ly_s 1 hHeld ?_
  refine ly_s 3 hHeld ?_
  refine ly_s 4 hHeld ?_
  refine ly_a 2 (fun KK hKK => ?_)
  go_simp
  refine (cl2'.out _).mono ?_
  rintro e w8 ⟨rfl, hB8⟩
  replace hd := hd.trans (hB8.mono hd.size)
  replace f0 := gfrozen (bgrow hB8 none) n0 f0 (by simp)
  replace f1 := gfrozen (bgrow hB8 none) n1 f1 (by simp)
  replace f2 := gfrozen (bgrow hB8 none) n2 f2 (by simp)
  replace f3 := gfrozen (bgrow hB8 none) n3 f3 (by simp)
  replace n0 := bkeep hB8 n0
  replace n1 := bkeep hB8 n1
  replace n2 := bkeep hB8 n2
  replace n3 := bkeep hB8 n3
  try dsimp only
  refine hKK.out _ _ (by (try dsimp only); (first | exact ⟨hd.mono hwg, at''.out _ hd⟩ | exact ⟨below_set4 (hd.mono hwg) (Nat.le_refl _) ((l0, l1), (m0, m1)), at2'.out _ hd ((l0, l1), (m0, m1))⟩)) (fun hHeld => ?_)
  clear hKK KK
  try simp only [Act.put, lyA, lyB, lyC]
  refine ly_a 5 (fun KK hKK => ?_)
  go_simp
  refine (cg2'.out _).mono ?_
  rintro e w9 ⟨rfl, hB9⟩
  replace hd := hd.trans (hB9.mono hd.size)
  replace f0 := gfrozen (bgrow hB9 none) n0 f0 (by simp)
  replace f1 := gfrozen (bgrow hB9 none) n1 f1 (by simp)
  replace f2 := gfrozen (bgrow hB9 none) n2 f2 (by simp)
  replace f3 := gfrozen (bgrow hB9 none) n3 f3 (by simp)
  replace n0 := bkeep hB9 n0
  replace n1 := bkeep hB9 n1
  replace n2 := bkeep hB9 n2
  replace n3 := bkeep hB9 n3
  try dsimp only
  refine hKK.out _ _ (by (try dsimp only); (first | exact ⟨hd.mono hwg, at''.out _ hd⟩ | exact ⟨below_set4 (hd.mono hwg) (Nat.le_refl _) ((l0, l1), (m0, m1)), at2'.out _ hd ((l0, l1), (m0, m1))⟩)) (fun hHeld => ?_)
  clear hKK KK
  try simp only [Act.put, lyA, lyB, lyC]
  refine ly_s 6 hHeld ?_
  refine ly_a 7 (fun KK hKK => ?_)
  go_simp
  skip
  try dsimp only
  refine hKK.out _ _ (by (try dsimp only); (first | exact ⟨hd.mono hwg, at''.out _ hd⟩ | exact ⟨below_set4 (hd.mono hwg) (Nat.le_refl _) ((l0, l1), (m0, m1)), at2'.out _ hd ((l0, l1), (m0, m1))⟩)) (fun hHeld => ?_)
  clear hKK KK
  try simp only [Act.put, lyA, lyB, lyC]
  refine wpAnyH_done (by kernel_rfl) ?_ _
  have hq := picks_end hc7'.out g7'.out hlt (Nat.le_refl _) hHeld.1
  clear hHeld at'' at2' hc7' g7'
  have hq' := Lib.hid hq; clear hq
  go_wp2
  exact bodyPost_ret (v := quadV ((l0, l1), (m0, m1))) (by simp [results, Tryz.results120, go_sem, quadV, n0, n1, n2, n3]) rfl ⟨_, rfl, hq'.out.1.mono (by omega), hq'.out.2⟩
end Go.Proofs.YtfhhofecfllbfaaGreat

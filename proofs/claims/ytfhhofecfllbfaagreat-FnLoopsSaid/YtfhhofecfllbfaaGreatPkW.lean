/- Several texts in one: DrawCh2 DrawCh3. No conditions but those that each theorem states. -/
import Derived.Test.YtfhhofecfllbfaaGreatDrawCh
import Derived.Test.YtfhhofecfllbfaaGreatPkV
import Derived.Test.YtfhhofecfllbfaaGreatFixedS
import Derived.Test.YtfhhofecfllbfaaGreatLoopLaw
import Derived.Test.YtfhhofecfllbfaaGreatLoopFr
namespace Go.Proofs.YtfhhofecfllbfaaGreat
open Go.RowKit
set_option maxRecDepth 100000
def DrawFC (w : World) (e : Ending) (w' : World) : Prop := ∃ v f u l, e = .returned (.tuple #[v, u]) ∧ (QuadV w' v f ∧ f.length ≤ 13) ∧ (QuadV w' u l ∧ l.length ≤ 12) ∧ Below w.heap.size w w'
set_option maxHeartbeats 800000 in
theorem DrawIsChain_any (v : Value) (n : Nat) (w : World) (h : CodeV w v n) : Calls Tryz.prog 90 #[v] w (DrawFC w) := by
 have c1 := chained_any w.heap.size 0 _ (CurAt.start h) (by omega)
 obtain ⟨ao, cap, rfl, -, -⟩ := h
 have c1' := Lib.hid c1; clear c1
 go_enter Tryz.func90, Tryz.ntmps90
 go_wp2_with fail
 refine (c1'.out).mono ?_
 rintro e w1 ⟨v, f, u, l, rfl, ⟨hq, -, hl, -⟩, ⟨hu, -, hul⟩, -, hg⟩
 have hB := start_below hg
 obtain ⟨_, _, rfl, -⟩ := hq.form
 obtain ⟨_, _, rfl, -⟩ := hu.form
 clear hg
 have hq' := Lib.hid hq; have hu' := Lib.hid hu; have hB' := Lib.hid hB; clear hq hu hB
 go_wp2
 go_ret2
 exact ⟨_, f, _, l, rfl, ⟨hq'.out, hl⟩, ⟨hu'.out, hul⟩, hB'.out⟩
set_option maxHeartbeats 800000 in
theorem DrawLoopFractions_any (v : Value) (n : Nat) (w : World) (h : CodeV w v n) : Calls Tryz.prog 37 #[v] w (DrawFC w) := by
 have c1 := DrawIsChain_any v n w h
 obtain ⟨ao, cap, rfl, -, -⟩ := h
 have c1' := Lib.hid c1; clear c1
 go_enter Tryz.func37, Tryz.ntmps37
 go_wp2_with fail
 refine (c1'.out).mono ?_
 rintro e w1 ⟨v, f, u, l, rfl, ⟨hq, hl⟩, ⟨hu, hul⟩, hB⟩
 obtain ⟨_, _, rfl, -⟩ := hq.form
 obtain ⟨_, _, rfl, -⟩ := hu.form
 have hq' := Lib.hid hq; have hu' := Lib.hid hu; have hB' := Lib.hid hB; clear hq hu hB
 go_wp2
 go_ret2
 exact ⟨_, f, _, l, rfl, ⟨hq'.out, hl⟩, ⟨hu'.out, hul⟩, hB'.out⟩
set_option linter.unusedSimpArgs false in
set_option maxRecDepth 100000 in
set_option maxHeartbeats 6400000 in
theorem knTent_any (y : Int × Int) (w : World) : Calls Tryz.prog 100 #[.agg #[.int .i64 y.1, .int .i64 y.2]] w (fun e w' => ∃ v, e = .returned v ∧ QuadV w' v [((0, 1), (0, 1)), ((1, 2), y), ((1, 1), (0, 1))] ∧ NewB w.heap.size v ∧ Below w.heap.size w w') := by
 obtain ⟨y0, y1⟩ := y
 show Calls _ _ #[.agg #[.int .i64 y0, .int .i64 y1]] w _
 obtain ⟨wj, hwj⟩ : ∃ W, w.alloc (.cells #[.int .i64 y0, .int .i64 y1] 42) = W := ⟨_, rfl⟩
 have hBj : Below w.heap.size w wj := by rw [← hwj]; exact (Below.refl _ _).alloc (Nat.le_refl _) _
 obtain ⟨e0, e1, -, -⟩ : BoxO wj w.heap.size y0 y1 := by rw [← hwj]; exact BoxO.new _ _ _ _
 have at' : ∀ w', Below wj.heap.size wj w' → (w'.cell? ⟨w.heap.size, 0, none⟩ = some (.int .i64 y0) ∧ w'.cell? ⟨w.heap.size, 1, none⟩ = some (.int .i64 y1)) := fun w' h => ⟨bkeep h e0, bkeep h e1⟩
 have hdA : Below wj.heap.size wj wj.drew := (Below.refl _ _).drew
 clear e0 e1
 have hwj' := Lib.hid hwj; have at'' := Lib.hid at'; have hBj' := Lib.hid hBj; clear hwj at' hBj
 go_enter Tryz.func100, Tryz.ntmps100
 go_upto_region 1 with fail
 rw [hwj'.out]
 go_wp2_with fail
 refine wp_region_held_drew (S := (fun w' => (w'.cell? ⟨w.heap.size, 0, none⟩ = some (.int .i64 y0) ∧ w'.cell? ⟨w.heap.size, 1, none⟩ = some (.int .i64 y1)))) (by kernel_rfl) (by (try dsimp only); exact at''.out _ ‹_›) (fun hHeld => ?_)
 refine ly_s 3 hHeld ?_
 refine ly_s 4 hHeld ?_
 refine ly_s 5 hHeld ?_
 refine ly_a 0 (fun KK hKK => ?_)
 go_simp
 refine (raInt_any _ _).mono ?_
 rintro e wk ⟨rfl, hBk⟩
 have hdB := hdA.trans (hBk.mono hdA.size)
 try dsimp only
 refine hKK.out _ _ (by (try dsimp only); exact at''.out _ ‹_›) (fun hHeld => ?_)
 clear hKK KK
 try simp only [Act.put, lyA, lyB, lyC]
 refine ly_a 1 (fun KK hKK => ?_)
 go_simp
 refine (raInt_any _ _).mono ?_
 rintro e wl ⟨rfl, hBl⟩
 have hdC := hdB.trans (hBl.mono hdB.size)
 try dsimp only
 refine hKK.out _ _ (by (try dsimp only); exact at''.out _ ‹_›) (fun hHeld => ?_)
 clear hKK KK
 try simp only [Act.put, lyA, lyB, lyC]
 refine ly_s 2 hHeld ?_
 refine ly_a 6 (fun KK hKK => ?_)
 go_simp
 refine (raInt_any _ _).mono ?_
 rintro e wm ⟨rfl, hBm⟩
 have hdD := hdC.trans (hBm.mono hdC.size)
 try dsimp only
 refine hKK.out _ _ (by (try dsimp only); exact at''.out _ ‹_›) (fun hHeld => ?_)
 clear hKK KK
 try simp only [Act.put, lyA, lyB, lyC]
 refine ly_a 7 (fun KK hKK => ?_)
 go_simp
 refine (raInt_any _ _).mono ?_
 rintro e wn ⟨rfl, hBn⟩
 have hdE := hdD.trans (hBn.mono hdD.size)
 try dsimp only
 refine hKK.out _ _ (by (try dsimp only); exact at''.out _ ‹_›) (fun hHeld => ?_)
 clear hKK KK
 try simp only [Act.put, lyA, lyB, lyC]
 refine ly_s 8 hHeld ?_
 refine ly_a 9 (fun KK hKK => ?_)
 go_simp
 have hdF := hdE.alloc hdE.size (.cells #[.int .i64 0, .int .i64 1, .int .i64 0, .int .i64 1, .int .i64 1, .int .i64 2, .int .i64 y0, .int .i64 y1, .int .i64 1, .int .i64 1, .int .i64 0, .int .i64 1] 80)
 try dsimp only
 refine hKK.out _ _ (by (try dsimp only); exact at''.out _ ‹_›) (fun hHeld => ?_)
 clear hKK KK
 try simp only [Act.put, lyA, lyB, lyC]
 refine ly_s 10 hHeld ?_
 refine wpAnyH_done (by kernel_rfl) ?_ _
 have hL : QuadV (wn.alloc (.cells #[.int .i64 0, .int .i64 1, .int .i64 0, .int .i64 1, .int .i64 1, .int .i64 2, .int .i64 y0, .int .i64 y1, .int .i64 1, .int .i64 1, .int .i64 0, .int .i64 1] 80)) (.slice (some ⟨wn.heap.size, 0, none⟩) 3 3) [((0, 1), (0, 1)), ((1, 2), (y0, y1)), ((1, 1), (0, 1))] := quads3 _ _ _ _ _
 have hbz := hBj'.out.trans (hdF.mono hBj'.out.size)
 have hnb : NewB w.heap.size (.slice (some ⟨wn.heap.size, 0, none⟩) 3 3) := fun b o k' cap' e => by
  obtain ⟨e1, _, _⟩ := Value.slice.inj e
  cases e1
  have := hdE.size
  have := hBj'.out.size
  omega
 clear hHeld hdA hdB hdC hdD hdE hdF hBk hBl hBm hBn
 have hL' := Lib.hid hL; have hnb' := Lib.hid hnb; have hbz' := Lib.hid hbz; clear hL hnb hbz
 go_wp2
 go_ret
 exact ⟨_, rfl, hL'.out, hnb'.out, hbz'.out⟩
theorem quadsI2 (w : World) (a0 a1 a2 a3 b0 b1 b2 b3 : Int) : QuadV (w.alloc (.cells #[.int .i64 a0, .int .i64 a1, .int .i64 a2, .int .i64 a3, .int .i64 b0, .int .i64 b1, .int .i64 b2, .int .i64 b3] 44)) (.slice (some ⟨w.heap.size, 0, none⟩) 2 2) [((a0, a1), (a2, a3)), ((b0, b1), (b2, b3))] := by
 refine QuadV.mk (xs := [((a0, a1), (a2, a3)), ((b0, b1), (b2, b3))]) ⟨Nat.le_refl _, fun e => by cases e⟩ (by simp [maxLen]) fun i hi => ?_
 have hi3 : i < 2 := hi
 obtain rfl | rfl : i = 0 ∨ i = 1 := by omega
 all_goals refine ⟨w.heap.size, 0, rfl, ?_, ?_, ?_, ?_⟩ <;> simp [go_sem, nth4]
theorem quadsI3 (w : World) (a0 a1 a2 a3 b0 b1 b2 b3 c0 c1 c2 c3 : Int) : QuadV (w.alloc (.cells #[.int .i64 a0, .int .i64 a1, .int .i64 a2, .int .i64 a3, .int .i64 b0, .int .i64 b1, .int .i64 b2, .int .i64 b3, .int .i64 c0, .int .i64 c1, .int .i64 c2, .int .i64 c3] 44)) (.slice (some ⟨w.heap.size, 0, none⟩) 3 3) [((a0, a1), (a2, a3)), ((b0, b1), (b2, b3)), ((c0, c1), (c2, c3))] := by
 refine QuadV.mk (xs := [((a0, a1), (a2, a3)), ((b0, b1), (b2, b3)), ((c0, c1), (c2, c3))]) ⟨Nat.le_refl _, fun e => by cases e⟩ (by simp [maxLen]) fun i hi => ?_
 have hi3 : i < 3 := hi
 obtain rfl | rfl | rfl : i = 0 ∨ i = 1 ∨ i = 2 := by omega
 all_goals refine ⟨w.heap.size, 0, rfl, ?_, ?_, ?_, ?_⟩ <;> simp [go_sem, nth4]
set_option linter.unusedSimpArgs false in
set_option maxRecDepth 100000 in
set_option maxHeartbeats 6400000 in
theorem DrawHasExactPeriod_any (v : Value) (n : Nat) (w : World) (h : CodeV w v n) : Calls Tryz.prog 44 #[v] w (DrawFC w) := by
 have c1 := one_any w.heap.size 0 2 _ (CurAt.start h) (by omega) (by omega) (by omega)
 obtain ⟨ao, cap, rfl, -, -⟩ := h
 have c1' := Lib.hid c1; clear c1
 go_enter Tryz.func44, Tryz.ntmps44
 go_wp2_with fail
 refine (c1'.out).mono ?_
 rintro e w1 ⟨v1, rfl, ⟨b, rfl⟩, hc1, hg1⟩
 cases b
 case false =>
  have c2 := chained_any w.heap.size _ w1 hc1 (by omega)
  have c2' := Lib.hid c2; have hg1' := Lib.hid hg1; clear c2 hg1
  go_wp2_with fail
  refine (c2'.out).mono ?_
  rintro e w2 ⟨v, f, u, l, rfl, ⟨hq, -, hl, -⟩, ⟨hu, -, hul⟩, -, hg2⟩
  have hB := start_below (hg1'.out.trans hg2)
  obtain ⟨_, _, rfl, -⟩ := hq.form
  obtain ⟨_, _, rfl, -⟩ := hu.form
  clear hg2 hg1'
  have hq' := Lib.hid hq; have hu' := Lib.hid hu; have hB' := Lib.hid hB; clear hq hu hB
  go_wp2
  go_ret2
  exact ⟨_, f, _, l, rfl, ⟨hq'.out, hl⟩, ⟨hu'.out, hul⟩, hB'.out⟩
 case true =>
  have hg1' := Lib.hid hg1; clear hg1
  go_wp2_with fail
  refine (raInt_any 1 w1).mono ?_
  rintro e w2 ⟨rfl, hB2⟩
  go_wp2_with fail
  refine (knTent_any (1, 1) w2).mono ?_
  rintro e w3 ⟨v3, rfl, hq3, hn3, hB3⟩
  have hc3 := (hc1.below hB2 hc1.lt).below hB3 (hc1.below hB2 hc1.lt).lt
  have hg3 := (hg1'.out.trans (bgrow hB2 _)).trans (bgrow hB3 _)
  have hc2lt := (hc1.below hB2 hc1.lt).lt
  have ho3 := hn3.off hc2lt
  have hqw := fun w' (hg : w3.grownBy w' (some w.heap.size)) => hq3.cellOff ho3 hg
  obtain ⟨ao3, cap3, rfl, -⟩ := hq3.form
  obtain ⟨w4, hw4⟩ : ∃ W, w3.alloc (.cells #[.int .i64 1, .int .i64 8, .int .i64 3, .int .i64 8] 44) = W := ⟨_, rfl⟩
  have hB4 : Below w3.heap.size w3 w4 := by rw [← hw4]; exact (Below.refl _ _).alloc (Nat.le_refl _) _
  have xa4 : BoxQ w4 w3.heap.size ((1, 8), (3, 8)) := by rw [← hw4]; refine ⟨?_, ?_, ?_, ?_⟩ <;> simp [go_sem]
  have hc4 := hc3.below hB4 hc3.lt
  have hlt3 := hc3.lt
  have g34 : w3.grownBy w4 (some w.heap.size) := bgrow hB4 _
  clear hc1 hg1' hB2 hq3 hn3 hB3 hc3 hc2lt ho3 hB4
  have hg3' := Lib.hid hg3; have hqw' := Lib.hid hqw; have hw4' := Lib.hid hw4; have xa4' := Lib.hid xa4; have g34' := Lib.hid g34; clear hg3 hqw hw4 xa4 g34
  go_upto_region 5 with fail
  rw [hw4'.out]
  go_wp2_with fail
  refine (pick_any w.heap.size _ 2 w4 hc4 (by omega) (by omega) (by omega)).mono ?_
  rintro e w5 ⟨v5, rfl, ⟨t, rfl, ht⟩, hc5, hg5⟩
  go_wp2_with fail
  refine (raInt_any 1 w5).mono ?_
  rintro e w6 ⟨rfl, hB6⟩
  obtain ⟨w7, hw7⟩ : ∃ W, w6.alloc (.cells #[.int .i64 1, .int .i64 (2 + (t : Int)), .int .i64 1, .int .i64 1] 44) = W := ⟨_, rfl⟩
  have hB7 : Below w6.heap.size w6 w7 := by rw [← hw7]; exact (Below.refl _ _).alloc (Nat.le_refl _) _
  have xb7 : BoxQ w7 w6.heap.size ((1, 2 + (t : Int)), (1, 1)) := by rw [← hw7]; refine ⟨?_, ?_, ?_, ?_⟩ <;> simp [go_sem]
  have hne3 : some w.heap.size ≠ some w3.heap.size := fun e => by have := Option.some.inj e; omega
  have xa7 := ((xa4'.out.grown hg5 hne3).below hB6).below hB7
  have hc7 := (hc5.below hB6 hc5.lt).below hB7 (hc5.below hB6 hc5.lt).lt
  have g37 := ((g34'.out.trans hg5).trans (bgrow hB6 _)).trans (bgrow hB7 _)
  have hne6 : some w.heap.size ≠ some w6.heap.size := fun e => by have := Option.some.inj e; have := (hc5.below hB6 hc5.lt).lt; omega
  clear hc4 hc5 hg5 hB6 hB7 xa4' g34'
  have hw7' := Lib.hid hw7; have xa7' := Lib.hid xa7; have xb7' := Lib.hid xb7; have g37' := Lib.hid g37; clear hw7 xa7 xb7 g37
  go_upto_region 6 with fail
  rw [hw7'.out]
  go_wp2_with fail
  refine (one_any w.heap.size _ 2 w7 hc7 (by omega) (by omega) (by omega)).mono ?_
  rintro e w8 ⟨v8, rfl, ⟨b2, rfl⟩, hc8, hg8⟩
  obtain ⟨a0, a1, a2, a3⟩ := xa7'.out.grown hg8 hne3
  obtain ⟨b0, b1, b2, b3⟩ := xb7'.out.grown hg8 hne6
  have g38 := g37'.out.trans hg8
  have hdA : Below w8.heap.size w8 w8.drew := (Below.refl _ _).drew
  have at' : ∀ w', Below w8.heap.size w8 w' → (w'.cell? ⟨w3.heap.size, 0, none⟩ = some (.int .i64 1) ∧ w'.cell? ⟨w3.heap.size, 1, none⟩ = some (.int .i64 8) ∧ w'.cell? ⟨w3.heap.size, 2, none⟩ = some (.int .i64 3) ∧ w'.cell? ⟨w3.heap.size, 3, none⟩ = some (.int .i64 8)) ∧ (w'.cell? ⟨w6.heap.size, 0, none⟩ = some (.int .i64 1) ∧ w'.cell? ⟨w6.heap.size, 1, none⟩ = some (.int .i64 (2 + (t : Int))) ∧ w'.cell? ⟨w6.heap.size, 2, none⟩ = some (.int .i64 1) ∧ w'.cell? ⟨w6.heap.size, 3, none⟩ = some (.int .i64 1)) :=
   fun w' h => ⟨⟨bkeep h a0, bkeep h a1, bkeep h a2, bkeep h a3⟩, ⟨bkeep h b0, bkeep h b1, bkeep h b2, bkeep h b3⟩⟩
  clear xa7' xb7' g37' hc7 hc8 hg8 hne3 hne6 a0 a1 a2 a3 b0 b1 b2 b3
  have at'' := Lib.hid at'; have g38' := Lib.hid g38; clear at' g38
  cases b2
  ·go_wp2_with fail
   refine wp_region_held_drew (S := (fun w' => (w'.cell? ⟨w3.heap.size, 0, none⟩ = some (.int .i64 1) ∧ w'.cell? ⟨w3.heap.size, 1, none⟩ = some (.int .i64 8) ∧ w'.cell? ⟨w3.heap.size, 2, none⟩ = some (.int .i64 3) ∧ w'.cell? ⟨w3.heap.size, 3, none⟩ = some (.int .i64 8)) ∧ (w'.cell? ⟨w6.heap.size, 0, none⟩ = some (.int .i64 1) ∧ w'.cell? ⟨w6.heap.size, 1, none⟩ = some (.int .i64 (2 + (t : Int))) ∧ w'.cell? ⟨w6.heap.size, 2, none⟩ = some (.int .i64 1) ∧ w'.cell? ⟨w6.heap.size, 3, none⟩ = some (.int .i64 1)))) (by kernel_rfl) (by (try dsimp only); exact at''.out _ ‹_›) (fun hHeld => ?_)
   refine ly_s 0 hHeld ?_
   refine ly_s 1 hHeld ?_
   refine ly_s 2 hHeld ?_
   refine ly_s 3 hHeld ?_
   refine ly_s 5 hHeld ?_
   refine ly_a 4 (fun KK hKK => ?_)
   go_simp
   have hdB := hdA.alloc hdA.size (.cells #[.int .i64 1, .int .i64 (2 + (t : Int)), .int .i64 1, .int .i64 1, .int .i64 1, .int .i64 8, .int .i64 3, .int .i64 8, .int .i64 1, .int .i64 (2 + (t : Int)), .int .i64 1, .int .i64 1] 44)
   try dsimp only
   refine hKK.out _ _ (by (try dsimp only); exact at''.out _ ‹_›) (fun hHeld => ?_)
   clear hKK KK
   try simp only [Act.put, lyA, lyB, lyC]
   refine ly_s 6 hHeld ?_
   refine wpAnyH_done (by kernel_rfl) ?_ _
   have hL := quadsI3 w8.drew 1 (2 + (t : Int)) 1 1 1 8 3 8 1 (2 + (t : Int)) 1 1
   have g39 := g38'.out.trans (bgrow hdB (some w.heap.size))
   have hq9 := hqw'.out _ g39
   have hBz := start_below (hg3'.out.trans g39)
   clear hHeld hdA hdB at'' g38' g39 hqw' hg3'
   have hL' := Lib.hid hL; have hq9' := Lib.hid hq9; have hBz' := Lib.hid hBz; clear hL hq9 hBz
   go_wp2
   go_ret2
   exact ⟨_, _, _, _, rfl, ⟨hq9'.out, (show 3 ≤ 13 by decide)⟩, ⟨hL'.out, (show 3 ≤ 12 by decide)⟩, hBz'.out⟩
  ·go_wp2_with fail
   refine wp_region_held_drew (S := (fun w' => (w'.cell? ⟨w3.heap.size, 0, none⟩ = some (.int .i64 1) ∧ w'.cell? ⟨w3.heap.size, 1, none⟩ = some (.int .i64 8) ∧ w'.cell? ⟨w3.heap.size, 2, none⟩ = some (.int .i64 3) ∧ w'.cell? ⟨w3.heap.size, 3, none⟩ = some (.int .i64 8)) ∧ (w'.cell? ⟨w6.heap.size, 0, none⟩ = some (.int .i64 1) ∧ w'.cell? ⟨w6.heap.size, 1, none⟩ = some (.int .i64 (2 + (t : Int))) ∧ w'.cell? ⟨w6.heap.size, 2, none⟩ = some (.int .i64 1) ∧ w'.cell? ⟨w6.heap.size, 3, none⟩ = some (.int .i64 1)))) (by kernel_rfl) (by (try dsimp only); exact at''.out _ ‹_›) (fun hHeld => ?_)
   refine ly_s 0 hHeld ?_
   refine ly_s 1 hHeld ?_
   refine ly_s 2 hHeld ?_
   refine ly_s 4 hHeld ?_
   refine ly_a 3 (fun KK hKK => ?_)
   go_simp
   have hdB := hdA.alloc hdA.size (.cells #[.int .i64 1, .int .i64 8, .int .i64 3, .int .i64 8, .int .i64 1, .int .i64 (2 + (t : Int)), .int .i64 1, .int .i64 1] 44)
   try dsimp only
   refine hKK.out _ _ (by (try dsimp only); exact at''.out _ ‹_›) (fun hHeld => ?_)
   clear hKK KK
   try simp only [Act.put, lyA, lyB, lyC]
   refine ly_s 5 hHeld ?_
   refine wpAnyH_done (by kernel_rfl) ?_ _
   have hL := quadsI2 w8.drew 1 8 3 8 1 (2 + (t : Int)) 1 1
   have g39 := g38'.out.trans (bgrow hdB (some w.heap.size))
   have hq9 := hqw'.out _ g39
   have hBz := start_below (hg3'.out.trans g39)
   clear hHeld hdA hdB at'' g38' g39 hqw' hg3'
   have hL' := Lib.hid hL; have hq9' := Lib.hid hq9; have hBz' := Lib.hid hBz; clear hL hq9 hBz
   go_wp2
   go_ret2
   exact ⟨_, _, _, _, rfl, ⟨hq9'.out, (show 3 ≤ 13 by decide)⟩, ⟨hL'.out, (show 2 ≤ 12 by decide)⟩, hBz'.out⟩
def DrawFX (w : World) (e : Ending) (w' : World) : Prop := ∃ v f u l x, e = .returned (.tuple #[v, u, ratV x]) ∧ (QuadV w' v f ∧ f.length ≤ 13) ∧ (QuadV w' u l ∧ l.length ≤ 12) ∧ I64R x ∧ Below w.heap.size w w'
theorem QuadV.small {w w' : World} {b : Nat} {v : Value} {f : List Quad} (h : QuadV w v f) (hb : ∀ o, 2 ≤ o → w.cell? ⟨b, o, none⟩ = none) (hg : w.grownBy w' (some b)) : QuadV w' v f := by
 obtain ⟨ao, cap, rfl, h1, h2, H⟩ := h.form
 refine QuadV.mk h1 h2 fun i hi => ?_
 obtain ⟨b', off, rfl, c0, c1, c2, c3⟩ := H i hi
 have hne : some b ≠ some b' := by
  intro e
  cases e
  rw [hb _ (by omega)] at c3
  cases c3
 exact ⟨b', off, rfl, gcell hg c0 hne, gcell hg c1 hne, gcell hg c2 hne, gcell hg c3 hne⟩
theorem GrowR.formR {w : World} {B : Nat} {v : Value} {xs : List (Int × Int)} (h : GrowR w B v xs) (hn : 0 < xs.length) : ∃ g cap, v = .slice (some ⟨g, 0, none⟩) xs.length cap ∧ (B ≤ g ∧ g < w.heap.size) ∧ ∀ i, i < xs.length → w.cell? ⟨g, i * 2, none⟩ = some (.int .i64 (nthR xs i).1) ∧ w.cell? ⟨g, i * 2 + 1, none⟩ = some (.int .i64 (nthR xs i).2) := by
 obtain ⟨g, cap, rfl, hr⟩ := GrowF.form h hn
 obtain ⟨_, _, e, h1, h2, H⟩ := h.read.form
 cases e
 refine ⟨g, cap, rfl, hr.lt, fun i hi => ?_⟩
 obtain ⟨_, _, e, c⟩ := H i hi
 cases e
 simpa using c
theorem unitR_i64 {x : Int × Int} (h : unitR x.1 x.2 = true) : I64R x := good_i64 (unitR_good h)
set_option linter.unusedSimpArgs false in
set_option maxRecDepth 100000 in
set_option maxHeartbeats 6400000 in
theorem DrawRunsThrough_any (v : Value) (n : Nat) (w : World) (h : CodeV w v n) : Calls Tryz.prog 46 #[v] w (DrawFX w) := by
 obtain ⟨w0, hw0⟩ : ∃ W, w.alloc (.cells #[.int .i64 0, .int .i64 0] 42) = W := ⟨_, rfl⟩
 have hB0 : Below w.heap.size w w0 := by rw [← hw0]; exact (Below.refl _ _).alloc (Nat.le_refl _) _
 have hx0 : BoxO w0 w.heap.size 0 0 := by rw [← hw0]; exact BoxO.new _ _ _ _
 have hz0 : w0.heap.size = w.heap.size + 1 := by rw [← hw0]; simp
 have hn0 : ∀ o, 2 ≤ o → w0.cell? ⟨w.heap.size, o, none⟩ = none := fun o ho => by
  rw [← hw0]
  obtain ⟨o, rfl⟩ : ∃ k, o = k + 2 := ⟨o - 2, by omega⟩
  simp [go_sem]
 have h0 := h.below hB0
 have hc0 := CurAt.start h0
 obtain ⟨ao, cap, rfl, -, -⟩ := h
 obtain ⟨c, hc⟩ : ∃ c, w0.heap.size = c := ⟨_, rfl⟩
 obtain ⟨w1, hw1⟩ : ∃ W, w0.alloc (.cells #[.slice ao n cap, .int .i64 0, .int .u64 0] 102) = W := ⟨_, rfl⟩
 have hB1 : Below w0.heap.size w0 w1 := by rw [← hw1]; exact (Below.refl _ _).alloc (Nat.le_refl _) _
 have hx1 := hx0.below hB1
 have hb1 := hB0.trans (hB1.mono hB0.size)
 rw [hw1, hc] at hc0
 have hcw : c = w.heap.size + 1 := by omega
 have hn1 : ∀ o, 2 ≤ o → w1.cell? ⟨w.heap.size, o, none⟩ = none := fun o ho => (hB1.cell (by show w.heap.size < _; omega)).trans (hn0 o ho)
 have hz1 : w1.heap.size = c + 1 := by rw [← hw1]; simp; omega
 have c1 := chained_any c 0 w1 hc0 (by omega)
 clear h0 hB0 hB1 hx0 hz0 hn0 hc0
 have hw0' := Lib.hid hw0; have hw1' := Lib.hid hw1; have hx1' := Lib.hid hx1; have hb1' := Lib.hid hb1; have hc' := Lib.hid hc; have hz1' := Lib.hid hz1; have hcw' := Lib.hid hcw; have hn1' := Lib.hid hn1; have c1' := Lib.hid c1; clear hw0 hw1 hx1 hb1 hc hz1 hcw hn1 c1
 go_enter Tryz.func46, Tryz.ntmps46
 go_upto_region 1 with fail
 rw [hw0'.out]
 go_upto_region 2 with fail
 rw [hw1'.out, hc'.out]
 go_wp2_with fail
 refine (c1'.out).mono ?_
 rintro e w2 ⟨v, f, u, l, rfl, ⟨hq, ho, hl, hI⟩, ⟨hu, hou, hul⟩, hc2, hg2⟩
 have hne : some c ≠ some w.heap.size := by intro e; have := Option.some.inj e; have := hcw'.out; omega
 have hwl : w.heap.size < w1.heap.size := by have := hcw'.out; have := hz1'.out; omega
 have hx2 := fun w' (hg : w2.grownBy w' (some c)) => hx1'.out.kept (hg2.trans hg) hne
 have hn2 : ∀ w', w2.grownBy w' (some c) → ∀ o, 2 ≤ o → w'.cell? ⟨w.heap.size, o, none⟩ = none := fun w' hg o ho => ((hg2.trans hg).cell_far ⟨w.heap.size, o, none⟩ hwl hne.symm).trans (hn1'.out o ho)
 have hqw := fun w' (hg : w2.grownBy w' (some c)) => hq.cellOff ho hg
 have huw := fun w' (hg : w2.grownBy w' (some c)) => hu.cellOff hou hg
 have hbw : ∀ w', w2.grownBy w' (some c) → Below w.heap.size w w' := fun w' hg => hb1'.out.trans ⟨(hg2.trans hg).os, (hg2.trans hg).tape, (hg2.trans hg).output, (hg2.trans hg).size, fun j hj => (hg2.trans hg).block j (by have := hz1'.out; omega) (by intro e; have := Option.some.inj e; have := hcw'.out; omega)⟩
 have hfin : ∀ w' (x : Int × Int), w2.grownBy w' (some c) → (QuadV ((w'.setCell ⟨w.heap.size, 0, none⟩ (.int .i64 x.1)).setCell ⟨w.heap.size, 1, none⟩ (.int .i64 x.2)) v f ∧ f.length ≤ 13) ∧ (QuadV ((w'.setCell ⟨w.heap.size, 0, none⟩ (.int .i64 x.1)).setCell ⟨w.heap.size, 1, none⟩ (.int .i64 x.2)) u l ∧ l.length ≤ 12) ∧ Below w.heap.size w ((w'.setCell ⟨w.heap.size, 0, none⟩ (.int .i64 x.1)).setCell ⟨w.heap.size, 1, none⟩ (.int .i64 x.2)) := fun w' x hg =>
  ⟨⟨(hqw w' hg).small (hn2 w' hg) (grown_put w' w.heap.size _ _), hl⟩, ⟨(huw w' hg).small (hn2 w' hg) (grown_put w' w.heap.size _ _), hul⟩, ((hbw w' hg).setCell (p := ⟨w.heap.size, 0, none⟩) (Nat.le_refl _) _).setCell (p := ⟨w.heap.size, 1, none⟩) (Nat.le_refl _) _⟩
 have c3 := asked_imGood_any v u f l w2 hq hu (by omega) (by omega)
 have hmp : (mapB f && ivsB l) = true → mapB f = true ∧ 1 ≤ l.length := fun h => by
  rw [Bool.and_eq_true] at h
  exact ⟨h.1, (ivs_lst h.2).1⟩
 generalize (mapB f && ivsB l) = M at *
 obtain ⟨af, cf, rfl, -⟩ := hq.form
 obtain ⟨au, cu, rfl, -⟩ := hu.form
 have hlt2 := hc2.lt
 have hws2 : w.heap.size < w2.heap.size := Nat.lt_of_lt_of_le hwl hg2.size
 have hl13 := hl
 clear hx1' hn1' hb1' hw0' hw1' hc' hz1' hcw' hq hu hg2 c1' hl hul
 have c3' := Lib.hid c3; have hqw' := Lib.hid hqw; have huw' := Lib.hid huw; have ho' := Lib.hid ho; have hI' := Lib.hid hI; have hbw' := Lib.hid hbw; have hfin' := Lib.hid hfin; have hmp' := Lib.hid hmp; have hx2' := Lib.hid hx2; have hn2' := Lib.hid hn2; have hou' := Lib.hid hou; clear c3 hqw huw ho hI hbw hfin hmp hx2 hn2 hou
 go_upto_region 3 with fail
 go_cut [30] from 19 to 30 (fun s wx => ∃ b : Bool, s = .bool b ∧ (b = true → mapB f = true ∧ 1 ≤ l.length ∧ l.length ≤ 6) ∧ CurAt wx c 4010 ∧ w2.grownBy wx (some c))
 case first =>
  go_wp2_with fail
  refine (c3'.out).mono ?_
  rintro e w3 ⟨rfl, hB3⟩
  have hc3 := hc2.below hB3 hlt2
  have g3 := bgrow hB3 (some c)
  clear hB3
  have g3' := Lib.hid g3; clear g3
  cases M
  ·have hc3' := Lib.hid hc3
   clear hc3
   go_wp2_with fail
   go_meet
   exact ⟨false, rfl, (fun e => by cases e), hc3'.out.mono (by omega), g3'.out⟩
  obtain ⟨hm1, hm2⟩ := hmp'.out (by first | rfl | trivial)
  have hm1' := Lib.hid hm1; have hm2' := Lib.hid hm2; clear hm1 hm2
  by_cases h6 : l.length ≤ 6
  ·have h6' : (l.length : Int) ≤ 6 := by omega
   go_wp2_with fail
   refine (one_any c _ 2 w3 hc3 (by omega) (by omega) (by omega)).mono ?_
   rintro e w4 ⟨v4, rfl, ⟨b, rfl⟩, hc4, hg4⟩
   have g4 := g3'.out.trans hg4
   clear hg4 g3' hc3
   have hc4' := Lib.hid hc4; have g4' := Lib.hid g4; clear hc4 g4
   go_wp2_with fail
   go_meet
   exact ⟨b, rfl, fun _ => ⟨hm1'.out, hm2'.out, h6⟩, hc4'.out.mono (by omega), g4'.out⟩
  ·have h6' : ¬ (l.length : Int) ≤ 6 := by omega
   have hc3' := Lib.hid hc3; clear hc3
   go_wp2_with fail
   go_meet
   exact ⟨false, rfl, (fun e => by cases e), hc3'.out.mono (by omega), g3'.out⟩
 case rest =>
 obtain ⟨b, rfl, hb, hc3, hg3⟩ := hcut
 obtain ⟨wo, rfl⟩ : ∃ wo : World, wo = wc := ⟨_, rfl⟩
 clear hc2 c3' hmp'
 have hb' := Lib.hid hb; have hc3' := Lib.hid hc3; have hg3' := Lib.hid hg3; clear hb hc3 hg3
 go_upto_if 30 with fail
 go_cut [8, 9, 10] from 31 to 52 (fun _ _ _ wx => CurAt wx c 4020 ∧ w2.grownBy wx (some c))
 case first =>
  cases b
  ·go_wp2_with fail
   go_meet
   exact ⟨hc3'.out.mono (by omega), hg3'.out⟩
  obtain ⟨hm, hl1, hl6⟩ := hb'.out (by first | rfl | trivial)
  have cp := coPower_any _ f l.length wo (hqw'.out wo hg3'.out) hm hl6
  have hcm := cmW_map f l.length
  generalize cmW f l.length = R at *
  obtain ⟨P, ok⟩ := R
  simp only at cp hcm
  clear hb'
  have cp' := Lib.hid cp; have hcm' := Lib.hid hcm; have hm' := Lib.hid hm; clear cp hcm hm
  go_wp2_with fail
  refine (cp'.out).mono ?_
  rintro e w4 ⟨v4, rfl, ho4, hB4⟩
  simp only at ho4
  have hc4 := hc3'.out.below hB4 hc3'.out.lt
  have hg4 := hg3'.out.trans (bgrow hB4 (some c))
  have hq4 := ho4.read
  obtain ⟨ap, cpp, rfl, -⟩ := hq4.form
  clear hB4 ho4 cp' hc3' hg3'
  cases ok
  ·have hc4' := Lib.hid hc4
   have hg4' := Lib.hid hg4; have hq4' := Lib.hid hq4; clear hc4 hg4 hq4
   go_wp2_with fail
   go_meet
   exact ⟨hc4'.out.mono (by omega), hg4'.out⟩
  have hmP := mapB_true (hcm'.out (by first | rfl | trivial))
  have cx := chFixed_any _ P w4 hq4 hmP
  have hxu := fxL_unit hmP
  have hxl := fxL_len hmP
  generalize fxL P = xs at *
  clear hmP hcm' hq4
  have cx' := Lib.hid cx; have hxu' := Lib.hid hxu; have hc4' := Lib.hid hc4; have hg4' := Lib.hid hg4; clear cx hxu hc4 hg4
  go_wp2_with fail
  refine (cx'.out).mono ?_
  rintro e w5 ⟨v5, rfl, hH5, hB5⟩
  have hlt4 := hc4'.out.lt
  have hc5 := hc4'.out.below hB5 hlt4
  have hg5 := hg4'.out.trans (bgrow hB5 (some c))
  have hs4 := hg4'.out.size
  clear hc4' hg4' cx'
  by_cases hx0 : xs = []
  ·subst hx0
   obtain rfl := hH5.1 rfl
   clear hH5
   have hc5' := Lib.hid hc5; have hg5' := Lib.hid hg5; clear hc5 hg5
   go_wp2_with fail
   go_meet
   exact ⟨hc5'.out.mono (by omega), hg5'.out⟩
  have hG5 := hH5.2
  have hxp : 0 < xs.length := by cases xs with | nil => exact absurd rfl hx0 | cons _ _ => simp
  obtain ⟨g, gc, rfl, ⟨hgb1, hgb2⟩, HG⟩ := hG5.formR hxp
  obtain ⟨p, hp⟩ : ∃ p, xs.length = p := ⟨_, rfl⟩
  rw [hp] at HG hxp hxl ⊢
  have hwg : w.heap.size ≠ g := by omega
  have hS : ∀ w', w5.grownBy w' (some c) → ∀ j, j < p → w'.cell? ⟨g, j * 2, none⟩ = some (.int .i64 (nthR xs j).1) ∧ w'.cell? ⟨g, j * 2 + 1, none⟩ = some (.int .i64 (nthR xs j).2) := fun w' hg j hj => by
   have hgc : some c ≠ some g := fun e => by have := Option.some.inj e; omega
   exact ⟨gcell hg (HG j hj).1 hgc, gcell hg (HG j hj).2 hgc⟩
  have hp0 : (p : Int) > 0 := by omega
  have hc5d : CurAt w5.drew c 4010 := hc5.heap rfl
  have gd : w5.grownBy w5.drew (some c) := bgrow (Below.refl _ _).drew _
  have hui : ∀ i, i < p → I64R (nthR xs i) := fun i hi => unitR_i64 (hxu'.out _ (by rw [nthR_eq (by omega)]; exact List.getElem_mem _))
  clear hG5 HG hH5 hxu' hc5
  have hS' := Lib.hid hS; have hc5d' := Lib.hid hc5d; have hg5' := Lib.hid hg5; have hp' := Lib.hid hp; have gd' := Lib.hid gd; have hui' := Lib.hid hui; clear hS hc5d hg5 hp gd hui
  go_wp2_with fail
  refine wp_region_held_drew (S := (fun w' => ∀ j, j < p → w'.cell? ⟨g, j * 2, none⟩ = some (.int .i64 (nthR xs j).1) ∧ w'.cell? ⟨g, j * 2 + 1, none⟩ = some (.int .i64 (nthR xs j).2))) (by kernel_rfl) (by (try dsimp only); (first | exact hS'.out _ gd'.out | exact hS'.out _ gd6 | exact hS7)) (fun hHeld => ?_)
  refine ly_s 0 hHeld ?_
  refine ly_s 1 hHeld ?_
  refine ly_s 2 hHeld ?_
  refine ly_s 3 hHeld ?_
  refine ly_s 4 hHeld ?_
  refine ly_s 5 hHeld ?_
  refine ly_a 6 (fun KK hKK => ?_)
  go_simp
  refine (pick_any c _ p w5.drew hc5d'.out (by omega) (by omega) (by omega)).mono ?_
  rintro e w6 ⟨v6, rfl, ⟨i, rfl, hi⟩, hc6, hg6⟩
  have gd6 := gd'.out.trans hg6
  have q1 : (0 : Int) ≤ (i : Int) := by omega
  have q2 : (i : Int) < (p : Int) := by omega
  obtain ⟨k0, k1, k2, k4⟩ := hx2'.out w6 (hg5'.out.trans gd6)
  try dsimp only
  refine hKK.out _ _ (by (try dsimp only); (first | exact hS'.out _ gd'.out | exact hS'.out _ gd6 | exact hS7)) (fun hHeld => ?_)
  clear hKK KK
  try simp only [Act.put, lyA, lyB, lyC]
  refine ly_s 7 hHeld ?_
  refine ly_s 8 (v := (.agg #[.int .i64 (nthR xs i).1, .int .i64 (nthR xs i).2])) (hy := by intro wS hSw; (try dsimp only at hSw); go_simp; all_goals (with_reducible rfl)) hHeld ?_
  refine ly_s 9 hHeld ?_
  refine ly_s 10 hHeld ?_
  refine ly_a 11 (fun KK hKK => ?_)
  go_simp
  have hS7 : ∀ j, j < p → ((w6.setCell ⟨w.heap.size, 0, none⟩ (.int .i64 (nthR xs i).1)).setCell ⟨w.heap.size, 1, none⟩ (.int .i64 (nthR xs i).2)).cell? ⟨g, j * 2, none⟩ = some (.int .i64 (nthR xs j).1) ∧ ((w6.setCell ⟨w.heap.size, 0, none⟩ (.int .i64 (nthR xs i).1)).setCell ⟨w.heap.size, 1, none⟩ (.int .i64 (nthR xs i).2)).cell? ⟨g, j * 2 + 1, none⟩ = some (.int .i64 (nthR xs j).2) := fun j hj => by obtain ⟨z0, z1⟩ := hS'.out _ gd6 j hj; simp [go_sem, z0, z1, hwg]
  try dsimp only
  refine hKK.out _ _ (by (try dsimp only); (first | exact hS'.out _ gd'.out | exact hS'.out _ gd6 | exact hS7)) (fun hHeld => ?_)
  clear hKK KK
  try simp only [Act.put, lyA, lyB, lyC]
  refine wpAnyH_done (by kernel_rfl) ?_ _
  obtain ⟨f1, f2, f3⟩ := hfin'.out w6 (nthR xs i) (hg5'.out.trans gd6)
  have hxi := hui'.out i hi
  generalize nthR xs i = x at *
  clear hHeld hS' hS7 gd6 hc6 hg6 hg5' gd' hc5d' hfin' hx2' hn2' hqw' huw' hbw'
  have f1' := Lib.hid f1; have f2' := Lib.hid f2; have f3' := Lib.hid f3; have hxi' := Lib.hid hxi; clear f1 f2 f3 hxi
  go_wp2
  refine bodyPost_ret (v := .tuple #[.slice af f.length cf, .slice au l.length cu, ratV x]) (by simp [results, Tryz.results46, go_sem, k0, k1, k2, k4, ratV]) rfl ⟨_, f, _, l, x, rfl, f1'.out, f2'.out, hxi'.out, f3'.out⟩
 case rest =>
 obtain ⟨hc4, hg4⟩ := hcut
 obtain ⟨wp, rfl⟩ : ∃ wo : World, wo = wc := ⟨_, rfl⟩
 clear hc3' hg3' hb'
 have cX := xOf_any c 4020 _ f wp hc4 (by omega) (hqw'.out wp hg4) ho'.out hI'.out (by omega)
 have cX' := Lib.hid cX; clear cX
 go_wp2_with fail
 refine (cX'.out).mono ?_
 rintro e w5 ⟨x, rfl, hx5, hc5, hg5⟩
 have g5 := hg4.trans hg5
 obtain ⟨k0, k1, k2, k4⟩ := hx2'.out w5 g5
 obtain ⟨f1, f2, f3⟩ := hfin'.out w5 x g5
 have hxi : I64R x := hx5
 obtain ⟨x0, x1⟩ := x
 simp only at f1 f2 f3
 clear g5 hg4 hg5 hc4 hc5 cX' hfin' hx2' hn2' hqw' huw' hbw' hx5
 have f1' := Lib.hid f1; have f2' := Lib.hid f2; have f3' := Lib.hid f3; have hxi' := Lib.hid hxi; clear f1 f2 f3 hxi
 go_wp2
 refine bodyPost_ret (v := .tuple #[.slice af f.length cf, .slice au l.length cu, ratV (x0, x1)]) (by simp [results, Tryz.results46, go_sem, k0, k1, k2, k4, ratV]) rfl ⟨_, f, _, l, (x0, x1), rfl, f1'.out, f2'.out, hxi'.out, f3'.out⟩
end Go.Proofs.YtfhhofecfllbfaaGreat

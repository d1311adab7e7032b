/- Drawn maps, told loosely: maps whose pieces mostly are not flat. No conditions but small sizes. -/
import Derived.Test.YtfhhofecfllbfaaGreatPkQ
import Derived.Test.YtfhhofecfllbfaaGreatPkR
import Derived.Test.YtfhhofecfllbfaaGreatPkA
namespace Go.Proofs.YtfhhofecfllbfaaGreat
open Go.RowKit
set_option maxRecDepth 100000
set_option maxHeartbeats 400000 in
theorem imMirror_any (n d : Int) (w : World) (h : 0 ≤ n ∧ n ≤ d ∧ d ≤ 1000000000) : Calls Tryz.prog 196 #[.agg #[.int .i64 n, .int .i64 d]] w (Ret (ratV (d - n, d)) w) := by
 go_enter Tryz.func196, Tryz.ntmps196
 go_wp2
 refine bodyPost_ret (v := ratV (d - n, d)) (by simp [results, Tryz.results196, go_sem, ratV]) rfl ⟨rfl, ?_⟩
 exact ((Below.refl _ _).alloc (Nat.le_refl _) _).alloc (by simp) _
theorem unit_bds {x : Int × Int} (h : UnitP x) : 0 ≤ x.1 ∧ x.1 ≤ x.2 ∧ x.2 ≤ 1000000000 := by
 have h1 := unitR_good h
 have h2 := goodR_bd h1
 unfold UnitP unitR at h
 rw [Bool.and_eq_true] at h
 have h3 := inB_true.1 h.2
 omega
theorem quads3 (w : World) (x0 x1 y0 y1 : Int) : QuadV (w.alloc (.cells #[.int .i64 0, .int .i64 1, .int .i64 0, .int .i64 1, .int .i64 x0, .int .i64 x1, .int .i64 y0, .int .i64 y1, .int .i64 1, .int .i64 1, .int .i64 0, .int .i64 1] 80)) (.slice (some ⟨w.heap.size, 0, none⟩) 3 3) [((0, 1), (0, 1)), ((x0, x1), (y0, y1)), ((1, 1), (0, 1))] := by
 refine QuadV.mk (xs := [((0, 1), (0, 1)), ((x0, x1), (y0, y1)), ((1, 1), (0, 1))]) ⟨Nat.le_refl _, fun e => by cases e⟩ (by simp [maxLen]) fun i hi => ?_
 have hi3 : i < 3 := hi
 obtain rfl | rfl | rfl : i = 0 ∨ i = 1 ∨ i = 2 := by omega
 all_goals refine ⟨w.heap.size, 0, rfl, ?_, ?_, ?_, ?_⟩ <;> simp [go_sem, nth4]
def ListAt (c N : Nat) (w : World) (o : Value) (wr : World) : Prop := ∃ f, GrowP wr w.heap.size o f ∧ 1 ≤ f.length ∧ f.length ≤ 13 ∧ AllI f ∧ CurAt wr c N ∧ w.grownBy wr (some c)
theorem BoxO.put {w : World} {b : Nat} {x y : Int} (h : BoxO w b x y) (a d : Int) : BoxO ((w.setCell ⟨b, 0, none⟩ (.int .i64 a)).setCell ⟨b, 1, none⟩ (.int .i64 d)) b a d := by
 obtain ⟨c0, c1, f0, f1⟩ := h
 refine ⟨?_, ?_, ?_, ?_⟩ <;> simp [go_sem, c0, c1, f0, f1]
theorem grown_put (w : World) (b : Nat) (a d : Value) : w.grownBy ((w.setCell ⟨b, 0, none⟩ a).setCell ⟨b, 1, none⟩ d) (some b) := (grownBy_setCell_some w b 0 a).trans (grownBy_setCell_some _ b 1 d)
set_option linter.unusedSimpArgs false in
set_option maxRecDepth 100000 in
set_option maxHeartbeats 6400000 in
theorem strictMap_any (c N : Nat) (w : World) (h : CurAt w c N) (hN : N ≤ 549755500000) :
  Calls Tryz.prog 162 #[.pointer (some ⟨c, 0, none⟩)] w (PicksG c (N + 600) w) := by
 have hlt := h.lt
 have c1 := one_any c N 4 w h (by omega) (by omega) (by omega)
 clear h
 have c1' := Lib.hid c1; clear c1
 go_enter Tryz.func162, Tryz.ntmps162
 go_wp2_with fail
 refine (c1'.out).mono ?_
 rintro e w1 ⟨v, rfl, ⟨b, rfl⟩, hc1, hg1⟩
 cases b
 case' true =>
  go_wp2_with fail
  refine (anyIm_any c _ w1 hc1 (by omega)).mono ?_
  rintro e w2 ⟨v, f, rfl, hq, ho, hl, hI, hc2, hg2⟩
  have g2 := hg1.trans hg2
  obtain ⟨ao, cap, rfl, -⟩ := hq.form
  clear hg1 hg2 hc1
  have hq' := Lib.hid hq; have ho' := Lib.hid ho; have hI' := Lib.hid hI; have hc2' := Lib.hid hc2; have g2' := Lib.hid g2; clear hq ho hI hc2 g2
  go_wp2
  go_ret
  exact ⟨_, f, rfl, hq'.out, ho'.out, hl, hI'.out, hc2'.out.mono (by omega), g2'.out⟩
 go_wp2_with fail
 refine (among_list c _ [2, 3, 4, 4, 6] w1 5 hc1 (by omega) rfl (by omega) (by omega)).mono ?_
 rintro e w2 ⟨v, rfl, ⟨d, rfl, hd⟩, hc2, hg2⟩
 obtain ⟨m, rfl, hm1, hm2⟩ : ∃ q : Nat, d = (q : Int) ∧ 2 ≤ q ∧ q ≤ 6 := ⟨d.toNat, by simp at hd; omega, by simp at hd; omega, by simp at hd; omega⟩
 have hst : ∃ k : Nat, Value.int .i64 0 = .int .i64 k ∧ LaidAt c (N + 4 + 10 * k) (m + 1) w (.slice none 0 0) k w2 := ⟨0, rfl, by omega, [], GrowP.nil _ _, rfl, AllI.nil, hc2, hg1.trans hg2⟩
 clear hd hc1 hc2 hg1 hg2
 have hst' := Lib.hid hst; clear hst
 go_wp2_with fail
 go_loopw [4, 5] (fun o i wr => ∃ k : Nat, i = .int .i64 k ∧ LaidAt c (N + 4 + 10 * k) (m + 1) w o k wr) (fun _ i _ => m + 1 - (intOf i).toNat)
 case atStart => exact hst'.out
 case round =>
  clear hst'
  obtain ⟨k, rfl, hk, f, hG, hfl, hfI, hc, hgw⟩ := hrel
  obtain ⟨w6, rfl⟩ : ∃ wo : World, wo = wr := ⟨_, rfl⟩
  obtain ⟨ao4, cap4, rfl⟩ := hG.shape
  rw [hfl] at hG ⊢
  by_cases hlt2 : k ≤ m
  ·have q2 : (k : Int) ≤ (m : Int) := by omega
   have cm := raMake_any k m w6 (by omega) (by omega) (by omega)
   have hxi := mkR_i64 k m
   generalize mkR (k : Int) m = R at *
   obtain ⟨⟨x0, x1⟩, ok⟩ := R
   simp only at cm hxi
   have cm' := Lib.hid cm; have hxi' := Lib.hid hxi; have hG' := Lib.hid hG; have hfI' := Lib.hid hfI; have hfl' := Lib.hid hfl; have hc' := Lib.hid hc; have hgw' := Lib.hid hgw; clear cm hxi hG hfI hfl hc hgw
   go_wp2_with fail
   refine (cm'.out).mono ?_
   rintro e w7 ⟨rfl, hB7⟩
   obtain ⟨w8, hw8⟩ : ∃ W, w7.alloc (.cells #[.int .i64 x0, .int .i64 x1] 42) = W := ⟨_, rfl⟩
   have hB78 : Below w7.heap.size w7 w8 := by rw [← hw8]; exact (Below.refl _ _).alloc (Nat.le_refl _) _
   have hB8 := hB7.trans (hB78.mono hB7.size)
   have hX8 : BoxO w8 w7.heap.size x0 x1 := by rw [← hw8]; exact BoxO.new _ _ _ _
   have hc8 := hc'.out.below hB8 hc'.out.lt
   have hG8 := hG'.out.below hB8
   have hg8 := hgw'.out.trans (bgrow hB8 (some c))
   have hne6 : ∀ b, (Value.slice ao4 k cap4).ownBlock = some b → b < w7.heap.size := fun b e => Nat.lt_of_lt_of_le (World.ownsRow.lt hG'.out _ e).2 hB7.size
   have hs7 : c < w7.heap.size := Nat.lt_of_lt_of_le hc'.out.lt hB7.size
   have hs8 : w7.heap.size < w8.heap.size := by rw [← hw8]; simp
   have hs67 : w.heap.size ≤ w7.heap.size := Nat.le_trans hgw'.out.size hB7.size
   clear hB7 hB78 hB8 hG' hc' hgw'
   have hw8' := Lib.hid hw8; have hX8' := Lib.hid hX8; have hG8' := Lib.hid hG8; have hg8' := Lib.hid hg8; have hne6' := Lib.hid hne6; clear hw8 hX8 hG8 hg8 hne6
   go_wp2_with fail
   rw [hw8'.out]
   go_wp2_with fail
   refine (gridRat_any c _ m w8 hc8 (by omega) (by omega) (by omega)).mono ?_
   rintro e w9 ⟨⟨y0, y1⟩, rfl, hu, hc9, hg9⟩
   have huy := unit_bds hu
   have hui := unit_i64 hu
   simp only at huy
   obtain ⟨wA, hwA⟩ : ∃ W, w9.alloc (.cells #[.int .i64 y0, .int .i64 y1] 42) = W := ⟨_, rfl⟩
   have hB9A : Below w9.heap.size w9 wA := by rw [← hwA]; exact (Below.refl _ _).alloc (Nat.le_refl _) _
   have hYA : BoxO wA w9.heap.size y0 y1 := by rw [← hwA]; exact BoxO.new _ _ _ _
   have hgA := hg9.trans (bgrow hB9A (some c))
   have hXA := hX8'.out.kept hgA (by intro e; have := Option.some.inj e; omega)
   have hGA := hG8'.out.kept hgA hlt
   have hg0A := hg8'.out.trans hgA
   have hcA := hc9.below hB9A hc9.lt
   have hs9 : w7.heap.size < w9.heap.size := Nat.lt_of_lt_of_le hs8 hg9.size
   have hs9A : w9.heap.size < wA.heap.size := by rw [← hwA]; simp
   clear hc8 hG8' hg8' hX8' hg9 hgA hB9A hc9 hu
   have hwA' := Lib.hid hwA; have hYA' := Lib.hid hYA; have hXA' := Lib.hid hXA; have hGA' := Lib.hid hGA; have hg0A' := Lib.hid hg0A; have hcA' := Lib.hid hcA; have huy' := Lib.hid huy; have hui' := Lib.hid hui; clear hwA hYA hXA hGA hg0A hcA huy hui
   go_wp2_with fail
   rw [hwA'.out]
   go_upto_region 10 with fail
   go_cut [55] from 37 to 54 (fun s wx => (∃ b : Bool, s = .bool b ∧ (b = true → 0 < k)) ∧ CurAt wx c (N + 4 + 10 * k + 4) ∧ wA.grownBy wx (some c))
   case first =>
    have hcD : CurAt wA.drew c (N + 4 + 10 * k + 2) := hcA'.out.heap rfl
    have hgD : wA.grownBy wA.drew (some c) := bgrow ((Below.refl _ _).drew) _
    by_cases hk0 : k = 0
    ·subst hk0
     have hcD' := Lib.hid hcD; have hgD' := Lib.hid hgD; clear hcD hgD
     go_wp2_with fail
     refine wp_region_held_drew (S := (fun _ => True)) (by kernel_rfl) (by (try dsimp only); all_goals trivial) (fun hHeld => ?_)
     refine ly_s 0 hHeld ?_
     refine ly_s 1 hHeld ?_
     refine ly_s 2 hHeld ?_
     refine ly_s 3 hHeld ?_
     refine ly_f 4 hHeld ?_
     refine ly_f 5 hHeld ?_
     refine ly_f 6 hHeld ?_
     refine ly_f 7 hHeld ?_
     refine ly_f 8 hHeld ?_
     refine ly_f 9 hHeld ?_
     refine ly_f 10 hHeld ?_
     refine ly_f 11 hHeld ?_
     refine ly_f 12 hHeld ?_
     refine ly_s 13 hHeld ?_
     refine ly_s 14 hHeld ?_
     refine ly_f 15 hHeld ?_
     refine ly_f 16 hHeld ?_
     refine ly_f 17 hHeld ?_
     refine ly_s 18 hHeld ?_
     refine wpAnyH_done (by kernel_rfl) ?_ _
     go_wp2_with fail
     go_meet
     exact ⟨⟨false, rfl, fun h => (by cases h)⟩, hcD'.out.mono (by omega), hgD'.out⟩
    ·obtain ⟨j, hj⟩ : ∃ j, k = j + 1 := ⟨k - 1, by omega⟩
     obtain ⟨gq, cq, e, -⟩ := GrowF.form hGA'.out (by rw [hfl'.out]; omega)
     obtain ⟨rfl, -, rfl⟩ := Value.slice.inj e
     obtain ⟨_, _, e1, -, -, H⟩ := hGA'.out.read.form
     obtain ⟨e3, -, -⟩ := Value.slice.inj e1
     obtain ⟨b', off', e2, z0, z1, z2, z3⟩ := H j (by rw [hfl'.out]; omega)
     rw [← e3] at e2
     cases e2
     rw [Nat.zero_add] at z2 z3
     obtain ⟨⟨q0, q1⟩, hq⟩ : ∃ q, (nth4 f j).2 = q := ⟨_, rfl⟩
     rw [hq] at z2 z3
     simp only at z2 z3
     obtain ⟨d0, d1, -, -⟩ := hYA'.out
     have hcq : some c ≠ some gq := fun e => by have := (World.ownsRow.lt hGA'.out gq rfl).1; have := Option.some.inj e; omega
     have hcy : some c ≠ some w9.heap.size := fun e => by have := Option.some.inj e; omega
     have at' : ∀ w', wA.grownBy w' (some c) → (w'.cell? ⟨w9.heap.size, 0, none⟩ = some (.int .i64 y0) ∧ w'.cell? ⟨w9.heap.size, 1, none⟩ = some (.int .i64 y1)) ∧ w'.cell? ⟨gq, j * 4 + 2, none⟩ = some (.int .i64 q0) ∧ w'.cell? ⟨gq, j * 4 + 3, none⟩ = some (.int .i64 q1) :=
      fun w' h => ⟨⟨gcell h d0 hcy, gcell h d1 hcy⟩, gcell h z2 hcq, gcell h z3 hcq⟩
     have g1 : IntKind.i64.wrap ((k : Int) - 1) = (j : Int) := by rw [IntKind.wrap_i64]; omega
     have g2 : (0 : Int) ≤ (j : Int) := by omega
     have g3 : (j : Int) < (k : Int) := by omega
     have g4 : j < k := by omega
     have g5 : (0 : Int) < (k : Int) := by omega
     have g6 : 0 < k := by omega
     clear z0 z1 z2 z3 d0 d1 H e e1 e3 hcq hcy hq hk0
     have at'' := Lib.hid at'; have hj' := Lib.hid hj; clear at' hj
     by_cases h1 : y0 = q0
     ·by_cases h2 : y1 = q1
      ·subst h1
       subst h2
       go_wp2_with fail
       refine wp_region_held_drew (S := (fun w' => (w'.cell? ⟨w9.heap.size, 0, none⟩ = some (.int .i64 y0) ∧ w'.cell? ⟨w9.heap.size, 1, none⟩ = some (.int .i64 y1)) ∧ w'.cell? ⟨gq, j * 4 + 2, none⟩ = some (.int .i64 y0) ∧ w'.cell? ⟨gq, j * 4 + 3, none⟩ = some (.int .i64 y1))) (by kernel_rfl) (by (try dsimp only); exact at''.out _ ‹_›) (fun hHeld => ?_)
       refine ly_s 0 hHeld ?_
       refine ly_s 1 hHeld ?_
       refine ly_s 2 hHeld ?_
       refine ly_s 3 hHeld ?_
       refine ly_s 4 hHeld ?_
       refine ly_s 5 hHeld ?_
       refine ly_s 6 hHeld ?_
       refine ly_s 7 hHeld ?_
       refine ly_s 8 hHeld ?_
       refine ly_s 9 hHeld ?_
       refine ly_s 10 hHeld ?_
       refine ly_s 11 hHeld ?_
       refine ly_s 12 hHeld ?_
       refine ly_s 13 hHeld ?_
       refine ly_s 14 hHeld ?_
       refine ly_s 15 hHeld ?_
       refine ly_a 16 (fun KK hKK => ?_)
       go_simp
       refine (one_any c _ 8 _ hcD (by omega) (by omega) (by omega)).mono ?_
       rintro e wB ⟨v, rfl, ⟨b, rfl⟩, hcB, hgB⟩
       have hgE := hgD.trans hgB
       try dsimp only
       refine hKK.out _ _ (by (try dsimp only); exact at''.out _ ‹_›) (fun hHeld => ?_)
       clear hKK KK
       try simp only [Act.put, lyA, lyB, lyC]
       refine ly_s 17 hHeld ?_
       refine ly_s 18 hHeld ?_
       refine wpAnyH_done (by kernel_rfl) ?_ _
       go_wp2_with fail
       go_meet
       exact ⟨⟨_, rfl, fun _ => g6⟩, hcB.mono (by omega), hgE⟩
      ·have h3 : ¬ q1 = y1 := fun e => h2 e.symm
       subst h1
       go_wp2_with fail
       refine wp_region_held_drew (S := (fun w' => (w'.cell? ⟨w9.heap.size, 0, none⟩ = some (.int .i64 y0) ∧ w'.cell? ⟨w9.heap.size, 1, none⟩ = some (.int .i64 y1)) ∧ w'.cell? ⟨gq, j * 4 + 2, none⟩ = some (.int .i64 y0) ∧ w'.cell? ⟨gq, j * 4 + 3, none⟩ = some (.int .i64 q1))) (by kernel_rfl) (by (try dsimp only); (exact at''.out _ hgD)) (fun hHeld => ?_)
       refine ly_s 0 hHeld ?_
       refine ly_s 1 hHeld ?_
       refine ly_s 2 hHeld ?_
       refine ly_s 3 hHeld ?_
       refine ly_s 4 hHeld ?_
       refine ly_s 5 hHeld ?_
       refine ly_s 6 hHeld ?_
       refine ly_s 7 hHeld ?_
       refine ly_s 8 hHeld ?_
       refine ly_s 9 hHeld ?_
       refine ly_s 10 hHeld ?_
       refine ly_s 11 hHeld ?_
       refine ly_s 12 (v := .bool false) (hy := by intro wS hSw; (try dsimp only at hSw); go_simp; all_goals (simp [h2, h3])) hHeld ?_
       refine ly_s 13 hHeld ?_
       refine ly_s 14 hHeld ?_
       refine ly_f 15 hHeld ?_
       refine ly_f 16 hHeld ?_
       refine ly_f 17 hHeld ?_
       refine ly_s 18 hHeld ?_
       refine wpAnyH_done (by kernel_rfl) ?_ _
       go_wp2_with fail
       go_meet
       exact ⟨⟨false, rfl, fun h => (by cases h)⟩, hcD.mono (by omega), hgD⟩
     ·have h3 : ¬ q0 = y0 := fun e => h1 e.symm
      go_wp2_with fail
      refine wp_region_held_drew (S := (fun w' => (w'.cell? ⟨w9.heap.size, 0, none⟩ = some (.int .i64 y0) ∧ w'.cell? ⟨w9.heap.size, 1, none⟩ = some (.int .i64 y1)) ∧ w'.cell? ⟨gq, j * 4 + 2, none⟩ = some (.int .i64 q0) ∧ w'.cell? ⟨gq, j * 4 + 3, none⟩ = some (.int .i64 q1))) (by kernel_rfl) (by (try dsimp only); (exact at''.out _ hgD)) (fun hHeld => ?_)
      refine ly_s 0 hHeld ?_
      refine ly_s 1 hHeld ?_
      refine ly_s 2 hHeld ?_
      refine ly_s 3 hHeld ?_
      refine ly_s 4 hHeld ?_
      refine ly_s 5 hHeld ?_
      refine ly_s 6 hHeld ?_
      refine ly_s 7 hHeld ?_
      refine ly_s 8 hHeld ?_
      refine ly_s 9 hHeld ?_
      refine ly_s 10 hHeld ?_
      refine ly_s 11 hHeld ?_
      refine ly_s 12 (v := .bool false) (hy := by intro wS hSw; (try dsimp only at hSw); go_simp; all_goals (simp [h1, h3])) hHeld ?_
      refine ly_s 13 hHeld ?_
      refine ly_s 14 hHeld ?_
      refine ly_f 15 hHeld ?_
      refine ly_f 16 hHeld ?_
      refine ly_f 17 hHeld ?_
      refine ly_s 18 hHeld ?_
      refine wpAnyH_done (by kernel_rfl) ?_ _
      go_wp2_with fail
      go_meet
      exact ⟨⟨false, rfl, fun h => (by cases h)⟩, hcD.mono (by omega), hgD⟩
   case rest =>
    obtain ⟨⟨b, rfl, hbk⟩, hcC, hgC⟩ := hcut
    obtain ⟨wC, rfl⟩ : ∃ wo : World, wo = wc := ⟨_, rfl⟩
    have hXC := hXA'.out.kept hgC (by intro e; have := Option.some.inj e; omega)
    have hYC := hYA'.out.kept hgC (by intro e; have := Option.some.inj e; omega)
    have hGC := hGA'.out.kept hgC hlt
    have hg0C := hg0A'.out.trans hgC
    have hsC := Nat.lt_of_lt_of_le hs9A hgC.size
    clear hXA' hYA' hGA' hg0A' hcA' hgC
    have hXC' := Lib.hid hXC; have hYC' := Lib.hid hYC; have hGC' := Lib.hid hGC; have hg0C' := Lib.hid hg0C; have hcC' := Lib.hid hcC; have hbk' := Lib.hid hbk; clear hXC hYC hGC hg0C hcC hbk
    go_upto_if 55 with fail
    go_cut [] from 56 to 69 (fun wx => ∃ z0 z1, I64R (z0, z1) ∧ BoxO wx w9.heap.size z0 z1 ∧ wC.grownBy wx (some w9.heap.size))
    case first =>
     cases b
     ·go_wp2_with fail
      go_meet
      exact ⟨y0, y1, hui'.out, hYC'.out, World.grownBy.refl _ _⟩
     ·have hkp := hbk'.out rfl
      obtain ⟨j, hj⟩ : ∃ j, k = j + 1 := ⟨k - 1, by omega⟩
      obtain ⟨gq, cq, e, -⟩ := GrowF.form hGC'.out (by rw [hfl'.out]; omega)
      obtain ⟨rfl, -, rfl⟩ := Value.slice.inj e
      obtain ⟨_, _, e1, -, -, H⟩ := hGC'.out.read.form
      obtain ⟨e3, -, -⟩ := Value.slice.inj e1
      obtain ⟨b', off', e2, z0, z1, z2, z3⟩ := H j (by rw [hfl'.out]; omega)
      rw [← e3] at e2
      cases e2
      rw [Nat.zero_add] at z2 z3
      obtain ⟨⟨q0, q1⟩, hq⟩ : ∃ q, (nth4 f j).2 = q := ⟨_, rfl⟩
      rw [hq] at z2 z3
      simp only at z2 z3
      have hgq := hne6'.out gq rfl
      obtain ⟨d0, d1, d2, d3⟩ := hYC'.out
      have g1 : IntKind.i64.wrap ((k : Int) - 1) = (j : Int) := by rw [IntKind.wrap_i64]; omega
      have g2 : (0 : Int) ≤ (j : Int) := by omega
      have g3 : (j : Int) < (k : Int) := by omega
      have g4 : j < k := by omega
      clear z0 z1 H e e1 e3 hq
      have hj' := Lib.hid hj; clear hj
      have cmi := imMirror_any y0 y1 wC huy'.out
      have cmi' := Lib.hid cmi; clear cmi
      go_wp2_with fail
      refine (cmi'.out).mono ?_
      rintro e wD ⟨rfl, hBD⟩
      obtain ⟨wE, hwE⟩ : ∃ W, (wD.setCell ⟨w9.heap.size, 0, none⟩ (.int .i64 (y1 - y0))).setCell ⟨w9.heap.size, 1, none⟩ (.int .i64 y1) = W := ⟨_, rfl⟩
      have hYD : BoxO wD w9.heap.size y0 y1 := hYC'.out.below hBD
      have hYE : BoxO wE w9.heap.size (y1 - y0) y1 := by rw [← hwE]; exact hYD.put _ _
      have hgE : wC.grownBy wE (some w9.heap.size) := (bgrow hBD _).trans (by rw [← hwE]; exact grown_put _ _ _ _)
      have hqe : some w9.heap.size ≠ some gq := fun e => by have := Option.some.inj e; omega
      have z4 := gcell hgE z2 hqe
      have z5 := gcell hgE z3 hqe
      obtain ⟨i0, i1, i2, i3⟩ := hYD
      obtain ⟨m0, m1, m2, m3⟩ := hYE
      have hYn : ∀ nq, BoxO (wE.drewN nq) w9.heap.size (y1 - y0) y1 := fun nq => ⟨m0, m1, m2, m3⟩
      have hgn : ∀ nq, wC.grownBy (wE.drewN nq) (some w9.heap.size) := fun nq => hgE.trans (bgrow (below_drewN (Below.refl _ _) nq) _)
      have hui2 : I64R (y1 - y0, y1) := ⟨i64_of (show -1000000001 ≤ y1 - y0 by have := huy'.out; omega) (show y1 - y0 ≤ 1000000001 by have := huy'.out; omega), hui'.out.2⟩
      clear d0 d1 d2 d3 z2 z3 hBD
      have hwE' := Lib.hid hwE; have hgE' := Lib.hid hgE; have hui2' := Lib.hid hui2; have hYn' := Lib.hid hYn; have hgn' := Lib.hid hgn; clear hwE hgE hui2 hYn hgn
      by_cases h1 : y1 - y0 = q0
      ·by_cases h2 : y1 = q1
       ·subst h1
        subst h2
        go_wp2_with fail
        rw [hwE'.out]
        go_wp2_with fail
        go_quiet (fail)
        go_wp2_with fail
        refine (raInt_any _ _).mono ?_
        rintro e wF ⟨rfl, hBF⟩
        have hYF := (hYn'.out nq).below hBF
        have hgF := (hgn'.out nq).trans (bgrow hBF (some w9.heap.size))
        have hput := hYF.put (Int.tmod (k : Int) 2) 1
        have hgp := hgF.trans (grown_put wF w9.heap.size (.int .i64 (Int.tmod (k : Int) 2)) (.int .i64 1))
        obtain ⟨e0, e1, e2, e3⟩ := hYF
        clear hBF hgF
        have hput' := Lib.hid hput; have hgp' := Lib.hid hgp; clear hput hgp
        go_wp2_with fail
        go_meet
        exact ⟨_, _, tmod2_i64 k, hput'.out, hgp'.out⟩
       ·have h3 : ¬ q1 = y1 := fun e => h2 e.symm
        subst h1
        go_wp2_with fail
        rw [hwE'.out]
        go_wp2_with fail
        go_quiet (fail)
        go_wp2_with fail
        go_meet
        exact ⟨_, _, hui2'.out, hYn'.out _, hgn'.out _⟩
      ·have h3 : ¬ q0 = y1 - y0 := fun e => h1 e.symm
       go_wp2_with fail
       rw [hwE'.out]
       go_wp2_with fail
       go_quiet (fail)
       go_wp2_with fail
       go_meet
       exact ⟨_, _, hui2'.out, hYn'.out _, hgn'.out _⟩
    case rest =>
     obtain ⟨z0, z1, hz, hZ, hgZ⟩ := hcut
     obtain ⟨wF, rfl⟩ : ∃ wo : World, wo = wc := ⟨_, rfl⟩
     have hXF := hXC'.out.kept hgZ (by intro e; have := Option.some.inj e; omega)
     have hne4 : (Value.slice ao4 k cap4).ownBlock ≠ some w9.heap.size := fun e => by have := hne6'.out _ e; omega
     have hGF : GrowP wF w.heap.size (.slice ao4 k cap4) f := World.ownsRow.kept hGC'.out hgZ (.inr (fun e => hne4 e))
     have hcF := hcC'.out.kept hgZ (fun g e => by have := Option.some.inj e; omega)
     have hg0F := grown_new hg0C'.out hgZ (fun g e => by have := Option.some.inj e; omega)
     have hfl2 : f.length ≤ 1099511627776 := by rw [hfl'.out]; omega
     obtain ⟨e0, e1, -, -⟩ := hXF
     obtain ⟨d0, d1, -, -⟩ := hZ
     have hblk := hGF.block
     clear hXC' hYC' hGC' hg0C' hgZ hcC'
     have hblk' := Lib.hid hblk; have hfl2' := Lib.hid hfl2; have hg0F' := Lib.hid hg0F; have hcF' := Lib.hid hcF; have hz' := Lib.hid hz; clear hblk hfl2 hg0F hcF hz
     go_wp2_with (at_builtin; refine wpList_append_P rfl _ _ rfl w.heap.size (.slice ao4 k cap4) f x0 x1 z0 z1 1 rfl rfl hGF hfl2'.out hg0F'.out.size ?_)
     intro v9 w10 hG9 hgr
     have hst : LaidAt c (N + 4 + 10 * (k + 1)) (m + 1) w v9 (k + 1) w10 := ⟨by omega, _, hG9, by rw [List.length_append, hfl'.out]; rfl, hfI'.out.snoc ⟨hxi'.out, hz'.out⟩, (hcF'.out.kept hgr (fun g e => Nat.lt_of_lt_of_le hlt (hblk'.out g e))).mono (by omega), grown_new hg0F'.out hgr (hblk'.out)⟩
     obtain ⟨_, _, rfl⟩ := hG9.shape
     have hl9 : (f ++ [((x0, x1), (z0, z1))]).length = k + 1 := by rw [List.length_append, hfl'.out]; rfl
     rw [hl9] at hst ⊢
     clear hl9 hG9 hgr hGF
     have hst' := Lib.hid hst; clear hst
     go_wp2
     go_roundw
     case rel => exact ⟨k + 1, by go_num, hst'.out⟩
     case measure => simp [intOf]; omega
  ·obtain rfl : k = m + 1 := by omega
   have q2 : ¬ ((m + 1 : Nat) : Int) ≤ (m : Int) := by omega
   have hG' := Lib.hid hG; have hfI' := Lib.hid hfI; have hfl' := Lib.hid hfl; have hgw' := Lib.hid hgw; clear hG hfI hfl hgw
   go_wp2_with fail
   refine (one_any c _ 6 w6 hc (by omega) (by omega) (by omega)).mono ?_
   rintro e wa ⟨v, rfl, ⟨b, rfl⟩, hca, hga⟩
   have hGa := hG'.out.kept hga hlt
   have hg0 := hgw'.out.trans hga
   clear hc hG' hgw' hga
   have hGa' := Lib.hid hGa; have hg0' := Lib.hid hg0; have hca' := Lib.hid hca; clear hGa hg0 hca
   go_upto_if 77 with fail
   go_cut [4] from 78 to 94 (fun s wx => ListAt c (N + 200) w s wx)
   case first =>
    cases b
    ·go_wp2_with fail
     go_meet
     exact ⟨f, hGa'.out, by rw [hfl'.out]; omega, by rw [hfl'.out]; omega, hfI'.out, hca'.out.mono (by omega), hg0'.out⟩
    ·have hst : ∃ k : Nat, Value.int .i64 0 = .int .i64 k ∧ LaidAt c (N + 200) 12 w (.slice none 0 0) k wa := ⟨0, rfl, by omega, [], GrowP.nil _ _, rfl, AllI.nil, hca'.out.mono (by omega), hg0'.out⟩
     clear hGa' hg0' hca' hfI' hfl'
     have hst' := Lib.hid hst; clear hst
     go_wp2_with fail
     go_loopw [4, 9] (fun o i wr => ∃ k : Nat, i = .int .i64 k ∧ LaidAt c (N + 200) 12 w o k wr) (fun _ i _ => 12 - (intOf i).toNat)
     case atStart => exact hst'.out
     case round =>
      clear hst'
      obtain ⟨k, rfl, hk, f, hG, hfl, hfI, hc, hgw⟩ := hrel
      obtain ⟨w6, rfl⟩ : ∃ wo : World, wo = wr := ⟨_, rfl⟩
      by_cases hlt2 : k < 12
      ·have q2 : (k : Int) < 12 := by omega
       have cm := raMake_any k 11 w6 (by omega) (by omega) (by omega)
       have hxi := mkR_i64 k 11
       generalize mkR (k : Int) 11 = R at *
       obtain ⟨⟨x0, x1⟩, ok⟩ := R
       simp only at cm hxi
       have cm' := Lib.hid cm; have hxi' := Lib.hid hxi; have hG' := Lib.hid hG; have hfI' := Lib.hid hfI; have hfl' := Lib.hid hfl; have hc' := Lib.hid hc; have hgw' := Lib.hid hgw; clear cm hxi hG hfI hfl hc hgw
       go_wp2_with fail
       refine (cm'.out).mono ?_
       rintro e w5 ⟨rfl, hB5⟩
       obtain ⟨w7, hw7⟩ : ∃ W, w5.alloc (.cells #[.int .i64 x0, .int .i64 x1] 42) = W := ⟨_, rfl⟩
       have hB57 : Below w5.heap.size w5 w7 := by rw [← hw7]; exact (Below.refl _ _).alloc (Nat.le_refl _) _
       have hB7 := hB5.trans (hB57.mono hB5.size)
       have a0 : w7.cell? ⟨w5.heap.size, 0, none⟩ = some (.int .i64 x0) := by rw [← hw7]; simp [go_sem]
       have a1 : w7.cell? ⟨w5.heap.size, 1, none⟩ = some (.int .i64 x1) := by rw [← hw7]; simp [go_sem]
       have at' : ∀ w', Below w7.heap.size w7 w' → w'.cell? ⟨w5.heap.size, 0, none⟩ = some (.int .i64 x0) ∧ w'.cell? ⟨w5.heap.size, 1, none⟩ = some (.int .i64 x1) := fun w' h => ⟨bkeep h a0, bkeep h a1⟩
       have hne : u4.ownBlock ≠ some w5.heap.size := fun e => by have := (World.ownsRow.lt hG'.out _ e).2; have := hB5.size; omega
       have hblk := hG'.out.block
       have hfl2 : f.length ≤ 1099511627776 := by rw [hfl'.out]; omega
       have hGd := fun w' (hB : Below w7.heap.size w7 w') => (hG'.out.below hB7).below hB
       have hsw : w.heap.size ≤ w7.heap.size := Nat.le_trans hgw'.out.size hB7.size
       have hdA : Below w7.heap.size w7 w7.drew := (Below.refl _ _).drew
       clear a0 a1 hB5 hB57
       have hw7' := Lib.hid hw7; have at'' := Lib.hid at'; have hfl2' := Lib.hid hfl2; have hblk' := Lib.hid hblk; have hGd' := Lib.hid hGd; have hB7' := Lib.hid hB7; clear hw7 at' hfl2 hblk hGd hB7
       go_wp2_with fail
       rw [hw7'.out]
       go_wp2_with fail
       refine wp_region_held_drew (S := (fun w' => w'.cell? ⟨w5.heap.size, 0, none⟩ = some (.int .i64 x0) ∧ w'.cell? ⟨w5.heap.size, 1, none⟩ = some (.int .i64 x1))) (by kernel_rfl) (by (try dsimp only); (first | exact at''.out _ hdA | exact at''.out _ hdB | exact at''.out _ hdC | exact hD)) (fun hHeld => ?_)
       refine ly_s 0 hHeld ?_
       refine ly_s 1 hHeld ?_
       refine ly_s 2 hHeld ?_
       refine ly_s 3 hHeld ?_
       refine ly_a 4 (fun KK hKK => ?_)
       go_simp
       refine (raInt_any _ _).mono ?_
       rintro e w8 ⟨rfl, hB8⟩
       have hdB := hdA.trans (hB8.mono hdA.size)
       try dsimp only
       refine hKK.out _ _ (by (try dsimp only); (first | exact at''.out _ hdA | exact at''.out _ hdB | exact at''.out _ hdC | exact hD)) (fun hHeld => ?_)
       clear hKK KK
       try simp only [Act.put, lyA, lyB, lyC]
       refine ly_s 5 hHeld ?_
       refine ly_a 6 (fun KK hKK => ?_)
       go_simp
       have hdC := hdB.alloc hdB.size (.cells #[.int .i64 x0, .int .i64 x1, .int .i64 (Int.tmod (k : Int) 2), .int .i64 1] 80)
       try dsimp only
       refine hKK.out _ _ (by (try dsimp only); (first | exact at''.out _ hdA | exact at''.out _ hdB | exact at''.out _ hdC | exact hD)) (fun hHeld => ?_)
       clear hKK KK
       try simp only [Act.put, lyA, lyB, lyC]
       refine ly_a 7 (fun KK hKK => ?_)
       refine wp_append_P _ _ rfl w.heap.size u4 f x0 x1 (Int.tmod (k : Int) 2) 1 _ rfl rfl (hGd'.out _ hdB) hfl2'.out (Nat.le_trans hsw hdB.size) ?_
       intro v9 w9 hG9 hgr
       have hD : w9.cell? ⟨w5.heap.size, 0, none⟩ = some (.int .i64 x0) ∧ w9.cell? ⟨w5.heap.size, 1, none⟩ = some (.int .i64 x1) := ⟨gcell hgr (at''.out _ hdB).1 hne, gcell hgr (at''.out _ hdB).2 hne⟩
       try dsimp only
       refine hKK.out _ _ (by (try dsimp only); (first | exact at''.out _ hdA | exact at''.out _ hdB | exact at''.out _ hdC | exact hD)) (fun hHeld => ?_)
       clear hKK KK
       try simp only [Act.put, lyA, lyB, lyC]
       refine ly_s 8 hHeld ?_
       refine wpAnyH_done (by kernel_rfl) ?_ _
       have hgB := bgrow hB7'.out (some c)
       have hcl : c < w6.heap.size := hc'.out.lt
       have hst : LaidAt c (N + 200) 12 w v9 (k + 1) w9 := ⟨by omega, _, hG9, by rw [List.length_append, hfl'.out]; rfl, hfI'.out.snoc ⟨hxi'.out, (tmod2_i64 k)⟩, ((hc'.out.below hB7'.out hcl).below hdB (by have := hB7'.out.size; omega)).kept hgr (fun g e => Nat.lt_of_lt_of_le hlt (hblk'.out g e)), grown_new (hgw'.out.trans (hgB.trans (bgrow hdB (some c)))) hgr (hblk'.out)⟩
       obtain ⟨_, _, rfl⟩ := hG9.shape
       have hl9 : (f ++ [((x0, x1), (Int.tmod (k : Int) 2, (1 : Int)))]).length = k + 1 := by rw [List.length_append, hfl'.out]; rfl
       rw [hl9] at hst ⊢
       clear hl9 hG9 hgr hD hHeld hgB hdA hdB hdC
       have hst' := Lib.hid hst; clear hst
       go_wp2
       go_roundw
       case rel => exact ⟨k + 1, by go_num, hst'.out⟩
       case measure => simp [intOf]; omega
      ·obtain rfl : k = 12 := by omega
       have hG' := Lib.hid hG; have hfI' := Lib.hid hfI; have hfl' := Lib.hid hfl; have hc' := Lib.hid hc; have hgw' := Lib.hid hgw; clear hG hfI hfl hc hgw
       go_wp2_with fail
       go_meet
       exact ⟨f, hG'.out, by rw [hfl'.out]; omega, by rw [hfl'.out]; omega, hfI'.out, hc'.out, hgw'.out⟩
   case rest =>
    obtain ⟨f2, hG, hl1, hl2, hI2, hc, hgw⟩ := hcut
    obtain ⟨wb, rfl⟩ : ∃ wo : World, wo = wc := ⟨_, rfl⟩
    clear hGa' hg0' hca' hfI' hfl'
    obtain ⟨ao5, cap5, rfl⟩ := hG.shape
    obtain ⟨n5, hn5⟩ : ∃ n5, f2.length = n5 := ⟨_, rfl⟩
    rw [hn5] at hG hl1 hl2 ⊢
    have hG' := Lib.hid hG; have hI2' := Lib.hid hI2; have hgw' := Lib.hid hgw; have hn5' := Lib.hid hn5; clear hG hI2 hgw hn5
    go_wp2_with fail
    refine (one_any c _ 5 wb hc (by omega) (by omega) (by omega)).mono ?_
    rintro e wd ⟨v, rfl, ⟨b2, rfl⟩, hcd, hgd⟩
    have hGd := hG'.out.kept hgd hlt
    have hg0 := hgw'.out.trans hgd
    clear hc hG' hgw' hgd
    have hGd' := Lib.hid hGd; have hg0' := Lib.hid hg0; have hcd' := Lib.hid hcd; clear hGd hg0 hcd
    cases b2
    ·have hr := hGd'.out.read
     have hof := hGd'.out.off hlt
     have hr' := Lib.hid hr; have hof' := Lib.hid hof; clear hr hof
     go_wp2
     go_ret
     exact ⟨_, f2, rfl, hr'.out, hof'.out, by rw [hn5'.out]; exact hl2, hI2'.out, hcd'.out.mono (by omega), hg0'.out⟩
    ·clear hGd' hI2' hn5'
     go_wp2_with fail
     refine (pick_any c _ 3 wd hcd'.out (by omega) (by omega) (by omega)).mono ?_
     rintro e we ⟨v, rfl, ⟨t, rfl, ht⟩, hce, hge⟩
     have hg1 := hg0'.out.trans hge
     have cm := raMake_any (1 + (t : Int)) 4 we (by omega) (by omega) (by omega)
     have hxi := mkR_i64 (1 + (t : Int)) 4
     generalize mkR (1 + (t : Int)) 4 = R at *
     obtain ⟨⟨x0, x1⟩, ok⟩ := R
     simp only at cm hxi
     clear hge hg0' hcd'
     have cm' := Lib.hid cm; have hxi' := Lib.hid hxi; have hg1' := Lib.hid hg1; have hce' := Lib.hid hce; clear cm hxi hg1 hce
     go_wp2_with fail
     refine (cm'.out).mono ?_
     rintro e wf ⟨rfl, hBf⟩
     obtain ⟨wg, hwg⟩ : ∃ W, wf.alloc (.cells #[.int .i64 x0, .int .i64 x1] 42) = W := ⟨_, rfl⟩
     have hBfg : Below wf.heap.size wf wg := by rw [← hwg]; exact (Below.refl _ _).alloc (Nat.le_refl _) _
     have hBg := hBf.trans (hBfg.mono hBf.size)
     have hXg : BoxO wg wf.heap.size x0 x1 := by rw [← hwg]; exact BoxO.new _ _ _ _
     have hcg := hce'.out.below hBg hce'.out.lt
     have hg2 := hg1'.out.trans (bgrow hBg (some c))
     have hsf : c < wf.heap.size := Nat.lt_of_lt_of_le hce'.out.lt hBf.size
     have hsfg : wf.heap.size < wg.heap.size := by rw [← hwg]; simp
     clear hBf hBfg hBg hce' hg1'
     have hwg' := Lib.hid hwg; have hXg' := Lib.hid hXg; have hg2' := Lib.hid hg2; clear hwg hXg hg2
     go_wp2_with fail
     rw [hwg'.out]
     go_wp2_with fail
     refine (pick_any c _ 6 wg hcg (by omega) (by omega) (by omega)).mono ?_
     rintro e wh ⟨v, rfl, ⟨t2, rfl, ht2⟩, hch, hgh⟩
     have hXh := hXg'.out.kept hgh (by intro e; have := Option.some.inj e; omega)
     have hg3 := hg2'.out.trans hgh
     have cm2 := raMake_any (3 + (t2 : Int)) 8 wh (by omega) (by omega) (by omega)
     have hyi := mkR_i64 (3 + (t2 : Int)) 8
     generalize mkR (3 + (t2 : Int)) 8 = R at *
     obtain ⟨⟨y0, y1⟩, ok2⟩ := R
     simp only at cm2 hyi
     have hsfh := Nat.lt_of_lt_of_le hsfg hgh.size
     clear hgh hg2' hcg hXg'
     have cm2' := Lib.hid cm2; have hyi' := Lib.hid hyi; have hg3' := Lib.hid hg3; have hch' := Lib.hid hch; have hXh' := Lib.hid hXh; clear cm2 hyi hg3 hch hXh
     go_wp2_with fail
     refine (cm2'.out).mono ?_
     rintro e wi ⟨rfl, hBi⟩
     obtain ⟨wj, hwj⟩ : ∃ W, wi.alloc (.cells #[.int .i64 y0, .int .i64 y1] 42) = W := ⟨_, rfl⟩
     have hBij : Below wi.heap.size wi wj := by rw [← hwj]; exact (Below.refl _ _).alloc (Nat.le_refl _) _
     have hBj := hBi.trans (hBij.mono hBi.size)
     obtain ⟨d0, d1, -, -⟩ := hXh'.out.below hBj
     obtain ⟨e0, e1, -, -⟩ : BoxO wj wi.heap.size y0 y1 := by rw [← hwj]; exact BoxO.new _ _ _ _
     have at' : ∀ w', Below wj.heap.size wj w' → (w'.cell? ⟨wf.heap.size, 0, none⟩ = some (.int .i64 x0) ∧ w'.cell? ⟨wf.heap.size, 1, none⟩ = some (.int .i64 x1)) ∧ w'.cell? ⟨wi.heap.size, 0, none⟩ = some (.int .i64 y0) ∧ w'.cell? ⟨wi.heap.size, 1, none⟩ = some (.int .i64 y1) := fun w' h => ⟨⟨bkeep h d0, bkeep h d1⟩, bkeep h e0, bkeep h e1⟩
     have hdA : Below wj.heap.size wj wj.drew := (Below.refl _ _).drew
     have hch9 := hch'.out.below hBj hch'.out.lt
     have hg4 := hg3'.out.trans (bgrow hBj (some c))
     clear d0 d1 e0 e1 hBi hBij hBj hch' hg3' hXh'
     have hwj' := Lib.hid hwj; have at'' := Lib.hid at'; have hch9' := Lib.hid hch9; have hg4' := Lib.hid hg4; clear hwj at' hch9 hg4
     go_wp2_with fail
     rw [hwj'.out]
     go_wp2_with fail
     refine wp_region_held_drew (S := (fun w' => (w'.cell? ⟨wf.heap.size, 0, none⟩ = some (.int .i64 x0) ∧ w'.cell? ⟨wf.heap.size, 1, none⟩ = some (.int .i64 x1)) ∧ w'.cell? ⟨wi.heap.size, 0, none⟩ = some (.int .i64 y0) ∧ w'.cell? ⟨wi.heap.size, 1, none⟩ = some (.int .i64 y1))) (by kernel_rfl) (by (try dsimp only); exact at''.out _ ‹_›) (fun hHeld => ?_)
     refine ly_s 3 hHeld ?_
     refine ly_s 4 hHeld ?_
     refine ly_s 5 hHeld ?_
     refine ly_a 0 (fun KK hKK => ?_)
     go_simp
     refine (raInt_any _ _).mono ?_
     rintro e wk ⟨rfl, hBk⟩
     have hdB := hdA.trans (hBk.mono hdA.size)
     try dsimp only
     refine hKK.out _ _ (by (try dsimp only); exact at''.out _ ‹_›) (fun hHeld => ?_)
     clear hKK KK
     try simp only [Act.put, lyA, lyB, lyC]
     refine ly_a 1 (fun KK hKK => ?_)
     go_simp
     refine (raInt_any _ _).mono ?_
     rintro e wl ⟨rfl, hBl⟩
     have hdC := hdB.trans (hBl.mono hdB.size)
     try dsimp only
     refine hKK.out _ _ (by (try dsimp only); exact at''.out _ ‹_›) (fun hHeld => ?_)
     clear hKK KK
     try simp only [Act.put, lyA, lyB, lyC]
     refine ly_s 2 hHeld ?_
     refine ly_a 6 (fun KK hKK => ?_)
     go_simp
     refine (raInt_any _ _).mono ?_
     rintro e wm ⟨rfl, hBm⟩
     have hdD := hdC.trans (hBm.mono hdC.size)
     try dsimp only
     refine hKK.out _ _ (by (try dsimp only); exact at''.out _ ‹_›) (fun hHeld => ?_)
     clear hKK KK
     try simp only [Act.put, lyA, lyB, lyC]
     refine ly_a 7 (fun KK hKK => ?_)
     go_simp
     refine (raInt_any _ _).mono ?_
     rintro e wn ⟨rfl, hBn⟩
     have hdE := hdD.trans (hBn.mono hdD.size)
     try dsimp only
     refine hKK.out _ _ (by (try dsimp only); exact at''.out _ ‹_›) (fun hHeld => ?_)
     clear hKK KK
     try simp only [Act.put, lyA, lyB, lyC]
     refine ly_s 8 hHeld ?_
     refine ly_a 9 (fun KK hKK => ?_)
     go_simp
     have hdF := hdE.alloc hdE.size (.cells #[.int .i64 0, .int .i64 1, .int .i64 0, .int .i64 1, .int .i64 x0, .int .i64 x1, .int .i64 y0, .int .i64 y1, .int .i64 1, .int .i64 1, .int .i64 0, .int .i64 1] 80)
     try dsimp only
     refine hKK.out _ _ (by (try dsimp only); exact at''.out _ ‹_›) (fun hHeld => ?_)
     clear hKK KK
     try simp only [Act.put, lyA, lyB, lyC]
     refine ly_s 10 hHeld ?_
     refine wpAnyH_done (by kernel_rfl) ?_ _
     have hL : QuadV (wn.alloc (.cells #[.int .i64 0, .int .i64 1, .int .i64 0, .int .i64 1, .int .i64 x0, .int .i64 x1, .int .i64 y0, .int .i64 y1, .int .i64 1, .int .i64 1, .int .i64 0, .int .i64 1] 80)) (.slice (some ⟨wn.heap.size, 0, none⟩) 3 3) [((0, 1), (0, 1)), ((x0, x1), (y0, y1)), ((1, 1), (0, 1))] := quads3 _ _ _ _ _
     have hof : Off c (.slice (some ⟨wn.heap.size, 0, none⟩) 3 3) := fun b o k' cap' e => by
      obtain ⟨e1, _, _⟩ := Value.slice.inj e
      cases e1
      have := hdE.size
      have := hch9'.out.lt
      omega
     have z01 : I64R (0, 1) := good_i64 (x := (0, 1)) (by decide)
     have z11 : I64R (1, 1) := good_i64 (x := (1, 1)) (by decide)
     have hI3 : AllI [((0, 1), (0, 1)), ((x0, x1), (y0, y1)), ((1, 1), (0, 1))] := ((AllI.nil.snoc ⟨z01, z01⟩).snoc ⟨hxi'.out, hyi'.out⟩).snoc ⟨z11, z01⟩
     have hcz := hch9'.out.below hdF hch9'.out.lt
     have hgz := hg4'.out.trans (bgrow hdF (some c))
     clear hHeld hdA hdB hdC hdD hdE hdF hBk hBl hBm hBn
     have hL' := Lib.hid hL; have hof' := Lib.hid hof; have hI3' := Lib.hid hI3; have hcz' := Lib.hid hcz; have hgz' := Lib.hid hgz; have z01' := Lib.hid z01; have z11' := Lib.hid z11; clear hL hof hI3 hcz hgz z01 z11
     go_wp2
     go_ret
     exact ⟨_, _, rfl, hL'.out, hof'.out, (show 3 ≤ 13 by decide), hI3'.out, hcz'.out.mono (by omega), hgz'.out⟩
end Go.Proofs.YtfhhofecfllbfaaGreat

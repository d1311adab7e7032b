/- The reference's list of the fixed fractions of a map. No conditions but valid maps. -/
import Derived.Test.YtfhhofecfllbfaaGreatFixLaw
import Derived.Test.YtfhhofecfllbfaaGreatPkJ
import Derived.Test.YtfhhofecfllbfaaGreatPkF
import Derived.Test.YtfhhofecfllbfaaGreatPkB
import Derived.Test.YtfhhofecfllbfaaGreatBoxV
import Derived.Deep.Cut
import Derived.Deep.CutRange
import Derived.Deep.CutBlock
namespace Go.Proofs.YtfhhofecfllbfaaGreat
open Go.RowKit
set_option maxRecDepth 100000
theorem cmpN_rev (p : Quad) : cmpN p.2.1 p.2.2 p.1.1 p.1.2 = - dY p := by
 unfold dY cmpN sgn
 split <;> split <;> (try split) <;> (try split) <;> omega
set_option linter.unusedSimpArgs false in
set_option maxRecDepth 10000 in
set_option maxHeartbeats 8000000 in
theorem imFixed_any (B : Nat) (v : Value) (l : List (Int × Int)) (p q : Quad) (w : World) (hl : HasR w B v l) (hB : B ≤ w.heap.size) (hL : GoodL l) (hn : l.length ≤ 1000) (h1 : coordR p.1 = true) (h2 : coordR p.2 = true) (h3 : coordR q.1 = true) (h4 : coordR q.2 = true) :
  Calls Tryz.prog 110 #[v, quadV p, quadV q] w (fun e w' => ∃ v', e = .returned v' ∧ HasR w' B v' (putIf (fxC p q) (putIf (decide (q.1 = q.2)) (putIf (decide (p.1 = p.2)) l p.1) q.1) (fxZ p q)) ∧ Below w.heap.size w w') := by
 have gp := unitR_good (coordR_unit h1)
 have gpy := unitR_good (coordR_unit h2)
 have gq := unitR_good (coordR_unit h3)
 have gqy := unitR_good (coordR_unit h4)
 have cP := fun w' => raCmp_any p.2.1 p.2.2 p.1.1 p.1.2 w' (good_bd gpy) (good_bd gp)
 have cQ := fun w' => raCmp_any q.2.1 q.2.2 q.1.1 q.1.2 w' (good_bd gqy) (good_bd gq)
 have eP := @cmpN_zero p.2 p.1 gpy gp
 have eQ := @cmpN_zero q.2 q.1 gqy gq
 have bP := cmpN_bd p.2.1 p.2.2 p.1.1 p.1.2
 have bQ := cmpN_bd q.2.1 q.2.2 q.1.1 q.1.2
 have hc : fxC p q = decide (cmpN p.2.1 p.2.2 p.1.1 p.1.2 * cmpN q.2.1 q.2.2 q.1.1 q.1.2 < 0) := by
  rw [cmpN_rev, cmpN_rev, Int.neg_mul_neg]
  rfl
 have hsp := fun h => fx_spec h1 h2 h3 h4 (p := p) (q := q) h
 have hgz : fxC p q = true → goodR (fxZ p q).1 (fxZ p q).2 = true := fun h => (fx_ok h1 h2 h3 h4 h).2.2.1
 generalize cmpN p.2.1 p.2.2 p.1.1 p.1.2 = C1 at *
 generalize cmpN q.2.1 q.2.2 q.1.1 q.1.2 = C2 at *
 have e1 : decide (p.1 = p.2) = decide (C1 = 0) := decide_eq_decide.mpr ⟨fun h => eP.2 h.symm, fun h => (eP.1 h).symm⟩
 have e2 : decide (q.1 = q.2) = decide (C2 = 0) := decide_eq_decide.mpr ⟨fun h => eQ.2 h.symm, fun h => (eQ.1 h).symm⟩
 rw [e1, e2]
 generalize fxZ p q = Z at *
 have c8 := fun w' => raMul_any p.2 q.1 w' (good_bd gpy) (good_bd gq)
 have c9 := fun w' => raMul_any q.2 p.1 w' (good_bd gqy) (good_bd gp)
 have c10 := fun w' (h) => raSub_any (mulR p.2 q.1).1 (mulR q.2 p.1).1 w' (good_bd (hsp h).1) (good_bd (hsp h).2.1)
 have c11 := fun w' => raSub_any q.1 p.1 w' (good_bd gq) (good_bd gp)
 have c12 := fun w' => raSub_any q.2 p.2 w' (good_bd gqy) (good_bd gpy)
 have c13 := fun w' (h) => raSub_any (subR q.1 p.1).1 (subR q.2 p.2).1 w' (good_bd (hsp h).2.2.2.1) (good_bd (hsp h).2.2.2.2.1)
 have c14 := fun w' (h) => raDiv_any (subR (mulR p.2 q.1).1 (mulR q.2 p.1).1).1 (subR (subR q.1 p.1).1 (subR q.2 p.2).1).1 w' (good_bd (hsp h).2.2.1) (good_bd (hsp h).2.2.2.2.2.1) (hsp h).2.2.2.2.2.2.1
 have hdv := fun h => (hsp h).2.2.2.2.2.2.2
 have hM := mul_bd1 bP bQ
 have hwm : IntKind.i64.wrap (C1 * C2) = C1 * C2 := by rw [IntKind.wrap_i64]; omega
 clear eP eQ e1 e2 hsp gpy gqy h1 h2 h3 h4 bP bQ
 obtain ⟨F, hF⟩ : ∃ F, fxC p q = F := ⟨_, rfl⟩
 rw [hF] at hc hgz c10 c13 c14 hdv ⊢
 obtain ⟨⟨p0, p1⟩, ⟨p2, p3⟩⟩ := p
 obtain ⟨⟨q0, q1⟩, ⟨q2, q3⟩⟩ := q
 simp only at cP cQ c8 c9 c11 c12 gp gq c10 c13 c14 hdv
 clear hF
 generalize mulR (p2, p3) (q0, q1) = R8 at *
 generalize mulR (q2, q3) (p0, p1) = R9 at *
 obtain ⟨⟨r80, r81⟩, r82⟩ := R8
 obtain ⟨⟨r90, r91⟩, r92⟩ := R9
 simp only at c8 c9 c10 c14 hdv
 generalize subR (r80, r81) (r90, r91) = R10 at *
 generalize subR (q0, q1) (p0, p1) = R11 at *
 generalize subR (q2, q3) (p2, p3) = R12 at *
 obtain ⟨⟨r100, r101⟩, r102⟩ := R10
 obtain ⟨⟨r110, r111⟩, r112⟩ := R11
 obtain ⟨⟨r120, r121⟩, r122⟩ := R12
 simp only at c10 c11 c12 c13 c14 hdv
 generalize subR (r110, r111) (r120, r121) = R13 at *
 obtain ⟨⟨r130, r131⟩, r132⟩ := R13
 simp only at c13 c14 hdv
 show Calls _ _ #[_, .agg #[.int .i64 p0, .int .i64 p1, .int .i64 p2, .int .i64 p3], .agg #[.int .i64 q0, .int .i64 q1, .int .i64 q2, .int .i64 q3]] w _
 simp only
 obtain ⟨V, hV⟩ : ∃ V, putIf F (putIf (decide (C2 = 0)) (putIf (decide (C1 = 0)) l (p0, p1)) (q0, q1)) Z = V := ⟨_, rfl⟩
 rw [hV]
 obtain ⟨w1, hw1⟩ : ∃ W, (w.alloc (.cells #[.int .i64 p0, .int .i64 p1, .int .i64 p2, .int .i64 p3] 80)).alloc (.cells #[.int .i64 q0, .int .i64 q1, .int .i64 q2, .int .i64 q3] 80) = W := ⟨_, rfl⟩
 have hB1 : Below w.heap.size w w1 := by rw [← hw1]; exact ((Below.refl _ _).alloc (Nat.le_refl _) _).alloc (by simp) _
 have xp : BoxQ w1 w.heap.size ((p0, p1), (p2, p3)) := by rw [← hw1]; refine ⟨?_, ?_, ?_, ?_⟩ <;> simp [go_sem]
 have xq : BoxQ w1 (w.heap.size + 1) ((q0, q1), (q2, q3)) := by rw [← hw1]; refine ⟨?_, ?_, ?_, ?_⟩ <;> simp [go_sem]
 have hlw : HasR w1 B v l := hl.below hB1
 have hsz1 : B ≤ w1.heap.size := Nat.le_trans hB hB1.size
 have at' : ∀ w', Below w1.heap.size w1 w' → BoxQ w' w.heap.size ((p0, p1), (p2, p3)) ∧ BoxQ w' (w.heap.size + 1) ((q0, q1), (q2, q3)) := fun w' h => ⟨xp.below h, xq.below h⟩
 have hd : Below w1.heap.size w1 w1.drew := (Below.refl _ _).drew
 clear hl hB xp xq
 have hw1' := Lib.hid hw1; have cP' := Lib.hid cP; have cQ' := Lib.hid cQ; have hc' := Lib.hid hc; have hgz' := Lib.hid hgz; have c8' := Lib.hid c8; have c9' := Lib.hid c9; have c10' := Lib.hid c10; have c11' := Lib.hid c11; have c12' := Lib.hid c12; have c13' := Lib.hid c13; have c14' := Lib.hid c14; have hdv' := Lib.hid hdv; have hM' := Lib.hid hM; have hwm' := Lib.hid hwm; have hV' := Lib.hid hV; have hlw' := Lib.hid hlw; have hsz1' := Lib.hid hsz1; have at'' := Lib.hid at'; have hB1' := Lib.hid hB1; have hL' := Lib.hid hL; have hn' := Lib.hid hn; clear hw1 cP cQ hc hgz c8 c9 c10 c11 c12 c13 c14 hdv hM hwm hV hlw hsz1 at' hB1 hL hn
 go_enter Tryz.func110, Tryz.ntmps110
 go_wp2_with fail
 rw [hw1'.out]
 refine wp_region_held_drew (S := (fun w' => (w'.cell? ⟨w.heap.size, 0, none⟩ = some (.int .i64 p0) ∧ w'.cell? ⟨w.heap.size, 1, none⟩ = some (.int .i64 p1) ∧ w'.cell? ⟨w.heap.size, 2, none⟩ = some (.int .i64 p2) ∧ w'.cell? ⟨w.heap.size, 3, none⟩ = some (.int .i64 p3)) ∧ (w'.cell? ⟨w.heap.size + 1, 0, none⟩ = some (.int .i64 q0) ∧ w'.cell? ⟨w.heap.size + 1, 1, none⟩ = some (.int .i64 q1) ∧ w'.cell? ⟨w.heap.size + 1, 2, none⟩ = some (.int .i64 q2) ∧ w'.cell? ⟨w.heap.size + 1, 3, none⟩ = some (.int .i64 q3)))) (by kernel_rfl) (by (try dsimp only); exact at''.out _ ‹_›) (fun hHeld => ?_)
 refine ly_s 0 hHeld ?_
 refine ly_s 1 hHeld ?_
 refine ly_s 2 hHeld ?_
 refine ly_s 3 hHeld ?_
 refine ly_s 5 hHeld ?_
 refine ly_s 6 hHeld ?_
 refine ly_s 7 hHeld ?_
 refine ly_s 8 hHeld ?_
 refine ly_a 4 (fun KK hKK => ?_)
 go_simp
 refine (cP'.out _).mono ?_
 rintro e w5 ⟨rfl, hB5⟩
 have hd5 := hd.trans (hB5.mono hd.size)
 try dsimp only
 refine hKK.out _ _ (by (try dsimp only); exact at''.out _ ‹_›) (fun hHeld => ?_)
 clear hKK KK
 try simp only [Act.put, lyA, lyB, lyC]
 refine ly_a 9 (fun KK hKK => ?_)
 go_simp
 refine (cQ'.out _).mono ?_
 rintro e w6 ⟨rfl, hB6⟩
 have hd6 := hd5.trans (hB6.mono hd5.size)
 try dsimp only
 refine hKK.out _ _ (by (try dsimp only); exact at''.out _ ‹_›) (fun hHeld => ?_)
 clear hKK KK
 try simp only [Act.put, lyA, lyB, lyC]
 refine ly_s 10 hHeld ?_
 refine ly_s 11 hHeld ?_
 refine wpAnyH_done (by kernel_rfl) ?_ _
 clear hHeld
 have hl6 := hlw'.out.below hd6
 have hl6' := Lib.hid hl6; clear hl6
 go_upto_if 34 with fail
 go_cut [0, 34] from 35 to 38 (fun s _ wx => HasR wx B s (putIf (decide (C1 = 0)) l (p0, p1)) ∧ Below w1.heap.size w1 wx)
 case first =>
  by_cases hz : C1 = 0
  ·have hde : decide (C1 = 0) = true := decide_eq_true hz
   have hzi : (C1 == 0) = true := by simp [hz]
   obtain ⟨⟨y0, y1, y2, y3⟩, z0, z1, z2, z3⟩ := at''.out _ hd6
   simp only at y0 y1 y2 y3 z0 z1 z2 z3
   have hsz := Nat.le_trans hsz1'.out hd6.size
   have cp := fun v hv => imPut_has B v l (p0, p1) _ hv hsz (by have := hn'.out; omega) gp hL'.out.good
   have hO : putIf (decide (C1 = 0)) l (p0, p1) = putR l (p0, p1) := by unfold putIf; rw [if_pos hde]
   have cp' := Lib.hid cp; have hO' := Lib.hid hO; have hz' := Lib.hid hz; clear cp hO hz
   go_wp2_with fail
   refine (cp'.out _ hl6'.out).mono ?_
   rintro e w7 ⟨v7, rfl, hv7, hB7⟩
   rw [← hO'.out] at hv7
   have hd7 := hd6.trans (hB7.mono hd6.size)
   have hv7' := Lib.hid hv7; have hd7' := Lib.hid hd7; clear hv7 hd7
   go_wp2
   go_meet
   exact ⟨hv7'.out, hd7'.out⟩
  ·have hO : putIf (decide (C1 = 0)) l (p0, p1) = l := by unfold putIf; rw [if_neg (by simp [hz])]
   have hl7 := hl6'.out
   rw [← hO] at hl7
   have hO' := Lib.hid hO; have hl7' := Lib.hid hl7; clear hO hl7
   go_wp2
   go_meet
   exact ⟨hl7'.out, hd6⟩
 case rest =>
 obtain ⟨hl7, hd7⟩ := hcut
 have hG1 := hL'.out.putIf (x := (p0, p1)) gp (decide (C1 = 0))
 have hl7' := Lib.hid hl7; have hG1' := Lib.hid hG1; clear hl7 hG1
 go_upto_if 40 with fail
 go_cut [0, 40] from 41 to 44 (fun s _ wx => HasR wx B s (putIf (decide (C2 = 0)) (putIf (decide (C1 = 0)) l (p0, p1)) (q0, q1)) ∧ Below w1.heap.size w1 wx)
 case first =>
  by_cases hz : C2 = 0
  ·have hde : decide (C2 = 0) = true := decide_eq_true hz
   have hzi : (C2 == 0) = true := by simp [hz]
   obtain ⟨⟨y0, y1, y2, y3⟩, z0, z1, z2, z3⟩ := at''.out _ hd7
   simp only at y0 y1 y2 y3 z0 z1 z2 z3
   have hsz := Nat.le_trans hsz1'.out hd7.size
   have cp := fun v hv => imPut_has B v (putIf (decide (C1 = 0)) l (p0, p1)) (q0, q1) _ hv hsz (by have := hn'.out; have := hG1'.out.2.2; omega) gq hG1'.out.1.good
   have hO : putIf (decide (C2 = 0)) (putIf (decide (C1 = 0)) l (p0, p1)) (q0, q1) = putR (putIf (decide (C1 = 0)) l (p0, p1)) (q0, q1) := by rw [hde]; rfl
   have cp' := Lib.hid cp; have hO' := Lib.hid hO; have hz' := Lib.hid hz; clear cp hO hz
   go_wp2_with fail
   refine (cp'.out _ hl7'.out).mono ?_
   rintro e w7 ⟨v7, rfl, hv7, hB7⟩
   rw [← hO'.out] at hv7
   have hd8 := hd7.trans (hB7.mono hd7.size)
   have hv7' := Lib.hid hv7; have hd8' := Lib.hid hd8; clear hv7 hd8
   go_wp2
   go_meet
   exact ⟨hv7'.out, hd8'.out⟩
  ·have hO : putIf (decide (C2 = 0)) (putIf (decide (C1 = 0)) l (p0, p1)) (q0, q1) = putIf (decide (C1 = 0)) l (p0, p1) := by rw [decide_eq_false hz]; rfl
   have hl8 := hl7'.out
   rw [← hO] at hl8
   have hO' := Lib.hid hO; have hl8' := Lib.hid hl8; clear hO hl8
   go_wp2
   go_meet
   exact ⟨hl8'.out, hd7⟩
 case rest =>
 obtain ⟨hl8, hd8⟩ := hcut
 have hG2 := hG1'.out.1.putIf (x := (q0, q1)) gq (decide (C2 = 0))
 have hV0 := hV'.out
 have hc0 := hc'.out
 have hwm0 := hwm'.out
 have hB1o := hB1'.out
 cases F
 ·have hx : ¬ C1 * C2 < 0 := of_decide_eq_false hc0.symm
  have hx2 : decide (0 ≤ C1 * C2) = true := decide_eq_true (by omega)
  have hVl := hl8
  rw [show putIf (decide (C2 = 0)) (putIf (decide (C1 = 0)) l (p0, p1)) (q0, q1) = V from hV0] at hVl
  have hbf := hB1o.trans (hd8.mono hB1o.size)
  clear hl8 hG2 hV0 hV' hc0 hc' hd8
  have hVl' := Lib.hid hVl; have hbf' := Lib.hid hbf; clear hVl hbf
  go_wp2
  go_ret
  exact ⟨_, rfl, hVl'.out, hbf'.out⟩
 ·have hx : C1 * C2 < 0 := of_decide_eq_true hc0.symm
  have hx2 : decide (0 ≤ C1 * C2) = false := decide_eq_false (by omega)
  have hz0 := hgz'.out rfl
  have k10 := fun w' => c10'.out w' rfl
  have k13 := fun w' => c13'.out w' rfl
  have k14 := fun w' => c14'.out w' rfl
  have hdv0 := hdv'.out rfl
  rw [hdv0] at k14
  obtain ⟨z0, z1⟩ := Z
  have hsz : ∀ w', Below w1.heap.size w1 w' → B ≤ w'.heap.size := fun w' h => Nat.le_trans hsz1'.out h.size
  have cp := fun v w' hv hB => imPut_has B v (putIf (decide (C2 = 0)) (putIf (decide (C1 = 0)) l (p0, p1)) (q0, q1)) (z0, z1) w' hv hB (by have := hn'.out; have := hG1'.out.2.2; have := hG2.2.2; omega) hz0 hG2.1.good
  rw [show putR (putIf (decide (C2 = 0)) (putIf (decide (C1 = 0)) l (p0, p1)) (q0, q1)) (z0, z1) = V from hV0] at cp
  obtain ⟨⟨y0, y1, y2, y3⟩, t0, t1, t2, t3⟩ := at''.out _ hd8
  simp only at y0 y1 y2 y3 t0 t1 t2 t3
  clear hV0 hV' hc0 hc' hG2 c10' c13' c14' hdv' hgz' hdv0 hz0 cP' cQ'
  have k10' := Lib.hid k10; have k13' := Lib.hid k13; have k14' := Lib.hid k14; have hl8' := Lib.hid hl8; have hsz' := Lib.hid hsz; have cp' := Lib.hid cp; have hd8' := Lib.hid hd8; clear k10 k13 k14 hl8 hsz cp hd8
  obtain ⟨wo, rfl⟩ : ∃ wo : World, wo = wc := ⟨_, rfl⟩
  have hdw := hd8'.out
  have hcw := Below.refl wo.heap.size wo
  clear y0 y1 y2 y3 t0 t1 t2 t3
  obtain ⟨⟨y0, y1, y2, y3⟩, t0, t1, t2, t3⟩ := at''.out _ hdw
  simp only at y0 y1 y2 y3 t0 t1 t2 t3
  go_wp2_with fail
  refine (c8'.out _).mono ?_
  rintro e wa0 ⟨rfl, hBa0⟩
  obtain ⟨wb0, hwb0⟩ : ∃ W, wa0.alloc (.cells #[.int .i64 r80, .int .i64 r81] 42) = W := ⟨_, rfl⟩
  have hBb0 : Below wa0.heap.size wa0 wb0 := by rw [← hwb0]; exact (Below.refl _ _).alloc (Nat.le_refl _) _
  have hBc0 := hBa0.trans (hBb0.mono hBa0.size)
  have hdn0 := hdw.trans (hBc0.mono hdw.size)
  have hcn0 := hcw.trans (hBc0.mono hcw.size)
  have nA8 : BoxV wb0 wa0.heap.size (r80, r81) := by rw [← hwb0]; refine ⟨⟨?_, ?_⟩, ?_, ?_⟩ <;> simp [go_sem]
  clear y0 y1 y2 y3 t0 t1 t2 t3 hBa0 hBb0 hBc0 
  have xA8' := Lib.hid nA8; clear nA8 hdw hcw
  have hwb0' := Lib.hid hwb0; clear hwb0
  go_upto_region 9 with fail
  rw [hwb0'.out]
  clear hwb0'
  obtain ⟨⟨y0, y1, y2, y3⟩, t0, t1, t2, t3⟩ := at''.out _ hdn0
  simp only at y0 y1 y2 y3 t0 t1 t2 t3
  go_wp2_with fail
  refine (c9'.out _).mono ?_
  rintro e wa1 ⟨rfl, hBa1⟩
  obtain ⟨wb1, hwb1⟩ : ∃ W, wa1.alloc (.cells #[.int .i64 r90, .int .i64 r91] 42) = W := ⟨_, rfl⟩
  have hBb1 : Below wa1.heap.size wa1 wb1 := by rw [← hwb1]; exact (Below.refl _ _).alloc (Nat.le_refl _) _
  have hBc1 := hBa1.trans (hBb1.mono hBa1.size)
  have hdn1 := hdn0.trans (hBc1.mono hdn0.size)
  have hcn1 := hcn0.trans (hBc1.mono hcn0.size)
  have nA8 := xA8'.out.below hBc1
  have nA9 : BoxV wb1 wa1.heap.size (r90, r91) := by rw [← hwb1]; refine ⟨⟨?_, ?_⟩, ?_, ?_⟩ <;> simp [go_sem]
  clear y0 y1 y2 y3 t0 t1 t2 t3 hBa1 hBb1 hBc1 
  clear xA8'
  have xA8' := Lib.hid nA8; have xA9' := Lib.hid nA9; clear nA8 nA9 hdn0 hcn0
  have hwb1' := Lib.hid hwb1; clear hwb1
  go_upto_region 10 with fail
  rw [hwb1'.out]
  clear hwb1'
  obtain ⟨⟨y0, y1, y2, y3⟩, t0, t1, t2, t3⟩ := at''.out _ hdn1
  simp only at y0 y1 y2 y3 t0 t1 t2 t3
  obtain ⟨⟨A8a, A8b⟩, -, -⟩ := xA8'.out
  simp only at A8a A8b
  obtain ⟨⟨A9a, A9b⟩, -, -⟩ := xA9'.out
  simp only at A9a A9b
  go_wp2_with fail
  refine (k10'.out _).mono ?_
  rintro e wa2 ⟨rfl, hBa2⟩
  obtain ⟨wb2, hwb2⟩ : ∃ W, wa2.alloc (.cells #[.int .i64 r100, .int .i64 r101] 42) = W := ⟨_, rfl⟩
  have hBb2 : Below wa2.heap.size wa2 wb2 := by rw [← hwb2]; exact (Below.refl _ _).alloc (Nat.le_refl _) _
  have hBc2 := hBa2.trans (hBb2.mono hBa2.size)
  have hdn2 := hdn1.trans (hBc2.mono hdn1.size)
  have hcn2 := hcn1.trans (hBc2.mono hcn1.size)
  have nA8 := xA8'.out.below hBc2
  have nA9 := xA9'.out.below hBc2
  have nA10 : BoxV wb2 wa2.heap.size (r100, r101) := by rw [← hwb2]; refine ⟨⟨?_, ?_⟩, ?_, ?_⟩ <;> simp [go_sem]
  clear y0 y1 y2 y3 t0 t1 t2 t3 hBa2 hBb2 hBc2 A8a A8b A9a A9b
  clear xA8' xA9'
  have xA8' := Lib.hid nA8; have xA9' := Lib.hid nA9; have xA10' := Lib.hid nA10; clear nA8 nA9 nA10 hdn1 hcn1
  have hwb2' := Lib.hid hwb2; clear hwb2
  go_upto_region 11 with fail
  rw [hwb2'.out]
  clear hwb2'
  obtain ⟨⟨y0, y1, y2, y3⟩, t0, t1, t2, t3⟩ := at''.out _ hdn2
  simp only at y0 y1 y2 y3 t0 t1 t2 t3
  go_wp2_with fail
  refine (c11'.out _).mono ?_
  rintro e wa3 ⟨rfl, hBa3⟩
  obtain ⟨wb3, hwb3⟩ : ∃ W, wa3.alloc (.cells #[.int .i64 r110, .int .i64 r111] 42) = W := ⟨_, rfl⟩
  have hBb3 : Below wa3.heap.size wa3 wb3 := by rw [← hwb3]; exact (Below.refl _ _).alloc (Nat.le_refl _) _
  have hBc3 := hBa3.trans (hBb3.mono hBa3.size)
  have hdn3 := hdn2.trans (hBc3.mono hdn2.size)
  have hcn3 := hcn2.trans (hBc3.mono hcn2.size)
  have nA8 := xA8'.out.below hBc3
  have nA9 := xA9'.out.below hBc3
  have nA10 := xA10'.out.below hBc3
  have nA11 : BoxV wb3 wa3.heap.size (r110, r111) := by rw [← hwb3]; refine ⟨⟨?_, ?_⟩, ?_, ?_⟩ <;> simp [go_sem]
  clear y0 y1 y2 y3 t0 t1 t2 t3 hBa3 hBb3 hBc3 
  clear xA8' xA9' xA10'
  have xA8' := Lib.hid nA8; have xA9' := Lib.hid nA9; have xA10' := Lib.hid nA10; have xA11' := Lib.hid nA11; clear nA8 nA9 nA10 nA11 hdn2 hcn2
  have hwb3' := Lib.hid hwb3; clear hwb3
  go_upto_region 12 with fail
  rw [hwb3'.out]
  clear hwb3'
  obtain ⟨⟨y0, y1, y2, y3⟩, t0, t1, t2, t3⟩ := at''.out _ hdn3
  simp only at y0 y1 y2 y3 t0 t1 t2 t3
  go_wp2_with fail
  refine (c12'.out _).mono ?_
  rintro e wa4 ⟨rfl, hBa4⟩
  obtain ⟨wb4, hwb4⟩ : ∃ W, wa4.alloc (.cells #[.int .i64 r120, .int .i64 r121] 42) = W := ⟨_, rfl⟩
  have hBb4 : Below wa4.heap.size wa4 wb4 := by rw [← hwb4]; exact (Below.refl _ _).alloc (Nat.le_refl _) _
  have hBc4 := hBa4.trans (hBb4.mono hBa4.size)
  have hdn4 := hdn3.trans (hBc4.mono hdn3.size)
  have hcn4 := hcn3.trans (hBc4.mono hcn3.size)
  have nA8 := xA8'.out.below hBc4
  have nA9 := xA9'.out.below hBc4
  have nA10 := xA10'.out.below hBc4
  have nA11 := xA11'.out.below hBc4
  have nA12 : BoxV wb4 wa4.heap.size (r120, r121) := by rw [← hwb4]; refine ⟨⟨?_, ?_⟩, ?_, ?_⟩ <;> simp [go_sem]
  clear y0 y1 y2 y3 t0 t1 t2 t3 hBa4 hBb4 hBc4 
  clear xA8' xA9' xA10' xA11'
  have xA8' := Lib.hid nA8; have xA9' := Lib.hid nA9; have xA10' := Lib.hid nA10; have xA11' := Lib.hid nA11; have xA12' := Lib.hid nA12; clear nA8 nA9 nA10 nA11 nA12 hdn3 hcn3
  have hwb4' := Lib.hid hwb4; clear hwb4
  go_upto_region 13 with fail
  rw [hwb4'.out]
  clear hwb4'
  obtain ⟨⟨y0, y1, y2, y3⟩, t0, t1, t2, t3⟩ := at''.out _ hdn4
  simp only at y0 y1 y2 y3 t0 t1 t2 t3
  obtain ⟨⟨A11a, A11b⟩, -, -⟩ := xA11'.out
  simp only at A11a A11b
  obtain ⟨⟨A12a, A12b⟩, -, -⟩ := xA12'.out
  simp only at A12a A12b
  go_wp2_with fail
  refine (k13'.out _).mono ?_
  rintro e wa5 ⟨rfl, hBa5⟩
  obtain ⟨wb5, hwb5⟩ : ∃ W, wa5.alloc (.cells #[.int .i64 r130, .int .i64 r131] 42) = W := ⟨_, rfl⟩
  have hBb5 : Below wa5.heap.size wa5 wb5 := by rw [← hwb5]; exact (Below.refl _ _).alloc (Nat.le_refl _) _
  have hBc5 := hBa5.trans (hBb5.mono hBa5.size)
  have hdn5 := hdn4.trans (hBc5.mono hdn4.size)
  have hcn5 := hcn4.trans (hBc5.mono hcn4.size)
  have nA8 := xA8'.out.below hBc5
  have nA9 := xA9'.out.below hBc5
  have nA10 := xA10'.out.below hBc5
  have nA11 := xA11'.out.below hBc5
  have nA12 := xA12'.out.below hBc5
  have nA13 : BoxV wb5 wa5.heap.size (r130, r131) := by rw [← hwb5]; refine ⟨⟨?_, ?_⟩, ?_, ?_⟩ <;> simp [go_sem]
  clear y0 y1 y2 y3 t0 t1 t2 t3 hBa5 hBb5 hBc5 A11a A11b A12a A12b
  clear xA8' xA9' xA10' xA11' xA12'
  have xA8' := Lib.hid nA8; have xA9' := Lib.hid nA9; have xA10' := Lib.hid nA10; have xA11' := Lib.hid nA11; have xA12' := Lib.hid nA12; have xA13' := Lib.hid nA13; clear nA8 nA9 nA10 nA11 nA12 nA13 hdn4 hcn4
  have hwb5' := Lib.hid hwb5; clear hwb5
  go_upto_region 14 with fail
  rw [hwb5'.out]
  clear hwb5'
  obtain ⟨⟨y0, y1, y2, y3⟩, t0, t1, t2, t3⟩ := at''.out _ hdn5
  simp only at y0 y1 y2 y3 t0 t1 t2 t3
  obtain ⟨⟨A10a, A10b⟩, -, -⟩ := xA10'.out
  simp only at A10a A10b
  obtain ⟨⟨A13a, A13b⟩, -, -⟩ := xA13'.out
  simp only at A13a A13b
  go_wp2_with fail
  refine (k14'.out _).mono ?_
  rintro e wa6 ⟨rfl, hBa6⟩
  obtain ⟨wb6, hwb6⟩ : ∃ W, wa6.alloc (.cells #[.int .i64 z0, .int .i64 z1] 42) = W := ⟨_, rfl⟩
  have hBb6 : Below wa6.heap.size wa6 wb6 := by rw [← hwb6]; exact (Below.refl _ _).alloc (Nat.le_refl _) _
  have hBc6 := hBa6.trans (hBb6.mono hBa6.size)
  have hdn6 := hdn5.trans (hBc6.mono hdn5.size)
  have hcn6 := hcn5.trans (hBc6.mono hcn5.size)
  have nA8 := xA8'.out.below hBc6
  have nA9 := xA9'.out.below hBc6
  have nA10 := xA10'.out.below hBc6
  have nA11 := xA11'.out.below hBc6
  have nA12 := xA12'.out.below hBc6
  have nA13 := xA13'.out.below hBc6
  have nA14 : BoxV wb6 wa6.heap.size (z0, z1) := by rw [← hwb6]; refine ⟨⟨?_, ?_⟩, ?_, ?_⟩ <;> simp [go_sem]
  clear y0 y1 y2 y3 t0 t1 t2 t3 hBa6 hBb6 hBc6 A10a A10b A13a A13b
  clear xA8' xA9' xA10' xA11' xA12' xA13'
  have xA8' := Lib.hid nA8; have xA9' := Lib.hid nA9; have xA10' := Lib.hid nA10; have xA11' := Lib.hid nA11; have xA12' := Lib.hid nA12; have xA13' := Lib.hid nA13; have xA14' := Lib.hid nA14; clear nA8 nA9 nA10 nA11 nA12 nA13 nA14 hdn5 hcn5
  have hwb6' := Lib.hid hwb6; clear hwb6
  go_upto_region 15 with fail
  rw [hwb6'.out]
  clear hwb6'
  obtain ⟨⟨A14a, A14b⟩, -, -⟩ := xA14'.out
  simp only at A14a A14b
  have hlE := hl8'.out.below hcn6
  have hsE := hsz'.out _ hdn6
  have hbE := hB1o.trans (hdn6.mono hB1o.size)
  clear xA8' xA9' xA10' xA11' xA12' xA13' xA14'
  clear hcn6 hdn6
  have hlE' := Lib.hid hlE; have hsE' := Lib.hid hsE; have hbE' := Lib.hid hbE; clear hlE hsE hbE
  go_wp2_with fail
  refine (cp'.out _ _ hlE'.out hsE'.out).mono ?_
  rintro ee wz ⟨vz, rfl, hvz, hBz⟩
  have hbF := hbE'.out.trans (hBz.mono hbE'.out.size)
  clear A14a A14b
  have hvz' := Lib.hid hvz; have hbF' := Lib.hid hbF; clear hvz hbF
  go_wp2
  go_ret
  exact ⟨_, rfl, hvz'.out, hbF'.out⟩
set_option linter.unusedSimpArgs false in
set_option maxRecDepth 10000 in
set_option maxHeartbeats 4000000 in
theorem chFixed_any (v : Value) (f : List Quad) (w : World) (hv : QuadV w v f) (hf : MapP f) :
  Calls Tryz.prog 51 #[v] w (fun e w' => ∃ v', e = .returned v' ∧ HasR w' w.heap.size v' (fxL f) ∧ Below w.heap.size w w') := by
 have hl12 := hf.len
 have hend := fun k (h : k + 1 = f.length) (h1 : 1 ≤ k) => fxG_end hf h h1
 have hG0 : fxG f 0 = [] := rfl
 have ci : ∀ k o w', k + 1 < f.length → HasR w' w.heap.size o (fxG f k) → w.heap.size ≤ w'.heap.size →
   Calls Tryz.prog 110 #[o, quadV (nth4 f k), quadV (nth4 f (k + 1))] w' (fun e w2 => ∃ v', e = .returned v' ∧ HasR w2 w.heap.size v' (fxG f (k + 1)) ∧ Below w'.heap.size w' w2) :=
  fun k o w' hk hl hB => imFixed_any w.heap.size o (fxG f k) (nth4 f k) (nth4 f (k + 1)) w' hl hB (fxG_law hf k (by omega)).1 (by have := (fxG_law hf k (by omega)).2.1; omega) (hf.coord k (by omega)).1 (hf.coord k (by omega)).2 (hf.coord (k + 1) hk).1 (hf.coord (k + 1) hk).2
 obtain ⟨ao, cap, rfl, _, _, H⟩ := hv.form
 obtain ⟨n, hn⟩ : ∃ n, f.length = n := ⟨_, rfl⟩
 rw [hn] at H hl12 hend ci ⊢
 generalize fxG f = G at *
 generalize fxL f = R at *
 clear hv hf
 have H' := Lib.hid H; have hn' := Lib.hid hn; have hend' := Lib.hid hend; have hG0' := Lib.hid hG0; have ci' := Lib.hid ci; clear H hn hend hG0 ci
 go_enter Tryz.func51, Tryz.ntmps51
 go_wp2
 go_loopw [3, 4] (fun o i wr => ∃ k : Nat, k + 1 ≤ n ∧ i = .int .i64 ((k : Int) + 1) ∧ HasR wr w.heap.size o (G k) ∧ Below w.heap.size w wr) (fun _ i _ => n - (intOf i).toNat)
 case atStart => exact ⟨0, by omega, rfl, by rw [hG0'.out]; exact HasR.nil _ _, Below.refl _ _⟩
 case round =>
  obtain ⟨k, hk, rfl, hl, hB⟩ := hrel
  by_cases hlt : k + 1 < n
  ·obtain ⟨b, off, rfl, p0, p1, p2, p3⟩ := H'.out k (by omega)
   obtain ⟨_, _, e', q0, q1, q2, q3⟩ := H'.out (k + 1) hlt
   cases e'
   replace p0 := bkeep hB p0
   replace p1 := bkeep hB p1
   replace p2 := bkeep hB p2
   replace p3 := bkeep hB p3
   replace q0 := bkeep hB q0
   replace q1 := bkeep hB q1
   replace q2 := bkeep hB q2
   replace q3 := bkeep hB q3
   have ci1 := fun w' hl hB => ci'.out k u3 w' hlt hl hB
   obtain ⟨P, hP⟩ : ∃ P, nth4 f k = P := ⟨_, rfl⟩
   obtain ⟨Q, hQ⟩ : ∃ Q, nth4 f (k + 1) = Q := ⟨_, rfl⟩
   rw [hP, hQ] at ci1
   rw [hP] at p0 p1 p2 p3
   rw [hQ] at q0 q1 q2 q3
   obtain ⟨j, hj⟩ : ∃ j : Nat, j = k + 1 := ⟨_, rfl⟩
   rw [← hj] at hlt q0 q1 q2 q3 ci1
   rw [show (k : Int) + 1 = (j : Int) by omega]
   obtain ⟨⟨a0, a1⟩, ⟨a2, a3⟩⟩ := P
   obtain ⟨⟨b0, b1⟩, ⟨b2, b3⟩⟩ := Q
   simp only at p0 p1 p2 p3 q0 q1 q2 q3 ci1
   have g1 : (0 : Int) ≤ (k : Int) := by omega
   have g2 : (k : Int) < (n : Int) := by omega
   have g3 : (j : Int) < (n : Int) := by omega
   have g7 : (0 : Int) ≤ (j : Int) := by omega
   have g4 : IntKind.i64.wrap ((j : Int) - 1) = (k : Int) := by rw [IntKind.wrap_i64]; omega
   have g5 : IntKind.i64.wrap (k : Int) = (k : Int) := by rw [IntKind.wrap_i64]; omega
   have g6 : k < n := by omega
   have hjw : IntKind.i64.wrap ((j : Int) + 1) = (j : Int) + 1 := by rw [IntKind.wrap_i64]; omega
   have at' : ∀ w', Below wr.heap.size wr w' → (w'.cell? ⟨b, off + k * 4, none⟩ = some (.int .i64 a0) ∧ w'.cell? ⟨b, off + k * 4 + 1, none⟩ = some (.int .i64 a1) ∧ w'.cell? ⟨b, off + k * 4 + 2, none⟩ = some (.int .i64 a2) ∧ w'.cell? ⟨b, off + k * 4 + 3, none⟩ = some (.int .i64 a3)) ∧
     (w'.cell? ⟨b, off + j * 4, none⟩ = some (.int .i64 b0) ∧ w'.cell? ⟨b, off + j * 4 + 1, none⟩ = some (.int .i64 b1) ∧ w'.cell? ⟨b, off + j * 4 + 2, none⟩ = some (.int .i64 b2) ∧ w'.cell? ⟨b, off + j * 4 + 3, none⟩ = some (.int .i64 b3)) :=
    fun w' h => ⟨⟨bkeep h p0, bkeep h p1, bkeep h p2, bkeep h p3⟩, ⟨bkeep h q0, bkeep h q1, bkeep h q2, bkeep h q3⟩⟩
   have hd : Below wr.heap.size wr wr.drew := (Below.refl _ _).drew
   have ci2 := ci1 wr.drew (hl.below hd) (Nat.le_trans hB.size hd.size)
   have hbd := hB.trans (hd.mono hB.size)
   clear p0 p1 p2 p3 q0 q1 q2 q3 ci1 hl hP hQ
   have at'' := Lib.hid at'; have ci2' := Lib.hid ci2; have hB' := Lib.hid hB; have hbd' := Lib.hid hbd; have hj' := Lib.hid hj; clear at' ci2 hB hbd hj
   go_wp2_with fail
   refine wp_region_held_drew (S := (fun w' => (w'.cell? ⟨b, off + k * 4, none⟩ = some (.int .i64 a0) ∧ w'.cell? ⟨b, off + k * 4 + 1, none⟩ = some (.int .i64 a1) ∧ w'.cell? ⟨b, off + k * 4 + 2, none⟩ = some (.int .i64 a2) ∧ w'.cell? ⟨b, off + k * 4 + 3, none⟩ = some (.int .i64 a3)) ∧ (w'.cell? ⟨b, off + j * 4, none⟩ = some (.int .i64 b0) ∧ w'.cell? ⟨b, off + j * 4 + 1, none⟩ = some (.int .i64 b1) ∧ w'.cell? ⟨b, off + j * 4 + 2, none⟩ = some (.int .i64 b2) ∧ w'.cell? ⟨b, off + j * 4 + 3, none⟩ = some (.int .i64 b3)))) (by kernel_rfl) (by (try dsimp only); exact at''.out _ ‹_›) (fun hHeld => ?_)
   refine ly_s 0 hHeld ?_
   refine ly_s 1 hHeld ?_
   refine ly_s 2 hHeld ?_
   refine ly_s 3 hHeld ?_
   refine ly_s 4 hHeld ?_
   refine ly_s 5 hHeld ?_
   refine ly_s 6 hHeld ?_
   refine ly_s 7 hHeld ?_
   refine ly_s 8 hHeld ?_
   refine ly_s 9 hHeld ?_
   refine ly_a 10 (fun KK hKK => ?_)
   go_simp
   refine (ci2'.out).mono ?_
   rintro e w6 ⟨v6, rfl, hv6, hB6⟩
   have hd6 := hd.trans (hB6.mono hd.size)
   try dsimp only
   refine hKK.out _ _ (by (try dsimp only); exact at''.out _ ‹_›) (fun hHeld => ?_)
   clear hKK KK
   try simp only [Act.put, lyA, lyB, lyC]
   refine ly_s 11 hHeld ?_
   refine wpAnyH_done (by kernel_rfl) ?_ _
   clear hHeld
   have hbF := hbd'.out.trans (hB6.mono hbd'.out.size)
   clear hB6 hd6 hd
   have hv6' := Lib.hid hv6; have hbF' := Lib.hid hbF; clear hv6 hbF
   go_wp2
   go_roundw
   case rel => exact ⟨j, by omega, by go_num, hv6'.out, hbF'.out⟩
   case measure => have := hj'.out; simp [intOf]; omega
  ·obtain rfl : n = k + 1 := by omega
   have hR := hend'.out k rfl (by omega)
   rw [hR] at hl
   clear H' hn' hend' ci' hG0'
   have hl' := Lib.hid hl; have hB' := Lib.hid hB; clear hl hB
   go_wp2
   go_ret
   exact ⟨_, rfl, hl'.out, hB'.out⟩
end Go.Proofs.YtfhhofecfllbfaaGreat

/- FnLoops: for every input the law returns true, and the arguments read as before. No conditions. -/
import Derived.Test.YtfhhofecfllbfaaGreatPkW
import Derived.Test.YtfhhofecfllbfaaGreatIter
import Derived.Test.YtfhhofecfllbfaaGreatHelpL
import Derived.Test.YtfhhofecfllbfaaGreatTouch
import Derived.Test.YtfhhofecfllbfaaGreatPkN
import Derived.Test.YtfhhofecfllbfaaGreatLiftC
import Derived.Deep.Cut
import Derived.Deep.CutRange
import Derived.Deep.CutBlock
namespace Go.Proofs.YtfhhofecfllbfaaGreat
open Go.RowKit
set_option maxRecDepth 100000
theorem runs_box {f l : List Quad} {x : Int × Int} (h : RunsThrough_v f l x = (true, true)) : mapB f = true ∧ (BdR (nth4 l 0).1.1 (nth4 l 0).1.2 ∧ BdR (nth4 l 0).2.1 (nth4 l 0).2.2) ∧ BdR x.1 x.2 ∧ (ltB x.1 x.2 (nth4 l 0).1.1 (nth4 l 0).1.2 = false ∧ ltB (nth4 l 0).2.1 (nth4 l 0).2.2 x.1 x.2 = false) := by
 have h2 := runs_first h
 unfold RunsThrough_v at h
 split at h
 ·rename_i q
  obtain ⟨q1, q2, q3⟩ := q
  have hi := ivB_true ((ivsB_true q2).2 0 (by omega))
  have h3 := h2.2
  unfold inI at h3
  rw [Bool.and_eq_true] at h3
  refine ⟨q1, ⟨unit_bd hi.1, unit_bd hi.2.1⟩, unit_bd q3, by simpa using h3.1, by simpa using h3.2⟩
 ·cases (Prod.mk.inj h).1
theorem loops_all {f l : List Quad} {xs : List (Int × Int)} {ok : Bool} (h : LoopFractions_v f l = (xs, ok)) : ∀ k, k < xs.length → I64R (nthR xs k) ∧ unitR (nthR xs k).1 (nthR xs k).2 = true ∧ RunsThrough_v f l (nthR xs k) = (true, true) ∧ mapB f = true ∧ (1 ≤ l.length ∧ l.length ≤ 6) ∧ runN f (nthR xs k) l.length = l.length ∧ pz f (nthR xs k) l.length = nthR xs k ∧ (HasExactPeriod_v f l = (true, true) → ∀ a b, a < b → b < l.length → pz f (nthR xs k) a ≠ pz f (nthR xs k) b) := by
 intro k hk
 cases ok
 ·unfold LoopFractions_v at h
  split at h
  ·cases (Prod.mk.inj h).2
  ·rw [← (Prod.mk.inj h).1] at hk
   cases hk
 ·obtain ⟨h1, h2⟩ := loops_fact h
  obtain ⟨k1, k2, k3, k4, k5, k6⟩ := h2 (nthR xs k) (by rw [nthR_eq hk]; exact List.getElem_mem hk)
  exact ⟨unitR_i64 k1, k1, k2, (runs_box k2).1, h1, k4, k5, k6⟩
set_option linter.unusedSimpArgs false in
set_option maxRecDepth 100000 in
set_option maxHeartbeats 12000000 in
theorem lawLoops_main (ao0 : Option Addr) (n0 cap0 : Nat) (ao1 : Option Addr) (n1 cap1 : Nat) (w : World) (h0 : Hid (CodeV w (.slice ao0 n0 cap0) n0)) (h1 : Hid (CodeV w (.slice ao1 n1 cap1) n1)) (hl : n0 + n1 ≤ 1048576) :
  Calls Tryz.prog 5 #[.slice ao0 n0 cap0, .slice ao1 n1 cap1] w (Ret (.bool true) w) := by
 have cb := big_no ao0 n0 cap0 ao1 n1 cap1 w hl
 have cb' := Lib.hid cb; clear cb
 go_enter Tryz.func5, Tryz.ntmps5
 go_wp2_with fail
 refine (cb'.out).mono ?_
 rintro e w_ ⟨rfl, rfl⟩
 go_wp2_with fail
 refine (DrawLoopFractions_any _ _ w h0.out).mono ?_
 rintro e w1 ⟨v1, f, u1, l, rfl, ⟨hq, hfl⟩, ⟨hu, hul⟩, hB1⟩
 obtain ⟨fo, fc, rfl, -⟩ := hq.form
 obtain ⟨uo, uc, rfl, -⟩ := hu.form
 have hqw : ∀ w', Below w1.heap.size w1 w' → QuadV w' (.slice fo f.length fc) f := fun w' h => hq.below h
 have huw : ∀ w', Below w1.heap.size w1 w' → QuadV w' (.slice uo l.length uc) l := fun w' h => hu.below h
 have a1 := fun w' (hB : Below w1.heap.size w1 w') => implLoopFractions_any _ f _ l w' (hqw w' hB) (show f.length ≤ _ by omega) (huw w' hB) (show l.length ≤ _ by omega)
 have a2 := fun w' (hB : Below w1.heap.size w1 w') => specLoopFractions_any _ f _ l w' (hqw w' hB) (show f.length ≤ _ by omega) (huw w' hB) (show l.length ≤ _ by omega)
 have b1 := fun w' (hB : Below w1.heap.size w1 w') => implHasExactPeriod_any _ f _ l w' (hqw w' hB) (show f.length ≤ _ by omega) (huw w' hB) (show l.length ≤ _ by omega)
 have b2 := fun w' (hB : Below w1.heap.size w1 w') => specHasExactPeriod_any _ f _ l w' (hqw w' hB) (show f.length ≤ _ by omega) (huw w' hB) (show l.length ≤ _ by omega)
 obtain ⟨⟨xs, ok⟩, hv⟩ : ∃ r, LoopFractions_v f l = r := ⟨_, rfl⟩
 obtain ⟨⟨p, one⟩, hp⟩ : ∃ r, HasExactPeriod_v f l = r := ⟨_, rfl⟩
 have hlen := LoopFractions_len f l
 have hfa := loops_all hv
 rw [hv] at a1 a2 hlen
 rw [hp] at b1 b2 hfa
 simp only at a1 a2 b1 b2 hlen
 have cr : ∀ k, k < xs.length → ∀ w', Below w1.heap.size w1 w' → Calls Tryz.prog 41 #[.slice fo f.length fc, .slice uo l.length uc, .agg #[.int .i64 (nthR xs k).1, .int .i64 (nthR xs k).2]] w' (Ret (.tuple #[.bool true, .bool true]) w') := fun k hk w' hB => by
  have h := implRunsThrough_any _ f _ l (nthR xs k) w' (hqw w' hB) (show f.length ≤ _ by omega) (huw w' hB) (show l.length ≤ _ by omega) (hfa k hk).1
  rw [(hfa k hk).2.2.1] at h
  exact h
 have ct : ∀ k, k < xs.length → ∀ w', Below w1.heap.size w1 w' → Calls Tryz.prog 42 #[.slice fo f.length fc, .agg #[.int .i64 (nthR xs k).1, .int .i64 (nthR xs k).2], .int .i64 l.length] w' (Ret (.tuple #[ratV (nthR xs k), .bool true]) w') := fun k hk w' hB => by
  obtain ⟨-, k1, -, k3, k4, k5, k6, -⟩ := hfa k hk
  have h := IterateMap_any _ f (nthR xs k) l.length w' (hqw w' hB) (by omega) k3 k1 (by omega) k5
  rw [k6] at h
  exact h
 have cp : p = true → one = true → ∀ k, k < xs.length → ∀ w', Below w1.heap.size w1 w' → Calls Tryz.prog 43 #[.slice fo f.length fc, .agg #[.int .i64 (nthR xs k).1, .int .i64 (nthR xs k).2], .int .i64 l.length] w' (Ret (.tuple #[.int .i64 0, .int .i64 l.length, .bool true]) w') := fun e1 e2 k hk w' hB => by
  obtain ⟨-, k1, -, k3, k4, k5, k6, k7⟩ := hfa k hk
  exact PeriodOf_any _ f (nthR xs k) l.length w' (hqw w' hB) (by omega) k3 k1 (by omega) k4.1 k5 k6 (k7 (by rw [e1, e2]))
 obtain ⟨m, hm⟩ : ∃ m, f.length = m := ⟨_, rfl⟩
 obtain ⟨n, hn⟩ : ∃ n, l.length = n := ⟨_, rfl⟩
 rw [hm] at a1 a2 b1 b2 cr ct cp ⊢
 rw [hn] at a1 a2 b1 b2 cr ct cp ⊢
 clear hq hu hqw huw hfa hv hp
 have a1' := Lib.hid a1; have a2' := Lib.hid a2; have b1' := Lib.hid b1; have b2' := Lib.hid b2; have cr' := Lib.hid cr; have ct' := Lib.hid ct; have cp' := Lib.hid cp; have hm' := Lib.hid hm; have hn' := Lib.hid hn; clear a1 a2 b1 b2 cr ct cp hm hn
 go_wp2_with fail
 refine (a1'.out w1 (Below.refl _ _)).mono ?_
 rintro e w2 ⟨v2, rfl, ho2, hB2⟩
 simp only at ho2
 go_wp2_with fail
 refine (a2'.out w2 hB2).mono ?_
 rintro e w3 ⟨v3, rfl, ho3, hB3⟩
 simp only at ho3
 have hr2 := ho2.read.below hB3
 have hr3 := ho3.read
 have hb3 := hB2.trans (hB3.mono hB2.size)
 have cq := pSameRats_same _ _ xs w3 hr2 hr3 hlen
 obtain ⟨ao2, cap2, rfl, -⟩ := hr2.form
 obtain ⟨ao3, cap3, rfl, -⟩ := hr3.form
 obtain ⟨k, hk⟩ : ∃ k, xs.length = k := ⟨_, rfl⟩
 rw [hk] at hr3 hlen cq cr' ct' cp' ⊢
 clear ho2 ho3 hB2 hB3 hr2 a1' a2'
 have hr3' := Lib.hid hr3; have hb3' := Lib.hid hb3; have hk' := Lib.hid hk; have cq' := Lib.hid cq; clear hr3 hb3 hk cq
 go_upto_region 6 with fail
 go_cut [67] from 59 to 67 (fun s wx => s = .bool false ∧ Below w3.heap.size w3 wx)
 case first => as_aux_lemma =>
  cases ok
  ·go_wp2_with fail
   refine (cq'.out).mono ?_
   rintro e w4 ⟨rfl, hB4⟩
   go_wp2_with fail
   go_meet
   exact ⟨rfl, hB4⟩
  ·go_wp2_with fail
   refine (cq'.out).mono ?_
   rintro e w4 ⟨rfl, hB4⟩
   go_wp2_with fail
   go_meet
   exact ⟨rfl, hB4⟩
 case rest => as_aux_lemma =>
 obtain ⟨rfl, hB4⟩ := hcut
 obtain ⟨w4, rfl⟩ : ∃ wo : World, wo = wc := ⟨_, rfl⟩
 have hb4 := hb3'.out.trans (hB4.mono hb3'.out.size)
 have hr4 := hr3'.out.below hB4
 clear cq' hr3' hb3' hB4
 have hr4' := Lib.hid hr4; clear hr4
 go_wp2_with fail
 refine (b1'.out w4 hb4).mono ?_
 rintro e w5 ⟨rfl, hB5⟩
 have hb5 := hb4.trans (hB5.mono hb4.size)
 go_wp2_with fail
 refine (b2'.out w5 hb5).mono ?_
 rintro e w6 ⟨rfl, hB6⟩
 have hb6 := hb5.trans (hB6.mono hb5.size)
 have hr6 := (hr4'.out.below hB5).below hB6
 clear b1' b2' hr4' hB5 hB6 hb4 hb5
 have hr6' := Lib.hid hr6; have hb6' := Lib.hid hb6; clear hr6 hb6
 go_upto_region 10 with fail
 go_cut [87] from 80 to 87 (fun s wx => s = .bool false ∧ Below w6.heap.size w6 wx)
 case first => as_aux_lemma =>
  cases one
  ·cases p
   ·go_wp2_with fail
    go_meet
    exact ⟨rfl, Below.refl _ _⟩
   ·go_wp2_with fail
    go_meet
    exact ⟨rfl, Below.refl _ _⟩
  ·cases p
   ·go_wp2_with fail
    go_meet
    exact ⟨rfl, Below.refl _ _⟩
   ·go_wp2_with fail
    go_meet
    exact ⟨rfl, Below.refl _ _⟩
 case rest => as_aux_lemma =>
 obtain ⟨rfl, hB7⟩ := hcut
 obtain ⟨w7, rfl⟩ : ∃ wo : World, wo = wc := ⟨_, rfl⟩
 have hb7 := hb6'.out.trans (hB7.mono hb6'.out.size)
 have hr7 := hr6'.out.below hB7
 clear hr6' hb6' hB7
 have hr7' := Lib.hid hr7; have hb7' := Lib.hid hb7; clear hr7 hb7
 go_upto_block 0 with fail
 go_cut [16, 17, 18, 19, 20, 21, 22, 23, 90] from 91 to 149 (fun _ _ _ _ _ _ _ _ _ wx => Below w1.heap.size w1 wx)
 case first => as_aux_lemma =>
  go_wp2_with fail
  go_loopw [90] (fun i wr => ∃ j : Nat, j ≤ k ∧ i = .int .i64 j ∧ Below w7.heap.size w7 wr) (fun i _ => k - (intOf i).toNat)
  case atStart => exact ⟨0, Nat.zero_le _, rfl, Below.refl _ _⟩
  case round =>
   obtain ⟨j, hj, rfl, hBr⟩ := hrel
   obtain ⟨w8, rfl⟩ : ∃ wo : World, wo = wr := ⟨_, rfl⟩
   by_cases hlt : j < k
   rotate_left
   ·have q0 : ¬ ((j : Int) < (k : Int)) := by omega
    have hbz := hb7'.out.trans (hBr.mono hb7'.out.size)
    clear hBr
    have hbz' := Lib.hid hbz; clear hbz
    go_wp2_with fail
    go_meet
    exact hbz'.out
   have q0 : (j : Int) < (k : Int) := by omega
   obtain ⟨_, _, e3, -, -, H⟩ := (hr7'.out.below hBr).form
   rw [hk'.out] at e3 H
   obtain ⟨rfl, -, rfl⟩ := Value.slice.inj e3
   obtain ⟨b, off, rfl, y0, y1⟩ := H j hlt
   have c1 := cr'.out j hlt
   have c2 := ct'.out j hlt
   have c3 := fun e1 e2 => cp'.out e1 e2 j hlt
   clear H e3
   generalize nthR xs j = x at *
   obtain ⟨x0, x1⟩ := x
   simp only at y0 y1 c1 c2 c3
   obtain ⟨w9, hw9⟩ : ∃ W, w8.alloc (.cells #[.int .i64 x0, .int .i64 x1] 42) = W := ⟨_, rfl⟩
   have hB9 : Below w8.heap.size w8 w9 := by rw [← hw9]; exact (Below.refl _ _).alloc (Nat.le_refl _) _
   have z0 : w9.cell? ⟨w8.heap.size, 0, none⟩ = some (.int .i64 x0) := by rw [← hw9]; simp [go_sem]
   have z1 : w9.cell? ⟨w8.heap.size, 1, none⟩ = some (.int .i64 x1) := by rw [← hw9]; simp [go_sem]
   have hs9 := hBr.trans (hB9.mono hBr.size)
   have hb9 := hb7'.out.trans (hs9.mono hb7'.out.size)
   clear hB9 hBr
   have hw9' := Lib.hid hw9; have c1' := Lib.hid c1; have c2' := Lib.hid c2; have c3' := Lib.hid c3; clear hw9 c1 c2 c3
   go_upto_region 15 with fail
   rw [hw9'.out]
   clear y0 y1 hw9'
   go_wp2_with fail
   refine (c1'.out w9 hb9).mono ?_
   rintro e wA ⟨rfl, hBA⟩
   have hbA := hb9.trans (hBA.mono hb9.size)
   have hsA := hs9.trans (hBA.mono hs9.size)
   replace z0 := bkeep hBA z0
   replace z1 := bkeep hBA z1
   clear hBA hb9 hs9
   go_wp2_with fail
   refine (c2'.out wA hbA).mono ?_
   rintro e wB ⟨rfl, hBB⟩
   have hbB := hbA.trans (hBB.mono hbA.size)
   have hsB := hsA.trans (hBB.mono hsA.size)
   replace z0 := bkeep hBB z0
   replace z1 := bkeep hBB z1
   clear hBB hbA hsA
   obtain ⟨wC, hwC⟩ : ∃ W, wB.alloc (.cells #[.int .i64 x0, .int .i64 x1] 42) = W := ⟨_, rfl⟩
   have hBC : Below wB.heap.size wB wC := by rw [← hwC]; exact (Below.refl _ _).alloc (Nat.le_refl _) _
   have t0 : wC.cell? ⟨wB.heap.size, 0, none⟩ = some (.int .i64 x0) := by rw [← hwC]; simp [go_sem]
   have t1 : wC.cell? ⟨wB.heap.size, 1, none⟩ = some (.int .i64 x1) := by rw [← hwC]; simp [go_sem]
   have hbC := hbB.trans (hBC.mono hbB.size)
   have hsC := hsB.trans (hBC.mono hsB.size)
   replace z0 := bkeep hBC z0
   replace z1 := bkeep hBC z1
   clear hBC hbB hsB c1' c2'
   have hwC' := Lib.hid hwC; clear hwC
   go_upto_region 17 with fail
   rw [hwC'.out]
   clear hwC'
   cases one
   ·have hsC' := Lib.hid hsC
    have hbC' := Lib.hid hbC; clear hsC hbC
    go_wp2_with fail
    go_roundw
    case rel => exact ⟨j + 1, by omega, by go_num, hsC'.out⟩
    case measure => simp [intOf]; omega
   cases p
   ·have hsC' := Lib.hid hsC
    have hbC' := Lib.hid hbC; clear hsC hbC
    go_wp2_with fail
    go_roundw
    case rel => exact ⟨j + 1, by omega, by go_num, hsC'.out⟩
    case measure => simp [intOf]; omega
   go_wp2_with fail
   refine (c3'.out (by first | rfl | trivial) (by first | rfl | trivial) wC hbC).mono ?_
   rintro e wD ⟨rfl, hBD⟩
   have hsD := hsC.trans (hBD.mono hsC.size)
   clear z0 z1 t0 t1 hBD hbC hsC
   have hsD' := Lib.hid hsD; clear hsD
   go_wp2_with fail
   go_roundw
   case rel => exact ⟨j + 1, by omega, by go_num, hsD'.out⟩
   case measure => simp [intOf]; omega
 case rest => as_aux_lemma =>
 have hbE := hB1.trans (hcut.mono hB1.size)
 obtain ⟨wE, rfl⟩ : ∃ wo : World, wo = wc := ⟨_, rfl⟩
 clear hcut hr7' hb7' cr' ct' cp' hk' hm' hn'
 go_wp2_with fail
 refine (DrawHasExactPeriod_any _ _ wE (h1.out.below hbE)).mono ?_
 rintro e wF ⟨v2, g, u2, t, rfl, ⟨hq, hgl⟩, ⟨hu, htl⟩, hBF⟩
 obtain ⟨go, gc, rfl, -⟩ := hq.form
 obtain ⟨ta, tb, rfl, -⟩ := hu.form
 have b1 := fun w' (hB : Below wF.heap.size wF w') => implHasExactPeriod_any _ g _ t w' (hq.below hB) (show g.length ≤ _ by omega) (hu.below hB) (show t.length ≤ _ by omega)
 have b2 := fun w' (hB : Below wF.heap.size wF w') => specHasExactPeriod_any _ g _ t w' (hq.below hB) (show g.length ≤ _ by omega) (hu.below hB) (show t.length ≤ _ by omega)
 have b3 := fun w' (hB : Below wF.heap.size wF w') => implIsLoopOf_any _ g _ t w' (hq.below hB) (show g.length ≤ _ by omega) (hu.below hB) (show t.length ≤ _ by omega)
 obtain ⟨⟨e, three⟩, hp⟩ : ∃ r, HasExactPeriod_v g t = r := ⟨_, rfl⟩
 have he : e = true → three = true → IsLoopOf_v g t = (true, true) := fun e1 e2 => exact_loop (by rw [hp, e1, e2])
 rw [hp] at b1 b2
 simp only at b1 b2
 have b4 : e = true → three = true → ∀ w', Below wF.heap.size wF w' → Calls Tryz.prog 45 #[.slice go g.length gc, .slice ta t.length tb] w' (Ret (.tuple #[.bool true, .bool true]) w') := fun e1 e2 w' hB => by
  have h := b3 w' hB
  rw [he e1 e2] at h
  exact h
 have hbF := hbE.trans (hBF.mono hbE.size)
 obtain ⟨m2, hm2⟩ : ∃ m, g.length = m := ⟨_, rfl⟩
 obtain ⟨n2, hn2⟩ : ∃ n, t.length = n := ⟨_, rfl⟩
 rw [hm2, hn2] at b1 b2 b4 ⊢
 clear hq hu b3 he hp hBF
 have b1' := Lib.hid b1; have b2' := Lib.hid b2; have b4' := Lib.hid b4; have hm2' := Lib.hid hm2; have hn2' := Lib.hid hn2; have hbF' := Lib.hid hbF; clear b1 b2 b4 hm2 hn2 hbF
 go_wp2_with fail
 refine (b1'.out wF (Below.refl _ _)).mono ?_
 rintro e wG ⟨rfl, hBG⟩
 go_wp2_with fail
 refine (b2'.out wG hBG).mono ?_
 rintro e wH ⟨rfl, hBH⟩
 have hbH := hBG.trans (hBH.mono hBG.size)
 clear hBG hBH b1' b2'
 have hbH' := Lib.hid hbH; clear hbH
 go_upto_region 27 with fail
 go_cut [174] from 167 to 174 (fun s wx => s = .bool false ∧ Below wH.heap.size wH wx)
 case first => as_aux_lemma =>
  cases three
  ·cases e
   ·go_wp2_with fail
    go_meet
    exact ⟨rfl, Below.refl _ _⟩
   ·go_wp2_with fail
    go_meet
    exact ⟨rfl, Below.refl _ _⟩
  ·cases e
   ·go_wp2_with fail
    go_meet
    exact ⟨rfl, Below.refl _ _⟩
   ·go_wp2_with fail
    go_meet
    exact ⟨rfl, Below.refl _ _⟩
 case rest => as_aux_lemma =>
 obtain ⟨rfl, hBI⟩ := hcut
 obtain ⟨wI, rfl⟩ : ∃ wo : World, wo = wc := ⟨_, rfl⟩
 have hbI := hbH'.out.trans (hBI.mono hbH'.out.size)
 clear hBI hbH'
 have hbI' := Lib.hid hbI; clear hbI
 go_upto_region 29 with fail
 go_cut [178] from 175 to 178 (fun s wx => ∃ b : Bool, s = .bool b ∧ (b = true → three = true ∧ e = true) ∧ wx = wI)
 case first => as_aux_lemma =>
  cases three
  ·go_wp2_with fail
   go_meet
   exact ⟨false, rfl, (fun h => by cases h), rfl⟩
  ·cases e
   ·go_wp2_with fail
    go_meet
    exact ⟨false, rfl, (fun h => by cases h), rfl⟩
   ·go_wp2_with fail
    go_meet
    exact ⟨true, rfl, fun _ => ⟨by first | rfl | trivial, by first | rfl | trivial⟩, rfl⟩
 case rest => as_aux_lemma =>
 obtain ⟨b, rfl, hbe, rfl⟩ := hcut
 have hbe' := Lib.hid hbe; clear hbe
 go_upto_if 178 with fail
 go_cut [30, 31] from 179 to 190 (fun _ _ wx => Below wF.heap.size wF wx)
 case first => as_aux_lemma =>
  cases b
  ·go_wp2_with fail
   go_meet
   exact hbI'.out
  ·obtain ⟨rfl, rfl⟩ := hbe'.out (by first | rfl | trivial)
   go_wp2_with fail
   refine (b4'.out (by first | rfl | trivial) (by first | rfl | trivial) _ hbI'.out).mono ?_
   rintro e wJ ⟨rfl, hBJ⟩
   have hbJ := hbI'.out.trans (hBJ.mono hbI'.out.size)
   clear hBJ
   have hbJ' := Lib.hid hbJ; clear hbJ
   go_wp2_with fail
   go_meet
   exact hbJ'.out
 case rest => as_aux_lemma =>
 have hbK := hbF'.out.trans (hcut.mono hbF'.out.size)
 obtain ⟨wK, rfl⟩ : ∃ wo : World, wo = wc := ⟨_, rfl⟩
 clear hcut hbI' b4' hm2' hn2' hbF'
 go_wp2_with fail
 refine (DrawRunsThrough_any _ _ wK (h1.out.below hbK)).mono ?_
 rintro e wL ⟨v3, q, u3, r, ⟨x0, x1⟩, rfl, ⟨hq, hql⟩, ⟨hu, hrl⟩, hx, hBL⟩
 obtain ⟨qo, qc, rfl, -⟩ := hq.form
 obtain ⟨ro, rc, rfl, -⟩ := hu.form
 have hbL := hbK.trans (hBL.mono hbK.size)
 have b1 := fun w' (hB : Below wL.heap.size wL w') => implRunsThrough_any _ q _ r (x0, x1) w' (hq.below hB) (show q.length ≤ _ by omega) (hu.below hB) (show r.length ≤ _ by omega) hx
 have b2 := fun w' (hB : Below wL.heap.size wL w') => specRunsThrough_any _ q _ r (x0, x1) w' (hq.below hB) (show q.length ≤ _ by omega) (hu.below hB) (show r.length ≤ _ by omega) hx
 have hfa := fun h => @runs_box q r (x0, x1) h
 have hff := fun h => @runs_first q r (x0, x1) h
 obtain ⟨⟨R, five⟩, hp⟩ : ∃ z, RunsThrough_v q r (x0, x1) = z := ⟨_, rfl⟩
 rw [hp] at b1 b2 hfa hff
 simp only at b1 b2
 have cw : R = true → five = true → 1 ≤ r.length ∧ ∀ w', Calls Tryz.prog 48 #[quadV (nth4 r 0), .agg #[.int .i64 x0, .int .i64 x1]] w' (Ret (.bool true) w') := fun e1 e2 => by
  obtain ⟨-, ⟨k1, k2⟩, k3, k4, k5⟩ := hfa (by rw [e1, e2])
  exact ⟨(hff (by rw [e1, e2])).1, fun w' => pWithin_yes (nth4 r 0) (x0, x1) w' k1 k2 k3 k4 k5⟩
 obtain ⟨wM, hwM⟩ : ∃ W, wL.alloc (.cells #[.int .i64 x0, .int .i64 x1] 42) = W := ⟨_, rfl⟩
 have hBM : Below wL.heap.size wL wM := by rw [← hwM]; exact (Below.refl _ _).alloc (Nat.le_refl _) _
 have z0 : wM.cell? ⟨wL.heap.size, 0, none⟩ = some (.int .i64 x0) := by rw [← hwM]; simp [go_sem]
 have z1 : wM.cell? ⟨wL.heap.size, 1, none⟩ = some (.int .i64 x1) := by rw [← hwM]; simp [go_sem]
 have huw : ∀ w', Below wL.heap.size wL w' → QuadV w' (.slice ro r.length rc) r := fun w' h => hu.below h
 obtain ⟨m3, hm3⟩ : ∃ m, q.length = m := ⟨_, rfl⟩
 obtain ⟨n3, hn3⟩ : ∃ n, r.length = n := ⟨_, rfl⟩
 rw [hm3, hn3] at b1 b2 ⊢
 rw [hn3] at cw huw
 clear hq hu hp hfa hff hBL hx hbK
 have b1' := Lib.hid b1; have b2' := Lib.hid b2; have cw' := Lib.hid cw; have hm3' := Lib.hid hm3; have hn3' := Lib.hid hn3; have hbL' := Lib.hid hbL; have hwM' := Lib.hid hwM; have huw' := Lib.hid huw; clear b1 b2 cw hm3 hn3 hbL hwM huw
 go_upto_region 34 with fail
 rw [hwM'.out]
 clear hwM'
 go_wp2_with fail
 refine (b1'.out wM hBM).mono ?_
 rintro e wN ⟨rfl, hBN⟩
 have hbN := hBM.trans (hBN.mono hBM.size)
 replace z0 := bkeep hBN z0
 replace z1 := bkeep hBN z1
 clear hBN hBM
 go_wp2_with fail
 refine (b2'.out wN hbN).mono ?_
 rintro e wO ⟨rfl, hBO⟩
 have hbO := hbN.trans (hBO.mono hbN.size)
 replace z0 := bkeep hBO z0
 replace z1 := bkeep hBO z1
 clear hBO hbN b1' b2'
 have hdA : Below wO.heap.size wO wO.drew := (Below.refl _ _).drew
 have hbZ := hbL'.out.trans (hbO.mono hbL'.out.size)
 cases five
 ·have hbY := hbZ.trans (hdA.mono hbZ.size)
  clear hdA hbZ hbO
  have hbY' := Lib.hid hbY; clear hbY
  go_wp2_with fail
  refine wp_region_held_drew (S := (fun _ => True)) (by kernel_rfl) (by (try dsimp only); all_goals trivial) (fun hHeld => ?_)
  refine ly_s 0 hHeld ?_
  refine ly_s 1 hHeld ?_
  refine ly_s 2 hHeld ?_
  refine ly_s 3 hHeld ?_
  refine ly_s 4 hHeld ?_
  refine ly_s 5 hHeld ?_
  refine ly_s 6 hHeld ?_
  refine ly_s 7 hHeld ?_
  refine ly_s 8 hHeld ?_
  refine ly_s 9 hHeld ?_
  refine ly_s 10 hHeld ?_
  refine ly_s 11 hHeld ?_
  refine ly_f 12 hHeld ?_
  refine ly_f 13 hHeld ?_
  refine ly_s 14 hHeld ?_
  refine ly_s 15 hHeld ?_
  refine ly_f 16 hHeld ?_
  refine ly_f 17 hHeld ?_
  refine ly_f 18 hHeld ?_
  refine ly_f 19 hHeld ?_
  refine ly_f 20 hHeld ?_
  refine ly_s 21 hHeld ?_
  refine ly_s 22 hHeld ?_
  refine ly_s 23 hHeld ?_
  refine wpAnyH_done (by kernel_rfl) ?_ _
  clear hHeld
  go_wp2
  go_ret
  exact ⟨rfl, hbY'.out⟩
 cases R
 ·have hbY := hbZ.trans (hdA.mono hbZ.size)
  clear hdA hbZ hbO
  have hbY' := Lib.hid hbY; clear hbY
  go_wp2_with fail
  refine wp_region_held_drew (S := (fun _ => True)) (by kernel_rfl) (by (try dsimp only); all_goals trivial) (fun hHeld => ?_)
  refine ly_s 0 hHeld ?_
  refine ly_s 1 hHeld ?_
  refine ly_s 2 hHeld ?_
  refine ly_s 3 hHeld ?_
  refine ly_s 4 hHeld ?_
  refine ly_s 5 hHeld ?_
  refine ly_s 6 hHeld ?_
  refine ly_s 7 hHeld ?_
  refine ly_s 8 hHeld ?_
  refine ly_s 9 hHeld ?_
  refine ly_s 10 hHeld ?_
  refine ly_s 11 hHeld ?_
  refine ly_s 12 hHeld ?_
  refine ly_s 13 hHeld ?_
  refine ly_s 14 hHeld ?_
  refine ly_s 15 hHeld ?_
  refine ly_f 16 hHeld ?_
  refine ly_f 17 hHeld ?_
  refine ly_f 18 hHeld ?_
  refine ly_f 19 hHeld ?_
  refine ly_f 20 hHeld ?_
  refine ly_s 21 hHeld ?_
  refine ly_s 22 hHeld ?_
  refine ly_s 23 hHeld ?_
  refine wpAnyH_done (by kernel_rfl) ?_ _
  clear hHeld
  go_wp2
  go_ret
  exact ⟨rfl, hbY'.out⟩
 obtain ⟨hn31, cw⟩ := cw'.out (by first | rfl | trivial) (by first | rfl | trivial)
 obtain ⟨_, _, e3, -, -, H⟩ := (huw'.out wO hbO).form
 rw [hn3'.out] at e3 H
 obtain ⟨rfl, -, rfl⟩ := Value.slice.inj e3
 obtain ⟨b, off, rfl, y0, y1, y2, y3⟩ := H 0 (by omega)
 generalize nth4 r 0 = i at *
 obtain ⟨⟨i0, i1⟩, ⟨i2, i3⟩⟩ := i
 simp only [Nat.zero_mul, Nat.add_zero] at y0 y1 y2 y3
 have cw2 : ∀ w', Calls Tryz.prog 48 #[.agg #[.int .i64 i0, .int .i64 i1, .int .i64 i2, .int .i64 i3], .agg #[.int .i64 x0, .int .i64 x1]] w' (Ret (.bool true) w') := cw
 have at' : ∀ w', Below wO.heap.size wO w' → (w'.cell? ⟨b, off, none⟩ = some (.int .i64 i0) ∧ w'.cell? ⟨b, off + 1, none⟩ = some (.int .i64 i1) ∧ w'.cell? ⟨b, off + 2, none⟩ = some (.int .i64 i2) ∧ w'.cell? ⟨b, off + 3, none⟩ = some (.int .i64 i3)) ∧ w'.cell? ⟨wL.heap.size, 0, none⟩ = some (.int .i64 x0) ∧ w'.cell? ⟨wL.heap.size, 1, none⟩ = some (.int .i64 x1) := fun w' h => ⟨⟨bkeep h y0, bkeep h y1, bkeep h y2, bkeep h y3⟩, bkeep h z0, bkeep h z1⟩
 have g1 : (0 : Int) < (n3 : Int) := by omega
 have g2 : 0 < n3 := by omega
 clear H e3 y0 y1 y2 y3 z0 z1 cw hbO cw' huw'
 have at'' := Lib.hid at'; have cw2' := Lib.hid cw2; have hbZ' := Lib.hid hbZ; clear at' cw2 hbZ
 go_wp2_with fail
 refine wp_region_held_drew (S := (fun w' => (w'.cell? ⟨b, off, none⟩ = some (.int .i64 i0) ∧ w'.cell? ⟨b, off + 1, none⟩ = some (.int .i64 i1) ∧ w'.cell? ⟨b, off + 2, none⟩ = some (.int .i64 i2) ∧ w'.cell? ⟨b, off + 3, none⟩ = some (.int .i64 i3)) ∧ w'.cell? ⟨wL.heap.size, 0, none⟩ = some (.int .i64 x0) ∧ w'.cell? ⟨wL.heap.size, 1, none⟩ = some (.int .i64 x1))) (by kernel_rfl) (by (try dsimp only); exact at''.out _ ‹_›) (fun hHeld => ?_)
 refine ly_s 0 hHeld ?_
 refine ly_s 1 hHeld ?_
 refine ly_s 2 hHeld ?_
 refine ly_s 3 hHeld ?_
 refine ly_s 4 hHeld ?_
 refine ly_s 5 hHeld ?_
 refine ly_s 6 hHeld ?_
 refine ly_s 7 hHeld ?_
 refine ly_s 8 hHeld ?_
 refine ly_s 9 hHeld ?_
 refine ly_s 10 hHeld ?_
 refine ly_s 11 hHeld ?_
 refine ly_s 12 hHeld ?_
 refine ly_s 13 hHeld ?_
 refine ly_s 14 hHeld ?_
 refine ly_s 15 hHeld ?_
 refine ly_s 16 hHeld ?_
 refine ly_s 17 hHeld ?_
 refine ly_s 18 hHeld ?_
 refine ly_s 19 hHeld ?_
 refine ly_a 20 (fun KK hKK => ?_)
 go_simp
 refine (cw2'.out _).mono ?_
 rintro e wP ⟨rfl, hBP⟩
 have hdB := hdA.trans (hBP.mono hdA.size)
 try dsimp only
 refine hKK.out _ _ (by (try dsimp only); exact at''.out _ ‹_›) (fun hHeld => ?_)
 clear hKK KK
 try simp only [Act.put, lyA, lyB, lyC]
 refine ly_s 21 hHeld ?_
 refine ly_s 22 hHeld ?_
 refine ly_s 23 hHeld ?_
 refine wpAnyH_done (by kernel_rfl) ?_ _
 have hbY := hbZ'.out.trans (hdB.mono hbZ'.out.size)
 clear hHeld hdA hdB hBP
 have hbY' := Lib.hid hbY; clear hbY
 go_wp2
 go_ret
 exact ⟨rfl, hbY'.out⟩
set_option maxRecDepth 100000 in
theorem lawLoops_over (ao0 : Option Addr) (n0 cap0 : Nat) (ao1 : Option Addr) (n1 cap1 : Nat) (w : World) (hn0 : n0 ≤ 140737488355328) (hn1 : n1 ≤ 140737488355328) (hl : ¬ n0 + n1 ≤ 1048576) :
  Calls Tryz.prog 5 #[.slice ao0 n0 cap0, .slice ao1 n1 cap1] w (Ret (.bool true) w) := by
 have cb := big_yes ao0 n0 cap0 ao1 n1 cap1 w hn0 hn1 hl
 have cb' := Lib.hid cb; clear cb
 go_enter Tryz.func5, Tryz.ntmps5
 go_wp2_with fail
 refine (cb'.out).mono ?_
 rintro e w_ ⟨rfl, rfl⟩
 go_wp2
 go_ret
 exact ⟨rfl, Below.refl _ _⟩
theorem lawLoops_any (a0 a1 : Value) (w : World) (h0 : CodeX w a0) (h1 : CodeX w a1) :
  Calls Tryz.prog 5 #[a0, a1] w (Ret (.bool true) w) := by
 obtain ⟨ao0, n0, cap0, rfl, hn0, h0⟩ := h0
 obtain ⟨ao1, n1, cap1, rfl, hn1, h1⟩ := h1
 by_cases hl : n0 + n1 ≤ 1048576
 ·exact lawLoops_main ao0 n0 cap0 ao1 n1 cap1 w (Lib.hid (h0 (by omega))) (Lib.hid (h1 (by omega))) hl
 ·exact lawLoops_over ao0 n0 cap0 ao1 n1 cap1 w hn0 hn1 hl
open Go.ChangeShapes Go.WideShapes Go.ChangeAt in
set_option maxRecDepth 100000 in
theorem lawLoops_lifted (os : Os) (started : os.Started) (H : Type) (enc : TypeId × Value → H) :
  ReturnsInHanded {} Tryz.checked os 5 .any (Rows.fnLoopsSpec.pre6 enc Tryz.prog Tryz.f5 Rows.fnLoopsRow.domain false) (Rows.fnLoopsSpec.post enc Tryz.prog Tryz.f5 false true false false) := by
 refine returnsInHanded_of_change_sized (C := Tryz.checked) Tryz.own started (by kernel_rfl) Tryz.func5
  (ChangeSpec.witness6 (enc := enc) (C := Tryz.checked) false ⟨#[], #[.slice none 0 0, .slice none 0 0], []⟩ 8 (by kernel_rfl) (by kernel_rfl) (by kernel_rfl) (by kernel_rfl)) ?_
 intro W base args ds gs before hval0 hW _ hsz0 _
 have hsz : (DataW.weightsEach Tryz.prog (Tryz.f5.params.toList ++ Rows.fnLoopsSpec.plain.varTypes Tryz.prog) (ds ++ gs)).all (· ≤ reachBytes) = true := hsz0
 clear hsz0
 have hval : ∀ (j : Nat) t v, Tryz.f5.params[j]? = some t → args[j]? = some v → Value.okWide Tryz.prog W .any base t v := hval0
 have hW' := hW
 obtain ⟨p, q, hA0, hV, rfl, _, _⟩ := hW
 have hA : DataW.TrodAll enc Tryz.prog W 0 (fun _ => true) true Tryz.f5.params.toList args.toList ds p := hA0
 have hA' := hA
 rw [Tryz.params5] at hA hval hsz
 obtain ⟨v0, v1, d0, d1, p0, p1, rfl, rfl, rfl, h0, h1⟩ := trodAll_two hA
 obtain ⟨rfl, rfl⟩ := trodVars_none hV
 refine (lawLoops_any v0 v1 W (open_codeX (hval 0 40 v0 rfl rfl) h0 fun _ _ e => by subst e; exact sized_slice hsz (j := 0) rfl rfl Tryz.underlying40) (open_codeX (hval 1 40 v1 rfl rfl) h1 fun _ _ e => by subst e; exact sized_slice hsz (j := 1) rfl rfl Tryz.underlying40)).mono fun e W' ⟨he, hB⟩ => ?_
 subst he
 exact law_post hW' rfl hA' (by rw [Tryz.params5]; decide +kernel) rfl rfl rfl rfl hB
theorem fnLoops_holds : Rows.FnLoopsSaid :=
 OpenClaim.holds_of_wide 5 Tryz.f5 rfl rfl rfl rfl rfl rfl rfl ⟨rfl, rfl, rfl, rfl, rfl⟩ rfl rfl rfl rfl rfl (by kernel_rfl) Tryz.func5 (by kernel_rfl)
  (of_decide_eq_true (by kernel_rfl)) (by unfold Func.isWrapper; rw [if_neg (of_decide_eq_false (by kernel_rfl))]; exact ⟨rfl, rfl⟩)
  (fun os started H enc _ => lawLoops_lifted os started H enc)
#print axioms fnLoops_holds
end Go.Proofs.YtfhhofecfllbfaaGreat

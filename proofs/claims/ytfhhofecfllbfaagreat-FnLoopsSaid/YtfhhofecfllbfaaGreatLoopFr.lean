/- LoopFractions: the program's and the reference's. No conditions. -/
import Derived.Test.YtfhhofecfllbfaaGreatFixed
import Derived.Test.YtfhhofecfllbfaaGreatFixedS
import Derived.Test.YtfhhofecfllbfaaGreatPkV
import Derived.Test.YtfhhofecfllbfaaGreatPtsAt
import Derived.Test.YtfhhofecfllbfaaGreatLoopLaw
import Derived.Test.YtfhhofecfllbfaaGreatPkN
namespace Go.Proofs.YtfhhofecfllbfaaGreat
open Go.RowKit
theorem fxL_len {f : List Quad} (hf : MapP f) : (fxL f).length ≤ 100 := by
 have h := hf.len
 rw [← fxG_end hf (k := f.length - 1) (by omega) (by omega)]
 have := (fxG_law hf (f.length - 1) (by omega)).2.1
 omega
theorem lf_no1 {f l : List Quad} (h : ¬ (mapB f = true ∧ ivsB l = true)) : LoopFractions_v f l = ([], false) := by
 unfold LoopFractions_v
 rw [if_neg (fun q => h q.1)]
theorem lf_no2 {f l : List Quad} (h : ¬ l.length ≤ 6) : LoopFractions_v f l = ([], false) := by
 unfold LoopFractions_v
 rw [if_neg (fun q => h q.2.1)]
theorem lf_no3 {f l : List Quad} (h : (cmW f l.length).2 = false) : LoopFractions_v f l = ([], false) := by
 unfold LoopFractions_v
 rw [if_neg]
 rw [h]
 simp
theorem LoopFractions_len (f l : List Quad) : (LoopFractions_v f l).1.length ≤ 1099511627776 := by
 unfold LoopFractions_v
 split
 ·rename_i q
  have h1 := lfL_len f l (fxL (cmW f l.length).1) (fxL (cmW f l.length).1).length
  have h2 := fxL_len (mapB_true (cmW_map f l.length q.2.2.1))
  show (lfL f l (fxL (cmW f l.length).1) (fxL (cmW f l.length).1).length).length ≤ _
  omega
 ·exact Nat.zero_le _
theorem powerYes_any (v : Value) (f : List Quad) (n : Nat) (w : World) (hv : QuadV w v f) (hmap : mapB f = true) (hn6 : n ≤ 6) :
  Calls Tryz.prog 56 #[v, .int .i64 n] w (RetOB OwnP (cmW f n) w) := by
 have h := powerOfMap_any v f n w hv (by have := (mapB_true hmap).len; omega) (by omega)
 rwa [show pw_v f n = cmW f n by unfold pw_v; rw [if_pos ⟨hmap, hn6⟩]] at h
theorem powerNo_any (v : Value) (f : List Quad) (n : Nat) (w : World) (hv : QuadV w v f) (hm : f.length ≤ 1099511627776) (hn : n ≤ 1099511627776) (hn6 : ¬ n ≤ 6) :
  Calls Tryz.prog 56 #[v, .int .i64 n] w (RetOB OwnP (([] : List Quad), false) w) := by
 have h := powerOfMap_any v f n w hv hm hn
 rwa [show pw_v f n = ([], false) by unfold pw_v; rw [if_neg (fun q => hn6 q.2)]] at h
theorem implLoopFr_far (v : Value) (f : List Quad) (u : Value) (l : List Quad) (w : World) (hv : QuadV w v f) (hm : szPointS f ≤ 1099511627776) (hu : QuadV w u l) (hn : szIntervalS l ≤ 1099511627776) (hA : mapB f = true ∧ ivsB l = true) (h6 : ¬ l.length ≤ 6) :
  Calls Tryz.prog 11 #[v, u] w (RetOB OwnR (([] : List (Int × Int)), false) w) := by
 have c1 := asked_isMap_any v u f l w hv hu hm hn
 rw [hA.1, hA.2] at c1
 have c2 := fun w' (hB : Below w.heap.size w w') => powerNo_any v f l.length w' (hv.below hB) hm hn h6
 obtain ⟨ao, cap, rfl, -⟩ := hv.form
 obtain ⟨aou, capu, rfl, -⟩ := hu.form
 generalize f.length = m at *
 generalize l.length = n at *
 clear hv hu hA
 have c1' := Lib.hid c1; have c2' := Lib.hid c2; clear c1 c2
 go_enter Tryz.func11, Tryz.ntmps11
 go_wp2_with fail
 refine (c1'.out).mono ?_
 rintro e w1 ⟨rfl, hB1⟩
 have c3 := c2'.out w1 hB1
 have c3' := Lib.hid c3; clear c3
 go_wp2_with fail
 refine (c3'.out).mono ?_
 rintro e w2 ⟨v2, rfl, ho2, hB2⟩
 have hb2 := hB1.trans (hB2.mono hB1.size)
 obtain ⟨ao2, cap2, rfl, -⟩ := ho2.read.form
 clear ho2 hB2 hB1
 have hb2' := Lib.hid hb2; clear hb2
 go_wp2
 go_ret2
 exact ⟨_, rfl, OwnR.nil _ _ _, hb2'.out⟩
theorem specLoopFr_far (v : Value) (f : List Quad) (u : Value) (l : List Quad) (w : World) (hv : QuadV w v f) (hm : szPointS f ≤ 1099511627776) (hu : QuadV w u l) (hn : szIntervalS l ≤ 1099511627776) (hA : mapB f = true ∧ ivsB l = true) (h6 : ¬ l.length ≤ 6) :
  Calls Tryz.prog 8 #[v, u] w (RetOB OwnR (([] : List (Int × Int)), false) w) := by
 have c1 := asked_imGood_any v u f l w hv hu hm hn
 rw [hA.1, hA.2] at c1
 obtain ⟨ao, cap, rfl, -⟩ := hv.form
 obtain ⟨aou, capu, rfl, -⟩ := hu.form
 generalize f.length = m at *
 generalize l.length = n at *
 have q6 : (6 : Int) < (n : Int) := by omega
 clear hv hu hA
 have c1' := Lib.hid c1; clear c1
 go_enter Tryz.func8, Tryz.ntmps8
 go_wp2_with fail
 refine (c1'.out).mono ?_
 rintro e w1 ⟨rfl, hB1⟩
 go_wp2
 go_ret2
 exact ⟨_, rfl, OwnR.nil _ _ _, hB1⟩
set_option linter.unusedSimpArgs false in
set_option linter.unusedVariables false in
set_option maxRecDepth 10000 in
set_option maxHeartbeats 4000000 in
theorem implLoopFractions_any (v : Value) (f : List Quad) (u : Value) (l : List Quad) (w : World) (hv : QuadV w v f) (hm : szPointS f ≤ 1099511627776) (hu : QuadV w u l) (hn : szIntervalS l ≤ 1099511627776) :
  Calls Tryz.prog 11 #[v, u] w (RetOB OwnR (LoopFractions_v f l) w) := by
 by_cases hA : mapB f = true ∧ ivsB l = true
 rotate_left
 ·rw [lf_no1 hA]
  have c1 := asked_isMap_any v u f l w hv hu hm hn
  rw [show (mapB f && ivsB l) = false by cases h1 : mapB f <;> cases h2 : ivsB l <;> simp_all] at c1
  obtain ⟨ao, cap, rfl, -⟩ := hv.form
  obtain ⟨aou, capu, rfl, -⟩ := hu.form
  generalize f.length = m at *
  generalize l.length = n at *
  clear hv hu hA
  have c1' := Lib.hid c1; clear c1
  go_enter Tryz.func11, Tryz.ntmps11
  go_wp2_with fail
  refine (c1'.out).mono ?_
  rintro e w1 ⟨rfl, hB1⟩
  go_wp2
  go_ret2
  exact ⟨_, rfl, OwnR.nil _ _ _, hB1⟩
 by_cases h6 : l.length ≤ 6
 rotate_left
 ·rw [lf_no2 h6]
  exact implLoopFr_far v f u l w hv hm hu hn hA h6
 have c1 := asked_isMap_any v u f l w hv hu hm hn
 rw [hA.1, hA.2] at c1
 have c2 := fun w' (hB : Below w.heap.size w w') => powerYes_any v f l.length w' (hv.below hB) hA.1 h6
 have cF := fun (q : Value) w' (h2 : (cmW f l.length).2 = true) (hq : QuadV w' q (cmW f l.length).1) => fixed_any q (cmW f l.length).1 w' hq (mapB_true (cmW_map f _ h2))
 have hun := fun (h2 : (cmW f l.length).2 = true) => fxL_unit (mapB_true (cmW_map f l.length h2))
 have hfl := fun (h2 : (cmW f l.length).2 = true) => fxL_len (mapB_true (cmW_map f l.length h2))
 have cR := fun w' (hB : Below w.heap.size w w') (x : Int × Int) (hx : unitR x.1 x.2 = true) => runsThrough_any v u f l x w' (hv.below hB) (hu.below hB) (mapB_true hA.1) hA.2 hx
 have hv3 := @lf_no3 f l
 have hV0 : LoopFractions_v f l = if (mapB f = true ∧ ivsB l = true) ∧ l.length ≤ 6 ∧ (cmW f l.length).2 = true ∧ lfOk f l (fxL (cmW f l.length).1) (fxL (cmW f l.length).1).length = true then (lfL f l (fxL (cmW f l.length).1) (fxL (cmW f l.length).1).length, true) else ([], false) := rfl
 obtain ⟨V, hV⟩ : ∃ V, LoopFractions_v f l = V := ⟨_, rfl⟩
 rw [hV] at hv3 hV0 ⊢
 obtain ⟨⟨G, M⟩, hG⟩ : ∃ r, cmW f l.length = r := ⟨_, rfl⟩
 rw [hG] at c2 cF hun hfl hv3 hV0
 simp only at cF hun hfl hv3 hV0
 cases M
 ·have hV1 := hv3 rfl
  subst hV1
  obtain ⟨ao, cap, rfl, -⟩ := hv.form
  obtain ⟨aou, capu, rfl, -⟩ := hu.form
  generalize f.length = m at *
  generalize l.length = n at *
  have q6 : ¬ (6 : Int) < (n : Int) := by omega
  clear hv hu hA cF hun hfl cR hv3 hV0 hV hG
  have c1' := Lib.hid c1; have c2' := Lib.hid c2; clear c1 c2
  go_enter Tryz.func11, Tryz.ntmps11
  go_wp2_with fail
  refine (c1'.out).mono ?_
  rintro e w1 ⟨rfl, hB1⟩
  have c3 := c2'.out w1 hB1
  have c3' := Lib.hid c3; clear c3
  go_wp2_with fail
  refine (c3'.out).mono ?_
  rintro e w2 ⟨v2, rfl, ho2, hB2⟩
  have hb2 := hB1.trans (hB2.mono hB1.size)
  obtain ⟨ao2, cap2, rfl, -⟩ := ho2.read.form
  clear ho2 hB2 hB1
  have hb2' := Lib.hid hb2; clear hb2
  go_wp2
  go_ret2
  exact ⟨_, rfl, OwnR.nil _ _ _, hb2'.out⟩
 have hun1 := hun rfl
 have hfl1 := hfl rfl
 have cF1 := fun q w' hq => cF q w' rfl hq
 obtain ⟨XS, hXS⟩ : ∃ XS, fxL G = XS := ⟨_, rfl⟩
 rw [hXS] at hun1 hfl1 cF1 hV0
 obtain ⟨N, hN⟩ : ∃ N, XS.length = N := ⟨_, rfl⟩
 have hu2 : ∀ k, k < N → unitR (nthR XS k).1 (nthR XS k).2 = true := fun k hk => hun1 _ (by rw [nthR_eq (by rw [hN]; exact hk)]; exact List.getElem_mem _)
 rw [hN] at hfl1 hV0
 have hst := lfL_step f l XS
 have hos := lfOk_step f l XS
 have hln := lfL_len f l XS
 have hL0 : lfL f l XS 0 = [] := rfl
 have hO0 : lfOk f l XS 0 = true := rfl
 have hno : ∀ k, k < N → (runs_v f l (nthR XS k)).2 = false → V = ([], false) := fun k hk hb => by
  rw [hV0, if_neg]
  rw [lfOk_false hk hb]
  simp
 have hyes : lfOk f l XS N = true → V = (lfL f l XS N, true) := fun h => by rw [hV0, if_pos ⟨hA, h6, rfl, h⟩]
 obtain ⟨ao, cap, rfl, -⟩ := hv.form
 obtain ⟨aou, capu, rfl, -⟩ := hu.form
 generalize f.length = m at *
 generalize l.length = n at *
 have q6 : ¬ (6 : Int) < (n : Int) := by omega
 generalize lfL f l XS = LF at *
 generalize lfOk f l XS = OK at *
 clear hv hu hA cF hun hfl hv3 hV0 hV hG hXS hun1
 have c1' := Lib.hid c1; have c2' := Lib.hid c2; have cF1' := Lib.hid cF1; have hfl1' := Lib.hid hfl1; have cR' := Lib.hid cR; have hN' := Lib.hid hN; have hu2' := Lib.hid hu2; have hst' := Lib.hid hst; have hos' := Lib.hid hos; have hln' := Lib.hid hln; have hL0' := Lib.hid hL0; have hO0' := Lib.hid hO0; have hno' := Lib.hid hno; have hyes' := Lib.hid hyes; clear c1 c2 cF1 hfl1 cR hN hu2 hst hos hln hL0 hO0 hno hyes
 go_enter Tryz.func11, Tryz.ntmps11
 go_wp2_with fail
 refine (c1'.out).mono ?_
 rintro e w1 ⟨rfl, hB1⟩
 have c3 := c2'.out w1 hB1
 have c3' := Lib.hid c3; clear c3
 go_wp2_with fail
 refine (c3'.out).mono ?_
 rintro e w2 ⟨v2, rfl, ho2, hB2⟩
 have hb2 := hB1.trans (hB2.mono hB1.size)
 have c4 := cF1'.out v2 w2 ho2.read
 obtain ⟨ao2, cap2, rfl, -⟩ := ho2.read.form
 clear ho2 hB2 hB1 c1' c2' c3' cF1'
 have c4' := Lib.hid c4; have hb2' := Lib.hid hb2; clear c4 hb2
 go_wp2_with fail
 refine (c4'.out).mono ?_
 rintro e w3 ⟨v3, rfl, hh3, hB3⟩
 have hb3 := hb2'.out.trans (hB3.mono hb2'.out.size)
 obtain ⟨ao3, cap3, rfl, -, -, H⟩ := RatsV.form (GrowR.read hh3.2)
 have hs3 := hb3.size
 rw [hN'.out] at H ⊢
 clear hh3 hB3 hb2' c4' hN'
 have hb3' := Lib.hid hb3; have H' := Lib.hid H; clear hb3 H
 go_wp2
 go_loopw [8, 29] (fun o i wr => ∃ k : Nat, k ≤ N ∧ i = .int .i64 k ∧ GrowR wr w3.heap.size o (LF k) ∧ OK k = true ∧ Below w3.heap.size w3 wr) (fun _ i _ => N - (intOf i).toNat)
 case atStart => exact ⟨0, Nat.zero_le _, rfl, by rw [hL0'.out]; exact GrowR.nil _ _, hO0'.out, Below.refl _ _⟩
 case round =>
  obtain ⟨k, hk, rfl, hg, hok, hB⟩ := hrel
  have hfN := hfl1'.out
  by_cases hlt : k < N
  ·obtain ⟨b, off, rfl, p0, p1⟩ := H'.out k hlt
   replace p0 := bkeep hB p0
   replace p1 := bkeep hB p1
   have hst1 := hst'.out k
   have hos1 := hos'.out k
   have hno1 := hno'.out k hlt
   have hlen : (LF k).length ≤ 1000 := by have := hln'.out k; omega
   have cR1 := fun w' hb => cR'.out w' hb (nthR XS k) (hu2'.out k hlt)
   rw [hok, Bool.true_and] at hos1
   obtain ⟨⟨r1, r2⟩, hr⟩ : ∃ r, runs_v f l (nthR XS k) = r := ⟨_, rfl⟩
   rw [hr] at cR1 hst1 hos1 hno1
   clear hr hok
   generalize nthR XS k = P at *
   obtain ⟨x0, x1⟩ := P
   simp only at p0 p1 cR1 hst1 hos1 hno1
   obtain ⟨w4, hw4⟩ : ∃ W, wr.alloc (.cells #[.int .i64 x0, .int .i64 x1] 42) = W := ⟨_, rfl⟩
   have hB4 : Below wr.heap.size wr w4 := by rw [← hw4]; exact (Below.refl _ _).alloc (Nat.le_refl _) _
   have hb4 := hB.trans (hB4.mono hB.size)
   have hbw := hb3'.out.trans (hb4.mono hb3'.out.size)
   have q0 : w4.cell? ⟨wr.heap.size, 0, none⟩ = some (.int .i64 x0) := by rw [← hw4]; simp [go_sem]
   have q1 : w4.cell? ⟨wr.heap.size, 1, none⟩ = some (.int .i64 x1) := by rw [← hw4]; simp [go_sem]
   have cR2 := cR1 w4 hbw
   have hg4 := hg.below hB4
   clear cR1 hbw hB4 hB hg
   have cR2' := Lib.hid cR2; have hst1' := Lib.hid hst1; have hos1' := Lib.hid hos1; have hno1' := Lib.hid hno1; have hw4' := Lib.hid hw4; have hg4' := Lib.hid hg4; have hb4' := Lib.hid hb4; have hlen' := Lib.hid hlen; clear cR2 hst1 hos1 hno1 hw4 hg4 hb4 hlen
   go_upto_region 10 with fail
   rw [hw4'.out]
   clear p0 p1
   go_wp2_with fail
   refine (cR2'.out).mono ?_
   rintro e w5 ⟨rfl, hB5⟩
   replace q0 := bkeep hB5 q0
   replace q1 := bkeep hB5 q1
   have hg5 := hg4'.out.below hB5
   have hb5 := hb4'.out.trans (hB5.mono hb4'.out.size)
   have hs5 := hb5.size
   clear hB5 hg4' hb4' hw4' cR2'
   cases r2
   ·have hV2 := hno1'.out rfl
    subst hV2
    have hbF := hb3'.out.trans (hb5.mono hb3'.out.size)
    clear hg5 hb5
    have hbF' := Lib.hid hbF; clear hbF
    go_wp2
    go_ret2
    exact ⟨_, rfl, OwnR.nil _ _ _, hbF'.out⟩
   ·cases r1
    ·have hst2 : LF (k + 1) = LF k := hst1'.out
     rw [← hst2] at hg5
     have hg5' := Lib.hid hg5; have hb5' := Lib.hid hb5; have hst2' := Lib.hid hst2; clear hg5 hb5 hst2
     go_wp2
     go_roundw
     case rel => exact ⟨k + 1, by omega, by go_num, hg5'.out, hos1'.out, hb5'.out⟩
     case measure => simp [intOf]; omega
    ·have hst2 : LF (k + 1) = LF k ++ [(x0, x1)] := hst1'.out
     have hg5' := Lib.hid hg5; have hb5' := Lib.hid hb5; have hst2' := Lib.hid hst2; clear hg5 hb5 hst2
     go_wp2_with (at_builtin; refine wpList_append_rat rfl _ _ rfl w3.heap.size u8 (LF k) x0 x1 _ rfl rfl hg5'.out (by have := hlen'.out; omega) hs5 ?_)
     intro v' w' hown' hgrow
     have hbf := hg5'.out.belowB hb5'.out (Nat.le_refl _) hs5 hgrow
     rw [← hst2'.out] at hown'
     clear hgrow q0 q1
     have hown'' := Lib.hid hown'; have hbf' := Lib.hid hbf; clear hown' hbf
     go_wp2
     go_roundw
     case rel => exact ⟨k + 1, by omega, by go_num, hown''.out, hos1'.out, hbf'.out⟩
     case measure => simp [intOf]; omega
  ·obtain rfl : k = N := by omega
   have hV1 := hyes'.out hok
   subst hV1
   have ho := OwnR.mono hg.own (hB := hs3) (hE := Nat.le_refl _)
   have hbF := hb3'.out.trans (hB.mono hb3'.out.size)
   clear hg hB H' hyes' hno'
   have ho' := Lib.hid ho; have hbF' := Lib.hid hbF; clear ho hbF
   go_wp2
   go_ret2
   exact ⟨_, rfl, ho'.out, hbF'.out⟩
set_option linter.unusedSimpArgs false in
set_option linter.unusedVariables false in
set_option maxRecDepth 10000 in
set_option maxHeartbeats 4000000 in
theorem specLoopFractions_any (v : Value) (f : List Quad) (u : Value) (l : List Quad) (w : World) (hv : QuadV w v f) (hm : szPointS f ≤ 1099511627776) (hu : QuadV w u l) (hn : szIntervalS l ≤ 1099511627776) :
  Calls Tryz.prog 8 #[v, u] w (RetOB OwnR (LoopFractions_v f l) w) := by
 by_cases hA : mapB f = true ∧ ivsB l = true
 rotate_left
 ·rw [lf_no1 hA]
  have c1 := asked_imGood_any v u f l w hv hu hm hn
  rw [show (mapB f && ivsB l) = false by cases h1 : mapB f <;> cases h2 : ivsB l <;> simp_all] at c1
  obtain ⟨ao, cap, rfl, -⟩ := hv.form
  obtain ⟨aou, capu, rfl, -⟩ := hu.form
  generalize f.length = m at *
  generalize l.length = n at *
  clear hv hu hA
  have c1' := Lib.hid c1; clear c1
  go_enter Tryz.func8, Tryz.ntmps8
  go_wp2_with fail
  refine (c1'.out).mono ?_
  rintro e w1 ⟨rfl, hB1⟩
  go_wp2
  go_ret2
  exact ⟨_, rfl, OwnR.nil _ _ _, hB1⟩
 by_cases h6 : l.length ≤ 6
 rotate_left
 ·rw [lf_no2 h6]
  exact specLoopFr_far v f u l w hv hm hu hn hA h6
 have c1 := asked_imGood_any v u f l w hv hu hm hn
 rw [hA.1, hA.2] at c1
 have c2 := fun w' (hB : Below w.heap.size w w') => coPower_any v f l.length w' (hv.below hB) hA.1 h6
 have cF := fun (q : Value) w' (h2 : (cmW f l.length).2 = true) (hq : QuadV w' q (cmW f l.length).1) => chFixed_any q (cmW f l.length).1 w' hq (mapB_true (cmW_map f _ h2))
 have hun := fun (h2 : (cmW f l.length).2 = true) => fxL_unit (mapB_true (cmW_map f l.length h2))
 have hfl := fun (h2 : (cmW f l.length).2 = true) => fxL_len (mapB_true (cmW_map f l.length h2))
 have cR := fun w' (hB : Below w.heap.size w w') (x : Int × Int) (hx : unitR x.1 x.2 = true) => chRuns_any v u f l x w' (hv.below hB) (hu.below hB) (mapB_true hA.1) hA.2 hx
 have hv3 := @lf_no3 f l
 have hV0 : LoopFractions_v f l = if (mapB f = true ∧ ivsB l = true) ∧ l.length ≤ 6 ∧ (cmW f l.length).2 = true ∧ lfOk f l (fxL (cmW f l.length).1) (fxL (cmW f l.length).1).length = true then (lfL f l (fxL (cmW f l.length).1) (fxL (cmW f l.length).1).length, true) else ([], false) := rfl
 obtain ⟨V, hV⟩ : ∃ V, LoopFractions_v f l = V := ⟨_, rfl⟩
 rw [hV] at hv3 hV0 ⊢
 obtain ⟨⟨G, M⟩, hG⟩ : ∃ r, cmW f l.length = r := ⟨_, rfl⟩
 rw [hG] at c2 cF hun hfl hv3 hV0
 simp only at cF hun hfl hv3 hV0
 cases M
 ·have hV1 := hv3 rfl
  subst hV1
  obtain ⟨ao, cap, rfl, -⟩ := hv.form
  obtain ⟨aou, capu, rfl, -⟩ := hu.form
  generalize f.length = m at *
  generalize l.length = n at *
  have q6 : ¬ (6 : Int) < (n : Int) := by omega
  clear hv hu hA cF hun hfl cR hv3 hV0 hV hG
  have c1' := Lib.hid c1; have c2' := Lib.hid c2; clear c1 c2
  go_enter Tryz.func8, Tryz.ntmps8
  go_wp2_with fail
  refine (c1'.out).mono ?_
  rintro e w1 ⟨rfl, hB1⟩
  have c3 := c2'.out w1 hB1
  have c3' := Lib.hid c3; clear c3
  go_wp2_with fail
  refine (c3'.out).mono ?_
  rintro e w2 ⟨v2, rfl, ho2, hB2⟩
  have hb2 := hB1.trans (hB2.mono hB1.size)
  obtain ⟨ao2, cap2, rfl, -⟩ := ho2.read.form
  clear ho2 hB2 hB1
  have hb2' := Lib.hid hb2; clear hb2
  go_wp2
  go_ret2
  exact ⟨_, rfl, OwnR.nil _ _ _, hb2'.out⟩
 have hun1 := hun rfl
 have hfl1 := hfl rfl
 have cF1 := fun q w' hq => cF q w' rfl hq
 obtain ⟨XS, hXS⟩ : ∃ XS, fxL G = XS := ⟨_, rfl⟩
 rw [hXS] at hun1 hfl1 cF1 hV0
 obtain ⟨N, hN⟩ : ∃ N, XS.length = N := ⟨_, rfl⟩
 have hu2 : ∀ k, k < N → unitR (nthR XS k).1 (nthR XS k).2 = true := fun k hk => hun1 _ (by rw [nthR_eq (by rw [hN]; exact hk)]; exact List.getElem_mem _)
 rw [hN] at hfl1 hV0
 have hst := lfL_step f l XS
 have hos := lfOk_step f l XS
 have hln := lfL_len f l XS
 have hL0 : lfL f l XS 0 = [] := rfl
 have hO0 : lfOk f l XS 0 = true := rfl
 have hno : ∀ k, k < N → (runs_v f l (nthR XS k)).2 = false → V = ([], false) := fun k hk hb => by
  rw [hV0, if_neg]
  rw [lfOk_false hk hb]
  simp
 have hyes : lfOk f l XS N = true → V = (lfL f l XS N, true) := fun h => by rw [hV0, if_pos ⟨hA, h6, rfl, h⟩]
 obtain ⟨ao, cap, rfl, -⟩ := hv.form
 obtain ⟨aou, capu, rfl, -⟩ := hu.form
 generalize f.length = m at *
 generalize l.length = n at *
 have q6 : ¬ (6 : Int) < (n : Int) := by omega
 generalize lfL f l XS = LF at *
 generalize lfOk f l XS = OK at *
 clear hv hu hA cF hun hfl hv3 hV0 hV hG hXS hun1
 have c1' := Lib.hid c1; have c2' := Lib.hid c2; have cF1' := Lib.hid cF1; have hfl1' := Lib.hid hfl1; have cR' := Lib.hid cR; have hN' := Lib.hid hN; have hu2' := Lib.hid hu2; have hst' := Lib.hid hst; have hos' := Lib.hid hos; have hln' := Lib.hid hln; have hL0' := Lib.hid hL0; have hO0' := Lib.hid hO0; have hno' := Lib.hid hno; have hyes' := Lib.hid hyes; clear c1 c2 cF1 hfl1 cR hN hu2 hst hos hln hL0 hO0 hno hyes
 go_enter Tryz.func8, Tryz.ntmps8
 go_wp2_with fail
 refine (c1'.out).mono ?_
 rintro e w1 ⟨rfl, hB1⟩
 have c3 := c2'.out w1 hB1
 have c3' := Lib.hid c3; clear c3
 go_wp2_with fail
 refine (c3'.out).mono ?_
 rintro e w2 ⟨v2, rfl, ho2, hB2⟩
 have hb2 := hB1.trans (hB2.mono hB1.size)
 have c4 := cF1'.out v2 w2 ho2.read
 obtain ⟨ao2, cap2, rfl, -⟩ := ho2.read.form
 clear ho2 hB2 hB1 c1' c2' c3' cF1'
 have c4' := Lib.hid c4; have hb2' := Lib.hid hb2; clear c4 hb2
 go_wp2_with fail
 refine (c4'.out).mono ?_
 rintro e w3 ⟨v3, rfl, hh3, hB3⟩
 have hb3 := hb2'.out.trans (hB3.mono hb2'.out.size)
 obtain ⟨ao3, cap3, rfl, -, -, H⟩ := RatsV.form (GrowR.read hh3.2)
 have hs3 := hb3.size
 rw [hN'.out] at H ⊢
 clear hh3 hB3 hb2' c4' hN'
 have hb3' := Lib.hid hb3; have H' := Lib.hid H; clear hb3 H
 go_wp2
 go_loopw [8, 34] (fun o i wr => ∃ k : Nat, k ≤ N ∧ i = .int .i64 k ∧ GrowR wr w3.heap.size o (LF k) ∧ OK k = true ∧ Below w3.heap.size w3 wr) (fun _ i _ => N - (intOf i).toNat)
 case atStart => exact ⟨0, Nat.zero_le _, rfl, by rw [hL0'.out]; exact GrowR.nil _ _, hO0'.out, Below.refl _ _⟩
 case round =>
  obtain ⟨k, hk, rfl, hg, hok, hB⟩ := hrel
  have hfN := hfl1'.out
  by_cases hlt : k < N
  ·obtain ⟨b, off, rfl, p0, p1⟩ := H'.out k hlt
   replace p0 := bkeep hB p0
   replace p1 := bkeep hB p1
   have hst1 := hst'.out k
   have hos1 := hos'.out k
   have hno1 := hno'.out k hlt
   have hlen : (LF k).length ≤ 1000 := by have := hln'.out k; omega
   have cR1 := fun w' hb => cR'.out w' hb (nthR XS k) (hu2'.out k hlt)
   rw [hok, Bool.true_and] at hos1
   obtain ⟨⟨r1, r2⟩, hr⟩ : ∃ r, runs_v f l (nthR XS k) = r := ⟨_, rfl⟩
   rw [hr] at cR1 hst1 hos1 hno1
   clear hr hok
   generalize nthR XS k = P at *
   obtain ⟨x0, x1⟩ := P
   simp only at p0 p1 cR1 hst1 hos1 hno1
   obtain ⟨w4, hw4⟩ : ∃ W, wr.alloc (.cells #[.int .i64 x0, .int .i64 x1] 42) = W := ⟨_, rfl⟩
   have hB4 : Below wr.heap.size wr w4 := by rw [← hw4]; exact (Below.refl _ _).alloc (Nat.le_refl _) _
   have hb4 := hB.trans (hB4.mono hB.size)
   have hbw := hb3'.out.trans (hb4.mono hb3'.out.size)
   have q0 : w4.cell? ⟨wr.heap.size, 0, none⟩ = some (.int .i64 x0) := by rw [← hw4]; simp [go_sem]
   have q1 : w4.cell? ⟨wr.heap.size, 1, none⟩ = some (.int .i64 x1) := by rw [← hw4]; simp [go_sem]
   have cR2 := cR1 w4 hbw
   have hg4 := hg.below hB4
   clear cR1 hbw hB4 hB hg
   have cR2' := Lib.hid cR2; have hst1' := Lib.hid hst1; have hos1' := Lib.hid hos1; have hno1' := Lib.hid hno1; have hw4' := Lib.hid hw4; have hg4' := Lib.hid hg4; have hb4' := Lib.hid hb4; have hlen' := Lib.hid hlen; clear cR2 hst1 hos1 hno1 hw4 hg4 hb4 hlen
   go_upto_region 10 with fail
   rw [hw4'.out]
   clear p0 p1
   go_wp2_with fail
   refine (cR2'.out).mono ?_
   rintro e w5 ⟨rfl, hB5⟩
   replace q0 := bkeep hB5 q0
   replace q1 := bkeep hB5 q1
   have hg5 := hg4'.out.below hB5
   have hb5 := hb4'.out.trans (hB5.mono hb4'.out.size)
   have hs5 := hb5.size
   clear hB5 hg4' hb4' hw4' cR2'
   cases r2
   ·have hV2 := hno1'.out rfl
    subst hV2
    have hbF := hb3'.out.trans (hb5.mono hb3'.out.size)
    clear hg5 hb5
    have hbF' := Lib.hid hbF; clear hbF
    go_wp2
    go_ret2
    exact ⟨_, rfl, OwnR.nil _ _ _, hbF'.out⟩
   ·cases r1
    ·have hst2 : LF (k + 1) = LF k := hst1'.out
     rw [← hst2] at hg5
     have hg5' := Lib.hid hg5; have hb5' := Lib.hid hb5; have hst2' := Lib.hid hst2; clear hg5 hb5 hst2
     go_wp2
     go_roundw
     case rel => exact ⟨k + 1, by omega, by go_num, hg5'.out, hos1'.out, hb5'.out⟩
     case measure => simp [intOf]; omega
    ·have hst2 : LF (k + 1) = LF k ++ [(x0, x1)] := hst1'.out
     have hg5' := Lib.hid hg5; have hb5' := Lib.hid hb5; have hst2' := Lib.hid hst2; clear hg5 hb5 hst2
     go_wp2_with (at_builtin; refine wpList_append_rat rfl _ _ rfl w3.heap.size u8 (LF k) x0 x1 _ rfl rfl hg5'.out (by have := hlen'.out; omega) hs5 ?_)
     intro v' w' hown' hgrow
     have hbf := hg5'.out.belowB hb5'.out (Nat.le_refl _) hs5 hgrow
     rw [← hst2'.out] at hown'
     clear hgrow q0 q1
     have hown'' := Lib.hid hown'; have hbf' := Lib.hid hbf; clear hown' hbf
     go_wp2
     go_roundw
     case rel => exact ⟨k + 1, by omega, by go_num, hown''.out, hos1'.out, hbf'.out⟩
     case measure => simp [intOf]; omega
  ·obtain rfl : k = N := by omega
   have hV1 := hyes'.out hok
   subst hV1
   have ho := OwnR.mono hg.own (hB := hs3) (hE := Nat.le_refl _)
   have hbF := hb3'.out.trans (hB.mono hb3'.out.size)
   clear hg hB H' hyes' hno'
   have ho' := Lib.hid ho; have hbF' := Lib.hid hbF; clear ho hbF
   go_wp2
   go_ret2
   exact ⟨_, rfl, ho'.out, hbF'.out⟩
end Go.Proofs.YtfhhofecfllbfaaGreat

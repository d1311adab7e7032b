/- FnGraphParts: for every input the law returns true, and the arguments read as before. No conditions. -/
import Derived.Test.YtblippeklbhepaaDrawG3
import Derived.Test.YtblippeklbhepaaPartLaw
import Derived.Test.YtblippeklbhepaaStR
import Derived.Test.YtblippeklbhepaaLiftC
import Derived.Deep.Cut
import Derived.Deep.CutRange
import Derived.Deep.CutBlock
namespace Go.Proofs.Ytblippeklbhepaa
open Go.RowKit

set_option maxRecDepth 100000 in
set_option maxHeartbeats 12000000 in
theorem lawGraphParts_main (ao0 : Option Addr) (n0 cap0 : Nat) (ao1 : Option Addr) (n1 cap1 : Nat) (w : World) (h0 : Hid (CodeV w (.slice ao0 n0 cap0) n0)) (h1 : Hid (CodeV w (.slice ao1 n1 cap1) n1)) (hl : n0 + n1 ≤ 1048576) :
    Calls Try.prog 5 #[.slice ao0 n0 cap0, .slice ao1 n1 cap1] w (Ret (.bool true) w) := by
  have hR := StTb.start w
  have hS := St.start w
  go_enter Try.func5, Try.ntmps5
  go_wp2_with fail
  refine (DrawStrongParts_any _ _ w (h0.out.below hR.below)).mono ?_
  rintro e w1 ⟨v1, g, rfl, q1, ⟨lg, zg⟩, hB1⟩
  replace hR := hR.push hB1 (show RowsV _ _ g from q1)
  replace hS := hS.next hB1
  clear hB1
  clear q1
  obtain ⟨⟨p, ok⟩, hr1⟩ : ∃ r, StrongParts_v g = r := ⟨_, rfl⟩
  have zr1 := StrongParts_len g
  rw [hr1] at zr1
  have hr1' := Lib.hid hr1
  clear hr1
  have cc := implStrongParts_any _ g w1 (hR.get (v := v1) (xs := g) (by simp)) (by omega)
  rw [hr1'.out] at cc
  have cc' := Lib.hid cc
  clear cc
  go_wp2_with fail
  refine (cc'.out).mono ?_
  rintro e w2 ⟨v2, rfl, q1, hB2⟩
  replace hR := hR.next hB2
  replace hS := hS.push hB2 (show IntsV _ _ p from q1.read)
  clear hB2
  clear q1 cc'
  have cc := specStrongParts_any _ g w2 (hR.get (v := v1) (xs := g) (by simp)) (by omega)
  rw [hr1'.out] at cc
  have cc' := Lib.hid cc
  clear cc
  go_wp2_with fail
  refine (cc'.out).mono ?_
  rintro e w3 ⟨v3, rfl, q1, hB3⟩
  replace hR := hR.next hB3
  replace hS := hS.push hB3 (show IntsV _ _ p from q1.read)
  clear hB3
  clear q1 cc'
  obtain ⟨⟨t, one⟩, hr2⟩ : ∃ r, IsTransitive_v g = r := ⟨_, rfl⟩
  have hr2' := Lib.hid hr2
  clear hr2
  have cc := implIsTransitive_any _ g w3 (hR.get (v := v1) (xs := g) (by simp)) (by omega)
  rw [hr2'.out] at cc
  have cc' := Lib.hid cc
  clear cc
  go_wp2_with fail
  refine (cc'.out).mono ?_
  rintro e w4 ⟨rfl, hB4⟩
  replace hR := hR.next hB4
  replace hS := hS.next hB4
  clear hB4
  clear cc'
  have cc := specIsTransitive_any _ g w4 (hR.get (v := v1) (xs := g) (by simp)) (by omega)
  rw [hr2'.out] at cc
  have cc' := Lib.hid cc
  clear cc
  go_wp2_with fail
  refine (cc'.out).mono ?_
  rintro e w5 ⟨rfl, hB5⟩
  replace hR := hR.next hB5
  replace hS := hS.next hB5
  clear hB5
  clear cc'
  obtain ⟨⟨n, three⟩, hr3⟩ : ∃ r, GraphPeriod_v g = r := ⟨_, rfl⟩
  have hr3' := Lib.hid hr3
  clear hr3
  have cc := implGraphPeriod_any _ g w5 (hR.get (v := v1) (xs := g) (by simp)) (by omega)
  rw [hr3'.out] at cc
  have cc' := Lib.hid cc
  clear cc
  go_wp2_with fail
  refine (cc'.out).mono ?_
  rintro e w6 ⟨rfl, hB6⟩
  replace hR := hR.next hB6
  replace hS := hS.next hB6
  clear hB6
  clear cc'
  have cc := specGraphPeriod_any _ g w6 (hR.get (v := v1) (xs := g) (by simp)) (by omega)
  rw [hr3'.out] at cc
  have cc' := Lib.hid cc
  clear cc
  go_wp2_with fail
  refine (cc'.out).mono ?_
  rintro e w7 ⟨rfl, hB7⟩
  replace hR := hR.next hB7
  replace hS := hS.next hB7
  clear hB7
  clear cc'
  obtain ⟨⟨pr, five⟩, hr4⟩ : ∃ r, IsPrimitive_v g = r := ⟨_, rfl⟩
  have hr4' := Lib.hid hr4
  clear hr4
  have cc := implIsPrimitive_any _ g w7 (hR.get (v := v1) (xs := g) (by simp)) (by omega)
  rw [hr4'.out] at cc
  have cc' := Lib.hid cc
  clear cc
  go_wp2_with fail
  refine (cc'.out).mono ?_
  rintro e w8 ⟨rfl, hB8⟩
  replace hR := hR.next hB8
  replace hS := hS.next hB8
  clear hB8
  clear cc'
  have cc := specIsPrimitive_any _ g w8 (hR.get (v := v1) (xs := g) (by simp)) (by omega)
  rw [hr4'.out] at cc
  have cc' := Lib.hid cc
  clear cc
  go_wp2_with fail
  refine (cc'.out).mono ?_
  rintro e w9 ⟨rfl, hB9⟩
  replace hR := hR.next hB9
  replace hS := hS.next hB9
  clear hB9
  clear cc'
  go_wp2_with fail
  refine (DrawShortestWalk_any _ _ w9 (h1.out.below hR.below)).mono ?_
  rintro e w10 ⟨v4, h, x, y, rfl, q1, ⟨lh, zh⟩, ⟨lox, hix⟩, ⟨loy, hiy⟩, hB10⟩
  replace hR := hR.push hB10 (show RowsV _ _ h from q1)
  replace hS := hS.next hB10
  clear hB10
  clear q1
  obtain ⟨⟨l, seven⟩, hr5⟩ : ∃ r, ShortestWalk_v h x y = r := ⟨_, rfl⟩
  have zr5 := ShortestWalk_len h x y
  rw [hr5] at zr5
  have hr5' := Lib.hid hr5
  clear hr5
  have cc := implShortestWalk_any _ h x y w10 (hR.get (v := v4) (xs := h) (by simp)) (by omega) (by unfold I64; omega) (by unfold I64; omega)
  rw [hr5'.out] at cc
  have cc' := Lib.hid cc
  clear cc
  go_wp2_with fail
  refine (cc'.out).mono ?_
  rintro e w11 ⟨v5, rfl, q1, hB11⟩
  replace hR := hR.next hB11
  replace hS := hS.push hB11 (show IntsV _ _ l from q1.read)
  clear hB11
  clear q1 cc'
  have cc := specShortestWalk_any _ h x y w11 (hR.get (v := v4) (xs := h) (by simp)) (by omega) (by unfold I64; omega) (by unfold I64; omega)
  rw [hr5'.out] at cc
  have cc' := Lib.hid cc
  clear cc
  go_wp2_with fail
  refine (cc'.out).mono ?_
  rintro e w12 ⟨v6, rfl, q1, hB12⟩
  replace hR := hR.next hB12
  replace hS := hS.push hB12 (show IntsV _ _ l from q1.read)
  clear hB12
  clear q1 cc'
  go_wp2_with fail
  refine (DrawReachOf_any _ _ w12 (h1.out.below hR.below)).mono ?_
  rintro e w13 ⟨v7, a, x7, rfl, q1, ⟨la, za⟩, ⟨lox7, hix7⟩, hB13⟩
  replace hR := hR.push hB13 (show RowsV _ _ a from q1)
  replace hS := hS.next hB13
  clear hB13
  clear q1
  obtain ⟨⟨rr, nine⟩, hr6⟩ : ∃ r, ReachOf_v a x7 = r := ⟨_, rfl⟩
  have zr6 := ReachOf_len a x7
  rw [hr6] at zr6
  have hr6' := Lib.hid hr6
  clear hr6
  have cc := implReachOf_any _ a x7 w13 (hR.get (v := v7) (xs := a) (by simp)) (by omega) (by unfold I64; omega)
  rw [hr6'.out] at cc
  have cc' := Lib.hid cc
  clear cc
  go_wp2_with fail
  refine (cc'.out).mono ?_
  rintro e w14 ⟨v8, rfl, q1, hB14⟩
  replace hR := hR.next hB14
  replace hS := hS.push hB14 (show IntsV _ _ rr from q1.read)
  clear hB14
  clear q1 cc'
  have cc := specReachOf_any _ a x7 w14 (hR.get (v := v7) (xs := a) (by simp)) (by omega) (by unfold I64; omega)
  rw [hr6'.out] at cc
  have cc' := Lib.hid cc
  clear cc
  go_wp2_with fail
  refine (cc'.out).mono ?_
  rintro e w15 ⟨v9, rfl, q1, hB15⟩
  replace hR := hR.next hB15
  replace hS := hS.push hB15 (show IntsV _ _ rr from q1.read)
  clear hB15
  clear q1 cc'
  go_wp2_with fail
  refine (DrawSubGraph_any _ _ w15 (h1.out.below hR.below)).mono ?_
  rintro e w16 ⟨v10, b, v11, ss, rfl, q1, ⟨lb, zb⟩, q2, ls, hB16⟩
  replace hR := hR.push hB16 (show RowsV _ _ b from q1)
  replace hS := hS.push hB16 (show IntsV _ _ ss from q2)
  clear hB16
  clear q1 q2
  obtain ⟨⟨sb, eleven⟩, hr7⟩ : ∃ r, SubGraph_v b ss = r := ⟨_, rfl⟩
  have zr7 := SubGraph_len b ss
  rw [hr7] at zr7
  have hr7' := Lib.hid hr7
  clear hr7
  have cc := implSubGraph_any _ b _ ss w16 (hR.get (v := v10) (xs := b) (by simp)) (by omega) (hS.get (v := v11) (xs := ss) (by simp)) (by unfold szIntS; omega)
  rw [hr7'.out] at cc
  have cc' := Lib.hid cc
  clear cc
  go_wp2_with fail
  refine (cc'.out).mono ?_
  rintro e w17 ⟨v12, rfl, q1, hB17⟩
  replace hR := hR.push hB17 (show RowsV _ _ sb from q1.read)
  replace hS := hS.next hB17
  clear hB17
  clear q1 cc'
  have cc := specSubGraph_any _ b _ ss w17 (hR.get (v := v10) (xs := b) (by simp)) (by omega) (hS.get (v := v11) (xs := ss) (by simp)) (by unfold szIntS; omega)
  rw [hr7'.out] at cc
  have cc' := Lib.hid cc
  clear cc
  go_wp2_with fail
  refine (cc'.out).mono ?_
  rintro e w18 ⟨v13, rfl, q1, hB18⟩
  replace hR := hR.push hB18 (show RowsV _ _ sb from q1.read)
  replace hS := hS.next hB18
  clear hB18
  clear q1 cc'
  have key : ∃ L M, (StTb w w18 L ∧ St w w18 M) ∧ ((v1, g) ∈ L ∧ (v4, h) ∈ L ∧ (v12, sb) ∈ L ∧ (v13, sb) ∈ L) ∧ (v2, p) ∈ M ∧ (v3, p) ∈ M ∧ (v5, l) ∈ M ∧ (v6, l) ∈ M ∧ (v8, rr) ∈ M ∧ (v9, rr) ∈ M := ⟨_, _, ⟨hR, hS⟩, ⟨by simp, by simp, by simp, by simp⟩, by simp, by simp, by simp, by simp, by simp, by simp⟩
  clear hS hR
  obtain ⟨L, M, ⟨hR, hS⟩, ⟨m1, m4, m12, m13⟩, m2, m3, m5, m6, m8, m9⟩ := key
  have m1' := Lib.hid m1
  have m4' := Lib.hid m4
  have m12' := Lib.hid m12
  have m13' := Lib.hid m13
  have m2' := Lib.hid m2
  have m3' := Lib.hid m3
  have m5' := Lib.hid m5
  have m6' := Lib.hid m6
  have m8' := Lib.hid m8
  have m9' := Lib.hid m9
  clear m1 m4 m12 m13 m2 m3 m5 m6 m8 m9
  have hans := answers hr1'.out hr2'.out hr3'.out hr4'.out
  obtain ⟨rfl, rfl, hth, hpi, htr⟩ := hans
  have hth' := Lib.hid hth
  have hpi' := Lib.hid hpi
  have htr' := Lib.hid htr
  clear hth hpi htr
  go_upto_region 21 with fail
  go_cut [256] from 155 to 255 (fun s wx => s = .bool false ∧ StTb w wx L ∧ St w wx M)
  case first => as_aux_lemma =>
    go_wp2_with fail
    refine (qInts_same v2 v3 p w18 (hS.get m2'.out) (hS.get m3'.out) zr1).mono ?_
    rintro e w19 ⟨rfl, hB19⟩
    replace hR := hR.next hB19
    replace hS := hS.next hB19
    clear hB19
    go_wp2_with fail
    refine (qInts_same v5 v6 l w19 (hS.get m5'.out) (hS.get m6'.out) zr5).mono ?_
    rintro e w20 ⟨rfl, hB20⟩
    replace hR := hR.next hB20
    replace hS := hS.next hB20
    clear hB20
    go_wp2_with fail
    refine (qInts_same v8 v9 rr w20 (hS.get m8'.out) (hS.get m9'.out) zr6).mono ?_
    rintro e w21 ⟨rfl, hB21⟩
    replace hR := hR.next hB21
    replace hS := hS.next hB21
    clear hB21
    go_wp2_with fail
    refine (qLists_same v12 v13 sb w21 (hR.get m12'.out) (hR.get m13'.out) zr7).mono ?_
    rintro e w22 ⟨rfl, hB22⟩
    replace hR := hR.next hB22
    replace hS := hS.next hB22
    clear hB22
    cases five
    · obtain rfl : three = false := by rw [hth'.out]; rfl
      go_wp2_with fail
      all_goals (go_meet; exact ⟨rfl, hR, hS⟩)
    · have hp2 : pr = (three && (n == 1)) := by rw [hpi'.out rfl]; rfl
      cases t
      · obtain rfl : three = false := by rw [hth'.out]; rfl
        have hp3 : pr = false := hp2
        subst hp3
        clear hp2
        go_wp2_with fail
        go_meet
        exact ⟨rfl, hR, hS⟩
      · obtain rfl : three = true := by rw [hth'.out]; rfl
        have hp3 : pr = (n == 1) := hp2
        subst hp3
        clear hp2
        go_wp2_with fail
        go_meet
        exact ⟨rfl, hR, hS⟩
  case rest => as_aux_lemma =>
  clear hR hS
  obtain ⟨rfl, hR, hS⟩ := hcut
  obtain ⟨w40, rfl⟩ : ∃ wo : World, wo = wc := ⟨_, rfl⟩
  go_upto_if 257 with fail
  go_cut [41] from 258 to 306 (fun _ wx => StTb w wx L ∧ St w wx M)
  case first => as_aux_lemma =>
    cases seven
    · go_wp2_with fail
      go_meet
      exact ⟨hR, hS⟩
    · obtain ⟨a4, b4, d, P, rfl, rfl, hgh, hd1, hdn, hll, hP, hP0, hPd, hPs⟩ := walk_is hr5'.out
      obtain ⟨B4, o4, cp4, ro4, rof4, rc4, rfl, H4⟩ := (hR.get m4'.out).graph hgh rfl
      obtain ⟨ao6, cp6, rfl, -, -, H6⟩ := (hS.get m6'.out)
      obtain ⟨B6, o6, rfl, c0⟩ := H6 0 (by omega)
      have hc6 : ∀ i, i ≤ d → w40.cell? ⟨B6, o6 + i, none⟩ = some (.int .i64 (P i : Nat)) := fun i hi => by
        obtain ⟨b, o, e, hc⟩ := H6 i (by omega)
        cases e
        rw [hc, (hP i hi).1]
      have c0 := hc6 0 (by omega)
      rw [hP0, Nat.add_zero] at c0
      have c1 := hc6 d (Nat.le_refl _)
      rw [hPd] at c1
      have hl1 : (l.length : Int) - 1 = (d : Int) := by omega
      have hdl : d < l.length := by omega
      have hl2 : 2 ≤ l.length := by omega
      have hl3 : l.length ≤ h.length + 1 := by omega
      have hl20 : l.length ≤ 20 := by omega
      have hP' := Lib.hid hP
      have hP0' := Lib.hid hP0
      have hPd' := Lib.hid hPd
      have hPs' := Lib.hid hPs
      have hll' := Lib.hid hll
      have hc6' := Lib.hid hc6
      have H4' := Lib.hid H4
      have hgh' := Lib.hid hgh
      clear hP hP0 hPd hPs hll hc6 H4 hgh
      clear H6
      go_wp2_with fail
      go_loopw [41] (fun i wr => ∃ j : Nat, j + 1 ≤ l.length ∧ i = .int .i64 ((j : Int) + 1) ∧ ∃ q, wr = w40.drewN q) (fun i _ => (l.length : Nat) - (intOf i).toNat)
      case atStart => exact ⟨0, by omega, rfl, 0, rfl⟩
      case round => as_aux_lemma =>
        obtain ⟨j, hj, rfl, q, rfl⟩ := hrel
        by_cases hlt : j + 1 < l.length
        · have hps := hPs'.out j (by have := hll'.out; omega)
          have hpj := (hP'.out j (by have := hll'.out; omega)).2
          have hpk := (hP'.out (j + 1) (by have := hll'.out; omega)).2
          have x1 := hc6'.out j (by have := hll'.out; omega)
          have x2 := hc6'.out (j + 1) (by have := hll'.out; omega)
          obtain ⟨x3, -, x4⟩ := H4'.out (P j) hpj
          replace x4 := x4 (P (j + 1)) hpk
          obtain ⟨A, hA⟩ : ∃ A, P j = A := ⟨_, rfl⟩
          obtain ⟨C, hC⟩ : ∃ C, P (j + 1) = C := ⟨_, rfl⟩
          rw [hA] at x1 x3 x4 hpj hps
          rw [hC] at x2 x4 hpk hps
          obtain ⟨Z, hZ⟩ : ∃ Z, ent h A C = Z := ⟨_, rfl⟩
          rw [hZ] at x4 hps
          have hz0 : (Z == 0) = false := by rw [beq_eq_false_iff_ne]; omega
          obtain ⟨K, hK⟩ : ∃ K : Nat, (j : Int) + 1 = K := ⟨j + 1, by omega⟩
          have hK2 : j + 1 = K := by omega
          rw [hK2] at hlt x2
          have hK3 : (K : Int) - 1 = (j : Int) := by omega
          have hK4 : IntKind.i64.wrap ((K : Int) - 1) = (j : Int) := by rw [IntKind.wrap_i64]; omega
          have hjl : j < l.length := by omega
          rw [hK]
          have hA' := Lib.hid hA
          have hC' := Lib.hid hC
          have hZ' := Lib.hid hZ
          have hps' := Lib.hid hps
          have hK' := Lib.hid hK
          have hK2' := Lib.hid hK2
          clear hA hC hZ hps hK hK2
          go_wp2_with fail
          go_quiet (fail)
          go_wp2_with fail
          go_roundw
          case rel => exact ⟨K, by omega, by simp, _, rfl⟩
          case measure => simp [intOf]; omega
        · have hjj : j + 1 = l.length := by omega
          have hj2 : (j : Int) + 1 = (l.length : Int) := by omega
          have hjj' := Lib.hid hjj
          clear hjj
          go_wp2_with fail
          go_meet
          exact ⟨hR.next (below_drewN (Below.refl _ _) _), hS.next (below_drewN (Below.refl _ _) _)⟩
  case rest => as_aux_lemma =>
  clear hR hS
  obtain ⟨hR, hS⟩ := hcut
  obtain ⟨w50, rfl⟩ : ∃ wo : World, wo = wc := ⟨_, rfl⟩
  have cc := implIsGraph_any _ h w50 (hR.get m4'.out) (by omega)
  obtain ⟨gb, hgb⟩ : ∃ z, graphB h = z := ⟨_, rfl⟩
  rw [show IsGraph_v h = gb from hgb] at cc
  have cc' := Lib.hid cc
  have hgb' := Lib.hid hgb
  clear cc hgb
  go_wp2_with fail
  refine (cc'.out).mono ?_
  rintro e w51 ⟨rfl, hB51⟩
  replace hR := hR.next hB51
  replace hS := hS.next hB51
  clear hB51
  clear cc'
  go_upto_if 308 with fail
  go_cut [42, 43, 44, 45] from 309 to 349 (fun _ _ _ _ wx => StTb w wx L ∧ St w wx M)
  case first => as_aux_lemma =>
    cases gb
    · go_wp2_with fail
      go_meet
      exact ⟨hR, hS⟩
    obtain ⟨⟨al, is_⟩, hr8⟩ : ∃ r, ReachOf_v h x = r := ⟨_, rfl⟩
    have zr8 := ReachOf_len h x
    rw [hr8] at zr8
    have hr8' := Lib.hid hr8
    clear hr8
    have cc := implReachOf_any _ h x w51 (hR.get m4'.out) (by omega) (by unfold I64; omega)
    rw [hr8'.out] at cc
    have cc' := Lib.hid cc
    clear cc
    go_wp2_with fail
    refine (cc'.out).mono ?_
    rintro e w52 ⟨v20, rfl, q1, hB52⟩
    replace hR := hR.next hB52
    replace hS := hS.push hB52 (show IntsV _ _ al from q1.read)
    clear hB52
    clear q1 cc'
    have hp21 := hS.get (.head _)
    have cc := specReachOf_any _ h x w52 (hR.get m4'.out) (by omega) (by unfold I64; omega)
    rw [hr8'.out] at cc
    have cc' := Lib.hid cc
    clear cc
    go_wp2_with fail
    refine (cc'.out).mono ?_
    rintro e w53 ⟨v21, rfl, q1, hB53⟩
    replace hR := hR.next hB53
    replace hS := hS.push hB53 (show IntsV _ _ al from q1.read)
    clear hB53
    clear q1 cc'
    clear hp21
    go_wp2_with fail
    refine (qInts_same v20 v21 al w53 (hS.get (.tail _ (.head _))) (hS.get (.head _)) zr8).mono ?_
    rintro e w54 ⟨rfl, hB54⟩
    replace hR := hR.next hB54
    replace hS := hS.next hB54
    clear hB54
    obtain ⟨ao4, cp4, rfl⟩ : ∃ ao cap, v4 = .slice ao h.length cap := by obtain ⟨ao, cap, e, _⟩ := (hR.get m4'.out); exact ⟨ao, cap, e⟩
    cases is_
    · go_wp2_with fail
      go_meet
      exact ⟨hR, hS.below, fun p hp => hS.all p (.tail _ (.tail _ hp))⟩
    by_cases hy0 : 0 ≤ y
    case' neg =>
      go_wp2_with fail
      go_meet
      exact ⟨hR, hS.below, fun p hp => hS.all p (.tail _ (.tail _ hp))⟩
    by_cases hyn : y < (h.length : Int)
    case' neg =>
      go_wp2_with fail
      go_meet
      exact ⟨hR, hS.below, fun p hp => hS.all p (.tail _ (.tail _ hp))⟩
    have hq := reach_walk (y := y) hgb'.out (by rw [hr8'.out]) hy0 hyn
    rw [hr8'.out, hr5'.out] at hq
    have cc := qHas_any v21 al y w54 (hS.get (.head _)) zr8
    rw [show hasI al y = seven from hq] at cc
    have cc' := Lib.hid cc
    have hq' := Lib.hid hq
    clear cc hq
    go_wp2_with fail
    refine (cc'.out).mono ?_
    rintro e w_ ⟨rfl, rfl⟩
    go_wp2_with fail
    go_meet
    exact ⟨hR, hS.below, fun p hp => hS.all p (.tail _ (.tail _ hp))⟩
  case rest => as_aux_lemma =>
  clear hR hS
  obtain ⟨hR, hS⟩ := hcut
  obtain ⟨w60, rfl⟩ : ∃ wo : World, wo = wc := ⟨_, rfl⟩
  go_upto_region 36 with fail
  go_cut [354] from 350 to 353 (fun s wx => (∃ B : Bool, s = .bool B ∧ (B = true → three = true ∧ 0 < n)) ∧ StTb w wx L ∧ St w wx M)
  case first => as_aux_lemma =>
    cases three
    · go_wp2_with fail
      go_meet
      exact ⟨⟨false, rfl, fun h => (by cases h)⟩, hR, hS⟩
    · by_cases hn0 : 0 < n
      · go_wp2_with fail
        go_meet
        exact ⟨⟨true, by first | rfl | simp, fun _ => by first | exact ⟨rfl, hn0⟩ | exact ⟨trivial, hn0⟩⟩, hR, hS⟩
      · go_wp2_with fail
        go_meet
        exact ⟨⟨false, by first | rfl | simp, fun h => (by cases h)⟩, hR, hS⟩
  case rest => as_aux_lemma =>
  clear hR hS
  obtain ⟨⟨B, rfl, hBn⟩, hR, hS⟩ := hcut
  obtain ⟨w61, rfl⟩ : ∃ wo : World, wo = wc := ⟨_, rfl⟩
  have hBn' := Lib.hid hBn
  clear hBn
  go_upto_if 354 with fail
  go_cut [46, 47, 48, 49, 50] from 355 to 391 (fun _ _ _ _ _ wx => StTb w wx L ∧ St w wx M)
  case first => as_aux_lemma =>
    cases B
    · go_wp2_with fail
      go_meet
      exact ⟨hR, hS⟩
    obtain ⟨rfl, hn0⟩ := hBn'.out rfl
    obtain ⟨q, rfl, -, -, -⟩ := period_nat hr3'.out
    have hq0 : 0 < q := by omega
    have hr33 := hr3'
    go_wp2_with fail
    go_loopw [46] (fun i wr => ∃ j : Nat, 1 ≤ j ∧ j ≤ 5 ∧ i = .int .i64 j ∧ StTb w wr L ∧ St w wr M) (fun i _ => 5 - (intOf i).toNat)
    case atStart => exact ⟨1, by omega, by omega, rfl, hR, hS⟩
    case round => as_aux_lemma =>
      obtain ⟨j, hj1, hj5, rfl, hR, hS⟩ := hrel
      obtain ⟨w70, rfl⟩ : ∃ wo : World, wo = wr := ⟨_, rfl⟩
      by_cases hlt : j < 5
      · obtain ⟨⟨c, cb⟩, hr9⟩ : ∃ r, ClosedWalks_v g (j : Int) = r := ⟨_, rfl⟩
        have hr9' := Lib.hid hr9
        clear hr9
        have cc := implClosedWalks_any _ g (j : Int) w70 (hR.get m1'.out) (by omega) (by unfold I64; omega)
        rw [hr9'.out] at cc
        have cc' := Lib.hid cc
        clear cc
        go_wp2_with fail
        refine (cc'.out).mono ?_
        rintro e w71 ⟨rfl, hB71⟩
        replace hR := hR.next hB71
        replace hS := hS.next hB71
        clear hB71
        clear cc'
        have cc := specClosedWalks_any _ g (j : Int) w71 (hR.get m1'.out) (by omega) (by unfold I64; omega)
        rw [hr9'.out] at cc
        have cc' := Lib.hid cc
        clear cc
        go_wp2_with fail
        refine (cc'.out).mono ?_
        rintro e w72 ⟨rfl, hB72⟩
        replace hR := hR.next hB72
        replace hS := hS.next hB72
        clear hB72
        clear cc'
        cases cb
        · skip
          go_wp2_with fail
          go_roundw
          case rel => exact ⟨j + 1, by omega, by omega, by go_num, hR, hS⟩
          case measure => simp [intOf]; omega
        · by_cases hc0 : 0 < c
          · have hm := period_divides hr33.out hr9'.out hc0
            go_wp2_with fail
            go_roundw
            case rel => exact ⟨j + 1, by omega, by omega, by go_num, hR, hS⟩
            case measure => simp [intOf]; omega
          · skip
            go_wp2_with fail
            go_roundw
            case rel => exact ⟨j + 1, by omega, by omega, by go_num, hR, hS⟩
            case measure => simp [intOf]; omega
      · obtain rfl : j = 5 := by omega
        go_wp2_with fail
        go_meet
        exact ⟨hR, hS⟩
  case rest => as_aux_lemma =>
  clear hR hS
  obtain ⟨hR, hS⟩ := hcut
  obtain ⟨w80, rfl⟩ : ∃ wo : World, wo = wc := ⟨_, rfl⟩
  cases five
  · go_wp2_with fail
    go_ret
    exact ⟨rfl, hR.below⟩
  have htt := htr'.out rfl
  obtain ⟨hpl, hpa⟩ := parts_are hr1'.out
  obtain ⟨ao3, cp3, rfl, -, -, H3⟩ := (hS.get m3'.out)
  obtain ⟨m, hm⟩ : ∃ m, p.length = m := ⟨_, rfl⟩
  rw [hm] at H3 hpl ⊢
  rw [← hpl] at hpa
  have hm9 : m ≤ 9 := by omega
  have htt' := Lib.hid htt
  have hpl' := Lib.hid hpl
  have hpa' := Lib.hid hpa
  have H3' := Lib.hid H3
  have hm' := Lib.hid hm
  clear htt hpl hpa H3 hm
  go_wp2_with fail
  go_loop [396] (fun i => ∃ j : Nat, j ≤ m ∧ i = .int .i64 j) (fun i => m - (intOf i).toNat)
  case atStart => exact ⟨0, Nat.zero_le _, rfl⟩
  case round => as_aux_lemma =>
    obtain ⟨j, hj, rfl⟩ := hrel
    by_cases hlt : j < m
    · obtain ⟨b3, o3, rfl, c3⟩ := H3'.out j hlt
      obtain ⟨g1, g2, g3, g4, g5⟩ := hpa'.out j hlt
      obtain ⟨b3', o3', e3, d3⟩ := H3'.out (partN g j) g3
      obtain ⟨rfl, rfl⟩ : b3 = b3' ∧ o3 = o3' := by cases e3; exact ⟨rfl, rfl⟩
      rw [g1] at c3
      rw [g4] at d3
      clear e3 g4 g1
      rw [htt'.out] at g5
      obtain ⟨R, hR2⟩ : ∃ R, partN g j = R := ⟨_, rfl⟩
      rw [hR2] at c3 d3 g2 g3 g5
      have hR2' := Lib.hid hR2
      have g5' := Lib.hid g5
      clear hR2 g5
      cases t
      · go_wp2_with fail
        go_round
        case rel => exact ⟨j + 1, by omega, by go_num⟩
        case measure => simp [intOf]; omega
      · have g6 := g5'.out rfl
        subst g6
        simp only [Nat.add_zero] at d3
        go_wp2_with fail
        go_round
        case rel => exact ⟨j + 1, by omega, by go_num⟩
        case measure => simp [intOf]; omega
    · go_wp2_with fail
      go_ret
      exact ⟨rfl, hR.below⟩

set_option maxRecDepth 100000 in
theorem lawGraphParts_over (ao0 : Option Addr) (n0 cap0 : Nat) (ao1 : Option Addr) (n1 cap1 : Nat) (w : World) (hn0 : n0 ≤ 140737488355328) (hn1 : n1 ≤ 140737488355328) (hl : ¬ n0 + n1 ≤ 1048576) :
    Calls Try.prog 5 #[.slice ao0 n0 cap0, .slice ao1 n1 cap1] w (Ret (.bool true) w) := by
  go_enter Try.func5, Try.ntmps5
  go_wp2
  go_ret
  exact ⟨rfl, Below.refl _ _⟩

theorem lawGraphParts_any (a0 a1 : Value) (w : World) (h0 : CodeX w a0) (h1 : CodeX w a1) :
    Calls Try.prog 5 #[a0, a1] w (Ret (.bool true) w) := by
  obtain ⟨ao0, n0, cap0, rfl, hn0, h0⟩ := h0
  obtain ⟨ao1, n1, cap1, rfl, hn1, h1⟩ := h1
  by_cases hl : n0 + n1 ≤ 1048576
  · exact lawGraphParts_main ao0 n0 cap0 ao1 n1 cap1 w (Lib.hid (h0 (by omega))) (Lib.hid (h1 (by omega))) hl
  · exact lawGraphParts_over ao0 n0 cap0 ao1 n1 cap1 w hn0 hn1 hl


open Go.ChangeShapes Go.WideShapes Go.ChangeAt in
set_option maxRecDepth 100000 in
theorem lawGraphParts_lifted (os : Os) (started : os.Started) (H : Type) (enc : TypeId × Value → H) :
    ReturnsInHanded {} Try.checked os 5 .any (Rows.fnGraphPartsSpec.pre6 enc Try.prog Try.f5 Rows.fnGraphPartsRow.domain false) (Rows.fnGraphPartsSpec.post enc Try.prog Try.f5 false true false false) := by
  refine returnsInHanded_of_change_sized (C := Try.checked) Try.own started (by kernel_rfl) Try.func5
    (ChangeSpec.witness6 (enc := enc) (C := Try.checked) false ⟨#[], #[.slice none 0 0, .slice none 0 0], []⟩ 8 (by kernel_rfl) (by kernel_rfl) (by kernel_rfl) (by kernel_rfl)) ?_
  intro W base args ds gs before hval0 hW _ hsz0 _
  have hsz : (DataW.weightsEach Try.prog (Try.f5.params.toList ++ Rows.fnGraphPartsSpec.plain.varTypes Try.prog) (ds ++ gs)).all (· ≤ reachBytes) = true := hsz0
  clear hsz0
  have hval : ∀ (j : Nat) t v, Try.f5.params[j]? = some t → args[j]? = some v → Value.okWide Try.prog W .any base t v := hval0
  have hW' := hW
  obtain ⟨p, q, hA0, hV, rfl, _, _⟩ := hW
  have hA : DataW.TrodAll enc Try.prog W 0 (fun _ => true) true Try.f5.params.toList args.toList ds p := hA0
  have hA' := hA
  rw [Try.params5] at hA hval hsz
  obtain ⟨v0, v1, d0, d1, p0, p1, rfl, rfl, rfl, h0, h1⟩ := trodAll_two hA
  obtain ⟨rfl, rfl⟩ := trodVars_none hV
  refine (lawGraphParts_any v0 v1 W (open_codeX (hval 0 22 v0 rfl rfl) h0 fun _ _ e => by subst e; exact sized_slice hsz (j := 0) rfl rfl Try.underlying22) (open_codeX (hval 1 22 v1 rfl rfl) h1 fun _ _ e => by subst e; exact sized_slice hsz (j := 1) rfl rfl Try.underlying22)).mono fun e W' ⟨he, hB⟩ => ?_
  subst he
  exact law_post hW' rfl hA' (by rw [Try.params5]; decide +kernel) rfl rfl rfl rfl hB

theorem fnGraphParts_holds : Rows.FnGraphPartsSaid :=
  OpenClaim.holds_of_wide 5 Try.f5 rfl rfl rfl rfl rfl rfl rfl ⟨rfl, rfl, rfl, rfl, rfl⟩ rfl rfl rfl rfl rfl (by kernel_rfl) Try.func5 (by kernel_rfl)
    (of_decide_eq_true (by kernel_rfl)) (by unfold Func.isWrapper; rw [if_neg (of_decide_eq_false (by kernel_rfl))]; exact ⟨rfl, rfl⟩)
    (fun os started H enc _ => lawGraphParts_lifted os started H enc)

#print axioms fnGraphParts_holds

end Go.Proofs.Ytblippeklbhepaa

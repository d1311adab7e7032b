/- FnPolynomials: for every input the law returns true, and the arguments read as before. No conditions. -/
import Derived.Test.YtblippeklbhepaaDrawDiv
import Derived.Test.YtblippeklbhepaaPolyLaw
import Derived.Test.YtblippeklbhepaaSt
import Derived.Test.YtblippeklbhepaaLiftC
import Derived.Deep.Cut
import Derived.Deep.CutRange
import Derived.Deep.CutBlock
namespace Go.Proofs.Ytblippeklbhepaa
open Go.RowKit

theorem len20 {xs : List Int} (h : xs.length ≤ 20) : szIntS xs ≤ 1099511627776 := by unfold szIntS; omega

set_option maxRecDepth 100000 in
set_option maxHeartbeats 8000000 in
theorem lawPolynomials_main (ao0 : Option Addr) (n0 cap0 : Nat) (ao1 : Option Addr) (n1 cap1 : Nat) (w : World) (h0 : Hid (CodeV w (.slice ao0 n0 cap0) n0)) (h1 : Hid (CodeV w (.slice ao1 n1 cap1) n1)) (hl : n0 + n1 ≤ 1048576) :
    Calls Try.prog 4 #[.slice ao0 n0 cap0, .slice ao1 n1 cap1] w (Ret (.bool true) w) := by
  have hS := St.start w
  go_enter Try.func4, Try.ntmps4
  go_wp2_with fail
  refine (DrawMultiplyPolys_any _ _ w (h0.out.below hS.below)).mono ?_
  rintro e w1 ⟨v1, v2, p, q, rfl, q1, lp, q2, lq, hB1⟩
  replace hS := hS.push hB1 (show IntsV _ _ p from q1)
  replace hS := hS.push (Below.refl _ _) (show IntsV _ _ q from q2)
  clear hB1
  clear q1 q2
  obtain ⟨⟨m1, ok⟩, hr1⟩ : ∃ r, MultiplyPolys_v p q = r := ⟨_, rfl⟩
  have zr1 := MultiplyPolys_len p q
  rw [hr1] at zr1
  have hr1' := Lib.hid hr1
  clear hr1
  obtain ⟨⟨s2, one⟩, hr2⟩ : ∃ r, AddPolys_v p q = r := ⟨_, rfl⟩
  have zr2 := AddPolys_len p q
  rw [hr2] at zr2
  have hr2' := Lib.hid hr2
  clear hr2
  have cc := implMultiplyPolys_any _ p _ q w1 (hS.get (v := v1) (xs := p) (by simp)) (len20 lp) (hS.get (v := v2) (xs := q) (by simp)) (len20 lq)
  rw [hr1'.out] at cc
  have cc' := Lib.hid cc
  clear cc
  go_wp2_with fail
  refine (cc'.out).mono ?_
  rintro e w2 ⟨v3, rfl, q1, hB2⟩
  replace hS := hS.push hB2 (show IntsV _ _ m1 from q1.read)
  clear hB2
  clear q1 cc'
  have cc := specMultiplyPolys_any _ p _ q w2 (hS.get (v := v1) (xs := p) (by simp)) (len20 lp) (hS.get (v := v2) (xs := q) (by simp)) (len20 lq)
  rw [hr1'.out] at cc
  have cc' := Lib.hid cc
  clear cc
  go_wp2_with fail
  refine (cc'.out).mono ?_
  rintro e w3 ⟨v4, rfl, q1, hB3⟩
  replace hS := hS.push hB3 (show IntsV _ _ m1 from q1.read)
  clear hB3
  clear q1 cc'
  have cc := implAddPolys_any _ p _ q w3 (hS.get (v := v1) (xs := p) (by simp)) (len20 lp) (hS.get (v := v2) (xs := q) (by simp)) (len20 lq)
  rw [hr2'.out] at cc
  have cc' := Lib.hid cc
  clear cc
  go_wp2_with fail
  refine (cc'.out).mono ?_
  rintro e w4 ⟨v5, rfl, q1, hB4⟩
  replace hS := hS.push hB4 (show IntsV _ _ s2 from q1.read)
  clear hB4
  clear q1 cc'
  have cc := specAddPolys_any _ p _ q w4 (hS.get (v := v1) (xs := p) (by simp)) (len20 lp) (hS.get (v := v2) (xs := q) (by simp)) (len20 lq)
  rw [hr2'.out] at cc
  have cc' := Lib.hid cc
  clear cc
  go_wp2_with fail
  refine (cc'.out).mono ?_
  rintro e w5 ⟨v6, rfl, q1, hB5⟩
  replace hS := hS.push hB5 (show IntsV _ _ s2 from q1.read)
  clear hB5
  clear q1 cc'
  go_wp2_with fail
  refine (DrawDivideByMonic_any _ _ w5 (h1.out.below hS.below)).mono ?_
  rintro e w6 ⟨v7, v8, a, b, rfl, q1, la, q2, lb, hB6⟩
  replace hS := hS.push hB6 (show IntsV _ _ a from q1)
  replace hS := hS.push (Below.refl _ _) (show IntsV _ _ b from q2)
  clear hB6
  clear q1 q2
  obtain ⟨⟨d3, e3, three⟩, hr3⟩ : ∃ r, DivideByMonic_v a b = r := ⟨_, rfl⟩
  have zr3 := DivideByMonic_len a b
  rw [hr3] at zr3
  have hr3' := Lib.hid hr3
  clear hr3
  have cc := implDivideByMonic_any _ a _ b w6 (hS.get (v := v7) (xs := a) (by simp)) (len20 la) (hS.get (v := v8) (xs := b) (by simp)) (len20 lb)
  rw [hr3'.out] at cc
  have cc' := Lib.hid cc
  clear cc
  go_wp2_with fail
  refine (cc'.out).mono ?_
  rintro e w7 ⟨v9, v10, m_, rfl, q1, q2, -, -, hB7⟩
  replace hS := hS.push hB7 (show IntsV _ _ d3 from q1.read)
  replace hS := hS.push (Below.refl _ _) (show IntsV _ _ e3 from q2.read)
  clear hB7
  clear q1 q2 cc'
  have cc := specDivideByMonic_any _ a _ b w7 (hS.get (v := v7) (xs := a) (by simp)) (len20 la) (hS.get (v := v8) (xs := b) (by simp)) (len20 lb)
  rw [hr3'.out] at cc
  have cc' := Lib.hid cc
  clear cc
  go_wp2_with fail
  refine (cc'.out).mono ?_
  rintro e w8 ⟨v11, v12, m_, rfl, q1, q2, -, -, hB8⟩
  replace hS := hS.push hB8 (show IntsV _ _ d3 from q1.read)
  replace hS := hS.push (Below.refl _ _) (show IntsV _ _ e3 from q2.read)
  clear hB8
  clear q1 q2 cc'
  go_wp2_with fail
  refine (DrawShiftPoly_any _ _ w8 (h1.out.below hS.below)).mono ?_
  rintro e w9 ⟨v13, t, y, rfl, q1, lt, ⟨loy, hiy⟩, hB9⟩
  replace hS := hS.push hB9 (show IntsV _ _ t from q1)
  clear hB9
  clear q1
  obtain ⟨⟨h4, five⟩, hr4⟩ : ∃ r, ShiftPoly_v t y = r := ⟨_, rfl⟩
  have zr4 := ShiftPoly_len t y
  rw [hr4] at zr4
  have hr4' := Lib.hid hr4
  clear hr4
  have cc := implShiftPoly_any _ t y w9 (hS.get (v := v13) (xs := t) (by simp)) (len20 lt) (by unfold I64; omega)
  rw [hr4'.out] at cc
  have cc' := Lib.hid cc
  clear cc
  go_wp2_with fail
  refine (cc'.out).mono ?_
  rintro e w10 ⟨v14, rfl, q1, hB10⟩
  replace hS := hS.push hB10 (show IntsV _ _ h4 from q1.read)
  clear hB10
  clear q1 cc'
  have cc := specShiftPoly_any _ t y w10 (hS.get (v := v13) (xs := t) (by simp)) (len20 lt) (by unfold I64; omega)
  rw [hr4'.out] at cc
  have cc' := Lib.hid cc
  clear cc
  go_wp2_with fail
  refine (cc'.out).mono ?_
  rintro e w11 ⟨v15, rfl, q1, hB11⟩
  replace hS := hS.push hB11 (show IntsV _ _ h4 from q1.read)
  clear hB11
  clear q1 cc'
  go_wp2_with fail
  refine (DrawDerivePoly_any _ _ w11 (h1.out.below hS.below)).mono ?_
  rintro e w12 ⟨v16, u, rfl, q1, lu, hB12⟩
  replace hS := hS.push hB12 (show IntsV _ _ u from q1)
  clear hB12
  clear q1
  obtain ⟨⟨z5, seven⟩, hr5⟩ : ∃ r, DerivePoly_v u = r := ⟨_, rfl⟩
  have zr5 := DerivePoly_len u
  rw [hr5] at zr5
  have hr5' := Lib.hid hr5
  clear hr5
  have cc := implDerivePoly_any _ u w12 (hS.get (v := v16) (xs := u) (by simp)) (len20 lu)
  rw [hr5'.out] at cc
  have cc' := Lib.hid cc
  clear cc
  go_wp2_with fail
  refine (cc'.out).mono ?_
  rintro e w13 ⟨v17, rfl, q1, hB13⟩
  replace hS := hS.push hB13 (show IntsV _ _ z5 from q1.read)
  clear hB13
  clear q1 cc'
  have cc := specDerivePoly_any _ u w13 (hS.get (v := v16) (xs := u) (by simp)) (len20 lu)
  rw [hr5'.out] at cc
  have cc' := Lib.hid cc
  clear cc
  go_wp2_with fail
  refine (cc'.out).mono ?_
  rintro e w14 ⟨v18, rfl, q1, hB14⟩
  replace hS := hS.push hB14 (show IntsV _ _ z5 from q1.read)
  clear hB14
  clear q1 cc'
  go_wp2_with fail
  refine (DrawPolyValue_any _ _ w14 (h1.out.below hS.below)).mono ?_
  rintro e w15 ⟨v19, l, x, rfl, q1, ll, ⟨lox, hix⟩, hB15⟩
  replace hS := hS.push hB15 (show IntsV _ _ l from q1)
  clear hB15
  clear q1
  obtain ⟨⟨f6, nine⟩, hr6⟩ : ∃ r, PolyValue_v l x = r := ⟨_, rfl⟩
  have hr6' := Lib.hid hr6
  clear hr6
  have cc := implPolyValue_any _ l x w15 (hS.get (v := v19) (xs := l) (by simp)) (len20 ll) (by unfold I64; omega)
  rw [hr6'.out] at cc
  have cc' := Lib.hid cc
  clear cc
  go_wp2_with fail
  refine (cc'.out).mono ?_
  rintro e w16 ⟨rfl, hB16⟩
  replace hS := hS.next hB16
  clear hB16
  clear cc'
  have cc := specPolyValue_any _ l x w16 (hS.get (v := v19) (xs := l) (by simp)) (len20 ll) (by unfold I64; omega)
  rw [hr6'.out] at cc
  have cc' := Lib.hid cc
  clear cc
  go_wp2_with fail
  refine (cc'.out).mono ?_
  rintro e w17 ⟨rfl, hB17⟩
  replace hS := hS.next hB17
  clear hB17
  clear cc'
  go_wp2_with fail
  refine (qInts_same v3 v4 m1 w17 (hS.get (v := v3) (xs := m1) (by simp)) (hS.get (v := v4) (xs := m1) (by simp)) zr1).mono ?_
  rintro e w18 ⟨rfl, hB18⟩
  replace hS := hS.next hB18
  clear hB18
  go_wp2_with fail
  refine (qInts_same v5 v6 s2 w18 (hS.get (v := v5) (xs := s2) (by simp)) (hS.get (v := v6) (xs := s2) (by simp)) zr2).mono ?_
  rintro e w19 ⟨rfl, hB19⟩
  replace hS := hS.next hB19
  clear hB19
  go_wp2_with fail
  refine (qInts_same v9 v11 d3 w19 (hS.get (v := v9) (xs := d3) (by simp)) (hS.get (v := v11) (xs := d3) (by simp)) zr3.1).mono ?_
  rintro e w20 ⟨rfl, hB20⟩
  replace hS := hS.next hB20
  clear hB20
  go_wp2_with fail
  refine (qInts_same v10 v12 e3 w20 (hS.get (v := v10) (xs := e3) (by simp)) (hS.get (v := v12) (xs := e3) (by simp)) zr3.2).mono ?_
  rintro e w21 ⟨rfl, hB21⟩
  replace hS := hS.next hB21
  clear hB21
  go_wp2_with fail
  refine (qInts_same v14 v15 h4 w21 (hS.get (v := v14) (xs := h4) (by simp)) (hS.get (v := v15) (xs := h4) (by simp)) zr4).mono ?_
  rintro e w22 ⟨rfl, hB22⟩
  replace hS := hS.next hB22
  clear hB22
  go_wp2_with fail
  refine (qInts_same v17 v18 z5 w22 (hS.get (v := v17) (xs := z5) (by simp)) (hS.get (v := v18) (xs := z5) (by simp)) zr5).mono ?_
  rintro e w23 ⟨rfl, hB23⟩
  replace hS := hS.next hB23
  clear hB23
  have key : ∃ L, St w w23 L ∧ (v1, p) ∈ L ∧ (v2, q) ∈ L ∧ (v3, m1) ∈ L ∧ (v4, m1) ∈ L ∧ (v5, s2) ∈ L ∧ (v6, s2) ∈ L ∧ (v7, a) ∈ L ∧ (v8, b) ∈ L ∧ (v11, d3) ∈ L ∧ (v12, e3) ∈ L ∧ (v13, t) ∈ L ∧ (v14, h4) ∈ L ∧ (v15, h4) ∈ L ∧ (v16, u) ∈ L ∧ (v18, z5) ∈ L := ⟨_, hS, by simp, by simp, by simp, by simp, by simp, by simp, by simp, by simp, by simp, by simp, by simp, by simp, by simp, by simp, by simp⟩
  clear hS
  obtain ⟨L, hS, m1, m2, m3, m4, m5, m6, m7, m8, m11, m12, m13, m14, m15, m16, m18⟩ := key
  have m1' := Lib.hid m1
  have m2' := Lib.hid m2
  have m3' := Lib.hid m3
  have m4' := Lib.hid m4
  have m5' := Lib.hid m5
  have m6' := Lib.hid m6
  have m7' := Lib.hid m7
  have m8' := Lib.hid m8
  have m11' := Lib.hid m11
  have m12' := Lib.hid m12
  have m13' := Lib.hid m13
  have m14' := Lib.hid m14
  have m15' := Lib.hid m15
  have m16' := Lib.hid m16
  have m18' := Lib.hid m18
  clear m1 m2 m3 m4 m5 m6 m7 m8 m11 m12 m13 m14 m15 m16 m18
  go_upto_block 0 with fail
  go_cut [40, 41, 42, 43, 44, 45, 46, 47, 48] from 226 to 289 (fun _ _ _ _ _ _ _ _ _ wx => St w wx L)
  case first =>
    go_wp2_with fail
    go_loopw [40] (fun i wr => ∃ k : Nat, k ≤ 5 ∧ i = .int .i64 ((k : Int) - 2) ∧ St w wr L) (fun i _ => (3 - intOf i).toNat)
    case atStart => exact ⟨0, by omega, by simp, hS⟩
    case round =>
      obtain ⟨k, hk, rfl, hS⟩ := hrel
      obtain ⟨w30, rfl⟩ : ∃ wo : World, wo = wr := ⟨_, rfl⟩
      by_cases hlt : k < 5
      · have hx : inB ((k : Int) - 2) (-9) 9 = true := by rw [inB_true]; omega
        have hno := value_no (p := p) (q := q) hx
        rw [hr1'.out, hr2'.out] at hno
        have hpr : ok = true → _ := fun h => value_prod (x := (k : Int) - 2) (p := p) (q := q) (s := m1) (by rw [hr1'.out, h]) hx
        have hsm : one = true → _ := fun h => value_sum (x := (k : Int) - 2) (p := p) (q := q) (s := s2) (by rw [hr2'.out, h]) hx
        obtain ⟨⟨e1, b1⟩, he1⟩ : ∃ r, PolyValue_v p ((k : Int) - 2) = r := ⟨_, rfl⟩
        obtain ⟨⟨e2, b2⟩, he2⟩ : ∃ r, PolyValue_v q ((k : Int) - 2) = r := ⟨_, rfl⟩
        obtain ⟨⟨e3_, b3⟩, he3⟩ : ∃ r, PolyValue_v m1 ((k : Int) - 2) = r := ⟨_, rfl⟩
        obtain ⟨⟨e4_, b4⟩, he4⟩ : ∃ r, PolyValue_v s2 ((k : Int) - 2) = r := ⟨_, rfl⟩
        rw [he1, he2] at hno
        rw [he1, he2, he3] at hpr
        rw [he1, he2, he4] at hsm
        simp only at hno hpr hsm
        have hx' := Lib.hid hx
        have he1' := Lib.hid he1
        have he2' := Lib.hid he2
        have he3' := Lib.hid he3
        have he4' := Lib.hid he4
        clear hx he1 he2 he3 he4
        have hxx : I64 ((k : Int) - 2) := by unfold I64; omega
        have cc := implPolyValue_any _ p ((k : Int) - 2) w30 (hS.get m1'.out) (len20 lp) hxx
        rw [he1'.out] at cc
        have cc' := Lib.hid cc
        clear cc
        go_wp2_with fail
        refine (cc'.out).mono ?_
        rintro e w31 ⟨rfl, hB31⟩
        replace hS := hS.next hB31
        clear hB31 cc'
        have cc := implPolyValue_any _ q ((k : Int) - 2) w31 (hS.get m2'.out) (len20 lq) hxx
        rw [he2'.out] at cc
        have cc' := Lib.hid cc
        clear cc
        go_wp2_with fail
        refine (cc'.out).mono ?_
        rintro e w32 ⟨rfl, hB32⟩
        replace hS := hS.next hB32
        clear hB32 cc'
        cases b1
        · obtain ⟨rfl, rfl⟩ := hno (by simp)
          clear hpr hsm
          go_wp2_with fail
          go_meet
          exact hS
        cases b2
        · obtain ⟨rfl, rfl⟩ := hno (by simp)
          clear hpr hsm
          go_wp2_with fail
          go_meet
          exact hS
        clear hno
        have cc := implPolyValue_any _ m1 ((k : Int) - 2) w32 (hS.get m4'.out) zr1 hxx
        rw [he3'.out] at cc
        have cc' := Lib.hid cc
        clear cc
        go_wp2_with fail
        refine (cc'.out).mono ?_
        rintro e w33 ⟨rfl, hB33⟩
        replace hS := hS.next hB33
        clear hB33 cc'
        have cc := implPolyValue_any _ s2 ((k : Int) - 2) w33 (hS.get m6'.out) zr2 hxx
        rw [he4'.out] at cc
        have cc' := Lib.hid cc
        clear cc
        go_wp2_with fail
        refine (cc'.out).mono ?_
        rintro e w34 ⟨rfl, hB34⟩
        replace hS := hS.next hB34
        clear hB34 cc'
        have hpr' := Lib.hid hpr
        have hsm' := Lib.hid hsm
        clear hpr hsm
        cases ok
        · cases one
          · go_wp2_with fail
            go_roundw
            case rel => exact ⟨k + 1, by omega, by simp; omega, hS⟩
            case measure => simp [intOf]; omega
          · obtain ⟨rfl, rfl⟩ := Prod.mk.inj (hsm'.out rfl)
            go_wp2_with fail
            go_roundw
            case rel => exact ⟨k + 1, by omega, by simp; omega, hS⟩
            case measure => simp [intOf]; omega
        · obtain ⟨rfl, rfl⟩ := Prod.mk.inj (hpr'.out rfl)
          cases one
          · go_wp2_with fail
            go_roundw
            case rel => exact ⟨k + 1, by omega, by simp; omega, hS⟩
            case measure => simp [intOf]; omega
          · obtain ⟨rfl, rfl⟩ := Prod.mk.inj (hsm'.out rfl)
            go_wp2_with fail
            go_roundw
            case rel => exact ⟨k + 1, by omega, by simp; omega, hS⟩
            case measure => simp [intOf]; omega
      · obtain rfl : k = 5 := by omega
        go_wp2_with fail
        go_meet
        exact hS
  case rest =>
    clear hS
    have hS := hcut
    obtain ⟨w40, rfl⟩ : ∃ wo : World, wo = wc := ⟨_, rfl⟩
    clear hcut
    go_upto_if 290 with fail
    go_cut [49, 50, 51, 52, 53, 54] from 291 to 333 (fun _ _ _ _ _ _ wx => St w wx L)
    case first =>
      cases three
      · go_wp2_with fail
        go_meet
        exact hS
      · obtain ⟨-, -, g3, g4, g5, -⟩ := DivideByMonic_ok hr3'.out
        have ld : d3.length ≤ 20 := by have := polyB_le9 g3; omega
        have le : e3.length ≤ 20 := by have := polyB_le9 g4; omega
        clear g3 g4
        obtain ⟨⟨m7, was⟩, hr7⟩ : ∃ r, MultiplyPolys_v b d3 = r := ⟨_, rfl⟩
        have zr7 := MultiplyPolys_len b d3
        rw [hr7] at zr7
        have hr7' := Lib.hid hr7
        clear hr7
        obtain ⟨ao8, cap8, rfl, -⟩ := id (hS.get m8'.out)
        obtain ⟨ao12, cap12, rfl, -⟩ := id (hS.get m12'.out)
        have cc := implMultiplyPolys_any _ b _ d3 w40 (hS.get m8'.out) (len20 lb) (hS.get m11'.out) (len20 ld)
        rw [hr7'.out] at cc
        have cc' := Lib.hid cc
        clear cc
        go_wp2_with fail
        refine (cc'.out).mono ?_
        rintro e w41 ⟨v20, rfl, q1, hB41⟩
        replace hS := hS.push hB41 (show IntsV _ _ m7 from q1.read)
        clear hB41
        clear q1 cc'
        have cc := specMultiplyPolys_any _ b _ d3 w41 (hS.get (.tail _ m8'.out)) (len20 lb) (hS.get (.tail _ m11'.out)) (len20 ld)
        rw [hr7'.out] at cc
        have cc' := Lib.hid cc
        clear cc
        go_wp2_with fail
        refine (cc'.out).mono ?_
        rintro e w42 ⟨v21, rfl, q1, hB42⟩
        replace hS := hS.push hB42 (show IntsV _ _ m7 from q1.read)
        clear hB42
        clear q1 cc'
        go_wp2_with fail
        refine (qInts_same v20 v21 m7 w42 (hS.get (.tail _ (.head _))) (hS.get (.head _)) zr7).mono ?_
        rintro e w43 ⟨rfl, hB43⟩
        replace hS := hS.next hB43
        clear hB43
        cases was
        · go_wp2_with fail
          go_meet
          exact ⟨hS.below, fun p hp => hS.all p (.tail _ (.tail _ hp))⟩
        have hdv := divide_back hr3'.out hr7'.out
        have hdv' := Lib.hid hdv
        clear hdv
        have cc := implAddPolys_any _ m7 _ e3 w43 (hS.get (.head _)) zr7 (hS.get (.tail _ (.tail _ m12'.out))) (len20 le)
        rw [hdv'.out] at cc
        have cc' := Lib.hid cc
        clear cc
        go_wp2_with fail
        refine (cc'.out).mono ?_
        rintro e w44 ⟨v22, rfl, q1, hB44⟩
        replace hS := hS.push hB44 (show IntsV _ _ a from q1.read)
        clear hB44
        clear q1 cc'
        go_wp2_with fail
        refine (qInts_same v22 v7 a w44 (hS.get (.head _)) (hS.get (.tail _ (.tail _ (.tail _ m7'.out)))) (len20 la)).mono ?_
        rintro e w45 ⟨rfl, hB45⟩
        replace hS := hS.next hB45
        clear hB45
        go_wp2_with fail
        go_meet
        exact ⟨hS.below, fun p hp => hS.all p (.tail _ (.tail _ (.tail _ hp)))⟩
    case rest =>
    clear hS
    have hS := hcut
    obtain ⟨w50, rfl⟩ : ∃ wo : World, wo = wc := ⟨_, rfl⟩
    clear hcut
    go_upto_if 334 with fail
    go_cut [55, 56] from 335 to 361 (fun _ _ wx => St w wx L)
    case first =>
      cases five
      · go_wp2_with fail
        go_meet
        exact hS
      · obtain ⟨g1, g2, g3, g4⟩ := shift_back hr4'.out
        have g5 := inB_true.1 g4
        have g2b : (h4.length : Int) = (t.length : Int) := by rw [g2]
        have g1' := Lib.hid g1
        have g2' := Lib.hid g2
        have g3' := Lib.hid g3
        have g4' := Lib.hid g4
        clear g1 g2 g3 g4
        obtain ⟨ao13, cap13, rfl, -⟩ := id (hS.get m13'.out)
        obtain ⟨ao15, cap15, rfl, -⟩ := id (hS.get m15'.out)
        have cc := implShiftPoly_any _ h4 (-y) w50 (hS.get m14'.out) zr4 (by unfold I64; omega)
        rw [g1'.out] at cc
        have cc' := Lib.hid cc
        clear cc
        go_wp2_with fail
        refine (cc'.out).mono ?_
        rintro e w51 ⟨v23, rfl, q1, hB51⟩
        replace hS := hS.push hB51 (show IntsV _ _ t from q1.read)
        clear hB51
        clear q1 cc'
        go_wp2_with fail
        refine (qInts_same v23 _ t w51 (hS.get (.head _)) (hS.get (.tail _ m13'.out)) (len20 lt)).mono ?_
        rintro e w52 ⟨rfl, hB52⟩
        replace hS := hS.next hB52
        clear hB52
        have cc := implIsPolynomial_any _ h4 w52 (hS.get (.tail _ m14'.out)) zr4
        rw [show IsPolynomial_v h4 = true from g3'.out] at cc
        have cc' := Lib.hid cc
        clear cc
        go_wp2_with fail
        refine (cc'.out).mono ?_
        rintro e w53 ⟨rfl, hB53⟩
        replace hS := hS.next hB53
        clear hB53
        go_wp2_with fail
        go_meet
        exact ⟨hS.below, fun p hp => hS.all p (.tail _ hp)⟩
    case rest =>
    clear hS
    have hS := hcut
    clear hcut
    obtain ⟨ao16, cap16, rfl, -⟩ := id (hS.get m16'.out)
    obtain ⟨ao18, cap18, rfl, -⟩ := id (hS.get m18'.out)
    cases seven
    · go_wp2_with fail
      go_ret
      exact ⟨rfl, hS.below⟩
    · have hd := derive_len hr5'.out
      have zl : z5.length ≤ 1099511627776 := zr5
      clear hr5' m16' m18' zr5
      obtain ⟨nu, hnu⟩ : ∃ n, u.length = n := ⟨_, rfl⟩
      obtain ⟨nz, hnz⟩ : ∃ n, z5.length = n := ⟨_, rfl⟩
      rw [hnu, hnz] at hd
      rw [hnz] at zl
      rw [hnu] at lu
      rw [hnu, hnz]
      have hnu' := Lib.hid hnu
      have hnz' := Lib.hid hnz
      have hd' := Lib.hid hd
      clear hnu hnz hd
      by_cases h0 : nu = 0
      · have b0 : ((nu : Int) == 0) = true := by rw [beq_iff_eq]; omega
        clear h0
        go_wp2_with fail
        go_ret
        exact ⟨rfl, hS.below⟩
      · have b1 : ((nz : Int) == (nu : Int) - 1) = true := by rw [beq_iff_eq]; have := hd'.out h0; omega
        have b0 : ((nu : Int) == 0) = false := by rw [beq_eq_false_iff_ne]; omega
        go_wp2_with fail
        go_ret
        exact ⟨rfl, hS.below⟩

set_option maxRecDepth 100000 in
theorem lawPolynomials_over (ao0 : Option Addr) (n0 cap0 : Nat) (ao1 : Option Addr) (n1 cap1 : Nat) (w : World) (hn0 : n0 ≤ 140737488355328) (hn1 : n1 ≤ 140737488355328) (hl : ¬ n0 + n1 ≤ 1048576) :
    Calls Try.prog 4 #[.slice ao0 n0 cap0, .slice ao1 n1 cap1] w (Ret (.bool true) w) := by
  go_enter Try.func4, Try.ntmps4
  go_wp2
  go_ret
  exact ⟨rfl, Below.refl _ _⟩

theorem lawPolynomials_any (a0 a1 : Value) (w : World) (h0 : CodeX w a0) (h1 : CodeX w a1) :
    Calls Try.prog 4 #[a0, a1] w (Ret (.bool true) w) := by
  obtain ⟨ao0, n0, cap0, rfl, hn0, h0⟩ := h0
  obtain ⟨ao1, n1, cap1, rfl, hn1, h1⟩ := h1
  by_cases hl : n0 + n1 ≤ 1048576
  · exact lawPolynomials_main ao0 n0 cap0 ao1 n1 cap1 w (Lib.hid (h0 (by omega))) (Lib.hid (h1 (by omega))) hl
  · exact lawPolynomials_over ao0 n0 cap0 ao1 n1 cap1 w hn0 hn1 hl


open Go.ChangeShapes Go.WideShapes Go.ChangeAt in
set_option maxRecDepth 100000 in
theorem lawPolynomials_lifted (os : Os) (started : os.Started) (H : Type) (enc : TypeId × Value → H) :
    ReturnsInHanded {} Try.checked os 4 .any (Rows.fnPolynomialsSpec.pre6 enc Try.prog Try.f4 Rows.fnPolynomialsRow.domain false) (Rows.fnPolynomialsSpec.post enc Try.prog Try.f4 false true false false) := by
  refine returnsInHanded_of_change_sized (C := Try.checked) Try.own started (by kernel_rfl) Try.func4
    (ChangeSpec.witness6 (enc := enc) (C := Try.checked) false ⟨#[], #[.slice none 0 0, .slice none 0 0], []⟩ 8 (by kernel_rfl) (by kernel_rfl) (by kernel_rfl) (by kernel_rfl)) ?_
  intro W base args ds gs before hval0 hW _ hsz0 _
  have hsz : (DataW.weightsEach Try.prog (Try.f4.params.toList ++ Rows.fnPolynomialsSpec.plain.varTypes Try.prog) (ds ++ gs)).all (· ≤ reachBytes) = true := hsz0
  clear hsz0
  have hval : ∀ (j : Nat) t v, Try.f4.params[j]? = some t → args[j]? = some v → Value.okWide Try.prog W .any base t v := hval0
  have hW' := hW
  obtain ⟨p, q, hA0, hV, rfl, _, _⟩ := hW
  have hA : DataW.TrodAll enc Try.prog W 0 (fun _ => true) true Try.f4.params.toList args.toList ds p := hA0
  have hA' := hA
  rw [Try.params4] at hA hval hsz
  obtain ⟨v0, v1, d0, d1, p0, p1, rfl, rfl, rfl, h0, h1⟩ := trodAll_two hA
  obtain ⟨rfl, rfl⟩ := trodVars_none hV
  refine (lawPolynomials_any v0 v1 W (open_codeX (hval 0 22 v0 rfl rfl) h0 fun _ _ e => by subst e; exact sized_slice hsz (j := 0) rfl rfl Try.underlying22) (open_codeX (hval 1 22 v1 rfl rfl) h1 fun _ _ e => by subst e; exact sized_slice hsz (j := 1) rfl rfl Try.underlying22)).mono fun e W' ⟨he, hB⟩ => ?_
  subst he
  exact law_post hW' rfl hA' (by rw [Try.params4]; decide +kernel) rfl rfl rfl rfl hB

theorem fnPolynomials_holds : Rows.FnPolynomialsSaid :=
  OpenClaim.holds_of_wide 4 Try.f4 rfl rfl rfl rfl rfl rfl rfl ⟨rfl, rfl, rfl, rfl, rfl⟩ rfl rfl rfl rfl rfl (by kernel_rfl) Try.func4 (by kernel_rfl)
    (of_decide_eq_true (by kernel_rfl)) (by unfold Func.isWrapper; rw [if_neg (of_decide_eq_false (by kernel_rfl))]; exact ⟨rfl, rfl⟩)
    (fun os started H enc _ => lawPolynomials_lifted os started H enc)

#print axioms fnPolynomials_holds

end Go.Proofs.Ytblippeklbhepaa

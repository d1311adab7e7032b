/- FnRoots: for every input the law returns true, and the arguments read as before; where the listed variables lie as the program's text lays them. -/
import Derived.Test.YtgpabfbnbmbmeaaGreatDoorRootFact
import Derived.Test.YtgpabfbnbmbmeaaGreatDoorLift
import Derived.Lib.LaidTab
import Derived.Stop.LaidErr
import Derived.HandedShaped
import Derived.OpenShut
import Derived.LaidMore
import Derived.Lay
import Derived.SevenTiedAt
import Derived.Stop.Joined
import Derived.Deep.Cut
import Derived.Deep.CutRange
import Derived.Deep.CutBlock
import Derived.Test.YtgpabfbnbmbmeaaGreatDoorCards
import Derived.Test.YtgpabfbnbmbmeaaGreatDoorTie
namespace Go.Proofs.YtgpabfbnbmbmeaaGreatDoor
open Go.RowKit

theorem len20 {xs : List Int} (h : xs.length ≤ 20) : szIntS xs ≤ 1099511627776 := by unfold szIntS; omega

set_option linter.unusedSimpArgs false in
set_option maxRecDepth 100000 in
set_option maxHeartbeats 12000000 in
theorem lawRoots_main (ao0 : Option Addr) (n0 cap0 : Nat) (ao1 : Option Addr) (n1 cap1 : Nat) (w : World) (h0 : Hid (CodeV w (.slice ao0 n0 cap0) n0)) (h1 : Hid (CodeV w (.slice ao1 n1 cap1) n1)) (hT : Hid (TextVars w)) (hl : n0 + n1 ≤ 1048576) :
    Calls Tryz.prog 3 #[.slice ao0 n0 cap0, .slice ao1 n1 cap1] w (Ret (.bool true) w) := by
  have hS := St.start w
  go_enter Tryz.func3, Tryz.ntmps3
  go_wp2_with fail
  refine (DrawRootPlaces_any _ _ w (h0.out.below hS.below)).mono ?_
  rintro e w1 ⟨v1, p, d, rfl, q1, lp, ⟨lod, hid⟩, hB1⟩
  replace hS := hS.push hB1 (show IntsV _ _ p from q1)
  clear hB1
  clear q1
  have ft := rt_three p
  have ff := rt_five p
  have fo := fun l => @rt_one p l d
  have fb := @rt_back p
  have ffar := fun l => @rt_far p l d
  have fsg := fun l => @rt_signs p l d
  have fok := fun l => @rt_ok p l d
  obtain ⟨⟨l, ok⟩, h_1⟩ : ∃ r, RootPlaces_v p d = r := ⟨_, rfl⟩
  obtain ⟨⟨⟨b0, b1⟩, one⟩, h_2⟩ : ∃ r, RootBound_v p = r := ⟨_, rfl⟩
  obtain ⟨⟨c, three⟩, h_3⟩ : ∃ r, SignChanges_v p = r := ⟨_, rfl⟩
  obtain ⟨⟨t, five⟩, h_4⟩ : ∃ r, PolyText_v p = r := ⟨_, rfl⟩
  have zl : szIntS l ≤ 1099511627776 := by have := RootPlaces_len p d; rw [h_1] at this; exact this
  rw [h_3] at ft fb fsg
  rw [h_4] at ff fb
  rw [h_2] at fo ffar
  replace fo : ok = true → one = true := fun q => by subst q; exact fo l h_1
  replace fb := fun q => @fb c t three five rfl rfl q
  replace ffar : ok = true → _ := fun q => by subst q; exact ffar l (b0 := b0) (b1 := b1) (one := one) h_1 rfl
  replace fsg : ok = true → _ := fun q => by subst q; exact fsg l (c := c) (three := three) h_1 rfl
  replace fok : ok = true → _ := fun q => by subst q; exact fok l h_1
  simp only at ft ff
  obtain rfl : three = five := by rw [ft, ff]
  have ft' := Lib.hid ft
  have ff' := Lib.hid ff
  have fo' := Lib.hid fo
  have fb' := Lib.hid fb
  have ffar' := Lib.hid ffar
  have fsg' := Lib.hid fsg
  have fok' := Lib.hid fok
  have h_1' := Lib.hid h_1
  have h_2' := Lib.hid h_2
  have h_3' := Lib.hid h_3
  have h_4' := Lib.hid h_4
  have lp' := Lib.hid lp
  have zl' := Lib.hid zl
  clear ft ff fo fb ffar fsg fok h_1 h_2 h_3 h_4 lp zl
  have cc := implRootPlaces_any _ p d w1 (hS.get (v := v1) (xs := p) (by simp)) (len20 lp'.out) (by unfold I64; omega)
  rw [h_1'.out] at cc
  have cc' := Lib.hid cc
  clear cc
  go_wp2_with fail
  refine (cc'.out).mono ?_
  rintro e w2 ⟨v2, rfl, q1, hB2⟩
  replace hS := hS.push hB2 (show IntsV _ _ l from q1.read)
  clear hB2
  clear cc' q1
  have cc := specRootPlaces_any _ p d w2 (hS.get (v := v1) (xs := p) (by simp)) (len20 lp'.out) (by unfold I64; omega)
  rw [h_1'.out] at cc
  have cc' := Lib.hid cc
  clear cc
  go_wp2_with fail
  refine (cc'.out).mono ?_
  rintro e w3 ⟨v3, rfl, q1, hB3⟩
  replace hS := hS.push hB3 (show IntsV _ _ l from q1.read)
  clear hB3
  clear cc' q1
  have cc := implRootBound_any _ p w3 (hS.get (v := v1) (xs := p) (by simp)) (len20 lp'.out)
  rw [h_2'.out] at cc
  have cc' := Lib.hid cc
  clear cc
  go_wp2_with fail
  refine (cc'.out).mono ?_
  rintro e w4 ⟨rfl, hB4⟩
  replace hS := hS.next hB4
  clear hB4
  clear cc'
  obtain ⟨w5, hw5⟩ : ∃ W, w4.alloc (.cells #[.int .i64 b0, .int .i64 b1] 29) = W := ⟨_, rfl⟩
  have hB5 : Below w4.heap.size w4 w5 := by rw [← hw5]; exact (Below.refl _ _).alloc (Nat.le_refl _) _
  have x11 : BoxO w5 w4.heap.size b0 b1 := by rw [← hw5]; exact BoxO.new _ _ _ _
  replace hS := hS.next hB5
  clear hB5
  have x11' := Lib.hid x11
  have hw5' := Lib.hid hw5
  clear x11 hw5
  go_upto_region 7 with fail
  rw [hw5'.out]
  clear hw5'
  have cc := specRootBound_any _ p w5 (hS.get (v := v1) (xs := p) (by simp)) (len20 lp'.out)
  rw [h_2'.out] at cc
  have cc' := Lib.hid cc
  clear cc
  go_wp2_with fail
  refine (cc'.out).mono ?_
  rintro e w6 ⟨rfl, hB6⟩
  replace hS := hS.next hB6
  have y11 := x11'.out.below hB6
  clear x11'
  have x11' := Lib.hid y11
  clear y11
  clear hB6
  clear cc'
  obtain ⟨w7, hw7⟩ : ∃ W, w6.alloc (.cells #[.int .i64 b0, .int .i64 b1] 29) = W := ⟨_, rfl⟩
  have hB7 : Below w6.heap.size w6 w7 := by rw [← hw7]; exact (Below.refl _ _).alloc (Nat.le_refl _) _
  have x13 : BoxO w7 w6.heap.size b0 b1 := by rw [← hw7]; exact BoxO.new _ _ _ _
  replace hS := hS.next hB7
  have y11 := x11'.out.below hB7
  clear x11'
  have x11' := Lib.hid y11
  clear y11
  clear hB7
  have x13' := Lib.hid x13
  have hw7' := Lib.hid hw7
  clear x13 hw7
  go_upto_region 8 with fail
  rw [hw7'.out]
  clear hw7'
  have cc := implSignChanges_any _ p w7 (hS.get (v := v1) (xs := p) (by simp)) (len20 lp'.out)
  rw [h_3'.out] at cc
  have cc' := Lib.hid cc
  clear cc
  go_wp2_with fail
  refine (cc'.out).mono ?_
  rintro e w8 ⟨rfl, hB8⟩
  replace hS := hS.next hB8
  have y11 := x11'.out.below hB8
  have y13 := x13'.out.below hB8
  clear x11' x13'
  have x11' := Lib.hid y11
  have x13' := Lib.hid y13
  clear y11 y13
  clear hB8
  clear cc'
  have cc := specSignChanges_any _ p w8 (hS.get (v := v1) (xs := p) (by simp)) (len20 lp'.out)
  rw [h_3'.out] at cc
  have cc' := Lib.hid cc
  clear cc
  go_wp2_with fail
  refine (cc'.out).mono ?_
  rintro e w9 ⟨rfl, hB9⟩
  replace hS := hS.next hB9
  have y11 := x11'.out.below hB9
  have y13 := x13'.out.below hB9
  clear x11' x13'
  have x11' := Lib.hid y11
  have x13' := Lib.hid y13
  clear y11 y13
  clear hB9
  clear cc'
  have cc := implPolyText_any _ p w9 (hS.get (v := v1) (xs := p) (by simp)) (len20 lp'.out) (hT.out.below hS.below).tab
  rw [h_4'.out] at cc
  have cc' := Lib.hid cc
  clear cc
  go_wp2_with fail
  refine (cc'.out).mono ?_
  rintro e w10 ⟨rfl, hB10⟩
  replace hS := hS.next hB10
  have y11 := x11'.out.below hB10
  have y13 := x13'.out.below hB10
  clear x11' x13'
  have x11' := Lib.hid y11
  have x13' := Lib.hid y13
  clear y11 y13
  clear hB10
  clear cc'
  have cc := specPolyText_any _ p w10 (hS.get (v := v1) (xs := p) (by simp)) (len20 lp'.out) (hT.out.below hS.below).tab
  rw [h_4'.out] at cc
  have cc' := Lib.hid cc
  clear cc
  go_wp2_with fail
  refine (cc'.out).mono ?_
  rintro e w11 ⟨rfl, hB11⟩
  replace hS := hS.next hB11
  have y11 := x11'.out.below hB11
  have y13 := x13'.out.below hB11
  clear x11' x13'
  have x11' := Lib.hid y11
  have x13' := Lib.hid y13
  clear y11 y13
  clear hB11
  clear cc'
  go_wp2_with fail
  refine (DrawSignAt_any _ _ w11 (h1.out.below hS.below)).mono ?_
  rintro e w12 ⟨v4, q, ⟨x0, x1⟩, rfl, q1, lq, hx, hB12⟩
  replace hS := hS.push hB12 (show IntsV _ _ q from q1)
  have y11 := x11'.out.below hB12
  have y13 := x13'.out.below hB12
  clear x11' x13'
  have x11' := Lib.hid y11
  have x13' := Lib.hid y13
  clear y11 y13
  clear hB12
  clear q1
  have fv := fun n s => @rt_value q n s
  obtain ⟨⟨s, seven⟩, h_5⟩ : ∃ r, SignAt_v q (x0, x1) = r := ⟨_, rfl⟩
  replace fv : seven = true → x1 = 1 → (-9 ≤ x0 ∧ x0 ≤ 9) → _ := fun q1 q2 q3 => by subst q1 q2; exact fv x0 s h_5 q3
  have fv' := Lib.hid fv
  have h_5' := Lib.hid h_5
  have lq' := Lib.hid lq
  clear fv h_5 lq
  obtain ⟨w13, hw13⟩ : ∃ W, w12.alloc (.cells #[.int .i64 x0, .int .i64 x1] 29) = W := ⟨_, rfl⟩
  have hB13 : Below w12.heap.size w12 w13 := by rw [← hw13]; exact (Below.refl _ _).alloc (Nat.le_refl _) _
  have x24 : BoxO w13 w12.heap.size x0 x1 := by rw [← hw13]; exact BoxO.new _ _ _ _
  replace hS := hS.next hB13
  have y11 := x11'.out.below hB13
  have y13 := x13'.out.below hB13
  clear x11' x13'
  have x11' := Lib.hid y11
  have x13' := Lib.hid y13
  clear y11 y13
  clear hB13
  have x24' := Lib.hid x24
  have hw13' := Lib.hid hw13
  clear x24 hw13
  go_upto_region 13 with fail
  rw [hw13'.out]
  clear hw13'
  have cc := implSignAt_any _ q (x0, x1) w13 (hS.get (v := v4) (xs := q) (by simp)) (len20 lq'.out) hx
  rw [h_5'.out] at cc
  have cc' := Lib.hid cc
  clear cc
  obtain ⟨z240, z241, -, -⟩ := x24'.out
  go_wp2_with fail
  refine (cc'.out).mono ?_
  rintro e w14 ⟨rfl, hB14⟩
  clear z240 z241
  replace hS := hS.next hB14
  have y11 := x11'.out.below hB14
  have y13 := x13'.out.below hB14
  have y24 := x24'.out.below hB14
  clear x11' x13' x24'
  have x11' := Lib.hid y11
  have x13' := Lib.hid y13
  have x24' := Lib.hid y24
  clear y11 y13 y24
  clear hB14
  clear cc'
  have cc := specSignAt_any _ q (x0, x1) w14 (hS.get (v := v4) (xs := q) (by simp)) (len20 lq'.out) hx
  rw [h_5'.out] at cc
  have cc' := Lib.hid cc
  clear cc
  obtain ⟨z240, z241, -, -⟩ := x24'.out
  go_wp2_with fail
  refine (cc'.out).mono ?_
  rintro e w15 ⟨rfl, hB15⟩
  clear z240 z241
  replace hS := hS.next hB15
  have y11 := x11'.out.below hB15
  have y13 := x13'.out.below hB15
  have y24 := x24'.out.below hB15
  clear x11' x13' x24'
  have x11' := Lib.hid y11
  have x13' := Lib.hid y13
  have x24' := Lib.hid y24
  clear y11 y13 y24
  clear hB15
  clear cc'
  go_wp2_with fail
  refine (DrawParsePoly_any _ _ w15 (h1.out.below hS.below)).mono ?_
  rintro e w16 ⟨S, rfl, hz, hB16⟩
  replace hS := hS.next hB16
  have y11 := x11'.out.below hB16
  have y13 := x13'.out.below hB16
  have y24 := x24'.out.below hB16
  clear x11' x13' x24'
  have x11' := Lib.hid y11
  have x13' := Lib.hid y13
  have x24' := Lib.hid y24
  clear y11 y13 y24
  clear hB16
  have hsl : S.data.toList.length ≤ 1048576 := by rw [Array.length_toList]; exact Nat.le_trans hz (by omega)
  obtain ⟨sb, hs⟩ : ∃ s, S.data.toList = s := ⟨_, rfl⟩
  rw [hs] at hsl
  obtain ⟨⟨r, nine⟩, h_6⟩ : ∃ r, ParsePoly_v sb = r := ⟨_, rfl⟩
  have zr : szIntS r ≤ 1099511627776 := by have := ParsePoly_le sb; rw [h_6] at this; exact this
  have hz' := Lib.hid hz
  have hsl' := Lib.hid hsl
  have hs' := Lib.hid hs
  have h_6' := Lib.hid h_6
  have zr' := Lib.hid zr
  clear hz hsl hs h_6 zr
  have cc := implParsePoly_any S sb hs'.out w16 hsl'.out (hT.out.below hS.below)
  rw [h_6'.out] at cc
  have cc' := Lib.hid cc
  clear cc
  go_wp2_with fail
  refine (cc'.out).mono ?_
  rintro e w17 ⟨v5, rfl, q1, hB17⟩
  replace hS := hS.push hB17 (show IntsV _ _ r from q1.read)
  have y11 := x11'.out.below hB17
  have y13 := x13'.out.below hB17
  have y24 := x24'.out.below hB17
  clear x11' x13' x24'
  have x11' := Lib.hid y11
  have x13' := Lib.hid y13
  have x24' := Lib.hid y24
  clear y11 y13 y24
  clear hB17
  clear cc' q1
  have cc := specParsePoly_any S sb hs'.out w17 hsl'.out
  rw [h_6'.out] at cc
  have cc' := Lib.hid cc
  clear cc
  go_wp2_with fail
  refine (cc'.out).mono ?_
  rintro e w18 ⟨v6, rfl, q1, hB18⟩
  replace hS := hS.push hB18 (show IntsV _ _ r from q1.read)
  have y11 := x11'.out.below hB18
  have y13 := x13'.out.below hB18
  have y24 := x24'.out.below hB18
  clear x11' x13' x24'
  have x11' := Lib.hid y11
  have x13' := Lib.hid y13
  have x24' := Lib.hid y24
  clear y11 y13 y24
  clear hB18
  clear cc' q1
  clear hz' hsl' hs' h_6' h_5'
  have okone : ok = false ∨ (ok = true ∧ one = true) := by cases ok; exact .inl rfl; exact .inr ⟨rfl, fo'.out rfl⟩
  have okone' := Lib.hid okone
  clear okone
  have key : ∃ L, St w w18 L ∧ (v1, p) ∈ L ∧ (v2, l) ∈ L ∧ (v3, l) ∈ L ∧ (v4, q) ∈ L ∧ (v5, r) ∈ L ∧ (v6, r) ∈ L := ⟨_, hS, by simp, by simp, by simp, by simp, by simp, by simp⟩
  clear hS
  obtain ⟨L, hS, m1, m2, m3, m4, m5, m6⟩ := key
  obtain ⟨_, _, rfl, -⟩ := id (hS.get m1)
  obtain ⟨_, _, rfl, -⟩ := id (hS.get m3)
  obtain ⟨_, _, rfl, -⟩ := id (hS.get m4)
  obtain ⟨_, _, rfl, -⟩ := id (hS.get m2)
  obtain ⟨_, _, rfl, -⟩ := id (hS.get m5)
  obtain ⟨_, _, rfl, -⟩ := id (hS.get m6)
  have m1' := Lib.hid m1
  have m2' := Lib.hid m2
  have m3' := Lib.hid m3
  have m4' := Lib.hid m4
  have m5' := Lib.hid m5
  have m6' := Lib.hid m6
  clear m1 m2 m3 m4 m5 m6
  go_upto_region 18 with fail
  go_cut [205] from 128 to 205 (fun s wx => s = .bool false ∧ Below w18.heap.size w18 wx)
  case first => as_aux_lemma =>
    have hb0 := Below.refl w18.heap.size w18
    go_wp2_with fail
    refine (qInts_same _ _ l w18 (hS.get m2'.out) (hS.get m3'.out) zl'.out).mono ?_
    rintro e w19 ⟨rfl, hB19⟩
    replace hb0 := hb0.trans (hB19.mono hb0.size)
    replace hS := hS.next hB19
    have y11 := x11'.out.below hB19
    have y13 := x13'.out.below hB19
    have y24 := x24'.out.below hB19
    clear x11' x13' x24'
    have x11' := Lib.hid y11
    have x13' := Lib.hid y13
    have x24' := Lib.hid y24
    clear y11 y13 y24
    clear hB19
    obtain ⟨z110, z111, -, -⟩ := x11'.out
    obtain ⟨z130, z131, -, -⟩ := x13'.out
    go_wp2_with fail
    refine (qInts_same _ _ r w19 (hS.get m5'.out) (hS.get m6'.out) zr'.out).mono ?_
    rintro e w20 ⟨rfl, hB20⟩
    replace hb0 := hb0.trans (hB20.mono hb0.size)
    replace hS := hS.next hB20
    have y11 := x11'.out.below hB20
    have y13 := x13'.out.below hB20
    have y24 := x24'.out.below hB20
    clear x11' x13' x24'
    have x11' := Lib.hid y11
    have x13' := Lib.hid y13
    have x24' := Lib.hid y24
    clear y11 y13 y24
    clear hB20
    clear z110 z111 z130 z131
    have cc := implIsPolynomial_any _ p w20 (hS.get m1'.out) (len20 lp'.out)
    rw [show IsPolynomial_v p = three from ft'.out.symm] at cc
    have cc' := Lib.hid cc
    clear cc
    obtain rfl | ⟨rfl, rfl⟩ := okone'.out
    · go_wp2_with fail
      refine (cc'.out).mono ?_
      rintro e wq ⟨rfl, hBq⟩
      go_wp2_with fail
      go_meet
      exact ⟨rfl, hb0.trans (hBq.mono hb0.size)⟩
    · go_wp2_with fail
      refine (cc'.out).mono ?_
      rintro e wq ⟨rfl, hBq⟩
      go_wp2_with fail
      go_meet
      exact ⟨rfl, hb0.trans (hBq.mono hb0.size)⟩
  case rest => as_aux_lemma =>
    obtain ⟨rfl, hB19⟩ := hcut
    obtain ⟨w19, rfl⟩ : ∃ wo : World, wo = wc := ⟨_, rfl⟩
    replace hS := hS.next hB19
    have y11 := x11'.out.below hB19
    have y13 := x13'.out.below hB19
    have y24 := x24'.out.below hB19
    clear x11' x13' x24'
    have x11' := Lib.hid y11
    have x13' := Lib.hid y13
    have x24' := Lib.hid y24
    clear y11 y13 y24
    clear hB19
    go_upto_region 20 with fail
    go_cut [221] from 206 to 221 (fun s wx => (∃ b : Bool, s = .bool b ∧ (b = true → seven = true ∧ x1 = 1 ∧ -9 ≤ x0 ∧ x0 ≤ 9)) ∧ Below w19.heap.size w19 wx)
    case first => as_aux_lemma =>
      obtain ⟨z240, z241, -, -⟩ := x24'.out
      cases seven
      · go_wp2_with fail
        go_meet
        exact ⟨⟨_, rfl, fun h => by cases h⟩, Below.refl _ _⟩
      by_cases d1 : x1 = 1
      rotate_left
      · have d2 : (x1 == 1) = false := by rw [beq_eq_false_iff_ne]; exact d1
        clear d1
        go_wp2_with fail
        go_meet
        exact ⟨⟨_, rfl, fun h => by cases h⟩, Below.refl _ _⟩
      have d2 : (x1 == 1) = true := by rw [beq_iff_eq]; exact d1
      by_cases d3 : -9 ≤ x0
      rotate_left
      · have d1' := Lib.hid d1
        clear d1
        go_wp2_with fail
        go_meet
        exact ⟨⟨_, rfl, fun h => by cases h⟩, Below.refl _ _⟩
      by_cases d4 : x0 ≤ 9
      rotate_left
      · have d1' := Lib.hid d1
        clear d1
        go_wp2_with fail
        go_meet
        exact ⟨⟨_, rfl, fun h => by cases h⟩, Below.refl _ _⟩
      have d1' := Lib.hid d1
      clear d1
      go_wp2_with fail
      go_meet
      exact ⟨⟨_, rfl, fun _ => ⟨trivial, d1'.out, d3, d4⟩⟩, Below.refl _ _⟩
    case rest => as_aux_lemma =>
    obtain ⟨⟨b, rfl, hb⟩, hB20⟩ := hcut
    obtain ⟨w20, rfl⟩ : ∃ wo : World, wo = wc := ⟨_, rfl⟩
    replace hS := hS.next hB20
    have y11 := x11'.out.below hB20
    have y13 := x13'.out.below hB20
    have y24 := x24'.out.below hB20
    clear x11' x13' x24'
    have x11' := Lib.hid y11
    have x13' := Lib.hid y13
    have x24' := Lib.hid y24
    clear y11 y13 y24
    clear hB20
    have hb' := Lib.hid hb
    clear hb
    go_upto_if 221 with fail
    go_cut [34, 35] from 222 to 244 (fun _ _ wx => Below w20.heap.size w20 wx)
    case first => as_aux_lemma =>
      cases b
      · go_wp2_with fail
        go_meet
        exact Below.refl _ _
      obtain ⟨e1, e2, e3⟩ := hb'.out rfl
      obtain ⟨z, hz, hzs⟩ := fv'.out e1 e2 e3
      obtain ⟨z240, z241, -, -⟩ := x24'.out
      have cc := implPolyValue_any _ q x0 w20 (hS.get m4'.out) (len20 lq'.out) (by unfold I64; omega)
      rw [hz] at cc
      clear e1 e2 e3 hz
      have cc' := Lib.hid cc
      have hzs' := Lib.hid hzs
      clear cc hzs
      go_wp2_with fail
      refine (cc'.out).mono ?_
      rintro e wq ⟨rfl, hBq⟩
      have hBq' := Lib.hid hBq
      clear hBq
      obtain ⟨hz, rfl⟩ | ⟨hz, rfl⟩ | ⟨rfl, rfl⟩ := hzs'.out
      · have hn : ¬ z < 0 := by omega
        go_wp2_with fail
        go_meet
        exact hBq'.out
      · have hn : ¬ 0 < z := by omega
        go_wp2_with fail
        go_meet
        exact hBq'.out
      · skip
        go_wp2_with fail
        go_meet
        exact hBq'.out
    case rest => as_aux_lemma =>
    clear hb' fv'
    have hB21 := hcut
    clear hcut
    obtain ⟨w21, rfl⟩ : ∃ wo : World, wo = wc := ⟨_, rfl⟩
    replace hS := hS.next hB21
    have y11 := x11'.out.below hB21
    have y13 := x13'.out.below hB21
    have y24 := x24'.out.below hB21
    clear x11' x13' x24'
    have x11' := Lib.hid y11
    have x13' := Lib.hid y13
    have x24' := Lib.hid y24
    clear y11 y13 y24
    clear hB21
    go_upto_if 245 with fail
    go_cut [36, 37] from 246 to 269 (fun _ _ wx => Below w21.heap.size w21 wx)
    case first => as_aux_lemma =>
      cases three
      · go_wp2_with fail
        go_meet
        exact Below.refl _ _
      obtain ⟨e1, e2, e3⟩ := fb'.out rfl
      have hb0 := Below.refl w21.heap.size w21
      have cc := implParsePoly_any ⟨t.toArray⟩ t (by simp) w21 e2 (hT.out.below hS.below)
      rw [e1] at cc
      clear e1 e2
      have cc' := Lib.hid cc
      have e3' := Lib.hid e3
      clear cc e3
      go_wp2_with fail
      refine (cc'.out).mono ?_
      rintro e w22 ⟨v7, rfl, q1, hB22⟩
      replace hb0 := hb0.trans (hB22.mono hb0.size)
      have q2 := q1.read
      replace hS := hS.next hB22
      obtain ⟨_, _, rfl, -⟩ := id q2
      clear hB22 q1 cc'
      have cq := qInts_same _ _ p w22 q2 (hS.get m1'.out) (len20 lp'.out)
      clear q2
      have e4 := e3'.out
      clear e3'
      have cq' := Lib.hid cq
      clear cq
      rcases e4 with e4 | e4
      · have e6 : ¬ ((0 : Int) < (p.length : Int)) := by omega
        have e7 : ¬ (0 < p.length) := by omega
        have e4' := Lib.hid e4
        clear e4
        by_cases e5 : (p.length : Int) ≤ c
        · go_wp2_with fail
          refine (cq'.out).mono ?_
          rintro e wq ⟨rfl, hBq⟩
          go_wp2_with fail
          go_meet
          exact hb0.trans (hBq.mono hb0.size)
        · go_wp2_with fail
          refine (cq'.out).mono ?_
          rintro e wq ⟨rfl, hBq⟩
          go_wp2_with fail
          go_meet
          exact hb0.trans (hBq.mono hb0.size)
      · have e5 : ¬ ((p.length : Int) ≤ c) := by omega
        go_wp2_with fail
        refine (cq'.out).mono ?_
        rintro e wq ⟨rfl, hBq⟩
        go_wp2_with fail
        go_meet
        exact hb0.trans (hBq.mono hb0.size)
    case rest => as_aux_lemma =>
    have hB22 := hcut
    clear hcut
    obtain ⟨w22, rfl⟩ : ∃ wo : World, wo = wc := ⟨_, rfl⟩
    replace hS := hS.next hB22
    have y11 := x11'.out.below hB22
    have y13 := x13'.out.below hB22
    have y24 := x24'.out.below hB22
    clear x11' x13' x24'
    have x11' := Lib.hid y11
    have x13' := Lib.hid y13
    have x24' := Lib.hid y24
    clear y11 y13 y24
    clear hB22
    cases ok
    · clear x11' x13' x24'
      go_wp2_with fail
      go_ret
      exact ⟨rfl, hS.below⟩
    have f1 := ffar'.out rfl
    obtain ⟨sg, f2, f3, f4, f5⟩ := fsg'.out rfl
    obtain ⟨g1, -, g3, g4⟩ := fok'.out rfl
    clear ffar' fsg' fok' fo' okone' x11' x24'
    obtain ⟨z130, z131, -, -⟩ := x13'.out
    have hbb : ∀ w', Below w22.heap.size w22 w' → BoxO w' _ b0 b1 := fun w' hB => x13'.out.below hB
    clear x13' z130 z131
    obtain ⟨nl, hnl⟩ : ∃ m, l.length = m := ⟨_, rfl⟩
    have hlr : ∀ w', Below w22.heap.size w22 w' → IntsV w' _ l := fun w' hB => (hS.next hB).get m3'.out
    have hb0 := Below.refl w22.heap.size w22
    have hnb : nl ≤ 1099511627776 := by rw [← hnl]; exact zl'.out
    rw [hnl] at f1 hlr ⊢
    have hnl' := Lib.hid hnl
    have f1' := Lib.hid f1
    have f2' := Lib.hid f2
    have f3' := Lib.hid f3
    have f4' := Lib.hid f4
    have f5' := Lib.hid f5
    have g1' := Lib.hid g1
    have g3' := Lib.hid g3
    have g4' := Lib.hid g4
    have hbb' := Lib.hid hbb
    have hlr' := Lib.hid hlr
    have hb0' := Lib.hid hb0
    clear hnl f1 f2 f3 f4 f5 g1 g3 g4 hbb hlr hb0
    go_wp2_with fail
    go_loopw [274] (fun i wr => ∃ k : Nat, k ≤ nl ∧ i = .int .i64 k ∧ Below w22.heap.size w22 wr) (fun i _ => nl - (intOf i).toNat)
    case atStart => exact ⟨0, Nat.zero_le _, rfl, hb0'.out⟩
    case round =>
      obtain ⟨k, hk, rfl, hBr⟩ := hrel
      obtain ⟨wA, rfl⟩ : ∃ wo : World, wo = wr := ⟨_, rfl⟩
      by_cases hlt : k < nl
      · obtain ⟨z0, z1, -, -⟩ := hbb'.out wA hBr
        obtain ⟨_, _, el, -, -, HL⟩ := hlr'.out wA hBr
        rw [hnl'.out] at el HL
        obtain ⟨bl, ol, e0, y0⟩ := HL k hlt
        clear HL
        cases e0; cases el
        obtain ⟨h1, h2, h3⟩ := f1'.out k hlt
        generalize nth l k = x at *
        have h4 : ¬ (b0 * d < x * b1) := by omega
        have h5 : IntKind.i64.wrap (x * b1) = x * b1 := by rw [IntKind.wrap_i64]; unfold wrap64 at h2; exact h2
        have h6 : IntKind.i64.wrap (b0 * d) = b0 * d := by rw [IntKind.wrap_i64]; unfold wrap64 at h3; exact h3
        clear h1
        have hBr' := Lib.hid hBr
        clear hBr
        go_wp2_with fail
        go_roundw
        case rel => exact ⟨k + 1, by omega, by go_num, hBr'.out⟩
        case measure => simp [intOf]; omega
      · have q0 : ¬ ((k : Int) < (nl : Int)) := by omega
        clear f1' hb0' hbb' hlt
        have lc := fun (j : Nat) w' (hj : j ≤ 30) (hB : Below w22.heap.size w22 w') => qPlace_any _ p j d w' ((hS.next hB).get m1'.out) g1'.out hj g3'.out
        have lq := fun (j : Int) w' (hB : Below w22.heap.size w22 w') => qHas_any _ l j w' (hlr'.out w' hB) (by rw [hnl'.out]; exact hnb)
        have hcc := hS.below
        have f6 := fun j => btw_le sg j
        have f7 : ∀ j, btw sg (j + 1) = btw sg j + if 0 < j ∧ sg j * sg (j + 1) < 0 then 1 else 0 := fun j => rfl
        have f3 := f3'.out
        have f4 := f4'.out
        have f5 := f5'.out
        replace lc : ∀ (j : Nat) w', j ≤ 30 → Below w22.heap.size w22 w' → Calls Tryz.prog 22 #[_, .int .i64 j, .int .i64 d] w' (Ret (.tuple #[.int .i64 (sg j), .bool true]) w') := fun j w' hj hB => by have := lc j w' hj hB; rw [f2'.out j] at this; exact this
        clear f2' f3' f4' f5' hlr' g1' g3' g4' hnl' hS m1' m3' m4'
        have hBr' := Lib.hid hBr
        have lc' := Lib.hid lc
        have lq' := Lib.hid lq
        have hcc' := Lib.hid hcc
        have f3' := Lib.hid f3
        have f4' := Lib.hid f4
        have f5' := Lib.hid f5
        have f6' := Lib.hid f6
        have f7' := Lib.hid f7
        clear hBr lc lq hcc f3 f4 f5 f6 f7
        go_wp2_with fail
        go_loopw [40, 41] (fun b i wr => ∃ k : Nat, k ≤ 30 ∧ b = .int .i64 (btw sg k) ∧ i = .int .i64 k ∧ Below w22.heap.size w22 wr) (fun _ i _ => 30 - (intOf i).toNat)
        case atStart => exact ⟨0, Nat.zero_le _, rfl, rfl, hBr'.out⟩
        case round =>
          clear hBr' q0 hk
          obtain ⟨k, hk, rfl, rfl, hBr⟩ := hrel
          obtain ⟨wB, rfl⟩ : ∃ wo : World, wo = wr := ⟨_, rfl⟩
          have hb := f6'.out k
          by_cases hlt : k < 30
          · have e1 := f7'.out k
            have e2 := f4'.out k hlt
            have e3 := sg_mul (f3'.out k) (f3'.out (k + 1))
            have ca := fun w' hB => lc'.out k w' (by omega) hB
            have cb := fun w' hB => lc'.out (k + 1) w' (by omega) hB
            have ch := fun w' hB => lq'.out k w' hB
            rw [e2] at ch
            obtain ⟨B, hB⟩ : ∃ B, btw sg k = B := ⟨_, rfl⟩
            rw [hB] at hb e1 ⊢
            generalize sg k = a at *
            generalize sg (k + 1) = b at *
            have q1 : (k : Int) < 30 := by omega
            obtain ⟨e3, e4⟩ := e3
            clear e2 hB
            have ca' := Lib.hid ca
            have cb' := Lib.hid cb
            have ch' := Lib.hid ch
            have e1' := Lib.hid e1
            clear ca cb ch e1
            by_cases h1 : a * b < 0
            · have h2 : (a == 0) = false := by rw [beq_eq_false_iff_ne]; intro q; rw [q] at h1; simp at h1
              by_cases h3 : 0 < k
              · have h4 : (0 : Int) < (k : Int) := by omega
                have ch := ch'.out
                rw [show decide (a = 0 ∨ a * b < 0) = true from decide_eq_true (.inr h1)] at ch
                have e5 : btw sg (k + 1) = B + 1 := by rw [e1'.out]; rw [if_pos ⟨h3, h1⟩]
                clear ch' e1'
                have ch' := Lib.hid ch
                have e5' := Lib.hid e5
                clear ch e5
                go_wp2_with fail
                refine (ca'.out wB hBr).mono ?_
                rintro e wa ⟨rfl, hBa⟩
                have hb1 := hBr.trans (hBa.mono hBr.size)
                clear hBa
                go_wp2_with fail
                refine (cb'.out wa hb1).mono ?_
                rintro e wb ⟨rfl, hBb⟩
                have hb2 := hb1.trans (hBb.mono hb1.size)
                clear hBb hb1
                go_wp2_with fail
                refine (ch'.out wb hb2).mono ?_
                rintro e w_ ⟨rfl, rfl⟩
                have hb2' := Lib.hid hb2
                clear hb2
                go_wp2_with fail
                go_roundw
                case rel => exact ⟨k + 1, by omega, by first | (rw [e5'.out]; done) | (rw [e5'.out]; go_num), by go_num, hb2'.out⟩
                case measure => simp [intOf]; omega
              · have h4 : ¬ (0 : Int) < (k : Int) := by omega
                have ch := ch'.out
                rw [show decide (a = 0 ∨ a * b < 0) = true from decide_eq_true (.inr h1)] at ch
                have e5 : btw sg (k + 1) = B + 0 := by rw [e1'.out]; rw [if_neg (fun q => h3 q.1)]
                clear ch' e1'
                have ch' := Lib.hid ch
                have e5' := Lib.hid e5
                clear ch e5
                go_wp2_with fail
                refine (ca'.out wB hBr).mono ?_
                rintro e wa ⟨rfl, hBa⟩
                have hb1 := hBr.trans (hBa.mono hBr.size)
                clear hBa
                go_wp2_with fail
                refine (cb'.out wa hb1).mono ?_
                rintro e wb ⟨rfl, hBb⟩
                have hb2 := hb1.trans (hBb.mono hb1.size)
                clear hBb hb1
                go_wp2_with fail
                refine (ch'.out wb hb2).mono ?_
                rintro e w_ ⟨rfl, rfl⟩
                have hb2' := Lib.hid hb2
                clear hb2
                go_wp2_with fail
                go_roundw
                case rel => exact ⟨k + 1, by omega, by first | (rw [e5'.out]; done) | (rw [e5'.out]; go_num), by go_num, hb2'.out⟩
                case measure => simp [intOf]; omega
            · by_cases h0 : a = 0
              · have h2 : (a == 0) = true := by rw [beq_iff_eq]; exact h0
                have ch := ch'.out
                rw [show decide (a = 0 ∨ a * b < 0) = true from decide_eq_true (.inl h0)] at ch
                have e5 : btw sg (k + 1) = B + 0 := by rw [e1'.out]; rw [if_neg (fun q => h1 q.2)]
                clear ch' e1'
                have ch' := Lib.hid ch
                have e5' := Lib.hid e5
                clear ch e5
                go_wp2_with fail
                refine (ca'.out wB hBr).mono ?_
                rintro e wa ⟨rfl, hBa⟩
                have hb1 := hBr.trans (hBa.mono hBr.size)
                clear hBa
                go_wp2_with fail
                refine (cb'.out wa hb1).mono ?_
                rintro e wb ⟨rfl, hBb⟩
                have hb2 := hb1.trans (hBb.mono hb1.size)
                clear hBb hb1
                go_wp2_with fail
                refine (ch'.out wb hb2).mono ?_
                rintro e w_ ⟨rfl, rfl⟩
                have hb2' := Lib.hid hb2
                clear hb2
                go_wp2_with fail
                go_roundw
                case rel => exact ⟨k + 1, by omega, by first | (rw [e5'.out]; done) | (rw [e5'.out]; go_num), by go_num, hb2'.out⟩
                case measure => simp [intOf]; omega
              · have h2 : (a == 0) = false := by rw [beq_eq_false_iff_ne]; exact h0
                have ch := ch'.out
                rw [show decide (a = 0 ∨ a * b < 0) = false from decide_eq_false (fun q => q.elim h0 h1)] at ch
                have e5 : btw sg (k + 1) = B + 0 := by rw [e1'.out]; rw [if_neg (fun q => h1 q.2)]
                clear ch' e1'
                have ch' := Lib.hid ch
                have e5' := Lib.hid e5
                clear ch e5
                go_wp2_with fail
                refine (ca'.out wB hBr).mono ?_
                rintro e wa ⟨rfl, hBa⟩
                have hb1 := hBr.trans (hBa.mono hBr.size)
                clear hBa
                go_wp2_with fail
                refine (cb'.out wa hb1).mono ?_
                rintro e wb ⟨rfl, hBb⟩
                have hb2 := hb1.trans (hBb.mono hb1.size)
                clear hBb hb1
                go_wp2_with fail
                refine (ch'.out wb hb2).mono ?_
                rintro e w_ ⟨rfl, rfl⟩
                have hb2' := Lib.hid hb2
                clear hb2
                go_wp2_with fail
                go_roundw
                case rel => exact ⟨k + 1, by omega, by first | (rw [e5'.out]; done) | (rw [e5'.out]; go_num), by go_num, hb2'.out⟩
                case measure => simp [intOf]; omega
          · obtain rfl : k = 30 := by omega
            have f5 := f5'.out
            clear f5'
            generalize btw sg 30 = B at *
            have hBr' := Lib.hid hBr
            clear hBr
            go_wp2_with fail
            go_ret
            exact ⟨rfl, hcc'.out.trans (hBr'.out.mono hcc'.out.size)⟩

set_option maxRecDepth 100000 in
theorem lawRoots_over (ao0 : Option Addr) (n0 cap0 : Nat) (ao1 : Option Addr) (n1 cap1 : Nat) (w : World) (hl : ¬ n0 + n1 ≤ 1048576) (b0 : n0 ≤ 140737488355328) (b1 : n1 ≤ 140737488355328) :
    Calls Tryz.prog 3 #[.slice ao0 n0 cap0, .slice ao1 n1 cap1] w (Ret (.bool true) w) := by
  have h1 : (1048576 : Int) < (n0 : Int) + (n1 : Int) := by omega
  go_enter Tryz.func3, Tryz.ntmps3
  go_wp2
  go_ret
  exact ⟨rfl, Below.refl _ _⟩
theorem lawRoots_any (v0 v1 : Value) (w : World) (h0 : CodeX w v0) (h1 : CodeX w v1) (hT : TextVars w) :
    Calls Tryz.prog 3 #[v0, v1] w (Ret (.bool true) w) := by
  obtain ⟨ao0, n0, cap0, rfl, b0, h0⟩ := h0
  obtain ⟨ao1, n1, cap1, rfl, b1, h1⟩ := h1
  by_cases hl : n0 + n1 ≤ 1048576
  · exact lawRoots_main _ _ _ _ _ _ w (Lib.hid (h0 (by omega))) (Lib.hid (h1 (by omega))) (Lib.hid hT) hl
  · exact lawRoots_over _ _ _ _ _ _ w hl b0 b1


theorem star_err : "*" ++ "errors.errorString" = "*errors.errorString" := by decide
theorem row_err (u : TypeId) (h : Tryz.prog.typeName? 3 u = some "*errors.errorString") : u = 114 :=
  typeName_ptr_named (P := Tryz.prog) (nm := "errors.errorString") (by rw [star_err]; kernel_rfl) (by kernel_rfl) (by decide) u (by rw [star_err]; exact h)
theorem textVars_of {w : World} (hsh : w.ShapedOpen Tryz.prog) (h : laidMet Tryz.prog Rows.fnRootsRow.laid w) : TextVars w := by
  obtain ⟨a2, s2, hr, -⟩ := laid_sentinel h.tail.tail.tail.tail (g := 1) (ti := 68) (tp := 114) (te := 116) (ts := 9) (by kernel_rfl) (by kernel_rfl) Tryz.underlying68 row_err Tryz.underlying114 Tryz.underlying116 (by kernel_rfl) (by kernel_rfl) Tryz.underlying9 (by kernel_rfl) (by kernel_rfl)
  obtain ⟨a1, s1, hy, -⟩ := laid_sentinel h.tail.tail.tail.tail.tail (g := 0) (ti := 68) (tp := 114) (te := 116) (ts := 9) (by kernel_rfl) (by kernel_rfl) Tryz.underlying68 row_err Tryz.underlying114 Tryz.underlying116 (by kernel_rfl) (by kernel_rfl) Tryz.underlying9 (by kernel_rfl) (by kernel_rfl)
  refine ⟨?_, ⟨_, _, hy⟩, ⟨_, _, hr⟩, ?_⟩
  · exact Go.Proofs.cell_of_shapedOpen_int (zero := #[.int .i64 0]) (t := 3) hsh (of_decide_eq_true (by kernel_rfl)) (by kernel_rfl) rfl (by kernel_rfl) (by kernel_rfl) Tryz.underlying3
  · exact Lib.tabIs_of_head (g := 5) (t := 133) (e := 48) (n := 20) (by kernel_rfl) (by kernel_rfl) Tryz.underlying133 Tryz.underlying48 (by kernel_rfl) (by kernel_rfl) h.tail.tail

open Go.ChangeShapes Go.WideShapes Go.ChangeAt in
set_option maxRecDepth 100000 in
theorem lawRoots_lifted (os : Os) (started : os.Started) (H : Type) (enc : TypeId × Value → H) :
    ReturnsInHanded {} Tryz.checked os 3 .any (fun w args => (Rows.fnRootsSpec.pre enc Tryz.prog Tryz.f3 Rows.fnRootsRow.domain false w args ∧ laidMet Tryz.prog Rows.fnRootsRow.laid w) ∧ sizedMet enc Tryz.prog Tryz.f3 (OpenSpec.ofChange Rows.fnRootsSpec) false w args)
      (Rows.fnRootsSpec.post enc Tryz.prog Tryz.f3 false true false false) := by
  refine returnsInHanded_of_calls (C := Tryz.checked) Tryz.own started (by kernel_rfl)
    (ChangeSpec.witness_shaped (enc := enc) (C := Tryz.checked) (os := os) (fn := Tryz.f3) (X := fun w _ => laidMet Tryz.prog Rows.fnRootsRow.laid w) false (World.laidAll Tryz.prog os Rows.fnRootsRow.laid) #[.slice none 0 0, .slice none 0 0] 8 (World.laidAll_os _ _ _)
      (World.shaped_of_ZipB (by kernel_rfl) (by kernel_rfl)) (by kernel_rfl) (by kernel_rfl) (by kernel_rfl) (laidMet_laidAll _ (by kernel_rfl) (by kernel_rfl))) ?_
  intro w0 tape i _ hsh _ hok hpre hholds
  obtain ⟨_, _, _, fn', hfn', _, _, _, _, hval0⟩ := hok
  have e : fn' = Tryz.f3 := Option.some.inj (hfn'.symm.trans Tryz.func3)
  subst e
  obtain ⟨⟨⟨ds, gs, before, hw, _⟩, hx⟩, hz⟩ := hpre
  have hsz : (DataW.weightsEach Tryz.prog (Tryz.f3.params.toList ++ Rows.fnRootsSpec.plain.varTypes Tryz.prog) (ds ++ gs)).all (· ≤ reachBytes) = true := hz.weights hw
  have hW := DataW.Whole.of_heap (w' := w0.forCall tape i) (by rfl) hw
  have hL : laidMet Tryz.prog Rows.fnRootsRow.laid (w0.forCall tape i) := laidMet.of_heap (by rfl) hx
  clear hz
  generalize hWW : w0.forCall tape i = W at *
  have hval : ∀ (j : Nat) t v, Tryz.f3.params[j]? = some t → i.args[j]? = some v → Value.okWide Tryz.prog W .any w0.heap.size t v := hval0
  have hTV := textVars_of hsh hL
  generalize i.args = args at *
  have hW' := hW
  obtain ⟨p, q, hA0, hV, rfl, _, _⟩ := hW
  have hA : DataW.TrodAll enc Tryz.prog W 0 (fun _ => true) true Tryz.f3.params.toList args.toList ds p := hA0
  have hA' := hA
  rw [Tryz.params3] at hA hval hsz
  obtain ⟨v0, v1, d0, d1, p0, p1, rfl, rfl, rfl, h0, h1⟩ := trodAll_two hA
  obtain ⟨rfl, rfl⟩ := trodVars_none hV
  refine (lawRoots_any v0 v1 W (open_codeX (hval 0 22 v0 rfl rfl) h0 fun _ _ e => by subst e; exact sized_slice hsz (j := 0) rfl rfl Tryz.underlying22) (open_codeX (hval 1 22 v1 rfl rfl) h1 fun _ _ e => by subst e; exact sized_slice hsz (j := 1) rfl rfl Tryz.underlying22) hTV).mono fun e W' ⟨he, hB⟩ => ?_
  subst he
  obtain ⟨v, hv, hp⟩ := law_post hW' rfl hA' (by rw [Tryz.params3]; decide +kernel) rfl rfl rfl rfl hB
  cases hv
  exact ChangeSpec.post_blind hp

theorem fnRoots_row : Rows.FnRootsSaid :=
  OpenClaim.holds_of_wide 3 Tryz.f3 rfl rfl rfl rfl rfl rfl rfl ⟨rfl, rfl, rfl, rfl, rfl⟩ rfl rfl rfl rfl rfl (by kernel_rfl) Tryz.func3 (by kernel_rfl)
    (of_decide_eq_true (by kernel_rfl)) (by unfold Func.isWrapper; rw [if_neg (of_decide_eq_false (by kernel_rfl))]; exact ⟨rfl, rfl⟩)
    (fun os started H enc _ => lawRoots_lifted os started H enc)

theorem fnRoots_holds : Rows.FnRootsCardSaid :=
  Claim7.holds_tied_plain_at .later [] [.data, .data, .data, .data, .sentinel, .sentinel, .pinned] true (true, "f549f2177dc9844e73e424588c7966cf0b360379bc524488d9d2cda5e3995c1f") true
    fnRoots_row (fun _ h => by cases h) (by kernel_rfl) (fun _ h => by cases h) fnRoots_row_tie rfl ⟨rfl, rfl⟩ (by kernel_rfl) rfl
    (fun f fn hf hfn => by
      obtain rfl : f = 3 := Option.some.inj ((show Tryz.prog.funcNamed "loop.example/g01003/laws.FnRoots" = some 3 by kernel_rfl).symm.trans hf) |>.symm
      obtain rfl : fn = Tryz.f3 := (Option.some.inj (Tryz.func3.symm.trans hfn)).symm
      exact ⟨by kernel_rfl, fun j t ht => by
        rw [Tryz.params3] at ht
        have h3 : t = 22 := by
          rcases j with _ | _ | j
          · simpa using ht.symm
          · simpa using ht.symm
          · simp at ht
        subst h3
        exact (show Tryz.prog.wantsStandIn 22 = false by kernel_rfl)⟩)
    (by kernel_rfl)
#print axioms fnRoots_holds

end Go.Proofs.YtgpabfbnbmbmeaaGreatDoor

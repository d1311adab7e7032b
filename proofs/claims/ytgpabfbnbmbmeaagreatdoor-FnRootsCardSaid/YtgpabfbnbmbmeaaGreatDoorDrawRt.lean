/- FnRoots' drawn inputs, told loosely: a polynomial and a number; a polynomial and a fraction. No conditions but a readable code. -/
import Derived.Test.YtgpabfbnbmbmeaaGreatDoorDrawP
import Derived.Test.YtgpabfbnbmbmeaaGreatDoorDrawR2
import Derived.Test.YtgpabfbnbmbmeaaGreatDoorPolyOps
import Derived.Deep.Cut
import Derived.Deep.CutRange
import Derived.Deep.CutBlock
namespace Go.Proofs.YtgpabfbnbmbmeaaGreatDoor
open Go.RowKit
set_option maxRecDepth 100000

/-- It returns a small list and a small number. -/
def DrawRt (w : World) (e : Ending) (w' : World) : Prop := ∃ v xs x, e = .returned (.tuple #[v, .int .i64 x]) ∧ IntsV w' v xs ∧ xs.length ≤ 20 ∧ (0 ≤ x ∧ x ≤ 31) ∧ Below w.heap.size w w'
set_option linter.unusedSimpArgs false in
set_option maxHeartbeats 1600000 in
theorem DrawRootPlaces_any (v : Value) (n : Nat) (w : World) (h : CodeV w v n) : Calls Tryz.prog 4 #[v] w (DrawRt w) := by
  have c1 := anyPoly_any w.heap.size 0 _ (CurAt.start h) (by omega)
  obtain ⟨ao, cap, rfl, -, -⟩ := h
  have c1' := Lib.hid c1
  clear c1
  go_enter Tryz.func4, Tryz.ntmps4
  go_wp2_with fail
  refine (c1'.out).mono ?_
  rintro e w1 ⟨u, xs, rfl, ho, hl, hc1, hg1⟩
  go_wp2_with fail
  refine (one_any w.heap.size _ 3 w1 hc1 (by omega) (by omega) (by omega)).mono ?_
  rintro e w2 ⟨v2, rfl, ⟨b, rfl⟩, hc2, hg2⟩
  have hg := hg1.trans hg2
  replace ho := ho.kept hg2 (fun g e => by cases e; simp)
  clear hc1 hg1 hg2
  have hl' := Lib.hid hl
  clear hl
  cases b
  · go_wp2_with fail
    refine (among_list w.heap.size _ [0, 31] w2 2 hc2 (by omega) rfl (by omega) (by omega)).mono ?_
    rintro e w3 ⟨v3, rfl, ⟨y, rfl, hy⟩, hc3, hg3⟩
    go_wp2_with fail
    refine (among_list w.heap.size _ [1, 2, 10, 30, y] w3 5 hc3 (by omega) rfl (by omega) (by omega)).mono ?_
    rintro e w4 ⟨v4, rfl, ⟨z, rfl, hz⟩, hc4, hg4⟩
    have hgg := hg3.trans hg4
    have hB := start_below (hg.trans hgg)
    have hr := (ho.kept hgg (fun g e => by cases e; simp)).read
    have hb : 0 ≤ z ∧ z ≤ 31 := by simp at hy hz; omega
    have hb' := Lib.hid hb
    have hy' := Lib.hid hy
    have hz' := Lib.hid hz
    clear hb hy hz
    go_wp2
    go_ret2
    exact ⟨_, xs, z, rfl, hr, by have := hl'.out; omega, hb'.out, hB⟩
  · go_wp2_with fail
    refine (pick_any w.heap.size _ 4 w2 hc2 (by omega) (by omega) (by omega)).mono ?_
    rintro e w3 ⟨v3, rfl, ⟨x1, rfl, hx1⟩, hc3, hg3⟩
    go_wp2_with fail
    refine (pick_any w.heap.size _ 3 w3 hc3 (by omega) (by omega) (by omega)).mono ?_
    rintro e w4 ⟨v4, rfl, ⟨x2, rfl, hx2⟩, hc4, hg4⟩
    have hgA := hg.trans (hg3.trans hg4)
    obtain ⟨w5, hw5⟩ : ∃ W, w4.alloc (.cells #[.int .i64 (-(x1 : Int)), .int .i64 (1 + (x2 : Int))] 3) = W := ⟨_, rfl⟩
    have hB5 : Below w4.heap.size w4 w5 := by rw [← hw5]; exact (Below.refl _ _).alloc (Nat.le_refl _) _
    have i5 : IntsV w5 (.slice (some ⟨w4.heap.size, 0, none⟩) 2 2) [-(x1 : Int), 1 + (x2 : Int)] := by rw [← hw5]; exact IntsV.built w4 _ 2 rfl (by omega)
    have hlt4 := hc4.lt
    have hc5 := hc4.below hB5 hlt4
    have hgB : (w.alloc (.cells #[.slice ao n cap, .int .i64 0, .int .u64 0] 50)).grownBy w5 (some w.heap.size) := grown_below hgA hB5 hgA.size
    have hne : ∀ b off k cap', (.slice (some ⟨w4.heap.size, 0, none⟩) 2 2 : Value) = .slice (some ⟨b, off, none⟩) k cap' → b ≠ w.heap.size := fun b off k cap' e => by
      simp only [Value.slice.injEq, Option.some.injEq, Addr.mk.injEq] at e
      omega
    clear hc2 hc3 hg3 hc4 hg4 hB5 hgA
    have hw5' := Lib.hid hw5
    have i5' := Lib.hid i5
    have hgB' := Lib.hid hgB
    have hx1' := Lib.hid hx1
    have hx2' := Lib.hid hx2
    clear hw5 i5 hgB hx1 hx2
    have hx1b := hx1'.out
    have hx2b := hx2'.out
    go_wp2_with fail
    rw [hw5'.out]
    refine (pick_any w.heap.size _ 20 w5 hc5 (by omega) (by omega) (by omega)).mono ?_
    rintro e w6 ⟨v6, rfl, ⟨x3, rfl, hx3⟩, hc6, hg6⟩
    have i6 := i5'.out.off (c := w.heap.size) (fun b off k cap' e => hne b off k cap' e) hg6
    obtain ⟨w7, hw7⟩ : ∃ W, w6.alloc (.cells #[.int .i64 (-1 - (x3 : Int)), .int .i64 0, .int .i64 1] 3) = W := ⟨_, rfl⟩
    have hB7 : Below w6.heap.size w6 w7 := by rw [← hw7]; exact (Below.refl _ _).alloc (Nat.le_refl _) _
    have i7 : IntsV w7 (.slice (some ⟨w6.heap.size, 0, none⟩) 3 3) [-1 - (x3 : Int), 0, 1] := by rw [← hw7]; exact IntsV.built w6 _ 3 rfl (by omega)
    have j7 := i6.below hB7
    have hc7 := hc6.below hB7 hc6.lt
    have hgC := grown_below (hgB'.out.trans hg6) hB7 (hgB'.out.trans hg6).size
    have cp := specprod_any _ _ _ _ w7 j7 i7 (by simp) (by simp)
    have hpl : (prodL [-(x1 : Int), 1 + (x2 : Int)] [-1 - (x3 : Int), 0, 1]).length ≤ 5 := prodL_len _ _
    generalize prodL [-(x1 : Int), 1 + (x2 : Int)] [-1 - (x3 : Int), 0, 1] = PL at *
    clear hc6 hg6 hB7 hc5 i6 i7 j7 hne
    have hw7' := Lib.hid hw7
    have cp' := Lib.hid cp
    have hgC' := Lib.hid hgC
    have hpl' := Lib.hid hpl
    clear hw7 cp hgC hpl
    go_wp2_with fail
    rw [hw7'.out]
    refine (cp'.out).mono ?_
    rintro e w8 ⟨v8, rfl, ho8, hB8⟩
    have hc8 := hc7.below hB8 hc7.lt
    have hgD := grown_below hgC'.out hB8 hgC'.out.size
    have hlt8 := hgC'.out.size
    obtain ⟨ao8, cap8, rfl, -⟩ := id ho8.read
    have hgD' := Lib.hid hgD
    clear hgD
    go_wp2_with fail
    refine (among_list w.heap.size _ [0, 31] w8 2 hc8 (by omega) rfl (by omega) (by omega)).mono ?_
    rintro e w9 ⟨v9, rfl, ⟨y, rfl, hy⟩, hc9, hg9⟩
    go_wp2_with fail
    refine (among_list w.heap.size _ [1, 2, 10, 30, y] w9 5 hc9 (by omega) rfl (by omega) (by omega)).mono ?_
    rintro e w10 ⟨v10, rfl, ⟨z, rfl, hz⟩, hc10, hg10⟩
    have hgg := hg9.trans hg10
    have hB := start_below (hgD'.out.trans hgg)
    have hr := (ho8.kept hgg (fun g e => by cases e; left; simp at hlt8; omega)).read
    have hb : 0 ≤ z ∧ z ≤ 31 := by simp at hy hz; omega
    have hb' := Lib.hid hb
    have hy' := Lib.hid hy
    have hz' := Lib.hid hz
    clear hb hy hz
    go_wp2
    go_ret2
    exact ⟨_, PL, z, rfl, hr, by have := hpl'.out; omega, hb'.out, hB⟩

/-- It returns a small list and some fraction of two ints. -/
def DrawSA (w : World) (e : Ending) (w' : World) : Prop := ∃ v xs x, e = .returned (.tuple #[v, ratV x]) ∧ IntsV w' v xs ∧ xs.length ≤ 20 ∧ I64R x ∧ Below w.heap.size w w'
theorem BoxO.set {w : World} {b : Nat} {x y : Int} (h : BoxO w b x y) (x' y' : Int) : BoxO ((w.setCell ⟨b, 0, none⟩ (.int .i64 x')).setCell ⟨b, 1, none⟩ (.int .i64 y')) b x' y' := by
  obtain ⟨h0, h1, h2, h3⟩ := h
  refine ⟨?_, ?_, ?_, ?_⟩ <;> simp [go_sem, h0, h1, h2, h3]
theorem grown_setB {a b : World} {c g : Nat} (h : a.grownBy b (some c)) (hg : a.heap.size ≤ g) (o : Nat) (x : Value) : a.grownBy (b.setCell ⟨g, o, none⟩ x) (some c) :=
  grown_new h (grownBy_setCell_some b g o x) (fun j hj => by have := Option.some.inj hj; omega)

set_option linter.unusedSimpArgs false in
set_option maxRecDepth 10000 in
set_option maxHeartbeats 4000000 in
theorem DrawSignAt_any (v : Value) (n : Nat) (w : World) (h : CodeV w v n) : Calls Tryz.prog 13 #[v] w (DrawSA w) := by
  obtain ⟨w0, hw0⟩ : ∃ W, w.alloc (.cells #[.int .i64 0, .int .i64 0] 29) = W := ⟨_, rfl⟩
  have hB0 : Below w.heap.size w w0 := by rw [← hw0]; exact (Below.refl _ _).alloc (Nat.le_refl _) _
  have hx0 : BoxO w0 w.heap.size 0 0 := by rw [← hw0]; exact BoxO.new _ _ _ _
  have hz0 : w0.heap.size = w.heap.size + 1 := by rw [← hw0]; simp
  have h0 := h.below hB0
  have hc0 := CurAt.start h0
  obtain ⟨ao, cap, rfl, -, -⟩ := h
  obtain ⟨c, hc⟩ : ∃ c, w0.heap.size = c := ⟨_, rfl⟩
  obtain ⟨w1, hw1⟩ : ∃ W, w0.alloc (.cells #[.slice ao n cap, .int .i64 0, .int .u64 0] 50) = W := ⟨_, rfl⟩
  have hB1 : Below w0.heap.size w0 w1 := by rw [← hw1]; exact (Below.refl _ _).alloc (Nat.le_refl _) _
  have hx1 := hx0.below hB1
  have hb1 := hB0.trans (hB1.mono hB0.size)
  rw [hw1, hc] at hc0
  have hcw : c = w.heap.size + 1 := by omega
  have hz1 : w1.heap.size = c + 1 := by rw [← hw1]; simp; omega
  clear h0 hB0 hB1 hx0 hz0
  have hw0' := Lib.hid hw0
  have hw1' := Lib.hid hw1
  have hx1' := Lib.hid hx1
  have hb1' := Lib.hid hb1
  have hc' := Lib.hid hc
  have hz1' := Lib.hid hz1
  have hcw' := Lib.hid hcw
  clear hw0 hw1 hx1 hb1 hc hz1 hcw
  go_enter Tryz.func13, Tryz.ntmps13
  go_upto_region 1 with fail
  rw [hw0'.out]
  go_upto_region 2 with fail
  rw [hw1'.out, hc'.out]
  go_wp2_with fail
  refine (among_list c 0 [1, 2, 5, 30] w1 4 hc0 (by omega) rfl (by omega) (by omega)).mono ?_
  rintro e w2 ⟨v2, rfl, ⟨y, rfl, hy⟩, hc2, hg2⟩
  obtain ⟨k, rfl, hk1, hk2⟩ : ∃ k : Nat, y = k ∧ 1 ≤ k ∧ k ≤ 1000 := ⟨y.toNat, by simp at hy; omega, by simp at hy; omega, by simp at hy; omega⟩
  go_wp2_with fail
  refine (gridRat_any c _ k w2 hc2 (by omega) hk1 hk2).mono ?_
  rintro e w3 ⟨⟨x, y⟩, rfl, hux, hc3, hg3⟩
  have hgG := unitR_good hux
  have hx64 : I64R (x, y) := good_i64 hgG
  have hxn : I64R (-x, y) := by
    have hg := (good_bd (r := (x, y)) hgG)
    refine ⟨?_, hx64.2⟩
    have := hg.2
    unfold I64
    simp only at this ⊢
    omega
  obtain ⟨w4, hw4⟩ : ∃ W, w3.alloc (.cells #[.int .i64 x, .int .i64 y] 29) = W := ⟨_, rfl⟩
  have hB4 : Below w3.heap.size w3 w4 := by rw [← hw4]; exact (Below.refl _ _).alloc (Nat.le_refl _) _
  have hb4 : BoxO w4 w3.heap.size x y := by rw [← hw4]; exact BoxO.new _ _ _ _
  have hg13 := hg2.trans hg3
  have hc4 := hc3.below hB4 hc3.lt
  have hg4 : w1.grownBy w4 (some c) := grown_below hg13 hB4 hg13.size
  have hsz3 : c + 1 ≤ w3.heap.size := by have := hg13.size; have := hz1'.out; omega
  obtain ⟨b5, hb5⟩ : ∃ b, w3.heap.size = b := ⟨_, rfl⟩
  rw [hb5] at hb4 hsz3
  clear hc0 hc2 hg2 hc3 hg3 hB4 hg13 hy hgG hux
  have hw4' := Lib.hid hw4
  have hb4' := Lib.hid hb4
  have hg4' := Lib.hid hg4
  have hb5' := Lib.hid hb5
  have hx64' := Lib.hid hx64
  have hxn' := Lib.hid hxn
  clear hw4 hb4 hg4 hb5 hx64 hxn
  go_upto_region 3 with fail
  rw [hw4'.out, hb5'.out]
  go_wp2_with fail
  refine (pick_any c _ 6 w4 hc4 (by omega) (by omega) (by omega)).mono ?_
  rintro e w5 ⟨v5, rfl, ⟨t, rfl, ht⟩, hc5, hg5⟩
  have hb5k := hb4'.out.kept hg5 (by intro e; have := Option.some.inj e; omega)
  have hgE := hg4'.out.trans hg5
  clear hc4 hg5 hb4' hg4'
  have hb5k' := Lib.hid hb5k
  have hgE' := Lib.hid hgE
  have hc5' := Lib.hid hc5
  clear hb5k hgE hc5
  have hb5c : c < b5 := by omega
  have hw1b : w1.heap.size ≤ b5 := by have := hz1'.out; omega
  go_upto_block 0 with fail
  go_cut [] from 16 to 34 (fun wx => ∃ x' y', BoxO wx b5 x' y' ∧ I64R (x', y') ∧ CurAt wx c 100 ∧ w1.grownBy wx (some c))
  case first =>
    have ht4 : t = 0 ∨ t = 1 ∨ t = 2 ∨ t = 3 ∨ 4 ≤ t := by omega
    obtain rfl | rfl | rfl | rfl | ht4 := ht4
    · obtain ⟨e0, e1, e2, e3⟩ := id hb5k'.out
      have hxb := hb5k'.out
      have hnew := grown_setB hgE'.out hw1b 0 (.int .i64 (-x))
      have hcn := hc5'.out.kept (grownBy_setCell_some _ b5 0 (.int .i64 (-x))) (fun j hj => by have := Option.some.inj hj; omega)
      have hbn : BoxO (w5.setCell ⟨b5, 0, none⟩ (.int .i64 (-x))) b5 (-x) y := by
        refine ⟨?_, ?_, ?_, ?_⟩ <;> simp [go_sem, e0, e1, e2, e3]
      have hwn : IntKind.i64.wrap (-x) = -x := by
        have := hxn'.out.1
        unfold I64 at this
        simp only at this
        rw [IntKind.wrap_i64]
        omega
      have hnew' := Lib.hid hnew
      have hcn' := Lib.hid hcn
      have hbn' := Lib.hid hbn
      clear hnew hcn hbn
      go_wp2
      go_meet
      exact ⟨-x, y, hbn'.out, hxn'.out, hcn'.out.mono (by omega), hnew'.out⟩
    · have q0 : (((1 : Nat) : Int) == 0) = false := by rfl
      have q1 : (((1 : Nat) : Int) == 1) = true := by rfl
      go_wp2_with fail
      refine (among_list c _ [30, 31, -30, -31] w5 4 hc5'.out (by omega) rfl (by omega) (by omega)).mono ?_
      rintro e w6 ⟨v6, rfl, ⟨z, rfl, hz⟩, hc6, hg6⟩
      have hz64 : I64R (z, 1) := ⟨by simp at hz; unfold I64; simp only; omega, by unfold I64; simp⟩
      obtain ⟨e0, e1, e2, e3⟩ := hb5k'.out.kept hg6 (by intro e; have := Option.some.inj e; omega)
      have hbn := BoxO.set (hb5k'.out.kept hg6 (by intro e; have := Option.some.inj e; omega)) z 1
      have hnew := grown_setB (grown_setB (hgE'.out.trans hg6) hw1b 0 (.int .i64 z)) hw1b 1 (.int .i64 1)
      have hcn := (hc6.kept (grownBy_setCell_some _ b5 0 (.int .i64 z)) (fun j hj => by have := Option.some.inj hj; omega)).kept (grownBy_setCell_some _ b5 1 (.int .i64 1)) (fun j hj => by have := Option.some.inj hj; omega)
      clear hc6 hg6 hz
      have hnew' := Lib.hid hnew
      have hcn' := Lib.hid hcn
      have hbn' := Lib.hid hbn
      have hz64' := Lib.hid hz64
      clear hnew hcn hbn hz64
      go_wp2
      go_meet
      exact ⟨z, 1, hbn'.out, hz64'.out, hcn'.out.mono (by omega), hnew'.out⟩
    · have q0 : (((2 : Nat) : Int) == 0) = false := by rfl
      have q1 : (((2 : Nat) : Int) == 1) = false := by rfl
      have q2 : (((2 : Nat) : Int) == 2) = true := by rfl
      have hz64 : I64R (1, 31) := ⟨by unfold I64; simp, by unfold I64; simp⟩
      obtain ⟨e0, e1, e2, e3⟩ := id hb5k'.out
      have hbn := BoxO.set hb5k'.out 1 31
      have hnew := grown_setB (grown_setB hgE'.out hw1b 0 (.int .i64 1)) hw1b 1 (.int .i64 31)
      have hcn := (hc5'.out.kept (grownBy_setCell_some _ b5 0 (.int .i64 1)) (fun j hj => by have := Option.some.inj hj; omega)).kept (grownBy_setCell_some _ b5 1 (.int .i64 31)) (fun j hj => by have := Option.some.inj hj; omega)
      have hnew' := Lib.hid hnew
      have hcn' := Lib.hid hcn
      have hbn' := Lib.hid hbn
      have hz64' := Lib.hid hz64
      clear hnew hcn hbn hz64
      go_wp2
      go_meet
      exact ⟨1, 31, hbn'.out, hz64'.out, hcn'.out.mono (by omega), hnew'.out⟩
    · have q0 : (((3 : Nat) : Int) == 0) = false := by rfl
      have q1 : (((3 : Nat) : Int) == 1) = false := by rfl
      have q2 : (((3 : Nat) : Int) == 2) = false := by rfl
      have q3 : (((3 : Nat) : Int) == 3) = true := by rfl
      go_wp2_with fail
      refine (anyRat_any c _ w5 hc5'.out (by omega)).mono ?_
      rintro e w6 ⟨⟨p, q⟩, rfl, hpq, hc6, hg6⟩
      have hz64 : I64R (p, q) := hpq
      obtain ⟨e0, e1, e2, e3⟩ := hb5k'.out.kept hg6 (by intro e; have := Option.some.inj e; omega)
      have hbn := BoxO.set (hb5k'.out.kept hg6 (by intro e; have := Option.some.inj e; omega)) p q
      have hnew := grown_setB (grown_setB (hgE'.out.trans hg6) hw1b 0 (.int .i64 p)) hw1b 1 (.int .i64 q)
      have hcn := (hc6.kept (grownBy_setCell_some _ b5 0 (.int .i64 p)) (fun j hj => by have := Option.some.inj hj; omega)).kept (grownBy_setCell_some _ b5 1 (.int .i64 q)) (fun j hj => by have := Option.some.inj hj; omega)
      clear hc6 hg6 hpq
      have hnew' := Lib.hid hnew
      have hcn' := Lib.hid hcn
      have hbn' := Lib.hid hbn
      have hz64' := Lib.hid hz64
      clear hnew hcn hbn hz64
      go_wp2
      go_meet
      exact ⟨p, q, hbn'.out, hz64'.out, hcn'.out.mono (by omega), hnew'.out⟩
    · have q0 : ((t : Int) == 0) = false := by rw [beq_eq_false_iff_ne]; omega
      have q1 : ((t : Int) == 1) = false := by rw [beq_eq_false_iff_ne]; omega
      have q2 : ((t : Int) == 2) = false := by rw [beq_eq_false_iff_ne]; omega
      have q3 : ((t : Int) == 3) = false := by rw [beq_eq_false_iff_ne]; omega
      go_wp2
      go_meet
      exact ⟨x, y, hb5k'.out, hx64'.out, hc5'.out.mono (by omega), hgE'.out⟩
  case rest =>
  obtain ⟨x', y', hbx, h64, hcx, hgx⟩ := hcut
  obtain ⟨wo, rfl⟩ : ∃ wo : World, wo = wc := ⟨_, rfl⟩
  have hx3 : BoxO wo w.heap.size 0 0 := hx1'.out.kept hgx (by intro e; have := Option.some.inj e; have := hcw'.out; omega)
  have cP := anyPoly_any c 100 wo.drew (hcx.heap rfl) (by omega)
  have hsx := hgx.size
  have hwc : w.heap.size < c := by have := hcw'.out; omega
  have hbne : b5 ≠ w.heap.size := by omega
  obtain ⟨e0, e1, e2, e3⟩ := id hbx
  have hS0 : wo.drew.cell? ⟨b5, 0, none⟩ = some (.int .i64 x') ∧ wo.drew.cell? ⟨b5, 1, none⟩ = some (.int .i64 y') := ⟨e0, e1⟩
  have hx3d : BoxO wo.drew w.heap.size 0 0 := ⟨hx3.c0, hx3.c1, hx3.f0, hx3.f1⟩
  have hn1 : some c ≠ some b5 := by intro e; have := Option.some.inj e; omega
  have hn2 : some c ≠ some w.heap.size := by intro e; have := Option.some.inj e; omega
  have hdg : w1.grownBy wo.drew (some c) := gdrew hgx
  have hb3w : w.heap.size < wo.heap.size := by have := hz1'.out; omega
  clear e0 e1 e2 e3 hbx hx3 hcx
  have cP' := Lib.hid cP
  have hx3d' := Lib.hid hx3d
  have hdg' := Lib.hid hdg
  have h64' := Lib.hid h64
  clear cP hx3d hdg h64
  go_wp2_with fail
  refine wp_region_held_drew (S := (fun w' => w'.cell? ⟨b5, 0, none⟩ = some (.int .i64 x') ∧ w'.cell? ⟨b5, 1, none⟩ = some (.int .i64 y'))) (by kernel_rfl) (by (try dsimp only); (first | exact hS0 | exact hS1 | exact hS2)) (fun hHeld => ?_)
  refine ly_q 0 (v := ?_) hHeld ?_
  try simp only [Act.put, lyA, lyB, lyC]
  refine ly_q 2 (v := ?_) hHeld ?_
  try simp only [Act.put, lyA, lyB, lyC]
  refine ly_a 1 (fun KK hKK => ?_)
  go_simp
  refine (cP'.out).mono ?_
  rintro e w6 ⟨v6, xs, rfl, ho, hl, hc6, hg6⟩
  have hS1 : w6.cell? ⟨b5, 0, none⟩ = some (.int .i64 x') ∧ w6.cell? ⟨b5, 1, none⟩ = some (.int .i64 y') := ⟨gcell hg6 hS0.1 hn1, gcell hg6 hS0.2 hn1⟩
  obtain ⟨k0, k1, k2, k4⟩ := hx3d'.out.kept hg6 hn2
  try dsimp only
  refine hKK.out _ _ (by (try dsimp only); (first | exact hS0 | exact hS1 | exact hS2)) (fun hHeld => ?_)
  clear hKK KK
  try simp only [Act.put, lyA, lyB, lyC]
  refine ly_q 3 (v := ?_) hHeld ?_
  try simp only [Act.put, lyA, lyB, lyC]
  refine ly_a 4 (fun KK hKK => ?_)
  go_simp
  have hS2 : ((w6.setCell ⟨w.heap.size, 0, none⟩ (.int .i64 x')).setCell ⟨w.heap.size, 1, none⟩ (.int .i64 y')).cell? ⟨b5, 0, none⟩ = some (.int .i64 x') ∧ ((w6.setCell ⟨w.heap.size, 0, none⟩ (.int .i64 x')).setCell ⟨w.heap.size, 1, none⟩ (.int .i64 y')).cell? ⟨b5, 1, none⟩ = some (.int .i64 y') := by simp [go_sem, hS1.1, hS1.2, hbne, hbne.symm]
  try dsimp only
  refine hKK.out _ _ (by (try dsimp only); (first | exact hS0 | exact hS1 | exact hS2)) (fun hHeld => ?_)
  clear hKK KK
  try simp only [Act.put, lyA, lyB, lyC]
  refine wpAnyH_done (by kernel_rfl) ?_ _
  clear hHeld hS0 hS1 hS2
  have hgF := hdg'.out.trans hg6
  have hoF := (ho.kept (grownBy_setCell_some w6 w.heap.size 0 (.int .i64 x')) (fun j hj => by have := Option.some.inj hj; have : wo.drew.heap.size = wo.heap.size := rfl; omega)).kept (grownBy_setCell_some _ w.heap.size 1 (.int .i64 y')) (fun j hj => by have := Option.some.inj hj; have : wo.drew.heap.size = wo.heap.size := rfl; omega)
  have hBF : Below w.heap.size w w6 := hb1'.out.trans ⟨hgF.os, hgF.tape, hgF.output, hgF.size, fun j hj => hgF.block j (by have := hz1'.out; omega) (by intro e; have := Option.some.inj e; omega)⟩
  have hBG := (hBF.setCell (p := ⟨w.heap.size, 0, none⟩) (Nat.le_refl _) (.int .i64 x')).setCell (p := ⟨w.heap.size, 1, none⟩) (Nat.le_refl _) (.int .i64 y')
  clear ho hc6 hg6 hgF hBF
  have hoF' := Lib.hid hoF
  have hBG' := Lib.hid hBG
  have hl' := Lib.hid hl
  clear hoF hBG hl
  go_wp2
  refine bodyPost_ret (v := .tuple #[v6, ratV (x', y')]) (by simp [results, Tryz.results13, go_sem, k0, k1, k2, k4, ratV]) rfl ⟨v6, xs, (x', y'), rfl, hoF'.out.read, by have := hl'.out; omega, h64'.out, hBG'.out⟩
end Go.Proofs.YtgpabfbnbmbmeaaGreatDoor

/- Drawn fractions, told loosely: any fraction, coordinates of a map, cuts. No conditions but small sizes. -/
import Derived.Test.YtgpabfbnbmbmeaaGreatDoorDrawR
namespace Go.Proofs.YtgpabfbnbmbmeaaGreatDoor
open Go.RowKit

def I64P (x : Int × Int) : Prop := I64R x
theorem unit_i64 {x : Int × Int} (h : UnitP x) : I64P x := good_i64 (unitR_good h)

set_option linter.unusedSimpArgs false in
set_option maxHeartbeats 1600000 in
theorem anyRat_any (c N : Nat) (w : World) (h : CurAt w c N) (hN : N ≤ 549755812000) :
    Calls Tryz.prog 44 #[.pointer (some ⟨c, 0, none⟩)] w (PicksR c (N + 18) I64P w) := by
  obtain ⟨w0, hw0⟩ : ∃ W, w.alloc (.cells #[.int .i64 0, .int .i64 0] 29) = W := ⟨_, rfl⟩
  have hB0 : Below w.heap.size w w0 := by rw [← hw0]; exact (Below.refl _ _).alloc (Nat.le_refl _) _
  have hx0 : BoxO w0 w.heap.size 0 0 := by rw [← hw0]; exact BoxO.new _ _ _ _
  have hlt := h.lt
  have h0 := h.below hB0 hlt
  have g0 : w.grownBy w0 (some c) := bgrow hB0 _
  have c1 := rat_any c N w0 h0 (by omega)
  have hsz : w.heap.size < w0.heap.size := by rw [← hw0]; simp
  clear h h0 hB0
  have c1' := Lib.hid c1
  have hw0' := Lib.hid hw0
  have hx0' := Lib.hid hx0
  clear c1 hw0 hx0
  go_enter Tryz.func44, Tryz.ntmps44
  go_wp2_with fail
  rw [hw0'.out]
  go_wp2_with fail
  refine (c1'.out).mono ?_
  rintro e w1 ⟨⟨p, q⟩, rfl, hgd, hc1, hg1⟩
  have hpq : I64R (p, q) := good_i64 hgd
  have hsz1 : w.heap.size < w1.heap.size := Nat.lt_of_lt_of_le hsz hg1.size
  obtain ⟨w2, hw2⟩ : ∃ W, w1.alloc (.cells #[.int .i64 p, .int .i64 q] 29) = W := ⟨_, rfl⟩
  have hB2 : Below w1.heap.size w1 w2 := by rw [← hw2]; exact (Below.refl _ _).alloc (Nat.le_refl _) _
  have hx2 := (hx0'.out.kept hg1 (by intro e; have := Option.some.inj e; omega)).below hB2
  have hy2 : BoxO w2 w1.heap.size p q := by rw [← hw2]; exact BoxO.new _ _ _ _
  have hc2 := hc1.below hB2 (by omega)
  have g2 := g0.trans (hg1.trans (bgrow hB2 _))
  have hsz2 : w1.heap.size < w2.heap.size := by rw [← hw2]; simp
  have c3 := pick_any c _ 40 w2 hc2 (by omega) (by omega) (by omega)
  clear hc1 hc2 hg1 g0 hB2 hgd
  have c3' := Lib.hid c3
  have hw2' := Lib.hid hw2
  have hx2' := Lib.hid hx2
  have hy2' := Lib.hid hy2
  have g2' := Lib.hid g2
  have hpq' := Lib.hid hpq
  clear c3 hw2 hx2 hy2 g2 hpq
  go_wp2_with fail
  rw [hw2'.out]
  go_wp2_with fail
  refine (c3'.out).mono ?_
  rintro e w3 ⟨v, rfl, ⟨k, rfl, hk⟩, hc3, hg3⟩
  have hx3 := hx2'.out.kept hg3 (by intro e; have := Option.some.inj e; omega)
  have hy3 := hy2'.out.kept hg3 (by intro e; have := Option.some.inj e; omega)
  have g3 := g2'.out.trans hg3
  have hsz3 : w1.heap.size < w3.heap.size := Nat.lt_of_lt_of_le hsz2 hg3.size
  have hsz4 : w.heap.size < w3.heap.size := by omega
  clear hg3
  have hk4 : k = 0 ∨ k = 1 ∨ k = 2 ∨ 3 ≤ k := by omega
  obtain rfl | rfl | rfl | hk3 := hk4
  · have hx3' := Lib.hid hx3
    have hy3' := Lib.hid hy3
    have g3' := Lib.hid g3
    clear hx3 hy3 g3
    go_wp2_with fail
    refine (among_list c _ [0, -1, 1000000001] w3 3 hc3 (by omega) rfl (by omega) (by omega)).mono ?_
    rintro e w4 ⟨v, rfl, ⟨d, rfl, hd⟩, hc4, hg4⟩
    have hd2 : I64 d := by simp at hd; unfold I64; omega
    obtain ⟨e0, e1, e2, e3⟩ := hx3'.out.kept hg4 (by intro e; have := Option.some.inj e; omega)
    obtain ⟨d0, d1, d2, d3⟩ := hy3'.out.kept hg4 (by intro e; have := Option.some.inj e; omega)
    have g4 := g3'.out.trans hg4
    have hz1 : w1.heap.size < w4.heap.size := Nat.lt_of_lt_of_le hsz3 hg4.size
    have hz2 : w.heap.size < w4.heap.size := by omega
    have hne : ¬ w.heap.size = w1.heap.size := by omega
    have hne2 : ¬ w1.heap.size = w.heap.size := by omega
    clear hg4 hd
    have g4' := Lib.hid g4
    have hc4' := Lib.hid hc4
    have hd2' := Lib.hid hd2
    clear g4 hc4 hd2
    go_wp2
    refine bodyPost_ret (v := ratV (p, d)) (by simp [results, Tryz.results44, go_sem, ratV, e0, e1, e2, e3, d0, d1, d2, d3, hz1, hz2, hne, hne2]) rfl ⟨(p, d), rfl, ⟨by first | exact hd2'.out | exact hpq'.out.1 | exact hpq'.out.2, by first | exact hd2'.out | exact hpq'.out.1 | exact hpq'.out.2⟩, picks_end (hc4'.out.mono (by omega)) g4'.out hlt (Nat.le_refl _) ?_⟩
    exact (((Below.refl _ _).setCell (p := ⟨w1.heap.size, 1, none⟩) (by show w.heap.size ≤ w1.heap.size; omega) _).setCell (p := ⟨w.heap.size, 0, none⟩) (Nat.le_refl _) _).setCell (p := ⟨w.heap.size, 1, none⟩) (Nat.le_refl _) _
  · have hx3' := Lib.hid hx3
    have hy3' := Lib.hid hy3
    have g3' := Lib.hid g3
    clear hx3 hy3 g3
    go_wp2_with fail
    refine (among_list c _ [1000000001, -1000000001, -9223372036854775808] w3 3 hc3 (by omega) rfl (by omega) (by omega)).mono ?_
    rintro e w4 ⟨v, rfl, ⟨d, rfl, hd⟩, hc4, hg4⟩
    have hd2 : I64 d := by simp at hd; unfold I64; omega
    obtain ⟨e0, e1, e2, e3⟩ := hx3'.out.kept hg4 (by intro e; have := Option.some.inj e; omega)
    obtain ⟨d0, d1, d2, d3⟩ := hy3'.out.kept hg4 (by intro e; have := Option.some.inj e; omega)
    have g4 := g3'.out.trans hg4
    have hz1 : w1.heap.size < w4.heap.size := Nat.lt_of_lt_of_le hsz3 hg4.size
    have hz2 : w.heap.size < w4.heap.size := by omega
    have hne : ¬ w.heap.size = w1.heap.size := by omega
    have hne2 : ¬ w1.heap.size = w.heap.size := by omega
    clear hg4 hd
    have g4' := Lib.hid g4
    have hc4' := Lib.hid hc4
    have hd2' := Lib.hid hd2
    clear g4 hc4 hd2
    go_wp2
    refine bodyPost_ret (v := ratV (d, q)) (by simp [results, Tryz.results44, go_sem, ratV, e0, e1, e2, e3, d0, d1, d2, d3, hz1, hz2, hne, hne2]) rfl ⟨(d, q), rfl, ⟨by first | exact hd2'.out | exact hpq'.out.1 | exact hpq'.out.2, by first | exact hd2'.out | exact hpq'.out.1 | exact hpq'.out.2⟩, picks_end (hc4'.out.mono (by omega)) g4'.out hlt (Nat.le_refl _) ?_⟩
    exact (((Below.refl _ _).setCell (p := ⟨w1.heap.size, 0, none⟩) (by show w.heap.size ≤ w1.heap.size; omega) _).setCell (p := ⟨w.heap.size, 0, none⟩) (Nat.le_refl _) _).setCell (p := ⟨w.heap.size, 1, none⟩) (Nat.le_refl _) _
  · have hx3' := Lib.hid hx3
    have hy3' := Lib.hid hy3
    have g3' := Lib.hid g3
    clear hx3 hy3 g3
    go_wp2_with fail
    refine (among_list c _ [2, 0, -4] w3 3 hc3 (by omega) rfl (by omega) (by omega)).mono ?_
    rintro e w4 ⟨v, rfl, ⟨d, rfl, hd⟩, hc4, hg4⟩
    go_wp2_with fail
    refine (among_list c _ [2, 4, 6] w4 3 hc4 (by omega) rfl (by omega) (by omega)).mono ?_
    rintro e w5 ⟨v, rfl, ⟨d', rfl, hd'⟩, hc5, hg5⟩
    have hd2 : I64 d := by simp at hd; unfold I64; omega
    have hd3 : I64 d' := by simp at hd'; unfold I64; omega
    have hg45 := hg4.trans hg5
    obtain ⟨e0, e1, e2, e3⟩ := hx3'.out.kept hg45 (by intro e; have := Option.some.inj e; omega)
    obtain ⟨d0, d1, d2, d3⟩ := hy3'.out.kept hg45 (by intro e; have := Option.some.inj e; omega)
    have g4 := g3'.out.trans hg45
    have hz1 : w1.heap.size < w5.heap.size := Nat.lt_of_lt_of_le hsz3 hg45.size
    have hz2 : w.heap.size < w5.heap.size := by omega
    have hne : ¬ w.heap.size = w1.heap.size := by omega
    have hne2 : ¬ w1.heap.size = w.heap.size := by omega
    clear hg4 hg5 hg45 hd hd' hc4
    have g4' := Lib.hid g4
    have hc5' := Lib.hid hc5
    have hd2' := Lib.hid hd2
    have hd3' := Lib.hid hd3
    clear g4 hc5 hd2 hd3
    go_wp2
    refine bodyPost_ret (v := ratV (d, d')) (by simp [results, Tryz.results44, go_sem, ratV, e0, e1, e2, e3, d0, d1, d2, d3, hz1, hz2, hne, hne2]) rfl ⟨(d, d'), rfl, ⟨hd2'.out, hd3'.out⟩, picks_end (hc5'.out.mono (by omega)) g4'.out hlt (Nat.le_refl _) ?_⟩
    exact ((((Below.refl _ _).setCell (p := ⟨w1.heap.size, 0, none⟩) (by show w.heap.size ≤ w1.heap.size; omega) _).setCell (p := ⟨w1.heap.size, 1, none⟩) (by show w.heap.size ≤ w1.heap.size; omega) _).setCell (p := ⟨w.heap.size, 0, none⟩) (Nat.le_refl _) _).setCell (p := ⟨w.heap.size, 1, none⟩) (Nat.le_refl _) _
  · have q0 : ((k : Int) == 0) = false := by rw [beq_eq_false_iff_ne]; omega
    have q1 : ((k : Int) == 1) = false := by rw [beq_eq_false_iff_ne]; omega
    have q2 : ((k : Int) == 2) = false := by rw [beq_eq_false_iff_ne]; omega
    obtain ⟨e0, e1, e2, e3⟩ := hx3
    obtain ⟨d0, d1, d2, d3⟩ := hy3
    have g3' := Lib.hid g3
    have hc3' := Lib.hid hc3
    clear g3 hc3
    go_wp2
    refine bodyPost_ret (v := ratV (p, q)) (by simp [results, Tryz.results44, go_sem, ratV, e0, e1, e2, e3]) rfl ⟨(p, q), rfl, hpq'.out, picks_end (hc3'.out.mono (by omega)) g3'.out hlt (Nat.le_refl _) ?_⟩
    exact ((Below.refl _ _).setCell (p := ⟨w.heap.size, 0, none⟩) (Nat.le_refl _) _).setCell (p := ⟨w.heap.size, 1, none⟩) (Nat.le_refl _) _
/-- A list whose block is not c. -/
theorem QuadV.cellOff {w w' : World} {c : Nat} {v : Value} {xs : List Quad} (h : QuadV w v xs) (ho : Off c v) (hg : w.grownBy w' (some c)) : QuadV w' v xs := by
  obtain ⟨ao, cap, rfl, h1, h2, H⟩ := h.form
  refine QuadV.mk h1 h2 fun i hi => ?_
  obtain ⟨b, off, rfl, c0, c1, c2, c3⟩ := H i hi
  have hne : some c ≠ some b := fun e => ho b off _ _ rfl (Option.some.inj e).symm
  exact ⟨b, off, rfl, gcell hg c0 hne, gcell hg c1 hne, gcell hg c2 hne, gcell hg c3 hne⟩
theorem RatsV.cellOff {w w' : World} {c : Nat} {v : Value} {xs : List (Int × Int)} (h : RatsV w v xs) (ho : Off c v) (hg : w.grownBy w' (some c)) : RatsV w' v xs := by
  obtain ⟨ao, cap, rfl, h1, h2, H⟩ := h.form
  refine RatsV.mk h1 h2 fun i hi => ?_
  obtain ⟨b, off, rfl, c0, c1⟩ := H i hi
  have hne : some c ≠ some b := fun e => ho b off _ _ rfl (Option.some.inj e).symm
  exact ⟨b, off, rfl, gcell hg c0 hne, gcell hg c1 hne⟩


end Go.Proofs.YtgpabfbnbmbmeaaGreatDoor

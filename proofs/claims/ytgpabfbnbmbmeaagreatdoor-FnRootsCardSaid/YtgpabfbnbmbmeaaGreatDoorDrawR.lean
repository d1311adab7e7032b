/- Drawn fractions, told loosely. No conditions but small sizes. -/
import Derived.Test.YtgpabfbnbmbmeaaGreatDoorCur
import Derived.Test.YtgpabfbnbmbmeaaGreatDoorPkC
import Derived.Test.YtgpabfbnbmbmeaaGreatDoorBoxQ
import Derived.Test.YtgpabfbnbmbmeaaGreatDoorQuadS
namespace Go.Proofs.YtgpabfbnbmbmeaaGreatDoor
open Go.RowKit

theorem i64_of {n : Int} (h1 : -1000000001 ≤ n) (h2 : n ≤ 1000000001) : I64 n := by unfold I64; omega
theorem good_i64 {x : Int × Int} (h : goodR x.1 x.2 = true) : I64R x := by
  have := goodR_bd h
  exact ⟨i64_of (by omega) (by omega), i64_of (by omega) (by omega)⟩
theorem mkR_good0 (x y : Int) : goodR (mkR x y).1.1 (mkR x y).1.2 = true ∨ (mkR x y).1 = (0, 0) := by
  by_cases h : (mkR x y).2 = true
  · exact .inl (mkR_good h)
  · right
    unfold mkR at h ⊢
    split
    · rename_i h2; rw [if_pos h2] at h; exact absurd rfl h
    · rfl
theorem mkR_i64 (x y : Int) : I64R (mkR x y).1 := by
  rcases mkR_good0 x y with h | h
  · exact good_i64 h
  · rw [h]; exact ⟨i64_of (by decide) (by decide), i64_of (by decide) (by decide)⟩
theorem grid_unit (k n : Nat) (h0 : 0 < n) (hk : k ≤ n) (hn : n ≤ 1000000) : unitR (mkR k n).1.1 (mkR k n).1.2 = true := by
  have hok := mkR_ok (x := k) (y := n) (by omega) (by omega) (by omega)
  have hq := mkR_qv (x := k) (y := n) (by omega) hok
  have hp : (0 : Rat) < ((n : Int) : Rat) := ratC_pos (by omega)
  refine unitR_qv.2 ⟨mkR_good hok, ?_, ?_⟩
  · rw [hq, rat_le_div hp, Rat.zero_mul]
    exact_mod_cast (show (0 : Int) ≤ k by omega)
  · rw [hq, rat_div_le hp, Rat.one_mul]
    exact_mod_cast (show (k : Int) ≤ n by omega)

/-- A box with two numbers that may be written. -/
structure BoxO (w : World) (b : Nat) (x y : Int) : Prop where
  c0 : w.cell? ⟨b, 0, none⟩ = some (.int .i64 x)
  c1 : w.cell? ⟨b, 1, none⟩ = some (.int .i64 y)
  f0 : w.frozen? ⟨b, 0, none⟩ = false
  f1 : w.frozen? ⟨b, 1, none⟩ = false
theorem BoxO.new (w : World) (x y : Int) (T : TypeId) : BoxO (w.alloc (.cells #[.int .i64 x, .int .i64 y] T)) w.heap.size x y := by refine ⟨?_, ?_, ?_, ?_⟩ <;> simp [go_sem]
theorem BoxO.kept {w w' : World} {b : Nat} {x y : Int} {r : Option Nat} (h : BoxO w b x y) (hg : w.grownBy w' r) (hr : r ≠ some b) : BoxO w' b x y :=
  ⟨gcell hg h.c0 hr, gcell hg h.c1 hr, gfrozen hg h.c0 h.f0 hr, gfrozen hg h.c1 h.f1 hr⟩
theorem BoxO.below {w w' : World} {b : Nat} {x y : Int} (h : BoxO w b x y) (hB : Below w.heap.size w w') : BoxO w' b x y := h.kept (bgrow hB none) (by simp)
/-- What stands behind the last step of the cursor lies in new memory. -/
theorem picks_end {c N E : Nat} {w w1 wF : World} (hc : CurAt w1 c N) (hg : w.grownBy w1 (some c)) (hlt : c < w.heap.size) (hE : w.heap.size ≤ E) (hB : Below E w1 wF) : CurAt wF c N ∧ w.grownBy wF (some c) :=
  ⟨hc.below hB (by omega), grown_below hg hB hE⟩
/-- It returns such a fraction; of the rest the cursor alone has turned. -/
def PicksR (c N : Nat) (P : Int × Int → Prop) (w : World) (e : Ending) (w' : World) : Prop := ∃ x, e = .returned (ratV x) ∧ P x ∧ CurAt w' c N ∧ w.grownBy w' (some c)
theorem PicksR.mono {c N M : Nat} {w : World} {P Q : Int × Int → Prop} {e : Ending} {w' : World} (h : PicksR c N P w e w') (hN : N ≤ M) (hP : ∀ x, P x → Q x) : PicksR c M Q w e w' := by
  obtain ⟨x, h1, h2, h3, h4⟩ := h
  exact ⟨x, h1, hP x h2, h3.mono hN, h4⟩
def UnitP (x : Int × Int) : Prop := unitR x.1 x.2 = true
def GoodP (x : Int × Int) : Prop := goodR x.1 x.2 = true

set_option linter.unusedSimpArgs false in
set_option maxHeartbeats 800000 in
theorem gridRat_any (c N n : Nat) (w : World) (h : CurAt w c N) (hN : N ≤ 549755813888) (h1 : 1 ≤ n) (h2 : n ≤ 1000) :
    Calls Tryz.prog 43 #[.pointer (some ⟨c, 0, none⟩), .int .i64 n] w (PicksR c (N + 2) UnitP w) := by
  obtain ⟨w0, hw0⟩ : ∃ W, w.alloc (.cells #[.int .i64 0, .int .i64 0] 29) = W := ⟨_, rfl⟩
  have hB0 : Below w.heap.size w w0 := by rw [← hw0]; exact (Below.refl _ _).alloc (Nat.le_refl _) _
  have hx0 : BoxO w0 w.heap.size 0 0 := by rw [← hw0]; exact BoxO.new _ _ _ _
  have hlt := h.lt
  have h0 := h.below hB0 hlt
  have g0 : w.grownBy w0 (some c) := bgrow hB0 _
  have c1 := pick_any c N (n + 1) w0 h0 hN (by omega) (by omega)
  rw [show ((n + 1 : Nat) : Int) = (n : Int) + 1 by omega] at c1
  have hsz : w.heap.size < w0.heap.size := by rw [← hw0]; simp
  clear h h0 hB0
  have c1' := Lib.hid c1
  have hw0' := Lib.hid hw0
  have hx0' := Lib.hid hx0
  clear c1 hw0 hx0
  go_enter Tryz.func43, Tryz.ntmps43
  go_wp2_with fail
  rw [hw0'.out]
  go_wp2_with fail
  refine (c1'.out).mono ?_
  rintro e w1 ⟨v, rfl, ⟨k, rfl, hk⟩, hc1, hg1⟩
  have c2 := raMake_any k n w1 (by omega) (by omega) (by omega)
  have hu := grid_unit k n (by omega) (by omega) (by omega)
  have hx1 := hx0'.out.kept hg1 (by intro e; have := Option.some.inj e; omega)
  have hgg := g0.trans hg1
  have hsz1 : w.heap.size < w1.heap.size := Nat.lt_of_lt_of_le hsz hg1.size
  generalize mkR k n = R at *
  obtain ⟨⟨p, q⟩, ok⟩ := R
  simp only at c2 hu
  clear hg1 g0
  have c2' := Lib.hid c2
  have hu' := Lib.hid hu
  have hx1' := Lib.hid hx1
  have hgg' := Lib.hid hgg
  have hc1' := Lib.hid hc1
  clear c2 hu hx1 hgg hc1
  go_wp2_with fail
  refine (c2'.out).mono ?_
  rintro e w2 ⟨rfl, hB2⟩
  obtain ⟨e0, e1, e2, e3⟩ := hx1'.out.below hB2
  have hsz2 : w.heap.size < w2.heap.size := Nat.lt_of_lt_of_le hsz1 hB2.size
  have hB3 := hB2.mono (Nat.le_of_lt hsz1)
  clear hB2
  have hB3' := Lib.hid hB3
  clear hB3
  go_wp2
  refine bodyPost_ret (v := ratV (p, q)) (by simp [results, Tryz.results43, go_sem, ratV, e0, e1, e2, e3, hsz2]) rfl ⟨_, rfl, hu'.out, picks_end hc1'.out hgg'.out hlt (Nat.le_refl _) ?_⟩
  exact ((hB3'.out.setCell (p := ⟨w.heap.size, 0, none⟩) (Nat.le_refl _) _).setCell (p := ⟨w.heap.size, 1, none⟩) (Nat.le_refl _) _).alloc (by simp; omega) _

set_option linter.unusedSimpArgs false in
set_option maxHeartbeats 800000 in
theorem rat_any (c N : Nat) (w : World) (h : CurAt w c N) (hN : N ≤ 549755813000) :
    Calls Tryz.prog 64 #[.pointer (some ⟨c, 0, none⟩)] w (PicksR c (N + 12) GoodP w) := by
  obtain ⟨w0, hw0⟩ : ∃ W, w.alloc (.cells #[.int .i64 0, .int .i64 0] 29) = W := ⟨_, rfl⟩
  have hB0 : Below w.heap.size w w0 := by rw [← hw0]; exact (Below.refl _ _).alloc (Nat.le_refl _) _
  have hx0 : BoxO w0 w.heap.size 0 0 := by rw [← hw0]; exact BoxO.new _ _ _ _
  have hlt := h.lt
  have h0 := h.below hB0 hlt
  have g0 : w.grownBy w0 (some c) := bgrow hB0 _
  have c1 := pick_any c N 41 w0 h0 (by omega) (by omega) (by omega)
  have hsz : w.heap.size < w0.heap.size := by rw [← hw0]; simp
  clear h h0 hB0
  have c1' := Lib.hid c1
  have hw0' := Lib.hid hw0
  have hx0' := Lib.hid hx0
  clear c1 hw0 hx0
  go_enter Tryz.func64, Tryz.ntmps64
  go_wp2_with fail
  rw [hw0'.out]
  go_wp2_with fail
  refine (c1'.out).mono ?_
  rintro e w1 ⟨v, rfl, ⟨t, rfl, ht⟩, hc1, hg1⟩
  go_wp2_with fail
  refine (pick_any c _ 2001 w1 hc1 (by omega) (by omega) (by omega)).mono ?_
  rintro e w2 ⟨v, rfl, ⟨t2, rfl, ht2⟩, hc2, hg2⟩
  go_wp2_with fail
  refine (among_list c _ [0, 1, 2, 3, -1, -5, (t : Int) - 20, (t2 : Int) - 1000, 1000000000, -1000000000] w2 10 hc2 (by omega) rfl (by omega) (by omega)).mono ?_
  rintro e w3 ⟨v, rfl, ⟨a, rfl, ha⟩, hc3, hg3⟩
  go_wp2_with fail
  refine (pick_any c _ 20 w3 hc3 (by omega) (by omega) (by omega)).mono ?_
  rintro e w4 ⟨v, rfl, ⟨t3, rfl, ht3⟩, hc4, hg4⟩
  go_wp2_with fail
  refine (pick_any c _ 1000 w4 hc4 (by omega) (by omega) (by omega)).mono ?_
  rintro e w5 ⟨v, rfl, ⟨t4, rfl, ht4⟩, hc5, hg5⟩
  go_wp2_with fail
  refine (among_list c _ [1, 2, 3, 4, 8, 7, 1 + (t3 : Int), 1 + (t4 : Int), 1000000000, 999999999] w5 10 hc5 (by omega) rfl (by omega) (by omega)).mono ?_
  rintro e w6 ⟨v, rfl, ⟨b, rfl, hb⟩, hc6, hg6⟩
  have ha2 : -1000000000 ≤ a ∧ a ≤ 1000000000 := by simp at ha; omega
  have hb2 : 1 ≤ b ∧ b ≤ 1000000000 := by simp at hb; omega
  have g6 := hg1.trans (hg2.trans (hg3.trans (hg4.trans (hg5.trans hg6))))
  have hgg := g0.trans g6
  have hx6 := hx0'.out.kept g6 (by intro e; have := Option.some.inj e; omega)
  have hsz6 : w.heap.size < w6.heap.size := Nat.lt_of_lt_of_le hsz g6.size
  have c7 := raMake_any a b w6 (by omega) (by omega) (by omega)
  have hgd : (mkR a b).2 = true → goodR (mkR a b).1.1 (mkR a b).1.2 = true := fun h => mkR_good h
  generalize mkR a b = R at *
  obtain ⟨⟨p, q⟩, ok⟩ := R
  simp only at c7 hgd
  clear hc1 hc2 hc3 hc4 hc5 hg1 hg2 hg3 hg4 hg5 hg6 g6 g0 ha hb
  have c7' := Lib.hid c7
  have hgd' := Lib.hid hgd
  have hx6' := Lib.hid hx6
  have hgg' := Lib.hid hgg
  have hc6' := Lib.hid hc6
  clear c7 hgd hx6 hgg hc6
  go_wp2_with fail
  refine (c7'.out).mono ?_
  rintro e w7 ⟨rfl, hB7⟩
  have hx7 := hx6'.out.below hB7
  have hsz7 : w.heap.size < w7.heap.size := Nat.lt_of_lt_of_le hsz6 hB7.size
  have hB8 := hB7.mono (Nat.le_of_lt hsz6)
  clear hB7
  have hB8' := Lib.hid hB8
  clear hB8
  cases ok
  · clear hgd'
    obtain ⟨w8, hw8⟩ : ∃ W, w7.alloc (.cells #[.int .i64 p, .int .i64 q] 29) = W := ⟨_, rfl⟩
    have hB78 : Below w7.heap.size w7 w8 := by rw [← hw8]; exact (Below.refl _ _).alloc (Nat.le_refl _) _
    obtain ⟨e0, e1, e2, e3⟩ := hx7.below hB78
    have hsz8 : w.heap.size < w8.heap.size := Nat.lt_of_lt_of_le hsz7 hB78.size
    have hB9 := hB8'.out.trans (hB78.mono (Nat.le_of_lt hsz7))
    clear hB78 hx7
    have hB9' := Lib.hid hB9
    have hw8' := Lib.hid hw8
    clear hB9 hw8
    go_wp2_with fail
    rw [hw8'.out]
    go_wp2_with fail
    refine (raInt_any 1 _).mono ?_
    rintro e w9 ⟨rfl, hB10⟩
    have i0 := bkeep hB10 e0
    have i1 := bkeep hB10 e1
    have i2 := gfrozen' hB10 e0 e2
    have i3 := gfrozen' hB10 e1 e3
    have hB11 := hB9'.out.trans (hB10.mono (Nat.le_of_lt hsz8))
    have hsz9 : w.heap.size < w9.heap.size := Nat.lt_of_lt_of_le hsz8 hB10.size
    clear e0 e1 e2 e3 hB10
    have hB11' := Lib.hid hB11
    clear hB11
    go_wp2
    refine bodyPost_ret (v := ratV (1, 1)) (by simp [results, Tryz.results64, go_sem, ratV, i0, i1, i2, i3, hsz9]) rfl ⟨_, rfl, (show GoodP (1, 1) from by unfold GoodP; decide), picks_end (hc6'.out.mono (by omega)) hgg'.out hlt (Nat.le_refl _) ?_⟩
    exact (hB11'.out.setCell (p := ⟨w.heap.size, 0, none⟩) (Nat.le_refl _) _).setCell (p := ⟨w.heap.size, 1, none⟩) (Nat.le_refl _) _
  · have hgd2 := hgd'.out rfl
    obtain ⟨e0, e1, e2, e3⟩ := hx7
    clear hgd'
    have hgd2' := Lib.hid hgd2
    clear hgd2
    go_wp2
    refine bodyPost_ret (v := ratV (p, q)) (by simp [results, Tryz.results64, go_sem, ratV, e0, e1, e2, e3, hsz7]) rfl ⟨_, rfl, hgd2'.out, picks_end (hc6'.out.mono (by omega)) hgg'.out hlt (Nat.le_refl _) ?_⟩
    exact ((hB8'.out.setCell (p := ⟨w.heap.size, 0, none⟩) (Nat.le_refl _) _).setCell (p := ⟨w.heap.size, 1, none⟩) (Nat.le_refl _) _).alloc (by simp; omega) _
end Go.Proofs.YtgpabfbnbmbmeaaGreatDoor

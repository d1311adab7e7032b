/- The reference's StateWalk. No conditions. -/
import Derived.Test.YtfcanpebagpdbaaSwLaw
import Derived.Test.YtfcanpebagpdbaaOrRun
import Derived.Test.YtfcanpebagpdbaaPkE
import Derived.Test.YtfcanpebagpdbaaPkH
namespace Go.Proofs.Ytfcanpebagpdbaa
open Go.RowKit

theorem Grow.setB {w : World} {B b o : Nat} {v : Value} {xs : List Int} (h : Grow w B v xs) (hb : b < B) (u : Value) : Grow (w.setCell ⟨b, o, none⟩ u) B v xs :=
  World.ownsRow.kept h (grownBy_setCell_some w b o u) (.inr (fun e => by have := (World.ownsRow.lt h b e).1; omega))
theorem Grow.lit (w : World) (z : Int) : Grow (w.alloc (.cells #[.int .i64 z] 3)) w.heap.size (.slice (some ⟨w.heap.size, 0, none⟩) 1 1) [z] :=
  World.ownsRow_lit (base := w.heap.size) (e := 3) (size := 1) w #[.int .i64 z] 1 (Nat.le_refl _) (by decide) rfl

theorem mkAsked_any (v u : Value) (f : List Quad) (xs : List (Int × Int)) (w : World) (hv : QuadV w v f) (hu : RatsV w u xs) (hm : f.length ≤ 1099511627776) (hn : szRatS xs ≤ 1099511627776) :
    Calls Try.prog 67 #[v, u] w (Ret (.bool (mapB f && partB xs)) w) := by
  have c1 := imGood_any v f w hv hm
  have c2 := fun w' (hB : Below w.heap.size w w') => mkGood_any u xs w' (hu.below hB) hn
  generalize mapB f = M at *
  generalize partB xs = I at *
  clear hv hu
  have c1' := Lib.hid c1
  have c2' := Lib.hid c2
  clear c1 c2
  go_enter Try.func67, Try.ntmps67
  go_wp2_with fail
  refine (c1'.out).mono ?_
  rintro e w1 ⟨rfl, hB1⟩
  cases M
  · go_wp2
    go_ret
    exact ⟨rfl, hB1⟩
  · have hs1 := hB1.size
    go_wp2_with fail
    refine (c2'.out _ hB1).mono ?_
    rintro e w2 ⟨rfl, hB2⟩
    have hb2 := hB1.trans (hB2.mono hs1)
    go_wp2
    go_ret
    exact ⟨rfl, hb2⟩

set_option linter.unusedSimpArgs false in
set_option maxRecDepth 10000 in
set_option maxHeartbeats 4000000 in
/-- The walk once all is valid. -/
theorem mkWalk_in (v u : Value) (f : List Quad) (xs : List (Int × Int)) (x : Int × Int) (n : Nat) (w : World) (hv : QuadV w v f) (hu : RatsV w u xs) (hf : MapP f) (hp : partB xs = true) (hx : unitR x.1 x.2 = true) (hn : n ≤ 40)
    (c1 : ∀ w', Below w.heap.size w w' → Calls Try.prog 67 #[v, u] w' (Ret (.bool true) w'))
    (c3 : ∀ w', Calls Try.prog 54 #[.agg #[.int .i64 x.1, .int .i64 x.2]] w' (Ret (.bool true) w'))
    (c4 : ∀ w', Calls Try.prog 68 #[.int .i64 n, .int .i64 0, .int .i64 40] w' (Same (.bool true) w')) :
    Calls Try.prog 26 #[v, u, .agg #[.int .i64 x.1, .int .i64 x.2], .int .i64 n] w (RetOB Own (sw_v f xs x n) w) := by
  have cv1 : ∀ (k : Nat) (w' : World), Below w.heap.size w w' → unitR (pz f x k).1 (pz f x k).2 = true → atOk f (pz f x k) = true → Calls Try.prog 70 #[v, .agg #[.int .i64 (pz f x k).1, .int .i64 (pz f x k).2]] w' (Ret (.tuple #[.agg #[.int .i64 (pz f x (k + 1)).1, .int .i64 (pz f x (k + 1)).2], .bool true]) w') := by
    intro k w' hb hu h
    have := imAt_any v f (pz f x k) w' (hv.below hb) hf hu
    rw [atR_ok h] at this
    exact this
  have cv0 : ∀ (k : Nat) (w' : World), Below w.heap.size w w' → unitR (pz f x k).1 (pz f x k).2 = true → atOk f (pz f x k) = false → Calls Try.prog 70 #[v, .agg #[.int .i64 (pz f x k).1, .int .i64 (pz f x k).2]] w' (Ret (.tuple #[.agg #[.int .i64 0, .int .i64 0], .bool false]) w') := by
    intro k w' hb hu h
    have := imAt_any v f (pz f x k) w' (hv.below hb) hf hu
    rw [atR_bad h] at this
    exact this
  have hau : ∀ k, unitR (pz f x k).1 (pz f x k).2 = true → atOk f (pz f x k) = true → unitR (pz f x (k + 1)).1 (pz f x (k + 1)).2 = true := fun k h1 h2 => at_unit hf h1 h2
  have hpl := partB_len hp
  have c6 := fun (k : Nat) (w' : World) (hB : Below w.heap.size w w') (h : unitR (pz f x k).1 (pz f x k).2 = true) => mkStates_any u xs (pz f x k) w' (hu.below hB) (by unfold szRatS; omega) (unitR_bd h) (partB_bd hp)
  have hso := fun k (h : unitR (pz f x k).1 (pz f x k).2 = true) => stL_some hp h
  have rg := fun k (h : k < n) (h2 : atOk f (pz f x k) = true) => runF_go (n := n) h h2
  have rs := fun k (h : k < n) (h2 : atOk f (pz f x k) = false) => runF_stop (n := n) h h2
  have re : runF f x (n - n) n = n := runF_end n
  have hN : runF f x (n - 0) 0 = runN f x n := rfl
  have hst := swK_step f xs x
  have hsl := swK_len f xs x
  have h00 : swK f xs x 0 = [] := rfl
  have hp0 : pz f x 0 = x := rfl
  have hV : sw_v f xs x n = if runN f x n < n then ([], false) else (swK f xs x (n + 1), true) := rfl
  rw [hV]
  obtain ⟨OK, hOK⟩ : ∃ OK : Nat → Bool, ∀ k, atOk f (pz f x k) = OK k := ⟨_, fun _ => rfl⟩
  simp only [hOK] at cv1 cv0 hau rg rs
  clear hV hv hu hf hp hpl hOK
  generalize runN f x n = N at *
  generalize runF f x = RF at *
  generalize swK f xs x = SW at *
  generalize pz f x = pp at *
  obtain ⟨V, hV⟩ : ∃ V, (if N < n then ([], false) else (SW (n + 1), true)) = V := ⟨_, rfl⟩
  rw [hV]
  obtain ⟨x0, x1⟩ := x
  simp only at c3 hx
  obtain ⟨w0, hw0⟩ : ∃ W, w.alloc (.cells #[.int .i64 x0, .int .i64 x1] 34) = W := ⟨_, rfl⟩
  have hB0 : Below w.heap.size w w0 := by rw [← hw0]; exact (Below.refl _ _).alloc (Nat.le_refl _) _
  have e0 : w0.cell? ⟨w.heap.size, 0, none⟩ = some (.int .i64 x0) := by rw [← hw0]; simp [go_sem]
  have e1 : w0.cell? ⟨w.heap.size, 1, none⟩ = some (.int .i64 x1) := by rw [← hw0]; simp [go_sem]
  have e2 : w0.frozen? ⟨w.heap.size, 0, none⟩ = false := by rw [← hw0]; simp [go_sem]
  have e3 : w0.frozen? ⟨w.heap.size, 1, none⟩ = false := by rw [← hw0]; simp [go_sem]
  have hz0 : w.heap.size < w0.heap.size := by rw [← hw0]; simp
  have cS0 := c6 0
  have hs00 := hso 0
  have hst0 := hst 0
  rw [hp0] at cS0 hs00 hst0
  rw [h00] at hst0
  replace hs00 := hs00 hx
  replace cS0 := fun w' h => cS0 w' h hx
  generalize stL xs (x0, x1) = T0 at *
  have c1' := Lib.hid c1
  have c3' := Lib.hid c3
  have c4' := Lib.hid c4
  have c6' := Lib.hid c6
  have cv1' := Lib.hid cv1
  have cv0' := Lib.hid cv0
  have hau' := Lib.hid hau
  have hso' := Lib.hid hso
  have rg' := Lib.hid rg
  have rs' := Lib.hid rs
  have re' := Lib.hid re
  have hN' := Lib.hid hN
  have hst' := Lib.hid hst
  have hsl' := Lib.hid hsl
  have h00' := Lib.hid h00
  have hw0' := Lib.hid hw0
  have hV' := Lib.hid hV
  have cS0' := Lib.hid cS0
  have hs00' := Lib.hid hs00
  have hst0' := Lib.hid hst0
  have hx' := Lib.hid hx
  clear c1 c3 c4 c6 cv1 cv0 hau hso rg rs re hN hst hsl h00 hw0 hV cS0 hs00 hst0 hx
  have hp0' := Lib.hid hp0
  clear hp0
  show Calls _ _ #[_, _, .agg #[.int .i64 x0, .int .i64 x1], _] w _
  go_enter Try.func26, Try.ntmps26
  go_wp2_with fail
  rw [hw0'.out]
  go_wp2_with fail
  refine (c1'.out _ hB0).mono ?_
  rintro e w1 ⟨rfl, hB1⟩
  have hb1 := hB0.trans (hB1.mono hB0.size)
  have n2 := gfrozen' hB1 e0 e2
  have n3 := gfrozen' hB1 e1 e3
  replace e0 := bkeep hB1 e0
  replace e1 := bkeep hB1 e1
  have hz1 := Nat.lt_of_lt_of_le hz0 hB1.size
  clear hB1 hB0 e2 e3 hz0
  go_wp2_with fail
  refine (c3'.out _).mono ?_
  rintro e w3 ⟨rfl, hB3⟩
  have hb3 := hb1.trans (hB3.mono hb1.size)
  replace n2 := gfrozen' hB3 e0 n2
  replace n3 := gfrozen' hB3 e1 n3
  replace e0 := bkeep hB3 e0
  replace e1 := bkeep hB3 e1
  have hz3 := Nat.lt_of_lt_of_le hz1 hB3.size
  clear hB3 hb1 hz1
  go_wp2_with fail
  refine (c4'.out _).mono ?_
  rintro e w4 ⟨rfl, rfl⟩
  go_wp2_with fail
  refine (cS0'.out _ hb3).mono ?_
  rintro e w5 ⟨v1, rfl, hv1, hB5⟩
  have hb5 := hb3.trans (hB5.mono hb3.size)
  replace n2 := gfrozen' hB5 e0 n2
  replace n3 := gfrozen' hB5 e1 n3
  replace e0 := bkeep hB5 e0
  replace e1 := bkeep hB5 e1
  have hz5 := Nat.lt_of_lt_of_le hz3 hB5.size
  obtain ⟨ao2, cap2, rfl, _, _, H2⟩ := hv1.read
  obtain ⟨b2, off2, rfl, t0⟩ := H2 0 hs00'.out
  obtain ⟨tl, htl⟩ : ∃ tl, T0.length = tl := ⟨_, rfl⟩
  have g2 : (0 : Int) < (tl : Int) := by have := hs00'.out; omega
  have g3 : 0 < tl := by omega
  rw [htl]
  rw [Nat.add_zero] at t0
  generalize nth T0 0 = z at *
  clear hv1 H2 hB5 hb3 hz3
  obtain ⟨w6, hw6⟩ : ∃ W, w5.alloc (.cells #[.int .i64 z] 3) = W := ⟨_, rfl⟩
  have hB6 : Below w5.heap.size w5 w6 := by rw [← hw6]; exact (Below.refl _ _).alloc (Nat.le_refl _) _
  have hg6 : Grow w6 w5.heap.size (.slice (some ⟨w5.heap.size, 0, none⟩) 1 1) (SW (0 + 1)) := by rw [hst0'.out, ← hw6]; exact Grow.lit w5 z
  have hb6 := hb5.trans (hB6.mono hb5.size)
  have n2' := gfrozen' hB6 e0 n2
  have n3' := gfrozen' hB6 e1 n3
  have e0' := bkeep hB6 e0
  have e1' := bkeep hB6 e1
  have hbz : w.heap.size ≤ w5.heap.size := hb5.size
  clear hB6 hb5 n2 n3 e0 e1
  have hw6' := Lib.hid hw6
  have htl' := Lib.hid htl
  have hg6' := Lib.hid hg6
  have hb6' := Lib.hid hb6
  clear hw6 htl hg6 hb6
  go_wp2_with fail
  rw [hw6'.out]
  go_loopw [3, 10] (fun c o wr => ∃ k r : Nat, r + k = n ∧ c = .int .i64 r ∧ Grow wr w5.heap.size o (SW (k + 1)) ∧ (wr.cell? ⟨w.heap.size, 0, none⟩ = some (.int .i64 (pp k).1) ∧ wr.cell? ⟨w.heap.size, 1, none⟩ = some (.int .i64 (pp k).2) ∧ wr.frozen? ⟨w.heap.size, 0, none⟩ = false ∧ wr.frozen? ⟨w.heap.size, 1, none⟩ = false) ∧ unitR (pp k).1 (pp k).2 = true ∧ RF (n - k) k = N ∧ w5.heap.size ≤ wr.heap.size ∧ Below w.heap.size w wr) (fun c _ _ => (intOf c).toNat)
  case atStart => exact ⟨0, n, rfl, rfl, hg6'.out, by rw [hp0'.out]; exact ⟨e0', e1', n2', n3'⟩, by rw [hp0'.out]; exact hx'.out, hN'.out, by rw [← hw6'.out]; simp, hb6'.out⟩
  case round =>
    obtain ⟨k, r, hrk, rfl, hg, ⟨a0, a1, a2, a3⟩, hu, hR, hsr, hBr⟩ := hrel
    clear hg6' hb6' hw6' n2' n3' e0' e1'
    by_cases hlt : k < n
    · have hb1 := cv1'.out k wr hBr hu
      have hb0 := cv0'.out k wr hBr hu
      have hau1 := hau'.out k hu
      have rg1 := rg'.out k hlt
      have rs1 := rs'.out k hlt
      have hgt : (0 : Int) < (r : Int) := by omega
      have hgt2 : 0 < r := by omega
      have hr9 : r ≤ 40 := by omega
      have cS1 := c6'.out (k + 1)
      have hso1 := hso'.out (k + 1)
      have hst1 := hst'.out (k + 1)
      have hsl1 := hsl'.out (k + 1)
      generalize OK k = ok at *
      generalize pp k = y at *
      obtain ⟨z, hz5⟩ : ∃ z, pp (k + 1) = z := ⟨_, rfl⟩
      rw [hz5] at hb1 hau1 cS1 hso1 hst1
      obtain ⟨y0, y1⟩ := y
      obtain ⟨z0, z1⟩ := z
      simp only at a0 a1 hb1 hb0 hu hau1 cS1 hso1
      generalize stL xs (z0, z1) = T at *
      have hwr := hBr.size
      have hau1' := Lib.hid hau1
      have rg1' := Lib.hid rg1
      have rs1' := Lib.hid rs1
      have cS1' := Lib.hid cS1
      have hso1' := Lib.hid hso1
      have hst1' := Lib.hid hst1
      have hsl1' := Lib.hid hsl1
      have hR' := Lib.hid hR
      have hz5' := Lib.hid hz5
      have hrk' := Lib.hid hrk
      have hg' := Lib.hid hg
      clear hau1 rg1 rs1 cS1 hso1 hst1 hsl1 hR hz5 hrk hg
      cases ok
      · have cb := hb0 rfl
        clear hb0 hb1
        have cb' := Lib.hid cb
        clear cb
        go_wp2_with fail
        go_wp2_with fail
        refine (cb'.out).mono ?_
        rintro e w2 ⟨rfl, hB2⟩
        have hNk : N = k := by rw [← hR'.out]; exact rs1'.out (by first | rfl | trivial)
        have hV2 := hV'.out
        rw [if_pos (by omega)] at hV2
        subst hV2
        have hB3 : Below wr.heap.size wr (w2.alloc (.cells #[.int .i64 0, .int .i64 0] 34)) := hB2.alloc hB2.size _
        have hBe := hBr.trans (hB3.mono hwr)
        clear hB2 hB3 hBr a0 a1 a2 a3
        have hBe' := Lib.hid hBe
        have hNk' := Lib.hid hNk
        clear hBe hNk
        go_wp2
        go_ret2
        exact ⟨_, rfl, Own.nil _ _ _, hBe'.out⟩
      · have cb := hb1 rfl
        clear hb0 hb1
        have cb' := Lib.hid cb
        clear cb
        have hau2 := hau1'.out (by first | rfl | trivial)
        go_wp2_with fail
        go_wp2_with fail
        refine (cb'.out).mono ?_
        rintro e w2 ⟨rfl, hB2⟩
        have b0 := bkeep hB2 a0
        have b1 := bkeep hB2 a1
        have b2 := gfrozen' hB2 a0 a2
        have b3 := gfrozen' hB2 a1 a3
        have hs2 := hB2.size
        have hzz : w.heap.size < w2.heap.size := by omega
        obtain ⟨w4, hw4⟩ : ∃ W, ((w2.setCell ⟨w.heap.size, 0, none⟩ (.int .i64 z0)).setCell ⟨w.heap.size, 1, none⟩ (.int .i64 z1)).alloc (.cells #[.int .i64 z0, .int .i64 z1] 34) = W := ⟨_, rfl⟩
        have hb2 := hBr.trans (hB2.mono hwr)
        have hb4 : Below w.heap.size w w4 := by rw [← hw4]; exact ((hb2.setCell (p := ⟨w.heap.size, 0, none⟩) (Nat.le_refl _) (.int .i64 z0)).setCell (p := ⟨w.heap.size, 1, none⟩) (Nat.le_refl _) (.int .i64 z1)).alloc (by simp; omega) _
        have hg4 : Grow w4 w5.heap.size u10 (SW (k + 1)) := by rw [← hw4]; exact World.ownsRow.alloc (((hg'.out.below hB2).setB (o := 0) (by omega) (.int .i64 z0)).setB (o := 1) (by omega) (.int .i64 z1)) _
        have d0 : w4.cell? ⟨w.heap.size, 0, none⟩ = some (.int .i64 z0) := by rw [← hw4]; simp [go_sem, b0, b1, hzz]
        have d1 : w4.cell? ⟨w.heap.size, 1, none⟩ = some (.int .i64 z1) := by rw [← hw4]; simp [go_sem, b0, b1, hzz]
        have d2 : w4.frozen? ⟨w.heap.size, 0, none⟩ = false := by rw [← hw4]; simp [go_sem, b2, b3, hzz]
        have d3 : w4.frozen? ⟨w.heap.size, 1, none⟩ = false := by rw [← hw4]; simp [go_sem, b2, b3, hzz]
        have hs4 : w5.heap.size ≤ w4.heap.size := by rw [← hw4]; simp; omega
        clear a0 a1 a2 a3 hB2
        have hw4' := Lib.hid hw4
        have hg4' := Lib.hid hg4
        clear hw4 hg4
        go_wp2_with fail
        rw [hw4'.out]
        clear b0 b1 b2 b3
        go_wp2_with fail
        refine (cS1'.out _ hb4 hau2).mono ?_
        rintro e w7 ⟨v2, rfl, hv2, hB7⟩
        obtain ⟨ao3, cap3, rfl, _, _, H3⟩ := hv2.read
        obtain ⟨b3, off3, rfl, t3⟩ := H3 0 (hso1'.out hau2)
        have hb7 := hb4.trans (hB7.mono hb4.size)
        have hg7 := hg4'.out.below hB7
        have f2 := gfrozen' hB7 d0 d2
        have f3 := gfrozen' hB7 d1 d3
        have f0 := bkeep hB7 d0
        have f1 := bkeep hB7 d1
        have hs7 : w5.heap.size ≤ w7.heap.size := Nat.le_trans hs4 hB7.size
        obtain ⟨tm, htm⟩ : ∃ tm, T.length = tm := ⟨_, rfl⟩
        have g4 : (0 : Int) < (tm : Int) := by have := hso1'.out hau2; omega
        have g5 : 0 < tm := by omega
        rw [htm]
        rw [Nat.add_zero] at t3
        generalize nth T 0 = zz at *
        clear hv2 H3 hB7 hb4 d0 d1 d2 d3
        have htm' := Lib.hid htm
        clear htm
        go_wp2_with (at_builtin; refine wpList_append_int rfl _ _ rfl w5.heap.size u10 (SW (k + 1)) zz _ rfl rfl hg7 (by have := hrk'.out; rw [hsl1'.out]; omega) hs7 ?_)
        intro v' w' hown' hgrow
        have hlo := fun j hj => (World.ownsRow.lt hg7 j hj).1
        have hr0 : u10.ownBlock ≠ some w.heap.size := fun e => by have := hlo _ e; omega
        have i0 := gcell hgrow f0 hr0
        have i1 := gcell hgrow f1 hr0
        have i2 := gfrozen hgrow f0 f2 hr0
        have i3 := gfrozen hgrow f1 f3 hr0
        have hb8 := hg7.belowB hb7 hbz (by omega) hgrow
        have hs8 : w5.heap.size ≤ w'.heap.size := Nat.le_trans hs7 hgrow.size
        clear hgrow hlo hr0 f0 f1 f2 f3 hb7 hg7
        have hb8' := Lib.hid hb8
        clear hb8
        go_wp2
        go_roundw
        case rel =>
          have := hrk'.out
          exact ⟨k + 1, r - 1, by omega, by go_num, by rw [hst1'.out]; exact hown', by rw [hz5'.out]; exact ⟨i0, i1, i2, i3⟩, by rw [hz5'.out]; exact hau2, by rw [rg1'.out (by first | rfl | trivial)]; exact hR'.out, hs8, hb8'.out⟩
        case measure => simp [intOf]; omega
    · obtain ⟨rfl, rfl⟩ : k = n ∧ r = 0 := by omega
      have hNk : N = k := by rw [← hR]; exact re'.out
      have hV2 := hV'.out
      rw [if_neg (by omega)] at hV2
      subst hV2
      have ho := hg.own
      clear a0 a1 a2 a3 hg
      have ho' := Lib.hid ho
      have hNk' := Lib.hid hNk
      have hBr' := Lib.hid hBr
      clear ho hNk hBr
      go_wp2
      go_ret2
      exact ⟨_, rfl, ho'.out.mono hbz (Nat.le_refl _), hBr'.out⟩

end Go.Proofs.Ytfcanpebagpdbaa

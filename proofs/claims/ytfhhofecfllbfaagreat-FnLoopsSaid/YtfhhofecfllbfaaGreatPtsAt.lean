/- The program's composition: the function handed on, the points at places. No conditions but valid maps. -/
import Derived.Test.YtfhhofecfllbfaaGreatPkV
import Derived.Test.YtfhhofecfllbfaaGreatPkM
import Derived.Test.YtfhhofecfllbfaaGreatPkF
namespace Go.Proofs.YtfhhofecfllbfaaGreat
open Go.RowKit
set_option maxRecDepth 100000
theorem GrowP.kept {w w' : World} {B g : Nat} {v : Value} {xs : List Quad} (h : GrowP w B v xs) (hg : w.grownBy w' (some g)) (hgB : g < B) : GrowP w' B v xs :=
 World.ownsRow.kept h hg (.inr (fun e => by have := (World.ownsRow.lt h g e).1; omega))
theorem GrowP.mono {w : World} {B B' : Nat} {v : Value} {xs : List Quad} (h : GrowP w B v xs) (hB : B' ≤ B) : GrowP w B' v xs := World.ownsRow.mono h hB
set_option linter.unusedSimpArgs false in
set_option maxHeartbeats 4000000 in
theorem composed1_any (g : Nat) (bd : Bool) (vf vh : Value) (f h : List Quad) (x : Int × Int) (bf bh : Nat) (w0 w : World) (hvf : QuadV w0 vf f) (hvh : QuadV w0 vh h) (hb0 : Below w0.heap.size w0 w) (hg0 : w0.heap.size ≤ g) (hf : MapP f) (hh : MapP h) (hx : unitR x.1 x.2 = true) (hc : CalcAt w g bd)
  (cf : w.cell? ⟨bf, 0, none⟩ = some vf) (ch : w.cell? ⟨bh, 0, none⟩ = some vh) (nf : bf ≠ g) (nh : bh ≠ g) :
  Calls Tryz.prog 174 #[.agg #[.int .i64 x.1, .int .i64 x.2], .pointer (some ⟨g, 0, none⟩), .pointer (some ⟨bf, 0, none⟩), .pointer (some ⟨bh, 0, none⟩)] w (RetC g (bd || !(atOk h x && atOk f (atZ h x))) (ratV (atZ f (atZ h x))) w) := by
 have c1 := fun (w' : World) hB hc => cvalue_any g bd vh h x w0 w' hvh hB hg0 hh hx hc
 have c2 := fun (w' : World) hB hc => cvalue_any g (bd || !(atOk h x)) vf f (atZ h x) w0 w' hvf hB hg0 hf (atZ_unit hh hx) hc
 have hfl : (bd || !(atOk h x) || !(atOk f (atZ h x))) = (bd || !(atOk h x && atOk f (atZ h x))) := by simp only [Bool.not_and, Bool.or_assoc]
 rw [hfl] at c2
 have hgl := hc.lt
 have hfl2 := World.block_lt_of_cell? w _ cf
 have hhl2 := World.block_lt_of_cell? w _ ch
 simp only at hfl2 hhl2
 have hst : ∀ w', w.grownBy w' (some g) → Below w0.heap.size w0 w' := fun w' h => quad_stays hvf hb0 hg0 h
 obtain ⟨aof, capf, rfl, -⟩ := hvf.form
 obtain ⟨aoh, caph, rfl, -⟩ := hvh.form
 generalize (bd || !(atOk h x && atOk f (atZ h x))) = b2 at *
 generalize (bd || !(atOk h x)) = b1 at *
 generalize atZ f (atZ h x) = Z at *
 generalize atZ h x = Y at *
 generalize f.length = nf1 at *
 generalize h.length = nh1 at *
 clear hfl hvf hvh hf hh hx
 obtain ⟨x0, x1⟩ := x
 obtain ⟨z0, z1⟩ := Z
 obtain ⟨y0, y1⟩ := Y
 simp only at c1 c2
 show Calls _ _ #[.agg #[.int .i64 x0, .int .i64 x1], _, _, _] w _
 obtain ⟨w1, hw1⟩ : ∃ W, (w.alloc (.cells #[.int .i64 x0, .int .i64 x1] 42)).alloc (.cells #[.int .i64 0, .int .i64 0] 42) = W := ⟨_, rfl⟩
 have hB : Below w.heap.size w w1 := by rw [← hw1]; exact ((Below.refl _ _).alloc (Nat.le_refl _) _).alloc (by simp) _
 have hz : w.heap.size + 2 = w1.heap.size := by rw [← hw1]; simp
 have u1 : w1.cell? ⟨w.heap.size, 0, none⟩ = some (.int .i64 x0) ∧ w1.cell? ⟨w.heap.size, 1, none⟩ = some (.int .i64 x1) := by rw [← hw1]; simp [go_sem]
 have y0 : w1.cell? ⟨w.heap.size + 1, 0, none⟩ = some (.int .i64 0) := by rw [← hw1]; simp [go_sem]
 have y1 : w1.cell? ⟨w.heap.size + 1, 1, none⟩ = some (.int .i64 0) := by rw [← hw1]; simp [go_sem]
 have y2 : w1.frozen? ⟨w.heap.size + 1, 0, none⟩ = false := by rw [← hw1]; simp [go_sem]
 have y3 : w1.frozen? ⟨w.heap.size + 1, 1, none⟩ = false := by rw [← hw1]; simp [go_sem]
 have cf1 := bkeep hB cf
 have ch1 := bkeep hB ch
 have at' : ∀ w', SameBut g (w.heap.size + 1) w1 w' → w'.cell? ⟨bf, 0, none⟩ = some (.slice aof nf1 capf) ∧ w'.cell? ⟨bh, 0, none⟩ = some (.slice aoh nh1 caph) ∧ w'.cell? ⟨w.heap.size, 0, none⟩ = some (.int .i64 x0) ∧ w'.cell? ⟨w.heap.size, 1, none⟩ = some (.int .i64 x1) :=
  fun w' h => ⟨h.keep cf1 (by omega) nf, h.keep ch1 (by omega) nh, h.keep u1.1 (by omega) (by omega), h.keep u1.2 (by omega) (by omega)⟩
 have hk1 : w1.grownBy w1.drew (some g) := gdrew (World.grownBy.refl _ _)
 have hcd : CalcAt w1.drew g bd := (hc.below hB).drew
 have hg1 : w.grownBy w1 (some g) := bgrow hB _
 have hrg : (some g : Option Nat) ≠ some (w.heap.size + 1) := fun e => by have := Option.some.inj e; omega
 have hE : w.heap.size + 1 ≤ w1.heap.size := by omega
 clear u1 hc cf ch cf1 ch1
 have c1' := Lib.hid c1; have c2' := Lib.hid c2; have hw1' := Lib.hid hw1; have at'' := Lib.hid at'; have hz' := Lib.hid hz; have hst' := Lib.hid hst; clear c1 c2 hw1 at' hz hst
 go_enter Tryz.func174, Tryz.ntmps174
 go_wp2_with fail
 rw [hw1'.out]
 refine wp_region_held_drew (S := (fun w' => w'.cell? ⟨bf, 0, none⟩ = some (.slice aof nf1 capf) ∧ w'.cell? ⟨bh, 0, none⟩ = some (.slice aoh nh1 caph) ∧ w'.cell? ⟨w.heap.size, 0, none⟩ = some (.int .i64 x0) ∧ w'.cell? ⟨w.heap.size, 1, none⟩ = some (.int .i64 x1))) (by kernel_rfl) (by (try dsimp only); (first | exact at''.out _ (SameBut.grown hk1 hE) | exact at''.out _ (SameBut.grown hk2 hE) | exact at''.out _ (SameBut.grown hk3 hE) | exact at''.out _ hk5)) (fun hHeld => ?_)
 refine ly_s 0 hHeld ?_
 refine ly_s 1 hHeld ?_
 refine ly_s 2 hHeld ?_
 refine ly_a 3 (fun KK hKK => ?_)
 go_simp
 refine (c1'.out _ (hst'.out _ (hg1.trans hk1)) hcd).mono ?_
 rintro e w2 ⟨rfl, hg2, hc2⟩
 have hk2 := hk1.trans hg2
 try dsimp only
 refine hKK.out _ _ (by (try dsimp only); (first | exact at''.out _ (SameBut.grown hk1 hE) | exact at''.out _ (SameBut.grown hk2 hE) | exact at''.out _ (SameBut.grown hk3 hE) | exact at''.out _ hk5)) (fun hHeld => ?_)
 clear hKK KK
 try simp only [Act.put, lyA, lyB, lyC]
 refine ly_a 4 (fun KK hKK => ?_)
 go_simp
 refine (c2'.out _ (hst'.out _ (hg1.trans hk2)) hc2).mono ?_
 rintro e w3 ⟨rfl, hg3, hc3⟩
 have hk3 := hk2.trans hg3
 have q0 := gcell hk3 y0 hrg
 have q1 := gcell hk3 y1 hrg
 have q2 := gfrozen hk3 y0 y2 hrg
 have q3 := gfrozen hk3 y1 y3 hrg
 try dsimp only
 refine hKK.out _ _ (by (try dsimp only); (first | exact at''.out _ (SameBut.grown hk1 hE) | exact at''.out _ (SameBut.grown hk2 hE) | exact at''.out _ (SameBut.grown hk3 hE) | exact at''.out _ hk5)) (fun hHeld => ?_)
 clear hKK KK
 try simp only [Act.put, lyA, lyB, lyC]
 refine ly_a 5 (fun KK hKK => ?_)
 go_simp
 have hk5 := ((SameBut.grown hk3 hE).set (b := w.heap.size + 1) (o := 0) (Nat.le_refl _) (.int .i64 z0)).set (b := w.heap.size + 1) (o := 1) (Nat.le_refl _) (.int .i64 z1)
 try dsimp only
 refine hKK.out _ _ (by (try dsimp only); (first | exact at''.out _ (SameBut.grown hk1 hE) | exact at''.out _ (SameBut.grown hk2 hE) | exact at''.out _ (SameBut.grown hk3 hE) | exact at''.out _ hk5)) (fun hHeld => ?_)
 clear hKK KK
 try simp only [Act.put, lyA, lyB, lyC]
 refine wpAnyH_done (by kernel_rfl) ?_ _
 have hgf := grow_set (grow_set (hg1.trans hk3) (b := w.heap.size + 1) (o := 0) (by omega) (.int .i64 z0)) (b := w.heap.size + 1) (o := 1) (by omega) (.int .i64 z1)
 have hcf := (hc3.set (b := w.heap.size + 1) (o := 0) (by omega) (.int .i64 z0)).set (b := w.heap.size + 1) (o := 1) (by omega) (.int .i64 z1)
 clear hHeld hk5 hk3 hk2 hk1
 go_wp2
 exact bodyPost_ret (v := ratV (z0, z1)) (by simp [results, Tryz.results174, go_sem, q0, q1, ratV]) rfl ⟨rfl, hgf, hcf⟩
set_option linter.unusedSimpArgs false in
set_option maxRecDepth 10000 in
set_option maxHeartbeats 4000000 in
theorem pointsAt_any (g bf bh B : Nat) (bd : Bool) (v vf vh : Value) (f h : List Quad) (xs RES : List (Int × Int)) (w0 w : World) (hvf : QuadV w0 vf f) (hvh : QuadV w0 vh h) (hb0 : Below w0.heap.size w0 w) (hg0 : w0.heap.size ≤ g) (hf : MapP f) (hh : MapP h)
  (hc : CalcAt w g bd) (cf : w.cell? ⟨bf, 0, none⟩ = some vf) (ch : w.cell? ⟨bh, 0, none⟩ = some vh) (nf : bf ≠ g) (nh : bh ≠ g) (hfB : bf < B) (hhB : bh < B) (hgB : g < B)
  (hx : HasR w B v xs) (hgd : ∀ x, x ∈ xs → goodR x.1 x.2 = true) (hm : xs.length ≤ 1099511627776) (hr : ∀ ys : List (Int × Int), (ys.Pairwise fun a b => qv a ≤ qv b) → (∀ x, x ∈ ys ↔ x ∈ xs) → cmpL ys = RES)
  (hu : ∀ x, x ∈ RES → unitR x.1 x.2 = true) (hl : RES.length ≤ 1000) :
  Calls Tryz.prog 173 #[v, .func (.func 174) #[] #[.pointer (some ⟨g, 0, none⟩), .pointer (some ⟨bf, 0, none⟩), .pointer (some ⟨bh, 0, none⟩)]] w
   (fun e w' => ∃ r, e = .returned r ∧ GrowP w' B r (RES.map (cmPt f h)) ∧ Below w0.heap.size w0 w' ∧ CalcAt w' g (bd || !(cmAt f h RES RES.length))) := by
 have cR := rising_has B v xs RES w hx hgd hm hr
 have cC := fun (b : Bool) (x : Int × Int) (w' : World) hx hB hc cf ch => composed1_any g b vf vh f h x bf bh w0 w' hvf hvh hB hg0 hf hh hx hc cf ch nf nh
 have hPst : ∀ j, j < RES.length → (RES.take (j + 1)).map (cmPt f h) = (RES.take j).map (cmPt f h) ++ [cmPt f h (nthR RES j)] := fun j hj => by
  rw [List.take_add_one, List.getElem?_eq_getElem hj, List.map_append, nthR_eq hj]; rfl
 have hPl : ∀ j, ((RES.take j).map (cmPt f h)).length ≤ 1000 := fun j => by rw [List.length_map, List.length_take]; omega
 have hPa : (RES.take RES.length).map (cmPt f h) = RES.map (cmPt f h) := by rw [List.take_length]
 have hP0 : (RES.take 0).map (cmPt f h) = [] := by simp
 have hAs : ∀ j, (bd || !(cmAt f h RES (j + 1))) = (bd || !(cmAt f h RES j) || !(atOk h (nthR RES j) && atOk f (atZ h (nthR RES j)))) := fun j => by rw [cmAt_step, Bool.not_and, Bool.or_assoc]
 have hA0 : (bd || !(cmAt f h RES 0)) = bd := by show (bd || !true) = bd; simp
 have hux : ∀ j, j < RES.length → unitR (nthR RES j).1 (nthR RES j).2 = true := fun j hj => hu _ (by rw [nthR_eq hj]; exact List.getElem_mem hj)
 have hpt : ∀ x, cmPt f h x = (x, atZ f (atZ h x)) := fun _ => rfl
 have hst : ∀ w' w'', Below w0.heap.size w0 w' → w'.grownBy w'' (some g) → Below w0.heap.size w0 w'' := fun w' w'' h1 h2 => quad_stays hvf h1 hg0 h2
 obtain ⟨PL, hPL⟩ : ∃ P : Nat → List Quad, ∀ j, (RES.take j).map (cmPt f h) = P j := ⟨_, fun _ => rfl⟩
 obtain ⟨AB, hAB⟩ : ∃ P : Nat → Bool, ∀ j, (bd || !(cmAt f h RES j)) = P j := ⟨_, fun _ => rfl⟩
 simp only [hPL] at hPst hPl hPa hP0
 simp only [hAB] at hAs hA0 ⊢
 rw [← hPa]
 clear hPa hPL hAB hx hu
 obtain ⟨aof, capf, rfl, -⟩ := hvf.form
 obtain ⟨aoh, caph, rfl, -⟩ := hvh.form
 clear hvf hvh
 generalize f.length = nf1 at *
 generalize h.length = nh1 at *
 obtain ⟨n, hn⟩ : ∃ n, RES.length = n := ⟨_, rfl⟩
 rw [hn] at hl hPst hux ⊢
 have cR' := Lib.hid cR; have cC' := Lib.hid cC; have hPst' := Lib.hid hPst; have hPl' := Lib.hid hPl; have hAs' := Lib.hid hAs; have hux' := Lib.hid hux; have hpt' := Lib.hid hpt; have hst' := Lib.hid hst; clear cR cC hPst hPl hAs hux hpt hst
 go_enter Tryz.func173, Tryz.ntmps173
 go_wp2_with fail
 refine (cR'.out).mono ?_
 rintro e w1 ⟨v1, rfl, hh1, r, hgr, hrB⟩
 have cf1 := gcell hgr cf (fun e => by have := hrB _ e; simp only at this; omega)
 have ch1 := gcell hgr ch (fun e => by have := hrB _ e; simp only at this; omega)
 have hc1 := hc.grown hgr (fun e => by have := hrB _ e; omega)
 have hb1 : Below w0.heap.size w0 w1 := hb0.grown hgr hb0.size (fun j hj => by have := hrB j hj; omega)
 rw [← hA0] at hc1
 have hBw : B ≤ w1.heap.size ∨ n = 0 := by
  by_cases h0 : n = 0
  ·exact .inr h0
  ·left
   obtain ⟨g1, cap1, rfl, hrow⟩ := GrowF.form hh1.2 (by omega)
   have := World.ownsRow.lt hh1.2 g1 rfl
   omega
 have hgl := hc1.lt
 have hg1w := hgr.size
 clear hgr hrB hb0 cf ch hc cR'
 have hgrow := hh1.2
 obtain ⟨ao, cap, rfl, -, -, H⟩ := hh1.2.read.form
 clear hh1
 rw [hn] at H hgrow ⊢
 have hbl : ∀ b off, ao = some ⟨b, off, none⟩ → B ≤ b := fun b off e => by subst e; exact (World.ownsRow.lt hgrow b rfl).1
 have hBsz : n = 0 ∨ B ≤ w1.heap.size := by omega
 clear hgrow hBw
 have H' := Lib.hid H; have hn' := Lib.hid hn; have hbl' := Lib.hid hbl; have hBsz' := Lib.hid hBsz; have hb1' := Lib.hid hb1; have cf1' := Lib.hid cf1; have ch1' := Lib.hid ch1; clear H hn hbl hBsz hb1 cf1 ch1
 go_wp2_with fail
 go_loopw [5, 11] (fun o i wr => ∃ j : Nat, j ≤ n ∧ i = .int .i64 j ∧ GrowP wr (max B w1.heap.size) o (PL j) ∧ CalcAt wr g (AB j) ∧ w1.grownBy wr (some g)) (fun _ i _ => n - (intOf i).toNat)
 case atStart => exact ⟨0, Nat.zero_le _, rfl, by rw [hP0]; exact GrowF.nil _ _ _ _, hc1, World.grownBy.refl _ _⟩
 case round =>
  obtain ⟨j, hj, rfl, ho, hcr, hgw⟩ := hrel
  have hsr := hgw.size
  by_cases hlt : j < n
  ·have hBs : B ≤ w1.heap.size := by have := hBsz'.out; omega
   have hmx : max B w1.heap.size = w1.heap.size := Nat.max_eq_right hBs
   rw [hmx] at ho
   obtain ⟨b, off, rfl, c0, c1⟩ := H'.out j hlt
   have hbB := hbl'.out b off rfl
   have hne : (some g : Option Nat) ≠ some b := fun e => by have := Option.some.inj e; omega
   replace c0 := gcell hgw c0 hne
   replace c1 := gcell hgw c1 hne
   have hP1 := hPst'.out j hlt
   have hA1 := hAs'.out j
   have hxu := hux'.out j hlt
   have hpx := hpt'.out (nthR RES j)
   rw [hpx] at hP1
   obtain ⟨w2, hw2⟩ : ∃ W, wr.alloc (.cells #[.int .i64 (nthR RES j).1, .int .i64 (nthR RES j).2] 42) = W := ⟨_, rfl⟩
   have hB2 : Below wr.heap.size wr w2 := by rw [← hw2]; exact (Below.refl _ _).alloc (Nat.le_refl _) _
   have x0 : w2.cell? ⟨wr.heap.size, 0, none⟩ = some (.int .i64 (nthR RES j).1) := by rw [← hw2]; simp [go_sem]
   have x1 : w2.cell? ⟨wr.heap.size, 1, none⟩ = some (.int .i64 (nthR RES j).2) := by rw [← hw2]; simp [go_sem]
   have hg2 : w1.grownBy w2.drew (some g) := gdrew (hgw.trans (bgrow hB2 _))
   have hs2 := hg2.size
   have hc2 : CalcAt w2.drew g (AB j) := (hcr.below hB2).drew
   have ho2 : GrowP w2.drew w1.heap.size _ (PL j) := ho.below hB2.drew
   have hnw : (some g : Option Nat) ≠ some wr.heap.size := fun e => by have := Option.some.inj e; omega
   have cCx := cC'.out (AB j) (nthR RES j) w2.drew hxu (hst'.out _ _ hb1'.out hg2) hc2 (gcell hg2 cf1'.out (fun e => nf (Option.some.inj e).symm)) (gcell hg2 ch1'.out (fun e => nh (Option.some.inj e).symm))
   have at' : ∀ w', w2.drew.grownBy w' (some g) → w'.cell? ⟨wr.heap.size, 0, none⟩ = some (.int .i64 (nthR RES j).1) ∧ w'.cell? ⟨wr.heap.size, 1, none⟩ = some (.int .i64 (nthR RES j).2) := fun w' h => ⟨gcell (gdrew (World.grownBy.refl w2 (some g)) |>.trans h) x0 hnw, gcell (gdrew (World.grownBy.refl w2 (some g)) |>.trans h) x1 hnw⟩
   have hob := World.ownsRow.lt ho
   generalize (atOk h (nthR RES j) && atOk f (atZ h (nthR RES j))) = OK at *
   generalize atZ f (atZ h (nthR RES j)) = Z at *
   generalize nthR RES j = X at *
   obtain ⟨p0, p1⟩ := X
   obtain ⟨z0, z1⟩ := Z
   simp only at c0 c1 x0 x1 cCx at' hw2 hP1
   have hlp := hPl'.out j
   clear hcr ho hc2 hB2 hxu hpx x0 x1
   have hP1' := Lib.hid hP1; have hA1' := Lib.hid hA1; have cCx' := Lib.hid cCx; have at'' := Lib.hid at'; have hw2' := Lib.hid hw2; have ho2' := Lib.hid ho2; have hg2' := Lib.hid hg2; have hob' := Lib.hid hob; have hgw' := Lib.hid hgw; have hmx' := Lib.hid hmx; have hlp' := Lib.hid hlp; clear hP1 hA1 cCx at' hw2 ho2 hg2 hob hgw hmx hlp
   go_wp2_with fail
   rw [hw2'.out]
   refine wp_region_held_drew (S := (fun w' => w'.cell? ⟨wr.heap.size, 0, none⟩ = some (.int .i64 p0) ∧ w'.cell? ⟨wr.heap.size, 1, none⟩ = some (.int .i64 p1))) (by kernel_rfl) (by (try dsimp only); (first | exact at''.out _ (World.grownBy.refl _ _) | exact at''.out _ hgA | exact at''.out _ hgB | exact hcells)) (fun hHeld => ?_)
   refine ly_s 0 hHeld ?_
   refine ly_s 1 hHeld ?_
   refine ly_s 2 hHeld ?_
   refine ly_s 3 hHeld ?_
   refine ly_a 4 (fun KK hKK => ?_)
   go_simp
   refine (cCx'.out).mono ?_
   rintro e w5 ⟨rfl, hgA, hcA⟩
   have hs7 := Nat.le_trans hs2 hgA.size
   have hg8 := GrowP.kept ho2'.out hgA hgl
   try dsimp only
   refine hKK.out _ _ (by (try dsimp only); (first | exact at''.out _ (World.grownBy.refl _ _) | exact at''.out _ hgA | exact at''.out _ hgB | exact hcells)) (fun hHeld => ?_)
   clear hKK KK
   try simp only [Act.put, lyA, lyB, lyC]
   refine ly_s 5 hHeld ?_
   refine ly_a 6 (fun KK hKK => ?_)
   go_simp
   have hgB := hgA.trans (bgrow ((Below.refl _ _).alloc (Nat.le_refl _) (.cells #[.int .i64 p0, .int .i64 p1, .int .i64 z0, .int .i64 z1] 80)) (some g))
   try dsimp only
   refine hKK.out _ _ (by (try dsimp only); (first | exact at''.out _ (World.grownBy.refl _ _) | exact at''.out _ hgA | exact at''.out _ hgB | exact hcells)) (fun hHeld => ?_)
   clear hKK KK
   try simp only [Act.put, lyA, lyB, lyC]
   refine ly_a 7 (fun KK hKK => ?_)
   refine wp_append_P _ _ rfl w1.heap.size u5 (PL j) p0 p1 z0 z1 _ rfl rfl hg8 (by have := hlp'.out; omega) hs7 ?_
   intro v9 w9 hg9 hgrow9
   have hcells : w9.cell? ⟨wr.heap.size, 0, none⟩ = some (.int .i64 p0) ∧ w9.cell? ⟨wr.heap.size, 1, none⟩ = some (.int .i64 p1) := ⟨gcell hgrow9 (at''.out _ hgA).1 (fun e => by have := (hob'.out _ e).2; simp only at this; omega), gcell hgrow9 (at''.out _ hgA).2 (fun e => by have := (hob'.out _ e).2; simp only at this; omega)⟩
   try dsimp only
   refine hKK.out _ _ (by (try dsimp only); (first | exact at''.out _ (World.grownBy.refl _ _) | exact at''.out _ hgA | exact at''.out _ hgB | exact hcells)) (fun hHeld => ?_)
   clear hKK KK
   try simp only [Act.put, lyA, lyB, lyC]
   refine ly_s 8 hHeld ?_
   refine wpAnyH_done (by kernel_rfl) ?_ _
   clear hHeld hcells
   have hgrf : w1.grownBy w9 (some g) := (hg2'.out.trans hgA).andThen hgrow9 (fun jj hj => .inl (hob'.out jj hj).1)
   have hcf := hcA.grown hgrow9 (fun e => by have := (hob'.out g e).1; omega)
   rw [← hP1'.out] at hg9
   have hg9' := Lib.hid hg9; have hgrf' := Lib.hid hgrf; have hcf' := Lib.hid hcf; clear hg9 hgrf hcf
   go_wp2
   go_roundw
   case rel => exact ⟨j + 1, by omega, by go_num, by rw [hmx'.out]; exact hg9'.out, by rw [hA1'.out]; exact hcf'.out, hgrf'.out⟩
   case measure => simp [intOf]; omega
  ·obtain rfl : j = n := by omega
   have hbf := hst'.out _ _ hb1'.out hgw
   have hog := GrowP.mono ho (Nat.le_max_left _ _)
   clear ho hgw H'
   have hbf' := Lib.hid hbf; have hog' := Lib.hid hog; have hcr' := Lib.hid hcr; clear hbf hog hcr
   go_wp2
   go_ret
   exact ⟨_, rfl, hog'.out, hbf'.out, hcr'.out⟩
theorem wpList_append_ratsU {ops : Array Oper} {rest : List Oper} {o : Oper} {a : Act} {w : World} {Q : Exit → Act → World → Prop} (hgd : o.guard = none) (s x : Operand)
  (ho : o.op = .call { callee := .builtin .append, args := #[s, x], argTypes := #[26, 26] }) (B : Nat) (v u : Value) (xs ys : List (Int × Int)) (hs : a.eval s = v)
  (hx : a.eval x = u) (hown : GrowR w B v xs) (hu : RatsV w u ys) (hl : xs.length + ys.length ≤ 4398046511104) (hB : B ≤ w.heap.size)
  (h : ∀ v' w', GrowR w' B v' (xs ++ ys) → w.grownBy w' v.ownBlock → wpList Tryz.prog ops Q rest (a.put o.dst v') w') : wpList Tryz.prog ops Q (o :: rest) a w :=
 wpList_plain hgd fun _ hK => wp_append_ratsU s x ho B v u xs ys hs hx hown hu hl hB fun v' w' h2 h3 => hK _ _ (h v' w' h2 h3)
theorem fin_iff (a b : Bool) (C : Prop) : ((!a || !b) = false ∧ C) ↔ (a = true ∧ b = true ∧ C) := by cases a <;> cases b <;> simp
theorem fin_cmR {f h : List Quad} : fin_v (!(cmBef f h f.length) || !(cmAt f h (cmXs f h) (cmXs f h).length)) (cmPts f h) = cmR f h := by
 unfold fin_v cmR
 by_cases c : (!(cmBef f h f.length) || !(cmAt f h (cmXs f h) (cmXs f h).length)) = false ∧ (cmPts f h).all fineP = true
 ·rw [if_pos c, if_pos ((fin_iff _ _ _).1 c)]
 ·rw [if_neg c, if_neg (fun q => c ((fin_iff _ _ _).2 q))]
set_option linter.unusedSimpArgs false in
set_option maxRecDepth 10000 in
set_option maxHeartbeats 4000000 in
theorem composed_any (vf vh : Value) (f h : List Quad) (w : World) (hvf : QuadV w vf f) (hvh : QuadV w vh h) (hf : MapP f) (hh : MapP h) :
  Calls Tryz.prog 115 #[vf, vh] w (RetOB OwnP (cmR f h) w) := by
 have cX := fun w' (hB : Below w.heap.size w w') => xsOf_any vh h w' (hvh.below hB) (by have := hh.len.2; omega)
 have cB := fun (g : Nat) (bd : Bool) (k : Nat) (w' : World) (hk : k < f.length) hB (hg : w.heap.size ≤ g) hc => before_any g bd vh h (nth4 f k).1 w w' hvh hB hg hh (unitR_good (coordR_unit (hf.coord k hk).1)) hc
 have cP := fun (g bf bh B : Nat) (v : Value) (w' : World) hb0 (hg0 : w.heap.size ≤ g) hc cf ch nf nh hfB hhB hgB (hx : HasR w' B v (cmRaw f h f.length)) =>
  pointsAt_any g bf bh B (!(cmBef f h f.length)) v vf vh f h (cmRaw f h f.length) (cmXs f h) w w' hvf hvh hb0 hg0 hf hh hc cf ch nf nh hfB hhB hgB hx
   (fun x hx => unitR_good (cmRaw_unit hf hh (Nat.le_refl _) x hx)) (by have := cmRaw_len hf hh (Nat.le_refl f.length); omega) (fun ys hp hm => cmXs_sorted hf hh hp hm) (cmXs_unit hf hh) (by have := (cmXs_len hf hh).2; omega)
 have hcp : (cmXs f h).map (cmPt f h) = cmPts f h := rfl
 simp only [hcp] at cP
 have cF := fun (g : Nat) (v : Value) (w' : World) hv hc => finish_any g (!(cmBef f h f.length) || !(cmAt f h (cmXs f h) (cmXs f h).length)) v (cmPts f h) w' hv hc (by rw [cmPts_len]; have := (cmXs_len hf hh).2; omega) (fun _ => cmPts_line hf hh)
 rw [fin_cmR] at cF
 have hR0 : cmRaw f h 0 = xsL h := by unfold cmRaw cmB; simp
 have hRs := cmRaw_step f h
 have hBs := cmBef_step f h
 have hB0 : (!(cmBef f h 0)) = false := rfl
 have hRl : ∀ k, k < f.length → (cmRaw f h k).length + (befR h (nth4 f k).1).length ≤ 1000 := fun k hk => by
  have := cmRaw_len hf hh (k := k + 1) (by omega)
  rw [cmRaw_step, List.length_append] at this
  omega
 have hR1 : ∀ k, 0 < (cmRaw f h k).length := fun k => by unfold cmRaw; rw [List.length_append, xsL_len]; have := hh.len.1; omega
 have hhl := hh.len.1
 have hfl12 := hf.len.2
 have hxl : 0 < (xsL h).length := by rw [xsL_len]; omega
 generalize (!(cmBef f h f.length) || !(cmAt f h (cmXs f h) (cmXs f h).length)) = BD at *
 generalize cmPts f h = PT at *
 generalize cmR f h = RR at *
 generalize cmRaw f h = RW at *
 obtain ⟨OKB, hOKB⟩ : ∃ P : Nat → Bool, ∀ k, (!(cmBef f h k)) = P k := ⟨_, fun _ => rfl⟩
 have hBs2 : ∀ k, OKB (k + 1) = (OKB k || !(befOk h (nth4 f k).1 h.length)) := fun k => by rw [← hOKB, ← hOKB, hBs, Bool.not_and]
 simp only [hOKB] at cP hB0
 clear hBs hOKB hcp hf hh
 have hvfb := fun w' (hB : Below w.heap.size w w') => (hvf.below hB).form
 obtain ⟨aof, capf, rfl, -, -, H⟩ := hvf.form
 obtain ⟨aoh, caph, rfl, -⟩ := hvh.form
 obtain ⟨n, hn⟩ : ∃ n, f.length = n := ⟨_, rfl⟩
 rw [hn] at cB cP H hRl hvfb hfl12 ⊢
 generalize h.length = nh1 at *
 have hst : ∀ g w' w'', w.heap.size ≤ g → Below w.heap.size w w' → w'.grownBy w'' (some g) → Below w.heap.size w w'' := fun g w' w'' hg h1 h2 => h1.grown h2 h1.size (fun j hj => by have := Option.some.inj hj; omega)
 clear hvfb hvf hvh
 obtain ⟨w1, hw1⟩ : ∃ W, ((w.alloc (.cells #[.slice aof n capf] 29)).alloc (.cells #[.slice aoh nh1 caph] 29)).alloc (.cells #[.bool false] 92) = W := ⟨_, rfl⟩
 have hB1 : Below w.heap.size w w1 := by rw [← hw1]; exact (((Below.refl _ _).alloc (Nat.le_refl _) _).alloc (by simp) _).alloc (by simp; omega) _
 have hz1 : w1.heap.size = w.heap.size + 3 := by rw [← hw1]; simp
 have xf : w1.cell? ⟨w.heap.size, 0, none⟩ = some (.slice aof n capf) := by rw [← hw1]; simp [go_sem]
 have xh : w1.cell? ⟨w.heap.size + 1, 0, none⟩ = some (.slice aoh nh1 caph) := by rw [← hw1]; simp [go_sem]
 have xc : CalcAt w1 (w.heap.size + 2) false := by rw [← hw1]; exact ⟨by simp [go_sem], by simp [go_sem]⟩
 obtain ⟨RS, RB⟩ := RR
 have hng : ∀ j, j ≠ w.heap.size + 1 + 1 → (some (w.heap.size + 1 + 1) : Option Nat) ≠ some j := fun j hj e => hj (Option.some.inj e).symm
 have hg1 : w.heap.size ≤ w.heap.size + 1 + 1 := by omega
 have cX' := Lib.hid cX; have cB' := Lib.hid cB; have cP' := Lib.hid cP; have cF' := Lib.hid cF; have hR0' := Lib.hid hR0; have hRs' := Lib.hid hRs; have hBs2' := Lib.hid hBs2; have hB0' := Lib.hid hB0; have hRl' := Lib.hid hRl; have hR1' := Lib.hid hR1; have hw1' := Lib.hid hw1; have xf' := Lib.hid xf; have xh' := Lib.hid xh; have xc' := Lib.hid xc; have hn' := Lib.hid hn; have H' := Lib.hid H; have hst' := Lib.hid hst; have hng' := Lib.hid hng; clear cX cB cP cF hR0 hRs hBs2 hB0 hRl hR1 hw1 xf xh xc hn H hst hng
 go_enter Tryz.func115, Tryz.ntmps115
 go_wp2_with fail
 rw [hw1'.out]
 refine (cX'.out w1 hB1).mono ?_
 rintro e w2 ⟨v2, rfl, ho2, hB2⟩
 have hr2 := GrowR.ofOwn ho2 hxl
 have hb2 := hB1.trans (hB2.mono hB1.size)
 have y0 := bkeep hB2 xf'.out
 have xh2 := bkeep hB2 xh'.out
 have xf2 := y0
 have xc2 := xc'.out.below hB2
 have hs2 := hB2.size
 rw [← hR0'.out] at hr2
 obtain ⟨ao2, cap2, rfl, -⟩ := ho2.read.form
 rw [← hB0'.out] at xc2
 have hg2 : w1.grownBy w2 (some (w.heap.size + 1 + 1)) := bgrow hB2 _
 have hb1 := hB1
 clear ho2 hB1 hB2 hb2 cX'
 have hr2' := Lib.hid hr2; have xc2' := Lib.hid xc2; have hg2' := Lib.hid hg2; have hb1' := Lib.hid hb1; clear hr2 xc2 hg2 hb1
 go_wp2_with fail
 go_loopw [7, 14] (fun o i wr => ∃ k : Nat, k ≤ n ∧ i = .int .i64 k ∧ GrowR wr w1.heap.size o (RW k) ∧ CalcAt wr (w.heap.size + 1 + 1) (OKB k) ∧ w1.grownBy wr (some (w.heap.size + 1 + 1))) (fun _ i _ => n - (intOf i).toNat)
 case atStart => exact ⟨0, Nat.zero_le _, rfl, hr2'.out, xc2'.out, hg2'.out⟩
 case round =>
  obtain ⟨k, hk, rfl, ho, hcr, hgw⟩ := hrel
  have hsr := hgw.size
  have hbr := hst'.out _ _ _ hg1 hb1'.out hgw
  have xhr := gcell hgw xh'.out (hng'.out _ (by simp only; omega))
  clear y0
  by_cases hlt : k < n
  ·obtain ⟨b, off, rfl, d0, d1, d2, d3⟩ := H'.out k hlt
   replace d0 := bkeep hbr d0
   replace d1 := bkeep hbr d1
   replace d2 := bkeep hbr d2
   replace d3 := bkeep hbr d3
   have hR1s := hRs'.out k
   have hB1s := hBs2'.out k
   have hRl1 := hRl'.out k hlt
   have cB1 := fun w' hB hc => cB'.out (w.heap.size + 1 + 1) (OKB k) k w' hlt hB hg1 hc
   rw [← hB1s] at cB1
   generalize nth4 f k = P at *
   obtain ⟨⟨p0, p1⟩, ⟨p2, p3⟩⟩ := P
   simp only at d0 d1 d2 d3 cB1 hR1s hRl1
   generalize befR h (p0, p1) = BL at *
   obtain ⟨w3, hw3⟩ : ∃ W, wr.alloc (.cells #[.int .i64 p0, .int .i64 p1, .int .i64 p2, .int .i64 p3] 80) = W := ⟨_, rfl⟩
   have hB3 : Below wr.heap.size wr w3 := by rw [← hw3]; exact (Below.refl _ _).alloc (Nat.le_refl _) _
   have hb3 := hbr.trans (hB3.mono hbr.size)
   have hc3 := hcr.below hB3
   have cB2 := cB1 w3 hb3 hc3
   have xh3 := bkeep hB3 xhr
   have xb0 : w3.cell? ⟨wr.heap.size, 0, none⟩ = some (.int .i64 p0) := by rw [← hw3]; simp [go_sem]
   have xb1 : w3.cell? ⟨wr.heap.size, 1, none⟩ = some (.int .i64 p1) := by rw [← hw3]; simp [go_sem]
   have ho3 := ho.below hB3
   have hs3 : w1.heap.size ≤ w3.heap.size := by have := hB3.size; omega
   have hg3 := hgw.trans (bgrow hB3 (some (w.heap.size + 1 + 1)))
   clear hB1s cB1 hb3 hc3 ho hcr hgw hbr hB3
   have hR1s' := Lib.hid hR1s; have hRl1' := Lib.hid hRl1; have hw3' := Lib.hid hw3; have cB2' := Lib.hid cB2; have ho3' := Lib.hid ho3; have hg3' := Lib.hid hg3; clear hR1s hRl1 hw3 cB2 ho3 hg3
   go_upto_region 6 with fail
   rw [hw3'.out]
   clear d0 d1 d2 d3
   go_wp2_with fail
   refine (cB2'.out).mono ?_
   rintro e w4 ⟨r, rfl, hr4, hg4, hc4⟩
   have hgA := hg3'.out.trans hg4
   have ho4 := GrowR.kept ho3'.out hg4 (by omega)
   have hs4 := hg4.size
   have hr5 := hr4.2.read
   have hob := World.ownsRow.lt ho4
   obtain ⟨ao4, cap4, rfl, -⟩ := hr4.2.read.form
   clear hr4 xhr hg4 cB2' hw3'
   have hgA' := Lib.hid hgA; have ho4' := Lib.hid ho4; have hr5' := Lib.hid hr5; have hc4' := Lib.hid hc4; have hob' := Lib.hid hob; clear hgA ho4 hr5 hc4 hob
   go_wp2_with (at_builtin; refine wpList_append_ratsU rfl _ _ rfl w1.heap.size u7 _ (RW k) BL rfl rfl ho4'.out hr5'.out (by have := hRl1'.out; omega) (by omega) ?_)
   intro v' w' hown' hgrow
   have hgf := hgA'.out.andThen hgrow (fun jj hj => .inl (hob'.out jj hj).1)
   have hcf := hc4'.out.grown hgrow (fun e => by have := (hob'.out _ e).1; omega)
   rw [← hR1s'.out] at hown'
   have hgf' := Lib.hid hgf; have hcf' := Lib.hid hcf; have hown'' := Lib.hid hown'; clear hgf hcf hown'
   go_wp2
   go_roundw
   case rel => exact ⟨k + 1, by omega, by go_num, (by rw [hz1]; exact hown''.out), hcf'.out, hgf'.out⟩
   case measure => simp [intOf]; omega
  ·obtain rfl : k = n := by omega
   have xfr := gcell hgw xf'.out (hng'.out _ (by simp only; omega))
   have cP1 := cP'.out (w.heap.size + 1 + 1) w.heap.size (w.heap.size + 1) w1.heap.size u7 wr hbr hg1 hcr xfr xhr (by omega) (by omega) (by omega) (by omega) (by omega) ⟨fun e => by have := hR1'.out k; rw [e] at this; simp at this, ho⟩
   clear cB' cP' hRs' hBs2' hRl' hR1' H' ho hcr hgw xhr hw1' hr2' xc2' hg2' xf' xh' xc'
   have cP1' := Lib.hid cP1; clear cP1
   go_wp2_with fail
   refine (cP1'.out).mono ?_
   rintro e w5 ⟨r5, rfl, hp5, hb5, hc5⟩
   have cF1 := cF'.out (w.heap.size + 1 + 1) r5 w5 hp5.own.read hc5
   obtain ⟨ao5, cap5, rfl, -⟩ := hp5.own.read.form
   clear cP1' cF' hp5 hc5
   have cF1' := Lib.hid cF1; have hb5' := Lib.hid hb5; clear cF1 hb5
   go_wp2_with fail
   refine (cF1'.out).mono ?_
   rintro e w6 ⟨r6, rfl, ho6, hB6⟩
   have hb6 := hb5'.out.trans (hB6.mono hb5'.out.size)
   have ho7 := OwnP.mono ho6 (hB := hb5'.out.size) (hE := Nat.le_refl _)
   obtain ⟨ao6, cap6, rfl, -⟩ := ho6.read.form
   clear ho6 hB6 cF1'
   have ho7' := Lib.hid ho7; have hb6' := Lib.hid hb6; clear ho7 hb6
   go_wp2
   go_ret2
   exact ⟨_, rfl, ho7'.out, hb6'.out⟩
def pw_v (f : List Quad) (n : Nat) : List Quad × Bool := if mapB f = true ∧ n ≤ 6 then cmW f n else ([], false)
set_option linter.unusedSimpArgs false in
set_option maxRecDepth 10000 in
set_option maxHeartbeats 4000000 in
theorem powerOfMap_any (v : Value) (f : List Quad) (n : Nat) (w : World) (hv : QuadV w v f) (hm : f.length ≤ 1099511627776) (hn : n ≤ 1099511627776) :
  Calls Tryz.prog 56 #[v, .int .i64 n] w (RetOB OwnP (pw_v f n) w) := by
 have c1 := isMap_any v f w hv hm
 have c2 := fun w' => within_any (n : Int) 0 6 w'
 cases hmap : mapB f
 ·rw [show pw_v f n = ([], false) by unfold pw_v; rw [if_neg]; rw [hmap]; simp]
  rw [hmap] at c1
  obtain ⟨ao, cap, rfl, -⟩ := hv.form
  clear hmap hv
  have c1' := Lib.hid c1; have c2' := Lib.hid c2; clear c1 c2
  go_enter Tryz.func56, Tryz.ntmps56
  go_wp2_with fail
  refine (c1'.out).mono ?_
  rintro e w1 ⟨rfl, hB1⟩
  go_wp2
  go_ret2
  exact ⟨_, rfl, OwnP.nil _ _ _, hB1⟩
 ·rw [hmap] at c1
  cases hin : inB n 0 6
  ·rw [show pw_v f n = ([], false) by unfold pw_v; rw [if_neg]; have := inB_false.1 hin; omega]
   have c3 := fun w' => c2 w'
   simp only [hin] at c3
   obtain ⟨ao, cap, rfl, -⟩ := hv.form
   clear hmap hv c2 hin
   have c1' := Lib.hid c1; have c3' := Lib.hid c3; clear c1 c3
   go_enter Tryz.func56, Tryz.ntmps56
   go_wp2_with fail
   refine (c1'.out).mono ?_
   rintro e w1 ⟨rfl, hB1⟩
   go_wp2_with fail
   refine (c3'.out _).mono ?_
   rintro e w2 ⟨rfl, rfl⟩
   go_wp2
   go_ret2
   exact ⟨_, rfl, OwnP.nil _ _ _, hB1⟩
  ·have hin6 := inB_true.1 hin
   rw [show pw_v f n = cmW f n by unfold pw_v; rw [if_pos]; exact ⟨hmap, by omega⟩]
   simp only [hin] at c2
   have hf := mapB_true hmap
   have cK := fun (k : Nat) (u : Value) (w' : World) (hB : Below w.heap.size w w') (hk : (cmW f k).2 = true) (hu : QuadV w' u (cmW f k).1) => composed_any v u f (cmW f k).1 w' (hv.below hB) hu hf (mapB_true (cmW_map f k hk))
   have hst : ∀ k, (cmW f k).2 = true → cmW f (k + 1) = cmR f (cmW f k).1 := fun k hk => by show (if (cmW f k).2 = true then _ else _) = _; rw [if_pos hk]
   have hno := fun k (hk : k < n) (hb : (cmW f (k + 1)).2 = false) => cmW_no (f := f) (show k + 1 ≤ n from hk) hb
   obtain ⟨V, hV⟩ : ∃ V, cmW f n = V := ⟨_, rfl⟩
   rw [hV] at hno ⊢
   have h00 : cmW f 0 = (cmId, true) := rfl
   have cI := fun w' => identityMap_any w'
   obtain ⟨ao, cap, rfl, -⟩ := hv.form
   clear hmap hin hf hv hm
   generalize f.length = m at *
   have c1' := Lib.hid c1; have c2' := Lib.hid c2; have cK' := Lib.hid cK; have hst' := Lib.hid hst; have hno' := Lib.hid hno; have h00' := Lib.hid h00; have cI' := Lib.hid cI; have hin6' := Lib.hid hin6; have hV' := Lib.hid hV; clear c1 c2 cK hst hno h00 cI hin6 hV
   go_enter Tryz.func56, Tryz.ntmps56
   go_wp2_with fail
   refine (c1'.out).mono ?_
   rintro e w1 ⟨rfl, hB1⟩
   go_wp2_with fail
   refine (c2'.out _).mono ?_
   rintro e w_ ⟨rfl, rfl⟩
   go_wp2_with fail
   refine (cI'.out w1).mono ?_
   rintro e w2 ⟨v2, rfl, ho2, hB2⟩
   have hb2 := hB1.trans (hB2.mono hB1.size)
   have ho3 : OwnP w2 w.heap.size w2.heap.size v2 (cmW f 0).1 := by rw [h00'.out]; exact OwnP.mono ho2 (hB := hB1.size) (hE := Nat.le_refl _)
   have hk0 : (cmW f 0).2 = true := by rw [h00'.out]
   obtain ⟨ao2, cap2, rfl, -⟩ := ho2.read.form
   clear ho2 hB1 hB2
   have hb2' := Lib.hid hb2; have ho3' := Lib.hid ho3; have hk0' := Lib.hid hk0; clear hb2 ho3 hk0
   go_wp2
   go_loopw [6, 7, 18] (fun o b i wr => ∃ k : Nat, k ≤ n ∧ i = .int .i64 k ∧ b = .bool true ∧ OwnP wr w.heap.size wr.heap.size o (cmW f k).1 ∧ (cmW f k).2 = true ∧ Below w.heap.size w wr) (fun _ _ i _ => n - (intOf i).toNat)
   case atStart => exact ⟨0, Nat.zero_le _, rfl, rfl, ho3'.out, hk0'.out, hb2'.out⟩
   case round =>
    obtain ⟨k, hk, rfl, rfl, ho, hok, hB⟩ := hrel
    clear hb2' ho3' hk0'
    by_cases hlt : k < n
    ·have c5 := cK'.out k _ wr hB hok ho.read
     have hs1 := hst'.out k hok
     have hn1 := hno'.out k hlt
     rw [← hs1] at c5
     have hsz := hB.size
     have hinn := hin6'.out
     obtain ⟨⟨S, M⟩, hSM⟩ : ∃ r, cmW f (k + 1) = r := ⟨_, rfl⟩
     rw [hSM] at c5 hn1
     clear ho hs1 hok
     have c5' := Lib.hid c5; have hB' := Lib.hid hB; have hn1' := Lib.hid hn1; have hSM' := Lib.hid hSM; have hinn' := Lib.hid hinn; clear c5 hB hn1 hSM hinn
     go_wp2_with fail
     refine (c5'.out).mono ?_
     rintro e w3 ⟨r, rfl, ho3, hB3⟩
     have hb3 := hB'.out.trans (hB3.mono hB'.out.size)
     obtain ⟨ao3, cap3, rfl, -⟩ := ho3.read.form
     cases M
     ·have hV2 := hn1'.out rfl
      subst hV2
      clear ho3 hB3 c5' 
      have hb3' := Lib.hid hb3; clear hb3
      go_wp2
      go_ret2
      exact ⟨_, rfl, OwnP.nil _ _ _, hb3'.out⟩
     ·have ho4 := OwnP.mono ho3 (hB := hsz) (hE := Nat.le_refl _)
      have e1 : S = (cmW f (k + 1)).1 := by rw [hSM'.out]
      have e2 : (cmW f (k + 1)).2 = true := by rw [hSM'.out]
      have ho5 : OwnP w3 w.heap.size w3.heap.size (.slice ao3 S.length cap3) (cmW f (k + 1)).1 := by rw [← e1]; exact ho4
      clear ho3 hB3 c5' ho4 e1
      have hb3' := Lib.hid hb3; have ho5' := Lib.hid ho5; have e2' := Lib.hid e2; clear hb3 ho5 e2
      go_wp2
      go_roundw
      case rel => exact ⟨k + 1, by omega, by go_num, rfl, ho5'.out, e2'.out, hb3'.out⟩
      case measure => simp [intOf]; omega
    ·obtain rfl : k = n := by omega
     have hVk := hV'.out
     rw [hVk] at ho hok
     obtain ⟨S, M⟩ := V
     simp only at hok ho
     subst hok
     clear hVk hV'
     have ho' := Lib.hid ho; have hB' := Lib.hid hB; clear ho hB
     go_wp2
     go_ret2
     exact ⟨_, rfl, ho'.out, hB'.out⟩
end Go.Proofs.YtfhhofecfllbfaaGreat

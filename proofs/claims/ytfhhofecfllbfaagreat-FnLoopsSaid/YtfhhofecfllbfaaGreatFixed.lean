/- The fixed fractions of a map: both walks. No conditions but valid maps. -/
import Derived.Test.YtfhhofecfllbfaaGreatFixLaw
import Derived.Test.YtfhhofecfllbfaaGreatBoxV
import Derived.Test.YtfhhofecfllbfaaGreatPkJ
import Derived.Test.YtfhhofecfllbfaaGreatPkF
import Derived.Test.YtfhhofecfllbfaaGreatPtsAt
import Derived.Deep.Cut
import Derived.Deep.CutRange
import Derived.Deep.CutBlock
namespace Go.Proofs.YtfhhofecfllbfaaGreat
open Go.RowKit
set_option maxRecDepth 100000
set_option linter.unusedSimpArgs false in
set_option linter.unusedVariables false in
set_option maxRecDepth 10000 in
set_option maxHeartbeats 4000000 in
theorem fixedBetween_any (p q : Quad) (w : World) (h1 : coordR p.1 = true) (h2 : coordR p.2 = true) (h3 : coordR q.1 = true) (h4 : coordR q.2 = true) (hc : fxC p q = true) :
  Calls Tryz.prog 116 #[quadV p, quadV q] w (Ret (ratV (fxZ p q)) w) := by
 obtain ⟨bp1, bp0⟩ := coordR_bd h1
 obtain ⟨bp3, bp2⟩ := coordR_bd h2
 obtain ⟨bq1, bq0⟩ := coordR_bd h3
 obtain ⟨bq3, bq2⟩ := coordR_bd h4
 have hL := fun (one two : Int) ho ht => fx_impl h1 h2 h3 h4 hc (one := one) (two := two) ho ht
 obtain ⟨Z, hZ⟩ : ∃ Z, fxZ p q = Z := ⟨_, rfl⟩
 rw [hZ] at hL ⊢
 clear h1 h2 h3 h4 hc hZ
 obtain ⟨⟨p0, p1⟩, ⟨p2, p3⟩⟩ := p
 obtain ⟨⟨q0, q1⟩, ⟨q2, q3⟩⟩ := q
 obtain ⟨z0, z1⟩ := Z
 simp only at bp1 bp0 bp2 bp3 bq1 bq0 bq2 bq3 hL
 obtain ⟨m1, hm1⟩ : ∃ m : Int, p0 * p3 = m := ⟨_, rfl⟩
 have bm1 : 0 ≤ m1 ∧ m1 ≤ 10000 := by have := mul_bd (a := p0) (b := p3) (A := 100) (B := 100) (by omega) (by omega); omega
 have gm1 : IntKind.i64.wrap (p0 * p3) = m1 := by rw [hm1, IntKind.wrap_i64]; omega
 obtain ⟨m2, hm2⟩ : ∃ m : Int, p2 * p1 = m := ⟨_, rfl⟩
 have bm2 : 0 ≤ m2 ∧ m2 ≤ 10000 := by have := mul_bd (a := p2) (b := p1) (A := 100) (B := 100) (by omega) (by omega); omega
 have gm2 : IntKind.i64.wrap (p2 * p1) = m2 := by rw [hm2, IntKind.wrap_i64]; omega
 obtain ⟨d1, hd1⟩ : ∃ m : Int, m1 - m2 = m := ⟨_, rfl⟩
 have bd1 : -10000 ≤ d1 ∧ d1 ≤ 10000 := by omega
 have gd1 : IntKind.i64.wrap (m1 - m2) = d1 := by rw [hd1, IntKind.wrap_i64]; omega
 obtain ⟨m3, hm3⟩ : ∃ m : Int, q0 * q3 = m := ⟨_, rfl⟩
 have bm3 : 0 ≤ m3 ∧ m3 ≤ 10000 := by have := mul_bd (a := q0) (b := q3) (A := 100) (B := 100) (by omega) (by omega); omega
 have gm3 : IntKind.i64.wrap (q0 * q3) = m3 := by rw [hm3, IntKind.wrap_i64]; omega
 obtain ⟨m4, hm4⟩ : ∃ m : Int, q2 * q1 = m := ⟨_, rfl⟩
 have bm4 : 0 ≤ m4 ∧ m4 ≤ 10000 := by have := mul_bd (a := q2) (b := q1) (A := 100) (B := 100) (by omega) (by omega); omega
 have gm4 : IntKind.i64.wrap (q2 * q1) = m4 := by rw [hm4, IntKind.wrap_i64]; omega
 obtain ⟨d2, hd2⟩ : ∃ m : Int, m3 - m4 = m := ⟨_, rfl⟩
 have bd2 : -10000 ≤ d2 ∧ d2 ≤ 10000 := by omega
 have gd2 : IntKind.i64.wrap (m3 - m4) = d2 := by rw [hd2, IntKind.wrap_i64]; omega
 obtain ⟨o1, ho1⟩ : ∃ m : Int, (d1.natAbs : Int) = m := ⟨_, rfl⟩
 have bo1 : 0 ≤ o1 ∧ o1 ≤ 10000 := by omega
 have ao1 := fun w' => abs_any d1 w' (by omega)
 rw [ho1] at ao1
 obtain ⟨o2, ho2⟩ : ∃ m : Int, (d2.natAbs : Int) = m := ⟨_, rfl⟩
 have bo2 : 0 ≤ o2 ∧ o2 ≤ 10000 := by omega
 have ao2 := fun w' => abs_any d2 w' (by omega)
 rw [ho2] at ao2
 obtain ⟨r1, hr1⟩ : ∃ m : Int, o1 * q1 = m := ⟨_, rfl⟩
 have br1 : 0 ≤ r1 ∧ r1 ≤ 1000000 := by have := mul_bd (a := o1) (b := q1) (A := 10000) (B := 100) (by omega) (by omega); omega
 have gr1 : IntKind.i64.wrap (o1 * q1) = r1 := by rw [hr1, IntKind.wrap_i64]; omega
 obtain ⟨r2, hr2⟩ : ∃ m : Int, r1 * q3 = m := ⟨_, rfl⟩
 have br2 : 0 ≤ r2 ∧ r2 ≤ 100000000 := by have := mul_bd (a := r1) (b := q3) (A := 1000000) (B := 100) (by omega) (by omega); omega
 have gr2 : IntKind.i64.wrap (r1 * q3) = r2 := by rw [hr2, IntKind.wrap_i64]; omega
 obtain ⟨s1, hs1⟩ : ∃ m : Int, o2 * p1 = m := ⟨_, rfl⟩
 have bs1 : 0 ≤ s1 ∧ s1 ≤ 1000000 := by have := mul_bd (a := o2) (b := p1) (A := 10000) (B := 100) (by omega) (by omega); omega
 have gs1 : IntKind.i64.wrap (o2 * p1) = s1 := by rw [hs1, IntKind.wrap_i64]; omega
 obtain ⟨s2, hs2⟩ : ∃ m : Int, s1 * p3 = m := ⟨_, rfl⟩
 have bs2 : 0 ≤ s2 ∧ s2 ≤ 100000000 := by have := mul_bd (a := s1) (b := p3) (A := 1000000) (B := 100) (by omega) (by omega); omega
 have gs2 : IntKind.i64.wrap (s1 * p3) = s2 := by rw [hs2, IntKind.wrap_i64]; omega
 obtain ⟨t1, ht1⟩ : ∃ m : Int, p0 * q1 = m := ⟨_, rfl⟩
 have bt1 : 0 ≤ t1 ∧ t1 ≤ 10000 := by have := mul_bd (a := p0) (b := q1) (A := 100) (B := 100) (by omega) (by omega); omega
 have gt1 : IntKind.i64.wrap (p0 * q1) = t1 := by rw [ht1, IntKind.wrap_i64]; omega
 obtain ⟨t2, ht2⟩ : ∃ m : Int, t1 * s2 = m := ⟨_, rfl⟩
 have bt2 : 0 ≤ t2 ∧ t2 ≤ 1000000000000 := by have := mul_bd (a := t1) (b := s2) (A := 10000) (B := 100000000) (by omega) (by omega); omega
 have gt2 : IntKind.i64.wrap (t1 * s2) = t2 := by rw [ht2, IntKind.wrap_i64]; omega
 obtain ⟨t3, ht3⟩ : ∃ m : Int, q0 * p1 = m := ⟨_, rfl⟩
 have bt3 : 0 ≤ t3 ∧ t3 ≤ 10000 := by have := mul_bd (a := q0) (b := p1) (A := 100) (B := 100) (by omega) (by omega); omega
 have gt3 : IntKind.i64.wrap (q0 * p1) = t3 := by rw [ht3, IntKind.wrap_i64]; omega
 obtain ⟨t4, ht4⟩ : ∃ m : Int, t3 * r2 = m := ⟨_, rfl⟩
 have bt4 : 0 ≤ t4 ∧ t4 ≤ 1000000000000 := by have := mul_bd (a := t3) (b := r2) (A := 10000) (B := 100000000) (by omega) (by omega); omega
 have gt4 : IntKind.i64.wrap (t3 * r2) = t4 := by rw [ht4, IntKind.wrap_i64]; omega
 obtain ⟨N, hN⟩ : ∃ m : Int, t2 + t4 = m := ⟨_, rfl⟩
 have bN : 0 ≤ N ∧ N ≤ 2000000000000 := by omega
 have gN : IntKind.i64.wrap (t2 + t4) = N := by rw [hN, IntKind.wrap_i64]; omega
 obtain ⟨t5, ht5⟩ : ∃ m : Int, p1 * q1 = m := ⟨_, rfl⟩
 have bt5 : 0 ≤ t5 ∧ t5 ≤ 10000 := by have := mul_bd (a := p1) (b := q1) (A := 100) (B := 100) (by omega) (by omega); omega
 have gt5 : IntKind.i64.wrap (p1 * q1) = t5 := by rw [ht5, IntKind.wrap_i64]; omega
 obtain ⟨t6, ht6⟩ : ∃ m : Int, r2 + s2 = m := ⟨_, rfl⟩
 have bt6 : 0 ≤ t6 ∧ t6 ≤ 200000000 := by omega
 have gt6 : IntKind.i64.wrap (r2 + s2) = t6 := by rw [ht6, IntKind.wrap_i64]; omega
 obtain ⟨M, hM⟩ : ∃ m : Int, t5 * t6 = m := ⟨_, rfl⟩
 have bM : 0 ≤ M ∧ M ≤ 2000000000000 := by have := mul_bd (a := t5) (b := t6) (A := 10000) (B := 200000000) (by omega) (by omega); omega
 have gM : IntKind.i64.wrap (t5 * t6) = M := by rw [hM, IntKind.wrap_i64]; omega
 obtain ⟨hM0, hmk⟩ := hL r2 s2 (by rw [hm1, hm2, hd1, ho1, hr1, hr2]) (by rw [hm3, hm4, hd2, ho2, hs1, hs2])
 rw [ht5, ht6, hM] at hM0 hmk
 rw [ht1, ht2, ht3, ht4, hN] at hmk
 have cl := fun w' => lowest_any N M w' (by omega) (by omega) hM0
 rw [hmk] at cl
 clear hL hM0 hmk hm1 hm2 hd1 hm3 hm4 hd2 hr1 hr2 hs1 hs2 ht1 ht2 ht3 ht4 hN ht5 ht6 hM ho1 ho2 bm1 bm2 bd1 bm3 bm4 bd2 br1 br2 bs1 bs2 bt1 bt2 bt3 bt4 bN bt5 bt6 bM bo1 bo2 bp0 bp1 bp2 bp3 bq0 bq1 bq2 bq3
 show Calls _ _ #[.agg #[.int .i64 p0, .int .i64 p1, .int .i64 p2, .int .i64 p3], .agg #[.int .i64 q0, .int .i64 q1, .int .i64 q2, .int .i64 q3]] w _
 obtain ⟨w1, hw1⟩ : ∃ W, ((w.alloc (.cells #[.int .i64 p0, .int .i64 p1, .int .i64 p2, .int .i64 p3] 80)).alloc (.cells #[.int .i64 q0, .int .i64 q1, .int .i64 q2, .int .i64 q3] 80)).alloc (.cells #[.int .i64 0, .int .i64 0] 42) = W := ⟨_, rfl⟩
 have hB1 : Below w.heap.size w w1 := by rw [← hw1]; exact (((Below.refl _ _).alloc (Nat.le_refl _) _).alloc (by simp) _).alloc (by simp; omega) _
 have xp : BoxQ w1 w.heap.size ((p0, p1), (p2, p3)) := by rw [← hw1]; refine ⟨?_, ?_, ?_, ?_⟩ <;> simp [go_sem]
 have xq : BoxQ w1 (w.heap.size + 1) ((q0, q1), (q2, q3)) := by rw [← hw1]; refine ⟨?_, ?_, ?_, ?_⟩ <;> simp [go_sem]
 have xr : BoxV w1 (w.heap.size + 1 + 1) (0, 0) := by rw [← hw1]; refine ⟨⟨?_, ?_⟩, ?_, ?_⟩ <;> simp [go_sem]
 have hz1 : w1.heap.size = w.heap.size + 3 := by rw [← hw1]; simp
 have at' : ∀ w', Below w1.heap.size w1 w' → BoxQ w' w.heap.size ((p0, p1), (p2, p3)) ∧ BoxQ w' (w.heap.size + 1) ((q0, q1), (q2, q3)) := fun w' h => ⟨xp.below h, xq.below h⟩
 have hd : Below w1.heap.size w1 w1.drew := (Below.refl _ _).drew
 have hd2 : Below w1.heap.size w1 w1.drew.drew := hd.drew
 have hw1' := Lib.hid hw1; have xp' := Lib.hid xp; have xq' := Lib.hid xq; have xr' := Lib.hid xr; have hz1' := Lib.hid hz1; have at'' := Lib.hid at'; have cl' := Lib.hid cl; have ao1' := Lib.hid ao1; have ao2' := Lib.hid ao2; have hB1' := Lib.hid hB1; clear hw1 xp xq xr hz1 at' cl ao1 ao2 hB1
 go_enter Tryz.func116, Tryz.ntmps116
 go_wp2_with fail
 rw [hw1'.out]
 refine wp_region_held_drew (S := (fun w' => (w'.cell? ⟨w.heap.size, 0, none⟩ = some (.int .i64 p0) ∧ w'.cell? ⟨w.heap.size, 1, none⟩ = some (.int .i64 p1) ∧ w'.cell? ⟨w.heap.size, 2, none⟩ = some (.int .i64 p2) ∧ w'.cell? ⟨w.heap.size, 3, none⟩ = some (.int .i64 p3)) ∧ (w'.cell? ⟨w.heap.size + 1, 0, none⟩ = some (.int .i64 q0) ∧ w'.cell? ⟨w.heap.size + 1, 1, none⟩ = some (.int .i64 q1) ∧ w'.cell? ⟨w.heap.size + 1, 2, none⟩ = some (.int .i64 q2) ∧ w'.cell? ⟨w.heap.size + 1, 3, none⟩ = some (.int .i64 q3)))) (by kernel_rfl) (by (try dsimp only); exact at''.out _ hd) (fun hHeld => ?_)
 refine ly_s 0 hHeld ?_
 refine ly_s 1 hHeld ?_
 refine ly_s 2 hHeld ?_
 refine ly_s 3 hHeld ?_
 refine ly_s 4 hHeld ?_
 refine ly_s 5 hHeld ?_
 refine ly_s 6 hHeld ?_
 refine ly_s 7 hHeld ?_
 refine ly_s 8 hHeld ?_
 refine ly_s 9 hHeld ?_
 refine ly_s 10 hHeld ?_
 refine ly_s 11 hHeld ?_
 refine ly_s 12 hHeld ?_
 refine ly_s 13 hHeld ?_
 refine ly_s 14 hHeld ?_
 refine ly_s 16 hHeld ?_
 refine ly_s 17 hHeld ?_
 refine ly_s 18 hHeld ?_
 refine ly_s 19 hHeld ?_
 refine ly_s 20 hHeld ?_
 refine ly_s 21 hHeld ?_
 refine ly_s 22 hHeld ?_
 refine ly_s 23 hHeld ?_
 refine ly_s 24 hHeld ?_
 refine ly_s 25 hHeld ?_
 refine ly_s 26 hHeld ?_
 refine ly_s 27 hHeld ?_
 refine ly_s 28 hHeld ?_
 refine ly_s 29 hHeld ?_
 refine ly_s 30 hHeld ?_
 refine ly_a 15 (fun KK hKK => ?_)
 go_simp
 refine (ao1'.out _).mono ?_
 rintro e w5 ⟨rfl, rfl⟩
 try dsimp only
 refine hKK.out _ _ (by (try dsimp only); exact at''.out _ hd) (fun hHeld => ?_)
 clear hKK KK
 try simp only [Act.put, lyA, lyB, lyC]
 refine ly_a 31 (fun KK hKK => ?_)
 go_simp
 refine (ao2'.out _).mono ?_
 rintro e w5 ⟨rfl, rfl⟩
 try dsimp only
 refine hKK.out _ _ (by (try dsimp only); exact at''.out _ hd) (fun hHeld => ?_)
 clear hKK KK
 try simp only [Act.put, lyA, lyB, lyC]
 refine ly_s 32 hHeld ?_
 refine ly_s 33 hHeld ?_
 refine wpAnyH_done (by kernel_rfl) ?_ _
 clear hHeld
 go_wp2_with fail
 refine wp_region_held_drew (S := (fun w' => (w'.cell? ⟨w.heap.size, 0, none⟩ = some (.int .i64 p0) ∧ w'.cell? ⟨w.heap.size, 1, none⟩ = some (.int .i64 p1) ∧ w'.cell? ⟨w.heap.size, 2, none⟩ = some (.int .i64 p2) ∧ w'.cell? ⟨w.heap.size, 3, none⟩ = some (.int .i64 p3)) ∧ (w'.cell? ⟨w.heap.size + 1, 0, none⟩ = some (.int .i64 q0) ∧ w'.cell? ⟨w.heap.size + 1, 1, none⟩ = some (.int .i64 q1) ∧ w'.cell? ⟨w.heap.size + 1, 2, none⟩ = some (.int .i64 q2) ∧ w'.cell? ⟨w.heap.size + 1, 3, none⟩ = some (.int .i64 q3)))) (by kernel_rfl) (by (try dsimp only); exact at''.out _ hd2) (fun hHeld => ?_)
 refine ly_s 0 hHeld ?_
 refine ly_s 1 hHeld ?_
 refine ly_s 2 hHeld ?_
 refine ly_s 3 hHeld ?_
 refine ly_s 4 hHeld ?_
 refine ly_s 5 hHeld ?_
 refine ly_s 6 hHeld ?_
 refine ly_s 7 hHeld ?_
 refine ly_s 8 hHeld ?_
 refine ly_s 9 hHeld ?_
 refine ly_s 10 hHeld ?_
 refine ly_s 11 hHeld ?_
 refine ly_s 12 hHeld ?_
 refine ly_s 13 hHeld ?_
 refine ly_s 14 hHeld ?_
 refine ly_s 15 hHeld ?_
 refine ly_s 16 hHeld ?_
 refine ly_s 17 hHeld ?_
 refine ly_s 18 hHeld ?_
 refine ly_s 19 hHeld ?_
 refine wpAnyH_done (by kernel_rfl) ?_ _
 clear hHeld
 obtain ⟨⟨y0, y1, y2, y3⟩, v0, v1, v2, v3⟩ := at''.out _ hd2
 simp only at y0 y1 y2 y3 v0 v1 v2 v3
 go_wp2_with fail
 refine (cl'.out _).mono ?_
 rintro e w6 ⟨rfl, hB6⟩
 have hb6 := hB1'.out.trans ((hd2.trans (hB6.mono hd2.size)).mono hB1'.out.size)
 obtain ⟨wA, hwA⟩ : ∃ W, w6.alloc (.cells #[.int .i64 z0, .int .i64 z1] 42) = W := ⟨_, rfl⟩
 have hBA : Below w6.heap.size w6 wA := by rw [← hwA]; exact (Below.refl _ _).alloc (Nat.le_refl _) _
 have xz : BoxV wA w6.heap.size (z0, z1) := by rw [← hwA]; refine ⟨⟨?_, ?_⟩, ?_, ?_⟩ <;> simp [go_sem]
 have xr6 := ((xr'.out.below hd2).below hB6).below hBA
 obtain ⟨⟨k0, k1⟩, f0, f1⟩ := xr6
 obtain ⟨⟨u0, u1⟩, -, -⟩ := xz
 simp only at k0 k1 u0 u1
 have hl3 : w.heap.size + 1 + 1 < wA.heap.size := by have := hz1'.out; have := hd2.size; have := hB6.size; have := hBA.size; omega
 have hbA := hb6.trans (hBA.mono hb6.size)
 clear y0 y1 y2 y3 v0 v1 v2 v3 hB6 hBA hb6
 have hbA' := Lib.hid hbA; have hwA' := Lib.hid hwA; clear hbA hwA
 go_upto_region 4 with fail
 rw [hwA'.out]
 go_wp2
 refine bodyPost_ret (v := ratV (z0, z1)) (by simp [results, Tryz.results116, go_sem, k0, k1, ratV]) rfl ⟨rfl, ?_⟩
 exact (hbA'.out.setCell (p := ⟨w.heap.size + 1 + 1, 0, none⟩) (by show w.heap.size ≤ w.heap.size + 1 + 1; omega) _).setCell (p := ⟨w.heap.size + 1 + 1, 1, none⟩) (by show w.heap.size ≤ w.heap.size + 1 + 1; omega) _
set_option linter.unusedSimpArgs false in
set_option maxRecDepth 10000 in
set_option maxHeartbeats 8000000 in
theorem fixed_any (v : Value) (f : List Quad) (w : World) (hv : QuadV w v f) (hf : MapP f) :
  Calls Tryz.prog 57 #[v] w (fun e w' => ∃ v', e = .returned v' ∧ HasR w' w.heap.size v' (fxL f) ∧ Below w.heap.size w w') := by
 have hl12 := hf.len
 have hgc := fun i (hi : i < f.length) => hf.coord i hi
 have hps := fxPts_step f
 have hcs := fxCrs_step f
 have hpl := fxPts_len f
 have hcl := fxCrs_len f
 have hP0 : fxPts f 0 = [] := rfl
 have hC0 : fxCrs f 0 = [] := rfl
 have hraw : fxPts f f.length ++ fxCrs f (f.length - 1) = fxRaw f := rfl
 have hrl : (fxRaw f).length ≤ 1099511627776 := by rw [← hraw, List.length_append]; have := hpl f.length; have := hcl (f.length - 1); omega
 have cr := fun v' w' (hg : HasR w' w.heap.size v' (fxRaw f)) => rising_has w.heap.size v' (fxRaw f) (fxL f) w' hg (fxRaw_good hf) hrl (fun ys hp hm => fxL_sorted hf hp hm)
 clear hrl
 obtain ⟨ao, cap, rfl, _, _, H⟩ := hv.form
 obtain ⟨n, hn⟩ : ∃ n, f.length = n := ⟨_, rfl⟩
 rw [hn] at H hl12 hgc hraw ⊢
 generalize fxPts f = PT at *
 generalize fxCrs f = CR at *
 generalize fxRaw f = RW at *
 generalize fxL f = R at *
 clear hv hf hn
 have H' := Lib.hid H; have hps' := Lib.hid hps; have hcs' := Lib.hid hcs; have hpl' := Lib.hid hpl; have hcl' := Lib.hid hcl; have hP0' := Lib.hid hP0; have hC0' := Lib.hid hC0; have hraw' := Lib.hid hraw; have cr' := Lib.hid cr; have hgc' := Lib.hid hgc; clear H hps hcs hpl hcl hP0 hC0 hraw cr hgc
 go_enter Tryz.func57, Tryz.ntmps57
 go_wp2
 go_loopw [3, 11] (fun o i wr => ∃ k : Nat, k ≤ n ∧ i = .int .i64 k ∧ HasR wr w.heap.size o (PT k) ∧ Below w.heap.size w wr) (fun _ i _ => n - (intOf i).toNat)
 case atStart => exact ⟨0, Nat.zero_le _, rfl, by rw [hP0'.out]; exact HasR.nil _ _, Below.refl _ _⟩
 case round =>
  obtain ⟨k, hk, rfl, hl, hB⟩ := hrel
  by_cases hlt : k < n
  ·obtain ⟨b, off, rfl, p0, p1, p2, p3⟩ := H'.out k hlt
   replace p0 := bkeep hB p0
   replace p1 := bkeep hB p1
   replace p2 := bkeep hB p2
   replace p3 := bkeep hB p3
   have hst := hps'.out k
   have hln := hpl'.out k
   generalize nth4 f k = P at *
   obtain ⟨⟨a0, a1⟩, ⟨a2, a3⟩⟩ := P
   simp only at p0 p1 p2 p3 hst
   obtain ⟨w1, hw1⟩ : ∃ W, wr.alloc (.cells #[.int .i64 a0, .int .i64 a1, .int .i64 a2, .int .i64 a3] 80) = W := ⟨_, rfl⟩
   have hB1 : Below wr.heap.size wr w1 := by rw [← hw1]; exact (Below.refl _ _).alloc (Nat.le_refl _) _
   have xb : BoxQ w1 wr.heap.size ((a0, a1), (a2, a3)) := by rw [← hw1]; refine ⟨?_, ?_, ?_, ?_⟩ <;> simp [go_sem]
   have hl1 := hl.below hB1
   have hb1 := hB.trans (hB1.mono hB.size)
   have hs1 := hb1.size
   clear hl hB hB1
   have hst' := Lib.hid hst; have hw1' := Lib.hid hw1; have xb' := Lib.hid xb; have hl1' := Lib.hid hl1; have hb1' := Lib.hid hb1; have hln' := Lib.hid hln; clear hst hw1 xb hl1 hb1 hln
   go_upto_region 5 with fail
   rw [hw1'.out]
   clear p0 p1 p2 p3
   obtain ⟨y0, y1, y2, y3⟩ := xb'.out
   simp only at y0 y1 y2 y3
   by_cases h0 : a0 = a2
   ·by_cases h1 : a1 = a3
    ·subst h0 h1
     have hst2 : PT (k + 1) = PT k ++ [(a0, a1)] := by rw [hst'.out, if_pos rfl]
     have hl2 := hl1'.out.2
     have hst2' := Lib.hid hst2; have hl2' := Lib.hid hl2; clear hst2 hl2
     go_wp2_with (at_builtin; refine wpList_append_rat rfl _ _ rfl w.heap.size u3 (PT k) a0 a1 _ rfl rfl hl2'.out (by have := hln'.out; omega) hs1 ?_)
     intro v' w' hown' hgrow
     have hbf := hl2'.out.belowB hb1'.out (Nat.le_refl _) hs1 hgrow
     rw [← hst2'.out] at hown'
     have hne : PT (k + 1) ≠ [] := by rw [hst2'.out]; simp
     have hh : HasR w' w.heap.size v' (PT (k + 1)) := ⟨fun e => absurd e hne, hown'⟩
     clear hown' hgrow hne y0 y1 y2 y3
     have hh' := Lib.hid hh; have hbf' := Lib.hid hbf; clear hh hbf
     go_wp2
     go_roundw
     case rel => exact ⟨k + 1, by omega, by go_num, hh'.out, hbf'.out⟩
     case measure => simp [intOf]; omega
    ·have hst2 : PT (k + 1) = PT k := by rw [hst'.out, if_neg (by intro e; exact h1 (Prod.mk.inj e).2)]
     have hh := hl1'.out
     rw [← hst2] at hh
     have hh' := Lib.hid hh; have hst2' := Lib.hid hst2; clear hh hst2
     go_wp2
     go_roundw
     case rel => exact ⟨k + 1, by omega, by go_num, hh'.out, hb1'.out⟩
     case measure => simp [intOf]; omega
   ·have hst2 : PT (k + 1) = PT k := by rw [hst'.out, if_neg (by intro e; exact h0 (Prod.mk.inj e).1)]
    have hh := hl1'.out
    rw [← hst2] at hh
    have hh' := Lib.hid hh; have hst2' := Lib.hid hst2; clear hh hst2
    go_wp2
    go_roundw
    case rel => exact ⟨k + 1, by omega, by go_num, hh'.out, hb1'.out⟩
    case measure => simp [intOf]; omega
  ·obtain rfl : k = n := by omega
   obtain ⟨o1, ho1⟩ : ∃ o, u3 = o := ⟨_, rfl⟩
   obtain ⟨PN, hPN⟩ : ∃ PN, PT k = PN := ⟨_, rfl⟩
   have hPl := hpl'.out k
   rw [hPN] at hPl
   rw [hPN] at hl
   have hraw1 := hraw'.out
   rw [hPN] at hraw1
   clear hps' hpl' hP0' hraw' hPN
   have hl' := Lib.hid hl; have hB' := Lib.hid hB; have hPl' := Lib.hid hPl; have hraw1' := Lib.hid hraw1; clear hl hB hPl hraw1
   go_wp2
   go_loopw [3, 6] (fun o i wx => ∃ j : Nat, j + 1 ≤ k ∧ i = .int .i64 ((j : Int) + 1) ∧ HasR wx w.heap.size o (PN ++ CR j) ∧ Below w.heap.size w wx) (fun _ i _ => k - (intOf i).toNat)
   case atStart => exact ⟨0, by omega, rfl, by rw [hC0'.out, List.append_nil]; exact hl'.out, hB'.out⟩
   case round =>
    obtain ⟨j, hj, rfl, hg, hBr⟩ := hrel
    clear hl' hB'
    by_cases hlt2 : j + 1 < k
    ·obtain ⟨b, off, rfl, p0, p1, p2, p3⟩ := H'.out j (by omega)
     obtain ⟨_, _, e', q0, q1, q2, q3⟩ := H'.out (j + 1) hlt2
     cases e'
     replace p0 := bkeep hBr p0
     replace p1 := bkeep hBr p1
     replace p2 := bkeep hBr p2
     replace p3 := bkeep hBr p3
     replace q0 := bkeep hBr q0
     replace q1 := bkeep hBr q1
     replace q2 := bkeep hBr q2
     replace q3 := bkeep hBr q3
     have hst := hcs'.out j
     have hln := hcl'.out j
     have kP := hgc'.out j (by omega)
     have kQ := hgc'.out (j + 1) hlt2
     have cfb := fun w' hc => fixedBetween_any (nth4 f j) (nth4 f (j + 1)) w' kP.1 kP.2 kQ.1 kQ.2 hc
     have gP := unitR_good (coordR_unit kP.1)
     have gPy := unitR_good (coordR_unit kP.2)
     have gQ := unitR_good (coordR_unit kQ.1)
     have gQy := unitR_good (coordR_unit kQ.2)
     have cC1 := fun w' => compare_any (nth4 f j).1.1 (nth4 f j).1.2 (nth4 f j).2.1 (nth4 f j).2.2 w' (good_bd gP) (good_bd gPy)
     have cC2 := fun w' => compare_any (nth4 f (j + 1)).1.1 (nth4 f (j + 1)).1.2 (nth4 f (j + 1)).2.1 (nth4 f (j + 1)).2.2 w' (good_bd gQ) (good_bd gQy)
     have hfc : fxC (nth4 f j) (nth4 f (j + 1)) = decide (cmpN (nth4 f j).1.1 (nth4 f j).1.2 (nth4 f j).2.1 (nth4 f j).2.2 * cmpN (nth4 f (j + 1)).1.1 (nth4 f (j + 1)).1.2 (nth4 f (j + 1)).2.1 (nth4 f (j + 1)).2.2 < 0) := rfl
     have bb1 := cmpN_bd (nth4 f j).1.1 (nth4 f j).1.2 (nth4 f j).2.1 (nth4 f j).2.2
     have bb2 := cmpN_bd (nth4 f (j + 1)).1.1 (nth4 f (j + 1)).1.2 (nth4 f (j + 1)).2.1 (nth4 f (j + 1)).2.2
     rw [hfc] at hst cfb
     clear hfc kP kQ gP gPy gQ gQy
     generalize cmpN (nth4 f j).1.1 (nth4 f j).1.2 (nth4 f j).2.1 (nth4 f j).2.2 = C1 at *
     generalize cmpN (nth4 f (j + 1)).1.1 (nth4 f (j + 1)).1.2 (nth4 f (j + 1)).2.1 (nth4 f (j + 1)).2.2 = C2 at *
     generalize fxZ (nth4 f j) (nth4 f (j + 1)) = Z at *
     generalize nth4 f j = P at *
     generalize nth4 f (j + 1) = Q at *
     obtain ⟨i, hi⟩ : ∃ i : Nat, i = j + 1 := ⟨_, rfl⟩
     rw [← hi] at hlt2 q0 q1 q2 q3 hst
     rw [show (j : Int) + 1 = (i : Int) by omega]
     obtain ⟨⟨a0, a1⟩, ⟨a2, a3⟩⟩ := P
     obtain ⟨⟨b0, b1⟩, ⟨b2, b3⟩⟩ := Q
     obtain ⟨z0, z1⟩ := Z
     simp only at p0 p1 p2 p3 q0 q1 q2 q3 cC1 cC2 cfb
     have hM := mul_bd1 bb1 bb2
     have hwm : IntKind.i64.wrap (C1 * C2) = C1 * C2 := by rw [IntKind.wrap_i64]; omega
     have g1 : (0 : Int) ≤ (j : Int) := by omega
     have g2 : (j : Int) < (k : Int) := by omega
     have g3 : (i : Int) < (k : Int) := by omega
     have g7 : (0 : Int) ≤ (i : Int) := by omega
     have g4 : IntKind.i64.wrap ((i : Int) - 1) = (j : Int) := by rw [IntKind.wrap_i64]; omega
     have g5 : IntKind.i64.wrap (j : Int) = (j : Int) := by rw [IntKind.wrap_i64]; omega
     have g6 : j < k := by omega
     have hjw : IntKind.i64.wrap ((i : Int) + 1) = (i : Int) + 1 := by rw [IntKind.wrap_i64]; omega
     have l0 : b < wr.heap.size := World.block_lt_of_cell? _ _ p0
     have l1 : ¬ b = wr.heap.size := by omega
     have l2 : ¬ b = wr.heap.size + 1 := by omega
     have l3 : b < wr.heap.size + 1 := by omega
     have l4 : b < wr.heap.size + 1 + 1 := by omega
     clear bb1 bb2 hM
     have hg' := Lib.hid hg; have hBr' := Lib.hid hBr; have cC1' := Lib.hid cC1; have cC2' := Lib.hid cC2; have cfb' := Lib.hid cfb; have hst' := Lib.hid hst; have hln' := Lib.hid hln; have hwm' := Lib.hid hwm; have hi' := Lib.hid hi; clear hg hBr cC1 cC2 cfb hst hln hwm hi
     go_upto_region 11 with fail
     go_cut [7, 8] from 32 to 40 (fun s7 s8 wy => ∃ g7 g8 : Nat, s7 = .pointer (some ⟨g7, 0, none⟩) ∧ s8 = .pointer (some ⟨g8, 0, none⟩) ∧ Below wr.heap.size wr wy ∧ BoxQ wy g7 ((a0, a1), (a2, a3)) ∧ BoxQ wy g8 ((b0, b1), (b2, b3)))
     case first =>
      go_region
      all_goals
       go_wp2
       go_meet
       exact ⟨_, _, rfl, rfl, (((Below.refl _ _).alloc (Nat.le_refl _) _).alloc (by simp) _).drew, ⟨by simp [go_sem], by simp [go_sem], by simp [go_sem], by simp [go_sem]⟩, by simp [go_sem], by simp [go_sem], by simp [go_sem], by simp [go_sem]⟩
     case rest =>
     obtain ⟨g7, g8, rfl, rfl, hBx, xp, xq⟩ := hcut
     obtain ⟨wo, rfl⟩ : ∃ wo : World, wo = wc := ⟨_, rfl⟩
     have hbo := hBr'.out.trans (hBx.mono hBr'.out.size)
     have hgo := hg'.out.below hBx
     have at' : ∀ w', Below wo.heap.size wo w' → BoxQ w' g7 ((a0, a1), (a2, a3)) ∧ BoxQ w' g8 ((b0, b1), (b2, b3)) := fun w' h => ⟨xp.below h, xq.below h⟩
     have hd : Below wo.heap.size wo wo.drew := (Below.refl _ _).drew
     clear p0 p1 p2 p3 q0 q1 q2 q3 xp xq hBx l0 l1 l2 l3 l4
     have hbo' := Lib.hid hbo; have hgo' := Lib.hid hgo; have at'' := Lib.hid at'; clear hbo hgo at'
     clear hg' hBr'
     have hwm := hwm'.out
     by_cases hx : C1 * C2 < 0
     ·have hst2 : CR i = CR j ++ [(z0, z1)] := by rw [hst'.out, if_pos (decide_eq_true hx)]
      have cf2 := fun w' => cfb'.out w' (decide_eq_true hx)
      clear hst' cfb'
      have hst2' := Lib.hid hst2; have cf2' := Lib.hid cf2; clear hst2 cf2
      go_wp2_with fail
      refine wp_region_held_drew (S := (fun w' => (w'.cell? ⟨g7, 0, none⟩ = some (.int .i64 a0) ∧ w'.cell? ⟨g7, 1, none⟩ = some (.int .i64 a1) ∧ w'.cell? ⟨g7, 2, none⟩ = some (.int .i64 a2) ∧ w'.cell? ⟨g7, 3, none⟩ = some (.int .i64 a3)) ∧ (w'.cell? ⟨g8, 0, none⟩ = some (.int .i64 b0) ∧ w'.cell? ⟨g8, 1, none⟩ = some (.int .i64 b1) ∧ w'.cell? ⟨g8, 2, none⟩ = some (.int .i64 b2) ∧ w'.cell? ⟨g8, 3, none⟩ = some (.int .i64 b3)))) (by kernel_rfl) (by (try dsimp only); exact at''.out _ ‹_›) (fun hHeld => ?_)
      refine ly_s 0 hHeld ?_
      refine ly_s 1 hHeld ?_
      refine ly_s 2 hHeld ?_
      refine ly_s 3 hHeld ?_
      refine ly_s 5 hHeld ?_
      refine ly_s 6 hHeld ?_
      refine ly_s 7 hHeld ?_
      refine ly_s 8 hHeld ?_
      refine ly_a 4 (fun KK hKK => ?_)
      go_simp
      refine (cC1'.out _).mono ?_
      rintro e w5 ⟨rfl, hB5⟩
      have hd5 := hd.trans (hB5.mono hd.size)
      try dsimp only
      refine hKK.out _ _ (by (try dsimp only); exact at''.out _ ‹_›) (fun hHeld => ?_)
      clear hKK KK
      try simp only [Act.put, lyA, lyB, lyC]
      refine ly_a 9 (fun KK hKK => ?_)
      go_simp
      refine (cC2'.out _).mono ?_
      rintro e w6 ⟨rfl, hB6⟩
      have hd6 := hd5.trans (hB6.mono hd5.size)
      try dsimp only
      refine hKK.out _ _ (by (try dsimp only); exact at''.out _ ‹_›) (fun hHeld => ?_)
      clear hKK KK
      try simp only [Act.put, lyA, lyB, lyC]
      refine ly_s 10 hHeld ?_
      refine ly_s 11 hHeld ?_
      refine wpAnyH_done (by kernel_rfl) ?_ _
      clear hHeld
      obtain ⟨⟨y0, y1, y2, y3⟩, t0, t1, t2, t3⟩ := at''.out _ hd6
      simp only at y0 y1 y2 y3 t0 t1 t2 t3
      go_wp2_with fail
      refine (cf2'.out _).mono ?_
      rintro e w7 ⟨rfl, hB7⟩
      have hd7 := hd6.trans (hB7.mono hd6.size)
      have hb7 := hbo'.out.trans (hd7.mono hbo'.out.size)
      have hg7 := (hgo'.out.below hd7).2
      have hs7 := hb7.size
      have hlL : (PN ++ CR j).length ≤ 1000000 := by rw [List.length_append]; have := hPl'.out; have := hln'.out; omega
      clear y0 y1 y2 y3 t0 t1 t2 t3 hd7 hd6 hd5 hd hB5 hB6 hB7
      have hb7' := Lib.hid hb7; have hg7' := Lib.hid hg7; have hlL' := Lib.hid hlL; clear hb7 hg7 hlL
      go_wp2_with (at_builtin; refine wpList_append_rat rfl _ _ rfl w.heap.size u3 (PN ++ CR j) z0 z1 _ rfl rfl hg7'.out (by have := hlL'.out; omega) hs7 ?_)
      intro v' w' hown' hgrow
      have hbf := hg7'.out.belowB hb7'.out (Nat.le_refl _) hs7 hgrow
      rw [← hst2'.out] at hown'
      have hne : PN ++ CR i ≠ [] := by rw [hst2'.out]; simp
      have hh : HasR w' w.heap.size v' (PN ++ CR i) := ⟨fun e => absurd e hne, hown'⟩
      clear hown' hgrow hne
      have hh' := Lib.hid hh; have hbf' := Lib.hid hbf; clear hh hbf
      go_wp2
      go_roundw
      case rel => exact ⟨i, by omega, by go_num, hh'.out, hbf'.out⟩
      case measure => simp [intOf]; omega
     ·have hst2 : CR i = CR j := by rw [hst'.out, if_neg (by rw [decide_eq_true_iff]; exact hx)]
      have hge := hgo'.out
      rw [← hst2] at hge
      clear hst' cfb' hgo'
      have hst2' := Lib.hid hst2; have hge' := Lib.hid hge; clear hst2 hge
      go_wp2_with fail
      refine wp_region_held_drew (S := (fun w' => (w'.cell? ⟨g7, 0, none⟩ = some (.int .i64 a0) ∧ w'.cell? ⟨g7, 1, none⟩ = some (.int .i64 a1) ∧ w'.cell? ⟨g7, 2, none⟩ = some (.int .i64 a2) ∧ w'.cell? ⟨g7, 3, none⟩ = some (.int .i64 a3)) ∧ (w'.cell? ⟨g8, 0, none⟩ = some (.int .i64 b0) ∧ w'.cell? ⟨g8, 1, none⟩ = some (.int .i64 b1) ∧ w'.cell? ⟨g8, 2, none⟩ = some (.int .i64 b2) ∧ w'.cell? ⟨g8, 3, none⟩ = some (.int .i64 b3)))) (by kernel_rfl) (by (try dsimp only); exact at''.out _ ‹_›) (fun hHeld => ?_)
      refine ly_s 0 hHeld ?_
      refine ly_s 1 hHeld ?_
      refine ly_s 2 hHeld ?_
      refine ly_s 3 hHeld ?_
      refine ly_s 5 hHeld ?_
      refine ly_s 6 hHeld ?_
      refine ly_s 7 hHeld ?_
      refine ly_s 8 hHeld ?_
      refine ly_a 4 (fun KK hKK => ?_)
      go_simp
      refine (cC1'.out _).mono ?_
      rintro e w5 ⟨rfl, hB5⟩
      have hd5 := hd.trans (hB5.mono hd.size)
      try dsimp only
      refine hKK.out _ _ (by (try dsimp only); exact at''.out _ ‹_›) (fun hHeld => ?_)
      clear hKK KK
      try simp only [Act.put, lyA, lyB, lyC]
      refine ly_a 9 (fun KK hKK => ?_)
      go_simp
      refine (cC2'.out _).mono ?_
      rintro e w6 ⟨rfl, hB6⟩
      have hd6 := hd5.trans (hB6.mono hd5.size)
      try dsimp only
      refine hKK.out _ _ (by (try dsimp only); exact at''.out _ ‹_›) (fun hHeld => ?_)
      clear hKK KK
      try simp only [Act.put, lyA, lyB, lyC]
      refine ly_s 10 hHeld ?_
      refine ly_s 11 hHeld ?_
      refine wpAnyH_done (by kernel_rfl) ?_ _
      clear hHeld
      have hb7 := hbo'.out.trans (hd6.mono hbo'.out.size)
      have hg7 := hge'.out.below hd6
      clear hd6 hd5 hd hB5 hB6
      have hb7' := Lib.hid hb7; have hg7' := Lib.hid hg7; clear hb7 hg7
      go_wp2
      go_roundw
      case rel => exact ⟨i, by omega, by go_num, hg7'.out, hb7'.out⟩
      case measure => simp [intOf]; omega
    ·have hj1 : j = k - 1 := by omega
     have hraw2 := hraw1'.out
     rw [← hj1] at hraw2
     rw [hraw2] at hg
     have hkk : k = j + 1 := by omega
     clear hj1
     subst hkk
     clear H' hgc' hcs' hcl' hC0' hraw1' hraw2
     have cr1 := cr'.out u3 wr hg
     have hsz := hBr.size
     clear hg cr'
     have cr1' := Lib.hid cr1; have hBr' := Lib.hid hBr; clear cr1 hBr
     go_wp2_with fail
     refine (cr1'.out).mono ?_
     rintro e w7 ⟨v7, rfl, hh7, r, hgr, hr⟩
     have hbF : Below w.heap.size w w7 := hBr'.out.grown hgr hsz hr
     clear hgr hr cr1'
     have hh7' := Lib.hid hh7; have hbF' := Lib.hid hbF; clear hh7 hbF
     go_wp2
     go_ret
     exact ⟨_, rfl, hh7'.out, hbF'.out⟩
end Go.Proofs.YtfhhofecfllbfaaGreat

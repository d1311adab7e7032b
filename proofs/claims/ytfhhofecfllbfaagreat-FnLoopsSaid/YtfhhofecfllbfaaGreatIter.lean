/- The program's OrbitOf, IterateMap and PeriodOf where the orbit can be computed and comes back. No conditions but these. -/
import Derived.Test.YtfhhofecfllbfaaGreatPkK
import Derived.Test.YtfhhofecfllbfaaGreatPkH
import Derived.Test.YtfhhofecfllbfaaGreatPkE
import Derived.Test.YtfhhofecfllbfaaGreatHeldI
import Derived.Test.YtfhhofecfllbfaaGreatPkA
import Derived.Deep.Cut
import Derived.Deep.CutRange
import Derived.Deep.CutBlock
namespace Go.Proofs.YtfhhofecfllbfaaGreat
open Go.RowKit
set_option maxRecDepth 100000
def RatAt (w : World) (b off n : Nat) (Z : Nat → Int × Int) : Prop := ∀ i, i < n → w.cell? ⟨b, off + i * 2, none⟩ = some (.int .i64 (Z i).1) ∧ w.cell? ⟨b, off + i * 2 + 1, none⟩ = some (.int .i64 (Z i).2)
theorem RatAt.below {w w' : World} {b off n : Nat} {Z : Nat → Int × Int} (h : RatAt w b off n Z) (hB : Below w.heap.size w w') : RatAt w' b off n Z := fun i hi => ⟨bkeep hB (h i hi).1, bkeep hB (h i hi).2⟩
theorem RatAt.take {w : World} {b off n m : Nat} {Z : Nat → Int × Int} (h : RatAt w b off n Z) (hm : m ≤ n) : RatAt w b off m Z := fun i hi => h i (by omega)
set_option maxHeartbeats 1600000 in
theorem index_none (b off n cap : Nat) (Z : Nat → Int × Int) (x : Int × Int) (w : World) (hc : RatAt w b off n Z) (hn : n ≤ 1048576) (hZ : ∀ i, i < n → Z i ≠ x) :
  Calls Tryz.prog 160 #[.slice (some ⟨b, off, none⟩) n cap, .agg #[.int .i64 x.1, .int .i64 x.2]] w (Ret (.int .i64 (-1)) w) := by
 obtain ⟨x0, x1⟩ := x
 show Calls _ _ #[_, .agg #[.int .i64 x0, .int .i64 x1]] w _
 obtain ⟨w1, hw1⟩ : ∃ W, w.alloc (.cells #[.int .i64 x0, .int .i64 x1] 42) = W := ⟨_, rfl⟩
 have hB1 : Below w.heap.size w w1 := by rw [← hw1]; exact (Below.refl _ _).alloc (Nat.le_refl _) _
 have b0 : w1.cell? ⟨w.heap.size, 0, none⟩ = some (.int .i64 x0) := by rw [← hw1]; simp [go_sem]
 have b1 : w1.cell? ⟨w.heap.size, 1, none⟩ = some (.int .i64 x1) := by rw [← hw1]; simp [go_sem]
 have hc1 := hc.below hB1
 clear hc
 have hw1' := Lib.hid hw1; have hB1' := Lib.hid hB1; have hc1' := Lib.hid hc1; have hZ' := Lib.hid hZ; clear hw1 hB1 hc1 hZ
 go_enter Tryz.func160, Tryz.ntmps160
 go_upto_region 1 with fail
 rw [hw1'.out]
 go_wp2_with fail
 go_loopw [8] (fun i wr => ∃ k : Nat, k ≤ n ∧ i = .int .i64 k ∧ ∃ q, wr = w1.drewN q) (fun i _ => n - (intOf i).toNat)
 case atStart => exact ⟨0, Nat.zero_le _, rfl, 0, rfl⟩
 case round =>
  obtain ⟨k, hk, rfl, q, rfl⟩ := hrel
  by_cases hlt : k < n
  ·obtain ⟨c0, c1⟩ := hc1'.out k hlt
   have heq := hZ'.out k hlt
   have g3 : (k : Int) < (n : Int) := by omega
   generalize Z k = u at *
   obtain ⟨u1, u2⟩ := u
   simp only at c0 c1
   have hne : ¬ x0 = u1 ∨ x0 = u1 ∧ ¬ x1 = u2 := by
    by_cases h1 : x0 = u1
    ·exact .inr ⟨h1, fun h2 => heq (by rw [h1, h2])⟩
    ·exact .inl h1
   clear heq
   rcases hne with hne | ⟨hna, hne⟩
   ·go_wp2_with fail
    go_quiet (fail)
    go_wp2_with fail
    go_roundw
    case rel => exact ⟨k + 1, by omega, by go_num, _, rfl⟩
    case measure => simp [intOf]; omega
   ·subst hna
    go_wp2_with fail
    go_quiet (fail)
    go_wp2_with fail
    go_roundw
    case rel => exact ⟨k + 1, by omega, by go_num, _, rfl⟩
    case measure => simp [intOf]; omega
  ·have g3 : ¬ (k : Int) < (n : Int) := by omega
   go_wp2
   go_ret
   exact ⟨rfl, below_drewN hB1'.out _⟩
set_option maxHeartbeats 1600000 in
theorem index_first (b off n cap : Nat) (Z : Nat → Int × Int) (w : World) (hc : RatAt w b off n Z) (hn : n ≤ 1048576) (h0 : 0 < n) :
  Calls Tryz.prog 160 #[.slice (some ⟨b, off, none⟩) n cap, .agg #[.int .i64 (Z 0).1, .int .i64 (Z 0).2]] w (Ret (.int .i64 0) w) := by
 obtain ⟨c0, c1⟩ := hc 0 h0
 obtain ⟨⟨x0, x1⟩, hx⟩ : ∃ x, Z 0 = x := ⟨_, rfl⟩
 rw [hx] at c0 c1 ⊢
 simp only [Nat.zero_mul, Nat.add_zero] at c0 c1 ⊢
 obtain ⟨w1, hw1⟩ : ∃ W, w.alloc (.cells #[.int .i64 x0, .int .i64 x1] 42) = W := ⟨_, rfl⟩
 have hB1 : Below w.heap.size w w1 := by rw [← hw1]; exact (Below.refl _ _).alloc (Nat.le_refl _) _
 have b0 : w1.cell? ⟨w.heap.size, 0, none⟩ = some (.int .i64 x0) := by rw [← hw1]; simp [go_sem]
 have b1 : w1.cell? ⟨w.heap.size, 1, none⟩ = some (.int .i64 x1) := by rw [← hw1]; simp [go_sem]
 replace c0 := bkeep hB1 c0
 replace c1 := bkeep hB1 c1
 have g3 : (0 : Int) < (n : Int) := by omega
 clear hc hx
 have hw1' := Lib.hid hw1; have hB1' := Lib.hid hB1; clear hw1 hB1
 go_enter Tryz.func160, Tryz.ntmps160
 go_upto_region 1 with fail
 rw [hw1'.out]
 go_wp2_with fail
 go_loopw [8] (fun i wr => i = .int .i64 0 ∧ wr = w1) (fun i _ => n - (intOf i).toNat)
 case atStart => exact ⟨rfl, rfl⟩
 case round =>
  obtain ⟨rfl, rfl⟩ := hrel
  go_wp2_with fail
  go_quiet (fail)
  go_wp2_with fail
  go_ret
  exact ⟨rfl, below_drewN hB1'.out _⟩
set_option maxRecDepth 10000 in
set_option maxHeartbeats 3200000 in
theorem periodIn_any (b off n cap : Nat) (Z : Nat → Int × Int) (w : World) (hc : RatAt w b off (n + 1) Z) (hn : n ≤ 1000) (hn1 : 1 ≤ n) (hcap : n + 1 ≤ cap ∧ cap ≤ maxLen) (hZ : ∀ i j, i < j → j < n → Z i ≠ Z j) (hZn : Z n = Z 0) :
  Calls Tryz.prog 98 #[.slice (some ⟨b, off, none⟩) (n + 1) cap] w (Ret (.tuple #[.int .i64 0, .int .i64 n, .bool true]) w) := by
 have ci := fun (k : Nat) (w' : World) (hB : Below w.heap.size w w') (hk : k < n) => index_none b off k cap Z (Z k) w' ((hc.take (by omega)).below hB) (by omega) (fun i hi => hZ i k hi hk)
 have cz := fun (w' : World) (hB : Below w.heap.size w w') => index_first b off n cap Z w' ((hc.take (by omega)).below hB) (by omega) (by omega)
 obtain ⟨m, hm⟩ : ∃ m, n + 1 = m := ⟨_, rfl⟩
 rw [hm] at hc hcap ⊢
 obtain ⟨hc1, hc2⟩ := hcap
 have ci' := Lib.hid ci; have cz' := Lib.hid cz; have hc' := Lib.hid hc; have hm' := Lib.hid hm; have hZ' := Lib.hid hZ; clear ci cz hc hm hZ
 go_enter Tryz.func98, Tryz.ntmps98
 go_wp2_with fail
 go_loopw [10] (fun i wr => ∃ k : Nat, k ≤ n ∧ i = .int .i64 k ∧ Below w.heap.size w wr) (fun i _ => m - (intOf i).toNat)
 case atStart => exact ⟨0, Nat.zero_le _, rfl, Below.refl _ _⟩
 case round =>
  obtain ⟨k, hk, rfl, hBr⟩ := hrel
  obtain ⟨wL, rfl⟩ : ∃ wo : World, wo = wr := ⟨_, rfl⟩
  have hkm : k < m := by have := hm'.out; omega
  obtain ⟨c0, c1⟩ := hc'.out.below hBr k hkm
  have g3 : (k : Int) < (m : Int) := by omega
  have g4 : (0 : Int) ≤ (k : Int) := by omega
  have g5 : (k : Int) ≤ (cap : Int) := by omega
  have g6 : k ≤ cap := by omega
  obtain ⟨⟨x0, x1⟩, hx⟩ : ∃ x, Z k = x := ⟨_, rfl⟩
  rw [hx] at c0 c1
  simp only at c0 c1
  obtain ⟨w1, hw1⟩ : ∃ W, wL.alloc (.cells #[.int .i64 x0, .int .i64 x1] 42) = W := ⟨_, rfl⟩
  have hB1 : Below wL.heap.size wL w1 := by rw [← hw1]; exact (Below.refl _ _).alloc (Nat.le_refl _) _
  have hb1 := hBr.trans (hB1.mono hBr.size)
  have b0 : w1.cell? ⟨wL.heap.size, 0, none⟩ = some (.int .i64 x0) := by rw [← hw1]; simp [go_sem]
  have b1 : w1.cell? ⟨wL.heap.size, 1, none⟩ = some (.int .i64 x1) := by rw [← hw1]; simp [go_sem]
  have hdA : Below w1.heap.size w1 w1.drew := (Below.refl _ _).drew
  have hbd : Below w.heap.size w w1.drew := hb1.trans (hdA.mono hb1.size)
  have at' : ∀ w', Below w1.heap.size w1 w' → w'.cell? ⟨wL.heap.size, 0, none⟩ = some (.int .i64 x0) ∧ w'.cell? ⟨wL.heap.size, 1, none⟩ = some (.int .i64 x1) := fun w' h => ⟨bkeep h b0, bkeep h b1⟩
  by_cases hlt : k < n
  ·have cc := ci'.out k w1.drew hbd hlt
   rw [hx] at cc
   clear hB1 b0 b1
   have cc' := Lib.hid cc; have hw1' := Lib.hid hw1; have at'' := Lib.hid at'; have hb1' := Lib.hid hb1; have hx' := Lib.hid hx; clear cc hw1 at' hb1 hx
   go_upto_region 4 with fail
   rw [hw1'.out]
   clear c0 c1
   go_wp2_with fail
   refine wp_region_held_drew (S := (fun w' => w'.cell? ⟨wL.heap.size, 0, none⟩ = some (.int .i64 x0) ∧ w'.cell? ⟨wL.heap.size, 1, none⟩ = some (.int .i64 x1))) (by kernel_rfl) (by (try dsimp only); exact at''.out _ ‹_›) (fun hHeld => ?_)
   refine ly_s 0 hHeld ?_
   refine ly_s 1 hHeld ?_
   refine ly_s 2 hHeld ?_
   refine ly_s 3 hHeld ?_
   refine ly_a 4 (fun KK hKK => ?_)
   go_simp
   refine (cc'.out).mono ?_
   rintro e w2 ⟨rfl, hB2⟩
   have hd2 := hdA.trans (hB2.mono hdA.size)
   try dsimp only
   refine hKK.out _ _ (by (try dsimp only); exact at''.out _ ‹_›) (fun hHeld => ?_)
   clear hKK KK
   try simp only [Act.put, lyA, lyB, lyC]
   refine ly_s 5 hHeld ?_
   refine wpAnyH_done (by kernel_rfl) ?_ _
   have hb2 := hb1'.out.trans (hd2.mono hb1'.out.size)
   clear hHeld hd2 hB2 hdA hbd
   have hb2' := Lib.hid hb2; clear hb2
   go_wp2
   go_roundw
   case rel => exact ⟨k + 1, by omega, by go_num, hb2'.out⟩
   case measure => simp [intOf]; omega
  ·obtain rfl : k = n := by omega
   have cc := cz'.out w1.drew hbd
   rw [← hZn, hx] at cc
   clear hB1 b0 b1
   have cc' := Lib.hid cc; have hw1' := Lib.hid hw1; have at'' := Lib.hid at'; have hb1' := Lib.hid hb1; have hx' := Lib.hid hx; clear cc hw1 at' hb1 hx
   go_upto_region 4 with fail
   rw [hw1'.out]
   clear c0 c1
   go_wp2_with fail
   refine wp_region_held_drew (S := (fun w' => w'.cell? ⟨wL.heap.size, 0, none⟩ = some (.int .i64 x0) ∧ w'.cell? ⟨wL.heap.size, 1, none⟩ = some (.int .i64 x1))) (by kernel_rfl) (by (try dsimp only); exact at''.out _ ‹_›) (fun hHeld => ?_)
   refine ly_s 0 hHeld ?_
   refine ly_s 1 hHeld ?_
   refine ly_s 2 hHeld ?_
   refine ly_s 3 hHeld ?_
   refine ly_a 4 (fun KK hKK => ?_)
   go_simp
   refine (cc'.out).mono ?_
   rintro e w2 ⟨rfl, hB2⟩
   have hd2 := hdA.trans (hB2.mono hdA.size)
   try dsimp only
   refine hKK.out _ _ (by (try dsimp only); exact at''.out _ ‹_›) (fun hHeld => ?_)
   clear hKK KK
   try simp only [Act.put, lyA, lyB, lyC]
   refine ly_s 5 hHeld ?_
   refine wpAnyH_done (by kernel_rfl) ?_ _
   have hb2 := hb1'.out.trans (hd2.mono hb1'.out.size)
   clear hHeld hd2 hB2 hdA hbd
   have hb2' := Lib.hid hb2; clear hb2
   go_wp2
   go_ret3
   exact ⟨by simp [go_sem], hb2'.out⟩
set_option maxHeartbeats 800000 in
theorem isStart_any (v : Value) (f : List Quad) (x : Int × Int) (n : Nat) (w : World) (hv : QuadV w v f) (hm : f.length ≤ 1099511627776) (hf : mapB f = true) (hx : unitR x.1 x.2 = true) (hn : n ≤ 60) :
  Calls Tryz.prog 159 #[v, .agg #[.int .i64 x.1, .int .i64 x.2], .int .i64 n] w (Ret (.bool true) w) := by
 have c1 := fun w' (hB : Below w.heap.size w w') => isMap_any v f w' (hv.below hB) hm
 have c2 := fun w' => isUnit_any x.1 x.2 w'
 have c3 := fun w' => within_any (n : Int) 0 60 w'
 have e3 : inB (n : Int) 0 60 = true := inB_true.2 (by omega)
 rw [hf] at c1
 rw [hx] at c2
 rw [e3] at c3
 clear hv hf hx e3
 obtain ⟨x0, x1⟩ := x
 simp only at c2
 show Calls _ _ #[_, .agg #[.int .i64 x0, .int .i64 x1], _] w _
 obtain ⟨w1, hw1⟩ : ∃ W, w.alloc (.cells #[.int .i64 x0, .int .i64 x1] 42) = W := ⟨_, rfl⟩
 have hB1 : Below w.heap.size w w1 := by rw [← hw1]; exact (Below.refl _ _).alloc (Nat.le_refl _) _
 have b0 : w1.cell? ⟨w.heap.size, 0, none⟩ = some (.int .i64 x0) := by rw [← hw1]; simp [go_sem]
 have b1 : w1.cell? ⟨w.heap.size, 1, none⟩ = some (.int .i64 x1) := by rw [← hw1]; simp [go_sem]
 have c1' := Lib.hid c1; have c2' := Lib.hid c2; have c3' := Lib.hid c3; have hw1' := Lib.hid hw1; clear c1 c2 c3 hw1
 go_enter Tryz.func159, Tryz.ntmps159
 go_upto_region 1 with fail
 rw [hw1'.out]
 go_wp2_with fail
 refine (c1'.out _ hB1).mono ?_
 rintro e w2 ⟨rfl, hB2⟩
 have hb2 := hB1.trans (hB2.mono hB1.size)
 replace b0 := bkeep hB2 b0
 replace b1 := bkeep hB2 b1
 clear hB1 hB2
 go_wp2_with fail
 refine (c2'.out _).mono ?_
 rintro e w3 ⟨rfl, hB3⟩
 have hb3 := hb2.trans (hB3.mono hb2.size)
 clear hb2 hB3 b0 b1
 go_wp2_with fail
 refine (c3'.out _).mono ?_
 rintro e w4 ⟨rfl, rfl⟩
 go_wp2
 go_ret
 exact ⟨rfl, hb3⟩
set_option maxHeartbeats 800000 in
theorem OrbitOf_any (v : Value) (f : List Quad) (x : Int × Int) (n : Nat) (w : World) (hv : QuadV w v f) (hm : f.length ≤ 1099511627776) (hf : mapB f = true) (hx : unitR x.1 x.2 = true) (hn : n ≤ 60) (hr : runN f x n = n) :
  Calls Tryz.prog 97 #[v, .agg #[.int .i64 x.1, .int .i64 x.2], .int .i64 n] w (RetOB OwnR (ptL f x n, true) w) := by
 have c1 := fun w' (hB : Below w.heap.size w w') => isStart_any v f x n w' (hv.below hB) hm hf hx hn
 have c2 := fun w' (hB : Below w.heap.size w w') => orbit_any v f x n w' (hv.below hB) (mapB_true hf) hx (by omega)
 have ho : orbL f x n = ptL f x n := by unfold orbL; rw [hr]
 rw [ho] at c2
 have hl := ptL_len f x n
 generalize ptL f x n = L at *
 clear hv hf hx ho hr
 obtain ⟨x0, x1⟩ := x
 simp only at c1 c2
 show Calls _ _ #[_, .agg #[.int .i64 x0, .int .i64 x1], _] w _
 obtain ⟨w1, hw1⟩ : ∃ W, w.alloc (.cells #[.int .i64 x0, .int .i64 x1] 42) = W := ⟨_, rfl⟩
 have hB1 : Below w.heap.size w w1 := by rw [← hw1]; exact (Below.refl _ _).alloc (Nat.le_refl _) _
 have b0 : w1.cell? ⟨w.heap.size, 0, none⟩ = some (.int .i64 x0) := by rw [← hw1]; simp [go_sem]
 have b1 : w1.cell? ⟨w.heap.size, 1, none⟩ = some (.int .i64 x1) := by rw [← hw1]; simp [go_sem]
 have c1' := Lib.hid c1; have c2' := Lib.hid c2; have hw1' := Lib.hid hw1; clear c1 c2 hw1
 go_enter Tryz.func97, Tryz.ntmps97
 go_upto_region 1 with fail
 rw [hw1'.out]
 go_wp2_with fail
 refine (c1'.out _ hB1).mono ?_
 rintro e w2 ⟨rfl, hB2⟩
 have hb2 := hB1.trans (hB2.mono hB1.size)
 replace b0 := bkeep hB2 b0
 replace b1 := bkeep hB2 b1
 clear hB1 hB2
 go_wp2_with fail
 refine (c2'.out _ hb2).mono ?_
 rintro e w3 ⟨v3, rfl, ho3, hB3⟩
 have hb3 := hb2.trans (hB3.mono hb2.size)
 have ho := ho3.mono hb2.size (Nat.le_refl _)
 obtain ⟨_, _, rfl, -⟩ := ho3.read.form
 have hg : ¬ ((L.length : Nat) : Int) ≤ (n : Int) := by omega
 rw [hl] at hg ho ⊢
 clear hB3 ho3 hb2
 have hb3' := Lib.hid hb3; have ho' := Lib.hid ho; clear hb3 ho
 go_wp2
 go_ret2
 exact ⟨_, rfl, ho'.out, hb3'.out⟩
set_option maxHeartbeats 1600000 in
theorem IterateMap_any (v : Value) (f : List Quad) (x : Int × Int) (n : Nat) (w : World) (hv : QuadV w v f) (hm : f.length ≤ 1099511627776) (hf : mapB f = true) (hx : unitR x.1 x.2 = true) (hn : n ≤ 60) (hr : runN f x n = n) :
  Calls Tryz.prog 42 #[v, .agg #[.int .i64 x.1, .int .i64 x.2], .int .i64 n] w (Ret (.tuple #[ratV (pz f x n), .bool true]) w) := by
 have c1 := fun w' (hB : Below w.heap.size w w') => OrbitOf_any v f x n w' (hv.below hB) hm hf hx hn hr
 have hl := ptL_len f x n
 have he : nthR (ptL f x n) n = pz f x n := nthR_ptL (Nat.le_refl _)
 generalize ptL f x n = L at *
 generalize pz f x n = z at *
 clear hv hf hx hr
 obtain ⟨x0, x1⟩ := x
 obtain ⟨z0, z1⟩ := z
 simp only at c1
 show Calls _ _ #[_, .agg #[.int .i64 x0, .int .i64 x1], _] w _
 obtain ⟨w1, hw1⟩ : ∃ W, (w.alloc (.cells #[.int .i64 x0, .int .i64 x1] 42)).alloc (.cells #[.int .i64 0, .int .i64 0] 42) = W := ⟨_, rfl⟩
 have hB1 : Below w.heap.size w w1 := by rw [← hw1]; exact ((Below.refl _ _).alloc (Nat.le_refl _) _).alloc (by simp) _
 have b0 : w1.cell? ⟨w.heap.size, 0, none⟩ = some (.int .i64 x0) := by rw [← hw1]; simp [go_sem]
 have b1 : w1.cell? ⟨w.heap.size, 1, none⟩ = some (.int .i64 x1) := by rw [← hw1]; simp [go_sem]
 have d0 : w1.cell? ⟨w.heap.size + 1, 0, none⟩ = some (.int .i64 0) := by rw [← hw1]; simp [go_sem]
 have d1 : w1.cell? ⟨w.heap.size + 1, 1, none⟩ = some (.int .i64 0) := by rw [← hw1]; simp [go_sem]
 have d2 : w1.frozen? ⟨w.heap.size + 1, 0, none⟩ = false := by rw [← hw1]; simp [go_sem]
 have d3 : w1.frozen? ⟨w.heap.size + 1, 1, none⟩ = false := by rw [← hw1]; simp [go_sem]
 have c1' := Lib.hid c1; have hw1' := Lib.hid hw1; clear c1 hw1
 go_enter Tryz.func42, Tryz.ntmps42
 go_upto_region 1 with fail
 rw [hw1'.out]
 go_wp2_with fail
 refine (c1'.out _ hB1).mono ?_
 rintro e w2 ⟨v2, rfl, ho, hB2⟩
 simp only at ho
 obtain ⟨ao, cap, rfl, -, -, H⟩ := ho.read.form
 obtain ⟨b, off, rfl, y0, y1⟩ := H n (by omega)
 rw [he] at y0 y1
 simp only at y0 y1
 have e0 := bkeep hB2 d0
 have e1 := bkeep hB2 d1
 have e2 := gfrozen' hB2 d0 d2
 have e3 := gfrozen' hB2 d1 d3
 have hb2 := hB1.trans (hB2.mono hB1.size)
 have hbz := (hb2.setCell (p := ⟨w.heap.size + 1, 0, none⟩) (Nat.le_succ _) (.int .i64 z0)).setCell (p := ⟨w.heap.size + 1, 1, none⟩) (Nat.le_succ _) (.int .i64 z1)
 have g3 : (n : Int) < ((L.length : Nat) : Int) := by omega
 have g4 : (0 : Int) ≤ (n : Int) := by omega
 rw [hl] at g3 ⊢
 clear hB1 hB2 b0 b1 d0 d1 d2 d3 H ho hb2
 have hbz' := Lib.hid hbz; clear hbz
 go_wp2
 refine bodyPost_ret (v := .tuple #[ratV (z0, z1), .bool true]) (by simp [results, Tryz.results42, go_sem, e0, e1, ratV]) rfl ⟨rfl, hbz'.out⟩
set_option maxHeartbeats 1600000 in
theorem PeriodOf_any (v : Value) (f : List Quad) (x : Int × Int) (n : Nat) (w : World) (hv : QuadV w v f) (hm : f.length ≤ 1099511627776) (hf : mapB f = true) (hx : unitR x.1 x.2 = true) (hn : n ≤ 60) (hn1 : 1 ≤ n) (hr : runN f x n = n) (hz : pz f x n = x) (hd : ∀ a b, a < b → b < n → pz f x a ≠ pz f x b) :
  Calls Tryz.prog 43 #[v, .agg #[.int .i64 x.1, .int .i64 x.2], .int .i64 n] w (Ret (.tuple #[.int .i64 0, .int .i64 n, .bool true]) w) := by
 have c1 := fun w' (hB : Below w.heap.size w w') => OrbitOf_any v f x n w' (hv.below hB) hm hf hx hn hr
 have hl := ptL_len f x n
 have he : ∀ i, i ≤ n → nthR (ptL f x n) i = pz f x i := fun i hi => nthR_ptL hi
 have hz2 : pz f x n = pz f x 0 := hz
 generalize ptL f x n = L at *
 generalize pz f x = p at *
 clear hv hf hx hr hz
 have c2 := fun (b off cap : Nat) (w' : World) (hR : RatAt w' b off (n + 1) p) (hc : n + 1 ≤ cap ∧ cap ≤ maxLen) => periodIn_any b off n cap p w' hR (by omega) hn1 hc hd hz2
 obtain ⟨x0, x1⟩ := x
 simp only at c1
 show Calls _ _ #[_, .agg #[.int .i64 x0, .int .i64 x1], _] w _
 obtain ⟨w1, hw1⟩ : ∃ W, w.alloc (.cells #[.int .i64 x0, .int .i64 x1] 42) = W := ⟨_, rfl⟩
 have hB1 : Below w.heap.size w w1 := by rw [← hw1]; exact (Below.refl _ _).alloc (Nat.le_refl _) _
 have b0 : w1.cell? ⟨w.heap.size, 0, none⟩ = some (.int .i64 x0) := by rw [← hw1]; simp [go_sem]
 have b1 : w1.cell? ⟨w.heap.size, 1, none⟩ = some (.int .i64 x1) := by rw [← hw1]; simp [go_sem]
 have c1' := Lib.hid c1; have c2' := Lib.hid c2; have hw1' := Lib.hid hw1; have hd' := Lib.hid hd; have hz2' := Lib.hid hz2; clear c1 c2 hw1 hd hz2
 go_enter Tryz.func43, Tryz.ntmps43
 go_upto_region 1 with fail
 rw [hw1'.out]
 go_wp2_with fail
 refine (c1'.out _ hB1).mono ?_
 rintro e w2 ⟨v2, rfl, ho, hB2⟩
 simp only at ho
 obtain ⟨ao, cap, rfl, hcp, hcm, H⟩ := ho.read.form
 obtain ⟨b, off, rfl, -, -⟩ := H n (by omega)
 have hR : RatAt w2 b off (n + 1) p := fun i hi => by
  obtain ⟨_, _, e, y0, y1⟩ := H i (by omega)
  cases e
  rw [he i (by omega)] at y0 y1
  exact ⟨y0, y1⟩
 rw [hl] at hcp ⊢
 have c3 := c2'.out b off cap w2 hR ⟨hcp.1, hcm⟩
 have hb2 := hB1.trans (hB2.mono hB1.size)
 clear hB1 hB2 b0 b1 H ho hR c2' he
 have c3' := Lib.hid c3; clear c3
 go_wp2_with fail
 refine (c3'.out).mono ?_
 rintro e w3 ⟨rfl, hB3⟩
 have hb3 := hb2.trans (hB3.mono hb2.size)
 go_wp2
 go_ret3
 exact ⟨rfl, hb3⟩
end Go.Proofs.YtfhhofecfllbfaaGreat

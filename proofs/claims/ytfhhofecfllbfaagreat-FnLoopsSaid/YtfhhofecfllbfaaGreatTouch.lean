/- Whether two intervals have a fraction in common; HasExactPeriod. No conditions. -/
import Derived.Test.YtfhhofecfllbfaaGreatPkN
namespace Go.Proofs.YtfhhofecfllbfaaGreat
open Go.RowKit
set_option maxRecDepth 100000
def touB (i k : Quad) : Bool := !(ltB i.2.1 i.2.2 k.1.1 k.1.2) && !(ltB k.2.1 k.2.2 i.1.1 i.1.2)
set_option maxHeartbeats 800000 in
theorem touch_any (i k : Quad) (w : World) (h1 : BdR i.1.1 i.1.2) (h2 : BdR i.2.1 i.2.2) (h3 : BdR k.1.1 k.1.2) (h4 : BdR k.2.1 k.2.2) :
  Calls Tryz.prog 93 #[quadV i, quadV k] w (Ret (.bool (touB i k)) w) := by
 have c1 := fun w => less_any i.2.1 i.2.2 k.1.1 k.1.2 w h2 h3
 have c2 := fun w => less_any k.2.1 k.2.2 i.1.1 i.1.2 w h4 h1
 unfold touB
 generalize ltB i.2.1 i.2.2 k.1.1 k.1.2 = U at *
 generalize ltB k.2.1 k.2.2 i.1.1 i.1.2 = L at *
 clear h1 h2 h3 h4
 obtain ⟨⟨x, y⟩, ⟨z, t⟩⟩ := i
 obtain ⟨⟨p, q⟩, ⟨r, s⟩⟩ := k
 show Calls _ _ #[.agg #[.int .i64 x, .int .i64 y, .int .i64 z, .int .i64 t], .agg #[.int .i64 p, .int .i64 q, .int .i64 r, .int .i64 s]] w _
 simp only at c1 c2
 obtain ⟨w0, hw0⟩ : ∃ W, (w.alloc (.cells #[.int .i64 x, .int .i64 y, .int .i64 z, .int .i64 t] 44)).alloc (.cells #[.int .i64 p, .int .i64 q, .int .i64 r, .int .i64 s] 44) = W := ⟨_, rfl⟩
 have hB : Below w.heap.size w w0 := by rw [← hw0]; exact ((Below.refl _ _).alloc (Nat.le_refl _) _).alloc (by simp) _
 have a0 : w0.cell? ⟨w.heap.size, 0, none⟩ = some (.int .i64 x) := by rw [← hw0]; simp [go_sem]
 have a1 : w0.cell? ⟨w.heap.size, 1, none⟩ = some (.int .i64 y) := by rw [← hw0]; simp [go_sem]
 have b2 : w0.cell? ⟨w.heap.size + 1, 2, none⟩ = some (.int .i64 r) := by rw [← hw0]; simp [go_sem]
 have b3 : w0.cell? ⟨w.heap.size + 1, 3, none⟩ = some (.int .i64 s) := by rw [← hw0]; simp [go_sem]
 have c1' := Lib.hid c1; have c2' := Lib.hid c2; have hw0' := Lib.hid hw0; clear c1 c2 hw0
 go_enter Tryz.func93, Tryz.ntmps93
 go_wp2_with fail
 rw [hw0'.out]
 go_wp2_with fail
 refine (c1'.out _).mono ?_
 rintro e w1 ⟨rfl, hB1⟩
 have hb1 := hB.trans (hB1.mono hB.size)
 replace a0 := bkeep hB1 a0
 replace a1 := bkeep hB1 a1
 replace b2 := bkeep hB1 b2
 replace b3 := bkeep hB1 b3
 clear hB1
 have hb1' := Lib.hid hb1; clear hb1
 cases U
 ·go_wp2_with fail
  refine (c2'.out _).mono ?_
  rintro e w2 ⟨rfl, hB2⟩
  have hb2 := hb1'.out.trans (hB2.mono hb1'.out.size)
  clear hB2
  go_wp2
  go_ret
  exact ⟨rfl, hb2⟩
 ·go_wp2
  go_ret
  exact ⟨rfl, hb1'.out⟩
set_option maxHeartbeats 800000 in
theorem chApart_any (i k : Quad) (w : World) (h1 : BdR i.1.1 i.1.2) (h2 : BdR i.2.1 i.2.2) (h3 : BdR k.1.1 k.1.2) (h4 : BdR k.2.1 k.2.2) :
  Calls Tryz.prog 95 #[quadV i, quadV k] w (Ret (.bool (!(touB i k))) w) := by
 have c1 := fun w => raCmp_any i.2.1 i.2.2 k.1.1 k.1.2 w h2 h3
 have c2 := fun w => raCmp_any k.2.1 k.2.2 i.1.1 i.1.2 w h4 h1
 have e : (!(touB i k)) = (decide (cmpN i.2.1 i.2.2 k.1.1 k.1.2 < 0) || decide (cmpN k.2.1 k.2.2 i.1.1 i.1.2 < 0)) := by
  rw [cmpN_lt, cmpN_lt]; unfold touB; rw [Bool.not_and, Bool.not_not, Bool.not_not]
 rw [e]
 clear e
 generalize cmpN i.2.1 i.2.2 k.1.1 k.1.2 = U at *
 generalize cmpN k.2.1 k.2.2 i.1.1 i.1.2 = L at *
 clear h1 h2 h3 h4
 obtain ⟨⟨x, y⟩, ⟨z, t⟩⟩ := i
 obtain ⟨⟨p, q⟩, ⟨r, s⟩⟩ := k
 show Calls _ _ #[.agg #[.int .i64 x, .int .i64 y, .int .i64 z, .int .i64 t], .agg #[.int .i64 p, .int .i64 q, .int .i64 r, .int .i64 s]] w _
 simp only at c1 c2
 obtain ⟨w0, hw0⟩ : ∃ W, (w.alloc (.cells #[.int .i64 x, .int .i64 y, .int .i64 z, .int .i64 t] 44)).alloc (.cells #[.int .i64 p, .int .i64 q, .int .i64 r, .int .i64 s] 44) = W := ⟨_, rfl⟩
 have hB : Below w.heap.size w w0 := by rw [← hw0]; exact ((Below.refl _ _).alloc (Nat.le_refl _) _).alloc (by simp) _
 have a0 : w0.cell? ⟨w.heap.size, 0, none⟩ = some (.int .i64 x) := by rw [← hw0]; simp [go_sem]
 have a1 : w0.cell? ⟨w.heap.size, 1, none⟩ = some (.int .i64 y) := by rw [← hw0]; simp [go_sem]
 have b2 : w0.cell? ⟨w.heap.size + 1, 2, none⟩ = some (.int .i64 r) := by rw [← hw0]; simp [go_sem]
 have b3 : w0.cell? ⟨w.heap.size + 1, 3, none⟩ = some (.int .i64 s) := by rw [← hw0]; simp [go_sem]
 have c1' := Lib.hid c1; have c2' := Lib.hid c2; have hw0' := Lib.hid hw0; clear c1 c2 hw0
 by_cases hU : U < 0
 ·rw [decide_eq_true hU, Bool.true_or]
  go_enter Tryz.func95, Tryz.ntmps95
  go_wp2_with fail
  rw [hw0'.out]
  go_wp2_with fail
  refine (c1'.out _).mono ?_
  rintro e w1 ⟨rfl, hB1⟩
  have hb1 := hB.trans (hB1.mono hB.size)
  clear hB1
  go_wp2
  go_ret
  exact ⟨rfl, hb1⟩
 ·rw [decide_eq_false hU, Bool.false_or]
  go_enter Tryz.func95, Tryz.ntmps95
  go_wp2_with fail
  rw [hw0'.out]
  go_wp2_with fail
  refine (c1'.out _).mono ?_
  rintro e w1 ⟨rfl, hB1⟩
  have hb1 := hB.trans (hB1.mono hB.size)
  replace a0 := bkeep hB1 a0
  replace a1 := bkeep hB1 a1
  replace b2 := bkeep hB1 b2
  replace b3 := bkeep hB1 b3
  clear hB1
  have hb1' := Lib.hid hb1; clear hb1
  go_wp2_with fail
  refine (c2'.out _).mono ?_
  rintro e w2 ⟨rfl, hB2⟩
  have hb2 := hb1'.out.trans (hB2.mono hb1'.out.size)
  clear hB2
  go_wp2
  go_ret
  refine ⟨?_, hb2⟩
  show Ending.returned (.bool (decide (U < 0) || decide (L < 0))) = _
  rw [decide_eq_false (by omega : ¬ U < 0)]; rfl
def apK (l : List Quad) (k : Nat) : Bool := (List.range k).all fun i => !(touB (nth4 l 0) (nth4 l (i + 1)))
theorem apK_step (l : List Quad) (k : Nat) : apK l (k + 1) = (apK l k && !(touB (nth4 l 0) (nth4 l (k + 1)))) := by simp [apK, List.range_succ, List.all_append]
def pe_v (r : Bool × Bool) (l : List Quad) : Bool × Bool := (r.1 && apK l (l.length - 1), r.2)
def HasExactPeriod_v (f l : List Quad) : Bool × Bool := pe_v (IsLoopOf_v f l) l
theorem nth4_tail (l : List Quad) (i : Nat) : nth4 l.tail i = nth4 l (i + 1) := by
 unfold nth4; rw [List.getElem?_tail]
theorem any_tail (l : List Quad) : (l.tail.any fun q => touB (nth4 l 0) q) = !(apK l (l.length - 1)) := by
 rw [Bool.eq_iff_iff, Bool.not_eq_true', List.any_eq_true]
 unfold apK
 rw [List.all_eq_false]
 constructor
 ·rintro ⟨q, hq, h⟩
  obtain ⟨i, hi, rfl⟩ := List.getElem_of_mem hq
  have e : nth4 l (i + 1) = l.tail[i] := by rw [← nth4_tail]; exact nth4_eq hi
  refine ⟨i, List.mem_range.2 (by rw [List.length_tail] at hi; exact hi), ?_⟩
  rw [e, h]; decide
 ·rintro ⟨i, hi, h⟩
  rw [List.mem_range] at hi
  refine ⟨nth4 l.tail i, ?_, ?_⟩
  ·rw [nth4_eq (by rw [List.length_tail]; exact hi)]; exact List.getElem_mem _
  ·rw [nth4_tail]
   simpa using h
theorem QuadV.rest {w : World} {b off cap : Nat} {xs : List Quad} (h : QuadV w (.slice (some ⟨b, off, none⟩) xs.length cap) xs) (h1 : 1 ≤ xs.length) : QuadV w (.slice (some ⟨b, off + 4, none⟩) (xs.length - 1) (cap - 1)) xs.tail := by
 obtain ⟨ao, cap', e, h2, h3, H⟩ := h.form
 obtain ⟨rfl, _, rfl⟩ := Value.slice.inj e
 rw [show xs.length - 1 = xs.tail.length from (List.length_tail ..).symm]
 refine QuadV.mk ⟨by rw [List.length_tail]; omega, fun e => by cases e⟩ (by omega) fun i hi => ?_
 rw [List.length_tail] at hi
 obtain ⟨b', off', e, c0, c1, c2, c3⟩ := H (i + 1) (by omega)
 cases e
 rw [nth4_tail]
 have e : off + (i + 1) * 4 = off + 4 + i * 4 := by omega
 rw [e] at c0 c1 c2 c3
 exact ⟨b, off + 4, rfl, c0, c1, c2, c3⟩
theorem QuadV.rest1 {w : World} {b off n : Nat} {xs : List Quad} (h : xs.length = n) (h1 : n ≤ 1) : QuadV w (.slice (some ⟨b, off, none⟩) (n - 1) 0) xs.tail := by
 have e : n - 1 = xs.tail.length := by rw [List.length_tail, h]
 rw [e]
 exact QuadV.mk ⟨by rw [List.length_tail]; omega, fun e => by cases e⟩ (by simp [maxLen]) (fun i hi => by rw [List.length_tail] at hi; omega)
set_option linter.unusedSimpArgs false in
set_option maxHeartbeats 1600000 in
theorem period1_any (u : Value) (l : List Quad) (bx : Nat) (q : Quad) (w : World) (hu : QuadV w u l) (hl : ivsB l = true) (hbx : w.cell? ⟨bx, 0, none⟩ = some u) (h1 : BdR q.1.1 q.1.2) (h2 : BdR q.2.1 q.2.2) :
  Calls Tryz.prog 92 #[quadV q, .pointer (some ⟨bx, 0, none⟩)] w (Ret (.bool (touB (nth4 l 0) q)) w) := by
 obtain ⟨hl1, hl2⟩ := ivsB_true hl
 have h0 := ivB_true (hl2 0 (by omega))
 have c1 := fun w' => touch_any (nth4 l 0) q w' (unit_bd h0.1) (unit_bd h0.2.1) h1 h2
 obtain ⟨ao, cap, rfl, _, _, H⟩ := hu.form
 obtain ⟨b, off, rfl, p0, p1, p2, p3⟩ := H 0 (by omega)
 generalize touB (nth4 l 0) q = B at *
 generalize nth4 l 0 = P at *
 generalize l.length = n at *
 clear H hu h1 h2 hl hl2 h0
 obtain ⟨⟨a0, a1⟩, ⟨a2, a3⟩⟩ := P
 obtain ⟨⟨x, y⟩, ⟨z, t⟩⟩ := q
 simp only [Nat.zero_mul, Nat.add_zero] at p0 p1 p2 p3 c1
 obtain ⟨w1, hw1⟩ : ∃ W, w.alloc (.cells #[.int .i64 x, .int .i64 y, .int .i64 z, .int .i64 t] 44) = W := ⟨_, rfl⟩
 have hB1 : Below w.heap.size w w1 := by rw [← hw1]; exact (Below.refl _ _).alloc (Nat.le_refl _) _
 have iQ : BoxQ w1 w.heap.size ((x, y), (z, t)) := by rw [← hw1]; refine ⟨?_, ?_, ?_, ?_⟩ <;> simp [go_sem]
 replace p0 := bkeep hB1 p0
 replace p1 := bkeep hB1 p1
 replace p2 := bkeep hB1 p2
 replace p3 := bkeep hB1 p3
 replace hbx := bkeep hB1 hbx
 have hd : Below w1.heap.size w1 w1.drew := (Below.refl _ _).drew
 have at' : ∀ w', Below w1.heap.size w1 w' → w'.cell? ⟨bx, 0, none⟩ = some (.slice (some ⟨b, off, none⟩) n cap) ∧ (w'.cell? ⟨b, off, none⟩ = some (.int .i64 a0) ∧ w'.cell? ⟨b, off + 1, none⟩ = some (.int .i64 a1) ∧ w'.cell? ⟨b, off + 2, none⟩ = some (.int .i64 a2) ∧ w'.cell? ⟨b, off + 3, none⟩ = some (.int .i64 a3)) ∧ w'.cell? ⟨w.heap.size, 0, none⟩ = some (.int .i64 x) ∧ w'.cell? ⟨w.heap.size, 1, none⟩ = some (.int .i64 y) ∧ w'.cell? ⟨w.heap.size, 2, none⟩ = some (.int .i64 z) ∧ w'.cell? ⟨w.heap.size, 3, none⟩ = some (.int .i64 t) :=
  fun w' h => ⟨bkeep h hbx, ⟨bkeep h p0, bkeep h p1, bkeep h p2, bkeep h p3⟩, bkeep h iQ.1, bkeep h iQ.2.1, bkeep h iQ.2.2.1, bkeep h iQ.2.2.2⟩
 have g1 : (0 : Int) < (n : Int) := by omega
 have g2 : 0 < n := by omega
 clear p0 p1 p2 p3 hbx iQ
 have c1' := Lib.hid c1; have hw1' := Lib.hid hw1; have at'' := Lib.hid at'; clear c1 hw1 at'
 show Calls _ _ #[.agg #[.int .i64 x, .int .i64 y, .int .i64 z, .int .i64 t], _] w _
 go_enter Tryz.func92, Tryz.ntmps92
 go_wp2_with fail
 rw [hw1'.out]
 go_wp2_with fail
 refine wp_region_held_drew (S := (fun w' => w'.cell? ⟨bx, 0, none⟩ = some (.slice (some ⟨b, off, none⟩) n cap) ∧ (w'.cell? ⟨b, off, none⟩ = some (.int .i64 a0) ∧ w'.cell? ⟨b, off + 1, none⟩ = some (.int .i64 a1) ∧ w'.cell? ⟨b, off + 2, none⟩ = some (.int .i64 a2) ∧ w'.cell? ⟨b, off + 3, none⟩ = some (.int .i64 a3)) ∧ w'.cell? ⟨w.heap.size, 0, none⟩ = some (.int .i64 x) ∧ w'.cell? ⟨w.heap.size, 1, none⟩ = some (.int .i64 y) ∧ w'.cell? ⟨w.heap.size, 2, none⟩ = some (.int .i64 z) ∧ w'.cell? ⟨w.heap.size, 3, none⟩ = some (.int .i64 t))) (by kernel_rfl) (by (try dsimp only); exact at''.out _ ‹_›) (fun hHeld => ?_)
 refine ly_s 0 hHeld ?_
 refine ly_s 1 hHeld ?_
 refine ly_s 2 hHeld ?_
 refine ly_s 3 hHeld ?_
 refine ly_a 4 (fun KK hKK => ?_)
 go_simp
 refine (c1'.out _).mono ?_
 rintro e w2 ⟨rfl, hB2⟩
 have hd2 := hd.trans (hB2.mono hd.size)
 try dsimp only
 refine hKK.out _ _ (by (try dsimp only); exact at''.out _ ‹_›) (fun hHeld => ?_)
 clear hKK KK
 try simp only [Act.put, lyA, lyB, lyC]
 refine ly_s 5 hHeld ?_
 refine wpAnyH_done (by kernel_rfl) ?_ _
 have hb2 := hB1.trans (hd2.mono hB1.size)
 clear hHeld
 have hb2' := Lib.hid hb2; clear hb2
 go_wp2
 go_ret
 exact ⟨rfl, hb2'.out⟩
set_option linter.unusedSimpArgs false in
set_option maxHeartbeats 1600000 in
theorem implHasExactPeriod_any (v : Value) (f : List Quad) (u : Value) (l : List Quad) (w : World) (hv : QuadV w v f) (hm : szPointS f ≤ 1099511627776) (hu : QuadV w u l) (hn : szIntervalS l ≤ 1099511627776) :
  Calls Tryz.prog 39 #[v, u] w (Ret (.tuple #[.bool (HasExactPeriod_v f l).1, .bool (HasExactPeriod_v f l).2]) w) := by
 have c1 := fun w' (hB : Below w.heap.size w w') => implIsLoopOf_any v f u l w' (hv.below hB) hm (hu.below hB) hn
 unfold HasExactPeriod_v
 have hyes : (IsLoopOf_v f l).2 = true → ivsB l = true := fun h => by
  unfold IsLoopOf_v at h
  by_cases h2 : mapB f = true ∧ ivsB l = true
  ·exact h2.2
  ·rw [ChainFaults_no h2] at h; cases h
 have hfal : (IsLoopOf_v f l).2 = false → (IsLoopOf_v f l).1 = false := fun h => by
  unfold IsLoopOf_v lpB at *
  split at h
  ·cases h
  ·rename_i h2; rw [if_neg h2]
 generalize IsLoopOf_v f l = R at *
 obtain ⟨r1, r2⟩ := R
 simp only at hyes hfal
 obtain ⟨w1, hw1⟩ : ∃ W, w.alloc (.cells #[u] 31) = W := ⟨_, rfl⟩
 have hB1 : Below w.heap.size w w1 := by rw [← hw1]; exact (Below.refl _ _).alloc (Nat.le_refl _) _
 have k0 : w1.cell? ⟨w.heap.size, 0, none⟩ = some u := by rw [← hw1]; simp [go_sem]
 have cc1 := c1 w1 hB1
 clear c1 hv
 cases r2
 ·have hR : pe_v (r1, false) l = (false, false) := by rw [hfal rfl]; rfl
  rw [hR]
  have cc1' := Lib.hid cc1; have hw1' := Lib.hid hw1; have hyes' := Lib.hid hyes; have hfal' := Lib.hid hfal; clear cc1 hw1 hyes hfal
  obtain ⟨ao, cap, rfl, _, _, _⟩ := hu.form
  go_enter Tryz.func39, Tryz.ntmps39
  go_wp2_with fail
  rw [hw1'.out]
  go_wp2_with fail
  refine (cc1'.out).mono ?_
  rintro e w2 ⟨rfl, hB2⟩
  have hb2 := hB1.trans (hB2.mono hB1.size)
  go_wp2
  go_ret2
  exact ⟨rfl, hb2⟩
 ·have hl := hyes rfl
  obtain ⟨hl1, hl2⟩ := ivsB_true hl
  cases r1
  ·have hR : pe_v (false, true) l = (false, true) := rfl
   rw [hR]
   have cc1' := Lib.hid cc1; have hw1' := Lib.hid hw1; have hyes' := Lib.hid hyes; have hfal' := Lib.hid hfal; clear cc1 hw1 hyes hfal
   obtain ⟨ao, cap, rfl, _, _, _⟩ := hu.form
   go_enter Tryz.func39, Tryz.ntmps39
   go_wp2_with fail
   rw [hw1'.out]
   go_wp2_with fail
   refine (cc1'.out).mono ?_
   rintro e w2 ⟨rfl, hB2⟩
   have hb2 := hB1.trans (hB2.mono hB1.size)
   go_wp2
   go_ret2
   exact ⟨rfl, hb2⟩
  ·have hR : pe_v (true, true) l = (apK l (l.length - 1), true) := rfl
   rw [hR]
   have hany := any_tail l
   obtain ⟨ao, cap, rfl, ⟨hnc, _⟩, _, H⟩ := hu.form
   obtain ⟨b, off, rfl, _⟩ := H 0 (by omega)
   have ct := fun sv w' (hB : Below w.heap.size w w') (hbx : w'.cell? ⟨w.heap.size, 0, none⟩ = some (.slice (some ⟨b, off, none⟩) l.length cap)) (hq : QuadV w' sv l.tail) =>
    containsFuncI_any sv l.tail 92 #[.pointer (some ⟨w.heap.size, 0, none⟩)] (fun q => touB (nth4 l 0) q) w' (enters_of Tryz.func92 (by kernel_rfl) rfl)
     (fun i w2 hi hB2 => by
      rw [List.length_tail] at hi
      have h0 := ivB_true (hl2 (i + 1) (by omega))
      rw [nth4_tail]
      exact period1_any _ l w.heap.size (nth4 l (i + 1)) w2 ((hu.below hB).below hB2) hl (bkeep hB2 hbx) (unit_bd h0.1) (unit_bd h0.2.1))
     hq (by rw [List.length_tail]; omega)
   have hq2 := fun w' (hB : Below w.heap.size w w') => (hu.below hB).rest hl1.1
   rw [hany] at ct
   generalize apK l (l.length - 1) = A at *
   obtain ⟨n, hn⟩ : ∃ n, l.length = n := ⟨_, rfl⟩
   rw [hn] at ct cc1 hl1 k0 hw1 hq2 hnc ⊢
   clear hany hl2 hl hu H
   have cc1' := Lib.hid cc1; have hw1' := Lib.hid hw1; have hyes' := Lib.hid hyes; have hfal' := Lib.hid hfal; have ct' := Lib.hid ct; have hn' := Lib.hid hn; have hq2' := Lib.hid hq2; clear cc1 hw1 hyes hfal ct hn hq2
   go_enter Tryz.func39, Tryz.ntmps39
   go_wp2_with fail
   rw [hw1'.out]
   go_wp2_with fail
   refine (cc1'.out).mono ?_
   rintro e w2 ⟨rfl, hB2⟩
   have hb2 := hB1.trans (hB2.mono hB1.size)
   replace k0 := bkeep hB2 k0
   have ct2 := fun sv hq => ct'.out sv w2 hb2 k0 hq
   have hq3 := hq2'.out w2 hb2
   have ct2' := Lib.hid ct2; have hq3' := Lib.hid hq3; clear ct2 hq3
   go_wp2_with fail
   case inl =>
    have hq := QuadV.rest1 (w := w2) (b := b) (off := off) hn'.out (by omega)
    refine (ct2'.out _ hq).mono ?_
    rintro e w3 ⟨rfl, hB3⟩
    have hb3 := hb2.trans (hB3.mono hb2.size)
    clear hq
    have hb3' := Lib.hid hb3; clear hb3
    go_wp2
    go_ret2
    exact ⟨rfl, hb3'.out⟩
   refine (ct2'.out _ hq3'.out).mono ?_
   rintro e w3 ⟨rfl, hB3⟩
   have hb3 := hb2.trans (hB3.mono hb2.size)
   have hb3' := Lib.hid hb3; clear hb3
   go_wp2
   go_ret2
   exact ⟨rfl, hb3'.out⟩
set_option linter.unusedSimpArgs false in
set_option maxRecDepth 10000 in
set_option maxHeartbeats 1600000 in
theorem specHasExactPeriod_any (v : Value) (f : List Quad) (u : Value) (l : List Quad) (w : World) (hv : QuadV w v f) (hm : szPointS f ≤ 1099511627776) (hu : QuadV w u l) (hn : szIntervalS l ≤ 1099511627776) :
  Calls Tryz.prog 40 #[v, u] w (Ret (.tuple #[.bool (HasExactPeriod_v f l).1, .bool (HasExactPeriod_v f l).2]) w) := by
 have c0 := asked_imGood_any v u f l w hv hu hm hn
 unfold HasExactPeriod_v
 by_cases h : mapB f = true ∧ ivsB l = true
 ·have e : IsLoopOf_v f l = lpB (cf_v f l) := by unfold IsLoopOf_v; rw [ChainFaults_yes h]
  rw [e]
  rw [h.1, h.2] at c0
  have c1 := fun w' (hB : Below w.heap.size w w') => chLoop_any v f u l w' (hv.below hB) (hu.below hB) (mapB_true h.1) h.2
  obtain ⟨hl1, hl2⟩ := ivsB_true h.2
  have h0 := ivB_true (hl2 0 (by omega))
  have ct := fun (k : Nat) (w' : World) (hk : k < l.length - 1) => chApart_any (nth4 l 0) (nth4 l (k + 1)) w' (unit_bd h0.1) (unit_bd h0.2.1) (unit_bd (ivB_true (hl2 (k + 1) (by omega))).1) (unit_bd (ivB_true (hl2 (k + 1) (by omega))).2.1)
  have hst := apK_step l
  have h00 : apK l 0 = true := rfl
  generalize lpB (cf_v f l) = R at *
  obtain ⟨r1, r2⟩ := R
  have hR : pe_v (r1, r2) l = (r1 && apK l (l.length - 1), r2) := rfl
  rw [hR]
  generalize apK l = A at *
  obtain ⟨T, hT⟩ : ∃ T : Nat → Bool, ∀ k, touB (nth4 l 0) (nth4 l (k + 1)) = T k := ⟨_, fun _ => rfl⟩
  simp only [hT] at ct hst
  clear hT hR h0 hl2 e h
  have hr := fun w' (hB : Below w.heap.size w w') => (hu.below hB)
  obtain ⟨ao, cap, rfl, ⟨hnc, _⟩, _, H⟩ := hu.form
  obtain ⟨b, off, rfl, z0, z1, z2, z3⟩ := H 0 (by omega)
  have hr2 := fun w' (hB : Below w.heap.size w w') => (QuadV.rest (hu.below hB) hl1.1)
  replace hn : l.length ≤ 1099511627776 := hn
  obtain ⟨m, hm1⟩ : ∃ m, l.length = m + 1 := ⟨l.length - 1, by omega⟩
  have hsub : l.length - 1 = m := by omega
  rw [hsub] at ct hr2 ⊢
  rw [hm1] at hl1 hn c0 c1 hnc ⊢
  have hlt' : l.tail.length = m := by rw [List.length_tail]; exact hsub
  generalize nth4 l 0 = P at *
  obtain ⟨⟨a0, a1⟩, ⟨a2, a3⟩⟩ := P
  simp only [Nat.zero_mul, Nat.add_zero] at z0 z1 z2 z3 ct
  clear hr H hu hv
  have c0' := Lib.hid c0; have c1' := Lib.hid c1; have ct' := Lib.hid ct; have hst' := Lib.hid hst; have h00' := Lib.hid h00; have hr2' := Lib.hid hr2; have hm1' := Lib.hid hm1; have hsub' := Lib.hid hsub; have hlt'' := Lib.hid hlt'; clear c0 c1 ct hst h00 hr2 hm1 hsub hlt'
  go_enter Tryz.func40, Tryz.ntmps40
  go_wp2_with fail
  refine (c0'.out).mono ?_
  rintro e w1 ⟨rfl, hB1⟩
  have hs1 := hB1.size
  go_wp2_with fail
  refine (c1'.out _ hB1).mono ?_
  rintro e w2 ⟨rfl, hB2⟩
  have hb2 := hB1.trans (hB2.mono hs1)
  clear hB1 hB2 c0' c1'
  go_wp2
  case inl =>
   obtain rfl : m = 0 := by omega
   go_loopw [6, 23] (fun o i wr => i = .int .i64 0 ∧ o = .bool (r1 && A 0) ∧ Below w.heap.size w wr) (fun _ _ _ => 0)
   case atStart => exact ⟨rfl, by rw [h00'.out, Bool.and_true], hb2⟩
   case round =>
    obtain ⟨rfl, rfl, hbr⟩ := hrel
    clear hb2
    go_wp2
    go_ret2
    exact ⟨rfl, hbr⟩
  go_loopw [6, 23] (fun o i wr => ∃ k : Nat, k ≤ m ∧ i = .int .i64 k ∧ o = .bool (r1 && A k) ∧ Below w.heap.size w wr) (fun _ i _ => m - (intOf i).toNat)
  case atStart => exact ⟨0, Nat.zero_le _, rfl, by rw [h00'.out, Bool.and_true], hb2⟩
  case round =>
   obtain ⟨k, hk, rfl, rfl, hbr⟩ := hrel
   clear hb2
   by_cases hlt : k < m
   ·obtain ⟨_, _, e, _, _, H⟩ := (hr2'.out wr hbr).form
    obtain ⟨rfl, e1, rfl⟩ := Value.slice.inj e
    clear e1
    obtain ⟨_, _, e, q0, q1, q2, q3⟩ := H k (by rw [hlt''.out]; exact hlt)
    cases e
    rw [nth4_tail] at q0 q1 q2 q3
    have ct1 := fun w' => ct'.out k w' hlt
    have hst1 : (r1 && A (k + 1)) = ((r1 && A k) && !(T k)) := by rw [hst'.out k, Bool.and_assoc]
    replace z0 := bkeep hbr z0
    replace z1 := bkeep hbr z1
    replace z2 := bkeep hbr z2
    replace z3 := bkeep hbr z3
    generalize nth4 l (k + 1) = Q at *
    generalize T k = tb at *
    generalize (r1 && A k) = B at *
    obtain ⟨⟨x, y⟩, ⟨z, t⟩⟩ := Q
    simp only at q0 q1 q2 q3 ct1
    clear H e
    obtain ⟨w4, hw4⟩ : ∃ W, wr.alloc (.cells #[.int .i64 x, .int .i64 y, .int .i64 z, .int .i64 t] 44) = W := ⟨_, rfl⟩
    have hB4 : Below wr.heap.size wr w4 := by rw [← hw4]; exact (Below.refl _ _).alloc (Nat.le_refl _) _
    have iQ : BoxQ w4 wr.heap.size ((x, y), (z, t)) := by rw [← hw4]; refine ⟨?_, ?_, ?_, ?_⟩ <;> simp [go_sem]
    have hd : Below w4.heap.size w4 w4.drew := (Below.refl _ _).drew
    have hb4 := hbr.trans (hB4.mono hbr.size)
    replace z0 := bkeep hB4 z0
    replace z1 := bkeep hB4 z1
    replace z2 := bkeep hB4 z2
    replace z3 := bkeep hB4 z3
    have at' : ∀ w', Below w4.heap.size w4 w' → (w'.cell? ⟨b, off, none⟩ = some (.int .i64 a0) ∧ w'.cell? ⟨b, off + 1, none⟩ = some (.int .i64 a1) ∧ w'.cell? ⟨b, off + 2, none⟩ = some (.int .i64 a2) ∧ w'.cell? ⟨b, off + 3, none⟩ = some (.int .i64 a3)) ∧ w'.cell? ⟨wr.heap.size, 0, none⟩ = some (.int .i64 x) ∧ w'.cell? ⟨wr.heap.size, 1, none⟩ = some (.int .i64 y) ∧ w'.cell? ⟨wr.heap.size, 2, none⟩ = some (.int .i64 z) ∧ w'.cell? ⟨wr.heap.size, 3, none⟩ = some (.int .i64 t) :=
     fun w' h => ⟨⟨bkeep h z0, bkeep h z1, bkeep h z2, bkeep h z3⟩, bkeep h iQ.1, bkeep h iQ.2.1, bkeep h iQ.2.2.1, bkeep h iQ.2.2.2⟩
    have g1 : (0 : Int) ≤ (m : Int) := by omega
    have g2 : (0 : Int) < ((m + 1 : Nat) : Int) := by omega
    have g3 : 0 < m + 1 := by omega
    clear z0 z1 z2 z3 iQ hB4
    have ct1' := Lib.hid ct1; have hst1' := Lib.hid hst1; have at'' := Lib.hid at'; have hw4' := Lib.hid hw4; have hb4' := Lib.hid hb4; clear ct1 hst1 at' hw4 hb4
    cases B
    ·go_wp2_with fail
     rw [hw4'.out]
     clear q0 q1 q2 q3
     go_wp2_with fail
     refine wp_region_held_drew (S := (fun w' => (w'.cell? ⟨b, off, none⟩ = some (.int .i64 a0) ∧ w'.cell? ⟨b, off + 1, none⟩ = some (.int .i64 a1) ∧ w'.cell? ⟨b, off + 2, none⟩ = some (.int .i64 a2) ∧ w'.cell? ⟨b, off + 3, none⟩ = some (.int .i64 a3)) ∧ w'.cell? ⟨wr.heap.size, 0, none⟩ = some (.int .i64 x) ∧ w'.cell? ⟨wr.heap.size, 1, none⟩ = some (.int .i64 y) ∧ w'.cell? ⟨wr.heap.size, 2, none⟩ = some (.int .i64 z) ∧ w'.cell? ⟨wr.heap.size, 3, none⟩ = some (.int .i64 t))) (by kernel_rfl) (by (try dsimp only); (first | exact at''.out _ hd)) (fun hHeld => ?_)
     refine ly_s 0 hHeld ?_
     refine ly_s 1 hHeld ?_
     refine ly_f 2 hHeld ?_
     refine ly_f 3 hHeld ?_
     refine ly_f 4 hHeld ?_
     refine ly_f 5 hHeld ?_
     refine ly_f 6 hHeld ?_
     refine ly_s 7 hHeld ?_
     refine ly_s 8 hHeld ?_
     refine wpAnyH_done (by kernel_rfl) ?_ _
     have hb5 := hb4'.out.drew
     clear hHeld
     have hb5' := Lib.hid hb5; clear hb5
     go_wp2
     go_roundw
     case rel => exact ⟨k + 1, by omega, by go_num, by rw [hst1'.out]; rfl, hb5'.out⟩
     case measure => simp [intOf]; omega
    ·go_wp2_with fail
     rw [hw4'.out]
     clear q0 q1 q2 q3
     go_wp2_with fail
     refine wp_region_held_drew (S := (fun w' => (w'.cell? ⟨b, off, none⟩ = some (.int .i64 a0) ∧ w'.cell? ⟨b, off + 1, none⟩ = some (.int .i64 a1) ∧ w'.cell? ⟨b, off + 2, none⟩ = some (.int .i64 a2) ∧ w'.cell? ⟨b, off + 3, none⟩ = some (.int .i64 a3)) ∧ w'.cell? ⟨wr.heap.size, 0, none⟩ = some (.int .i64 x) ∧ w'.cell? ⟨wr.heap.size, 1, none⟩ = some (.int .i64 y) ∧ w'.cell? ⟨wr.heap.size, 2, none⟩ = some (.int .i64 z) ∧ w'.cell? ⟨wr.heap.size, 3, none⟩ = some (.int .i64 t))) (by kernel_rfl) (by (try dsimp only); exact at''.out _ ‹_›) (fun hHeld => ?_)
     refine ly_s 0 hHeld ?_
     refine ly_s 1 hHeld ?_
     refine ly_s 2 hHeld ?_
     refine ly_s 3 hHeld ?_
     refine ly_s 4 hHeld ?_
     refine ly_s 5 hHeld ?_
     refine ly_a 6 (fun KK hKK => ?_)
     go_simp
     refine (ct1'.out _).mono ?_
     rintro e w5 ⟨rfl, hB5⟩
     have hd2 := hd.trans (hB5.mono hd.size)
     try dsimp only
     refine hKK.out _ _ (by (try dsimp only); exact at''.out _ ‹_›) (fun hHeld => ?_)
     clear hKK KK
     try simp only [Act.put, lyA, lyB, lyC]
     refine ly_s 7 hHeld ?_
     refine ly_s 8 hHeld ?_
     refine wpAnyH_done (by kernel_rfl) ?_ _
     have hb5 := hb4'.out.trans (hd2.mono hb4'.out.size)
     clear hHeld
     have hb5' := Lib.hid hb5; clear hb5
     go_wp2
     go_roundw
     case rel => exact ⟨k + 1, by omega, by go_num, by rw [hst1'.out, Bool.true_and], hb5'.out⟩
     case measure => simp [intOf]; omega
   ·obtain rfl : k = m := by omega
    go_wp2
    go_ret2
    exact ⟨rfl, hbr⟩
 ·have hI : IsLoopOf_v f l = (false, false) := by unfold IsLoopOf_v; rw [ChainFaults_no h]; rfl
  have hR : pe_v (false, false) l = (false, false) := rfl
  rw [hI, hR]
  rw [chain_no h] at c0
  clear hv hu h hR hI
  have c0' := Lib.hid c0; clear c0
  go_enter Tryz.func40, Tryz.ntmps40
  go_wp2_with fail
  refine (c0'.out).mono ?_
  rintro e w1 ⟨rfl, hB1⟩
  go_wp2
  go_ret2
  exact ⟨rfl, hB1⟩
end Go.Proofs.YtfhhofecfllbfaaGreat

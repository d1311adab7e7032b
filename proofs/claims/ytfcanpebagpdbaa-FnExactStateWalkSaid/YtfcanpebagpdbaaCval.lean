/- The value of a map: the program's, by its calculator. No conditions but valid maps. -/
import Derived.Test.YtfcanpebagpdbaaLine
namespace Go.Proofs.Ytfcanpebagpdbaa
open Go.RowKit

/-- A list that came in ahead of the calculator stays. -/
theorem quad_stays {w0 w w' : World} {v : Value} {f : List Quad} {g : Nat} (_hv : QuadV w0 v f) (hb : Below w0.heap.size w0 w) (hg : w0.heap.size ≤ g) (h : w.grownBy w' (some g)) : Below w0.heap.size w0 w' :=
  hb.grown h hb.size (fun j hj => by have := Option.some.inj hj; omega)

set_option linter.unusedSimpArgs false in
set_option maxHeartbeats 4000000 in
theorem cvalue_any (g : Nat) (bd : Bool) (v : Value) (f : List Quad) (x : Int × Int) (w0 w : World) (hv : QuadV w0 v f) (hb0 : Below w0.heap.size w0 w) (hg0 : w0.heap.size ≤ g) (hf : MapP f) (hx : unitR x.1 x.2 = true) (hc : CalcAt w g bd) :
    Calls Try.prog 112 #[.pointer (some ⟨g, 0, none⟩), v, .agg #[.int .i64 x.1, .int .i64 x.2]] w (RetC g (bd || !atOk f x) (ratV (atZ f x)) w) := by
  obtain ⟨pi1, pi2, pi3⟩ := piece_in hf hx
  have hl := hf.len
  have cp := fun w' (h : Below w0.heap.size w0 w') => pieceAt_any v f x w' (hv.below h) hf hx
  have hi := hf.coord (pieceN f x) (by omega)
  have hj := hf.coord (pieceN f x + 1) pi1
  have hr := hf.rise (pieceN f x) pi1
  have cs := fun w' hc => cslope_any g bd (nth4 f (pieceN f x)) (nth4 f (pieceN f x + 1)) w' hi.1 hi.2 hj.1 hj.2 hr hc
  have cl := fun w' hc => cline_any g bd (nth4 f (pieceN f x)) (slopeR (nth4 f (pieceN f x)) (nth4 f (pieceN f x + 1))) x w' (unitR_good (coordR_unit hi.1)) (unitR_good (coordR_unit hi.2)) (slope_ok hi.1 hi.2 hj.1 hj.2 hr).2.1 (unitR_good hx) hc
  change ∀ w' hc, Calls _ _ _ w' (RetC g (bd || !atOk f x) (ratV (atZ f x)) w') at cl
  have hgl := hc.lt
  have hw0 := hb0.size
  obtain ⟨ao, cap, rfl, _, _, H⟩ := hv.form
  obtain ⟨b, off, e, p0, p1, p2, p3⟩ := H (pieceN f x) (by omega)
  cases e
  obtain ⟨_, _, e, q0, q1, q2, q3⟩ := H (pieceN f x + 1) pi1
  cases e
  have lb := World.block_lt_of_cell? _ _ p0
  simp only at lb
  generalize atOk f x = OK at *
  generalize atZ f x = Z at *
  generalize slopeR (nth4 f (pieceN f x)) (nth4 f (pieceN f x + 1)) = S at *
  clear H hi hj hr pi2 pi3
  obtain ⟨i, hi⟩ : ∃ i, pieceN f x = i := ⟨_, rfl⟩
  obtain ⟨j, hj⟩ : ∃ j, i + 1 = j := ⟨_, rfl⟩
  rw [hi] at p0 p1 p2 p3 q0 q1 q2 q3 pi1 cp cs cl
  rw [hj] at q0 q1 q2 q3 pi1 cs
  obtain ⟨n, hn⟩ : ∃ n, f.length = n := ⟨_, rfl⟩
  rw [hn] at pi1 cp hv hl ⊢
  obtain ⟨P, hP⟩ : ∃ P, nth4 f i = P := ⟨_, rfl⟩
  obtain ⟨Q, hQ⟩ : ∃ Q, nth4 f j = Q := ⟨_, rfl⟩
  rw [hP] at p0 p1 p2 p3 cs cl
  rw [hQ] at q0 q1 q2 q3 cs
  obtain ⟨⟨a0, a1⟩, ⟨a2, a3⟩⟩ := P
  obtain ⟨⟨b0, b1⟩, ⟨b2, b3⟩⟩ := Q
  obtain ⟨x0, x1⟩ := x
  obtain ⟨z0, z1⟩ := Z
  obtain ⟨s0, s1⟩ := S
  simp only at p0 p1 p2 p3 q0 q1 q2 q3 cp cs cl
  show Calls _ _ #[_, _, .agg #[.int .i64 x0, .int .i64 x1]] w _
  obtain ⟨w1, hw1⟩ : ∃ W, (w.alloc (.cells #[.int .i64 x0, .int .i64 x1] 34)).alloc (.cells #[.int .i64 0, .int .i64 0] 34) = W := ⟨_, rfl⟩
  have hB : Below w.heap.size w w1 := by rw [← hw1]; exact ((Below.refl _ _).alloc (Nat.le_refl _) _).alloc (by simp) _
  have hz : w.heap.size + 2 = w1.heap.size := by rw [← hw1]; simp
  have u0 : w1.cell? ⟨w.heap.size, 0, none⟩ = some (.int .i64 x0) := by rw [← hw1]; simp [go_sem]
  have u1 : w1.cell? ⟨w.heap.size, 1, none⟩ = some (.int .i64 x1) := by rw [← hw1]; simp [go_sem]
  have y0 : w1.cell? ⟨w.heap.size + 1, 0, none⟩ = some (.int .i64 0) := by rw [← hw1]; simp [go_sem]
  have y1 : w1.cell? ⟨w.heap.size + 1, 1, none⟩ = some (.int .i64 0) := by rw [← hw1]; simp [go_sem]
  have y2 : w1.frozen? ⟨w.heap.size + 1, 0, none⟩ = false := by rw [← hw1]; simp [go_sem]
  have y3 : w1.frozen? ⟨w.heap.size + 1, 1, none⟩ = false := by rw [← hw1]; simp [go_sem]
  have hb1 := hb0.trans (hB.mono hw0)
  replace p0 := bkeep hb1 p0
  replace p1 := bkeep hb1 p1
  replace p2 := bkeep hb1 p2
  replace p3 := bkeep hb1 p3
  replace q0 := bkeep hb1 q0
  replace q1 := bkeep hb1 q1
  replace q2 := bkeep hb1 q2
  replace q3 := bkeep hb1 q3
  have hc1 : CalcAt w1 g bd := hc.below hB
  have hg1 : w.grownBy w1 (some g) := bgrow hB _
  have cp1 := cp w1 hb1
  have hwi : IntKind.i64.wrap ((i : Int) + 1) = (j : Int) := by rw [IntKind.wrap_i64]; omega
  have f1 : (0 : Int) ≤ (j : Int) := by omega
  have f2 : (j : Int) < (n : Int) := by omega
  have f3 : (0 : Int) ≤ (i : Int) := by omega
  have f4 : (i : Int) < (n : Int) := by omega
  have f5 : i < n := by omega
  have hrg : (some g : Option Nat) ≠ some (w.heap.size + 1) := fun e => by have := Option.some.inj e; omega
  have hE : w.heap.size + 1 ≤ w1.heap.size := by omega
  have at' : ∀ w', SameBut g (w.heap.size + 1) w1 w' → ((w'.cell? ⟨b, off + i * 4, none⟩ = some (.int .i64 a0) ∧ w'.cell? ⟨b, off + i * 4 + 1, none⟩ = some (.int .i64 a1) ∧ w'.cell? ⟨b, off + i * 4 + 2, none⟩ = some (.int .i64 a2) ∧ w'.cell? ⟨b, off + i * 4 + 3, none⟩ = some (.int .i64 a3)) ∧ w'.cell? ⟨b, off + j * 4, none⟩ = some (.int .i64 b0) ∧ w'.cell? ⟨b, off + j * 4 + 1, none⟩ = some (.int .i64 b1) ∧ w'.cell? ⟨b, off + j * 4 + 2, none⟩ = some (.int .i64 b2) ∧ w'.cell? ⟨b, off + j * 4 + 3, none⟩ = some (.int .i64 b3)) ∧ w'.cell? ⟨w.heap.size, 0, none⟩ = some (.int .i64 x0) ∧ w'.cell? ⟨w.heap.size, 1, none⟩ = some (.int .i64 x1) :=
    fun w' h => ⟨⟨⟨h.keep p0 (by omega) (by omega), h.keep p1 (by omega) (by omega), h.keep p2 (by omega) (by omega), h.keep p3 (by omega) (by omega)⟩, h.keep q0 (by omega) (by omega), h.keep q1 (by omega) (by omega), h.keep q2 (by omega) (by omega), h.keep q3 (by omega) (by omega)⟩, h.keep u0 (by omega) (by omega), h.keep u1 (by omega) (by omega)⟩
  clear p0 p1 p2 p3 q0 q1 q2 q3 cp hv hc hx hf
  have hj' := Lib.hid hj
  have hn' := Lib.hid hn
  clear hj hn
  have cp1' := Lib.hid cp1
  have cs' := Lib.hid cs
  have cl' := Lib.hid cl
  have hw1' := Lib.hid hw1
  have at'' := Lib.hid at'
  have hz' := Lib.hid hz
  have hi' := Lib.hid hi
  have hP' := Lib.hid hP
  have hQ' := Lib.hid hQ
  clear cp1 cs cl hw1 at' hz hi hP hQ
  go_enter Try.func112, Try.ntmps112
  go_wp2_with fail
  rw [hw1'.out]
  go_wp2_with fail
  refine (cp1'.out).mono ?_
  rintro e w2 ⟨rfl, hB2⟩
  have hkc : w1.grownBy w2 (some g) := bgrow hB2 _
  have hk1 : w1.grownBy w2.drew (some g) := gdrew hkc
  have hcd : CalcAt w2.drew g bd := (hc1.below hB2).drew
  go_wp2_with fail
  refine wp_region_held_drew (S := (fun w' => ((w'.cell? ⟨b, off + i * 4, none⟩ = some (.int .i64 a0) ∧ w'.cell? ⟨b, off + i * 4 + 1, none⟩ = some (.int .i64 a1) ∧ w'.cell? ⟨b, off + i * 4 + 2, none⟩ = some (.int .i64 a2) ∧ w'.cell? ⟨b, off + i * 4 + 3, none⟩ = some (.int .i64 a3)) ∧ w'.cell? ⟨b, off + j * 4, none⟩ = some (.int .i64 b0) ∧ w'.cell? ⟨b, off + j * 4 + 1, none⟩ = some (.int .i64 b1) ∧ w'.cell? ⟨b, off + j * 4 + 2, none⟩ = some (.int .i64 b2) ∧ w'.cell? ⟨b, off + j * 4 + 3, none⟩ = some (.int .i64 b3)) ∧ w'.cell? ⟨w.heap.size, 0, none⟩ = some (.int .i64 x0) ∧ w'.cell? ⟨w.heap.size, 1, none⟩ = some (.int .i64 x1))) (by kernel_rfl) (by (try dsimp only); (first | exact at''.out _ (SameBut.grown hk1 hE) | exact at''.out _ (SameBut.grown hk3 hE) | exact at''.out _ (SameBut.grown hk4 hE) | exact at''.out _ hk5)) (fun hHeld => ?_)
  refine wpAnyH_take (i := 0) (oi := Oper.mk _ _ _ _ _ _) (v := ?_) rfl (by kernel_rfl) (by kernel_rfl) (by kernel_rfl) (fun _ _ _ h => h) (Or.inl ⟨by kernel_rfl, ?_⟩) hHeld ?_
  rotate_left
  · (intro wS hSw; (try dsimp only at hSw); go_simp; all_goals (with_reducible rfl))
  try simp only [Act.put, List.setIfInBounds_toArray, List.set_cons_zero, List.set_cons_succ]
  refine wpAnyH_take (i := 1) (oi := Oper.mk _ _ _ _ _ _) (v := ?_) rfl (by kernel_rfl) (by kernel_rfl) (by kernel_rfl) (fun _ _ _ h => h) (Or.inl ⟨by kernel_rfl, ?_⟩) hHeld ?_
  rotate_left
  · (intro wS hSw; (try dsimp only at hSw); go_simp; all_goals (with_reducible rfl))
  try simp only [Act.put, List.setIfInBounds_toArray, List.set_cons_zero, List.set_cons_succ]
  refine wpAnyH_take (i := 2) (oi := Oper.mk _ _ _ _ _ _) (v := ?_) rfl (by kernel_rfl) (by kernel_rfl) (by kernel_rfl) (fun _ _ _ h => h) (Or.inl ⟨by kernel_rfl, ?_⟩) hHeld ?_
  rotate_left
  · (intro wS hSw; (try dsimp only at hSw); go_simp; all_goals (with_reducible rfl))
  try simp only [Act.put, List.setIfInBounds_toArray, List.set_cons_zero, List.set_cons_succ]
  refine wpAnyH_take (i := 3) (oi := Oper.mk _ _ _ _ _ _) (v := ?_) rfl (by kernel_rfl) (by kernel_rfl) (by kernel_rfl) (fun _ _ _ h => h) (Or.inl ⟨by kernel_rfl, ?_⟩) hHeld ?_
  rotate_left
  · (intro wS hSw; (try dsimp only at hSw); go_simp; all_goals (with_reducible rfl))
  try simp only [Act.put, List.setIfInBounds_toArray, List.set_cons_zero, List.set_cons_succ]
  refine wpAnyH_take (i := 4) (oi := Oper.mk _ _ _ _ _ _) (v := ?_) rfl (by kernel_rfl) (by kernel_rfl) (by kernel_rfl) (fun _ _ _ h => h) (Or.inl ⟨by kernel_rfl, ?_⟩) hHeld ?_
  rotate_left
  · (intro wS hSw; (try dsimp only at hSw); go_simp; all_goals (with_reducible rfl))
  try simp only [Act.put, List.setIfInBounds_toArray, List.set_cons_zero, List.set_cons_succ]
  refine wpAnyH_take (i := 5) (oi := Oper.mk _ _ _ _ _ _) (v := ?_) rfl (by kernel_rfl) (by kernel_rfl) (by kernel_rfl) (fun _ _ _ h => h) (Or.inl ⟨by kernel_rfl, ?_⟩) hHeld ?_
  rotate_left
  · (intro wS hSw; (try dsimp only at hSw); go_simp; all_goals (with_reducible rfl))
  try simp only [Act.put, List.setIfInBounds_toArray, List.set_cons_zero, List.set_cons_succ]
  refine wpAnyH_take (i := 6) (oi := Oper.mk _ _ _ _ _ _) (v := ?_) rfl (by kernel_rfl) (by kernel_rfl) (by kernel_rfl) (fun _ _ _ h => h) (Or.inl ⟨by kernel_rfl, ?_⟩) hHeld ?_
  rotate_left
  · (intro wS hSw; (try dsimp only at hSw); go_simp; all_goals (with_reducible rfl))
  try simp only [Act.put, List.setIfInBounds_toArray, List.set_cons_zero, List.set_cons_succ]
  refine wpAnyH_take (i := 7) (oi := Oper.mk _ _ _ _ _ _) (v := ?_) rfl (by kernel_rfl) (by kernel_rfl) (by kernel_rfl) (fun _ _ _ h => h) (Or.inl ⟨by kernel_rfl, ?_⟩) hHeld ?_
  rotate_left
  · (intro wS hSw; (try dsimp only at hSw); go_simp; all_goals (with_reducible rfl))
  try simp only [Act.put, List.setIfInBounds_toArray, List.set_cons_zero, List.set_cons_succ]
  refine wpAnyH_take (i := 8) (oi := Oper.mk _ _ _ _ _ _) (v := ?_) rfl (by kernel_rfl) (by kernel_rfl) (by kernel_rfl) (fun _ _ _ h => h) (Or.inl ⟨by kernel_rfl, ?_⟩) hHeld ?_
  rotate_left
  · (intro wS hSw; (try dsimp only at hSw); go_simp; all_goals (with_reducible rfl))
  try simp only [Act.put, List.setIfInBounds_toArray, List.set_cons_zero, List.set_cons_succ]
  refine wpAnyH_take (i := 9) (oi := Oper.mk _ _ _ _ _ _) (v := ?_) rfl (by kernel_rfl) (by kernel_rfl) (by kernel_rfl) (fun _ _ _ h => h) (Or.inl ⟨by kernel_rfl, ?_⟩) hHeld ?_
  rotate_left
  · (intro wS hSw; (try dsimp only at hSw); go_simp; all_goals (with_reducible rfl))
  try simp only [Act.put, List.setIfInBounds_toArray, List.set_cons_zero, List.set_cons_succ]
  refine wpAnyH_take (i := 10) (oi := Oper.mk _ _ _ _ _ _) (v := ?_) rfl (by kernel_rfl) (by kernel_rfl) (by kernel_rfl) (fun _ _ _ h => h) (Or.inl ⟨by kernel_rfl, ?_⟩) hHeld ?_
  rotate_left
  · (intro wS hSw; (try dsimp only at hSw); go_simp; all_goals (with_reducible rfl))
  try simp only [Act.put, List.setIfInBounds_toArray, List.set_cons_zero, List.set_cons_succ]
  refine wpAnyH_take (i := 11) (oi := Oper.mk _ _ _ _ _ _) (v := ?_) rfl (by kernel_rfl) (by kernel_rfl) (by kernel_rfl) (fun _ _ _ h => h) (Or.inl ⟨by kernel_rfl, ?_⟩) hHeld ?_
  rotate_left
  · (intro wS hSw; (try dsimp only at hSw); go_simp; all_goals (with_reducible rfl))
  try simp only [Act.put, List.setIfInBounds_toArray, List.set_cons_zero, List.set_cons_succ]
  refine wpAnyH_take (i := 12) (oi := Oper.mk _ _ _ _ _ _) (v := ?_) rfl (by kernel_rfl) (by kernel_rfl) (by kernel_rfl) (fun _ _ _ h => h) (Or.inl ⟨by kernel_rfl, ?_⟩) hHeld ?_
  rotate_left
  · (intro wS hSw; (try dsimp only at hSw); go_simp; all_goals (with_reducible rfl))
  try simp only [Act.put, List.setIfInBounds_toArray, List.set_cons_zero, List.set_cons_succ]
  refine wpAnyH_take (i := 13) (oi := Oper.mk _ _ _ _ _ _) (v := ?_) rfl (by kernel_rfl) (by kernel_rfl) (by kernel_rfl) (fun _ _ _ h => h) (Or.inl ⟨by kernel_rfl, ?_⟩) hHeld ?_
  rotate_left
  · (intro wS hSw; (try dsimp only at hSw); go_simp; all_goals (with_reducible rfl))
  try simp only [Act.put, List.setIfInBounds_toArray, List.set_cons_zero, List.set_cons_succ]
  refine wpAnyH_take (i := 14) (oi := Oper.mk _ _ _ _ _ _) (v := ?_) rfl (by kernel_rfl) (by kernel_rfl) (by kernel_rfl) (fun _ _ _ h => h) (Or.inl ⟨by kernel_rfl, ?_⟩) hHeld ?_
  rotate_left
  · (intro wS hSw; (try dsimp only at hSw); go_simp; all_goals (with_reducible rfl))
  try simp only [Act.put, List.setIfInBounds_toArray, List.set_cons_zero, List.set_cons_succ]
  refine wpAnyH_take (i := 16) (oi := Oper.mk _ _ _ _ _ _) (v := ?_) rfl (by kernel_rfl) (by kernel_rfl) (by kernel_rfl) (fun _ _ _ h => h) (Or.inl ⟨by kernel_rfl, ?_⟩) hHeld ?_
  rotate_left
  · (intro wS hSw; (try dsimp only at hSw); go_simp; all_goals (with_reducible rfl))
  try simp only [Act.put, List.setIfInBounds_toArray, List.set_cons_zero, List.set_cons_succ]
  refine wpAnyH_ready (rs := [15]) (by kernel_rfl) (by simp) ?_
  refine AllReadyH.cons (o := Oper.mk _ _ _ _ _ _) rfl (fun KK hKK => ?_) AllReadyH.nil
  rw [if_pos (by kernel_rfl)]
  go_simp
  refine (cs'.out _ hcd).mono ?_
  rintro e w3 ⟨rfl, hg3, hc3⟩
  have hk3 := hk1.trans hg3
  try dsimp only
  refine hKK.out _ _ (by (try dsimp only); (first | exact at''.out _ (SameBut.grown hk1 hE) | exact at''.out _ (SameBut.grown hk3 hE) | exact at''.out _ (SameBut.grown hk4 hE) | exact at''.out _ hk5)) (fun hHeld => ?_)
  clear hKK KK
  try simp only [Act.put, List.setIfInBounds_toArray, List.set_cons_zero, List.set_cons_succ]
  refine wpAnyH_ready (rs := [17]) (by kernel_rfl) (by simp) ?_
  refine AllReadyH.cons (o := Oper.mk _ _ _ _ _ _) rfl (fun KK hKK => ?_) AllReadyH.nil
  rw [if_pos (by kernel_rfl)]
  go_simp
  refine (cl'.out _ hc3).mono ?_
  rintro e w4 ⟨rfl, hg4, hc4⟩
  have hk4 := hk3.trans hg4
  have r0 := gcell hk4 y0 hrg
  have r1 := gcell hk4 y1 hrg
  have r2 := gfrozen hk4 y0 y2 hrg
  have r3 := gfrozen hk4 y1 y3 hrg
  try dsimp only
  refine hKK.out _ _ (by (try dsimp only); (first | exact at''.out _ (SameBut.grown hk1 hE) | exact at''.out _ (SameBut.grown hk3 hE) | exact at''.out _ (SameBut.grown hk4 hE) | exact at''.out _ hk5)) (fun hHeld => ?_)
  clear hKK KK
  try simp only [Act.put, List.setIfInBounds_toArray, List.set_cons_zero, List.set_cons_succ]
  refine wpAnyH_ready (rs := [18]) (by kernel_rfl) (by simp) ?_
  refine AllReadyH.cons (o := Oper.mk _ _ _ _ _ _) rfl (fun KK hKK => ?_) AllReadyH.nil
  rw [if_pos (by kernel_rfl)]
  go_simp
  have hk5 := ((SameBut.grown hk4 hE).set (b := w.heap.size + 1) (o := 0) (Nat.le_refl _) (.int .i64 z0)).set (b := w.heap.size + 1) (o := 1) (Nat.le_refl _) (.int .i64 z1)
  try dsimp only
  refine hKK.out _ _ (by (try dsimp only); (first | exact at''.out _ (SameBut.grown hk1 hE) | exact at''.out _ (SameBut.grown hk3 hE) | exact at''.out _ (SameBut.grown hk4 hE) | exact at''.out _ hk5)) (fun hHeld => ?_)
  clear hKK KK
  try simp only [Act.put, List.setIfInBounds_toArray, List.set_cons_zero, List.set_cons_succ]
  refine wpAnyH_done (by kernel_rfl) ?_ _
  have hgf := grow_set (grow_set (hg1.trans hk4) (b := w.heap.size + 1) (o := 0) (by omega) (.int .i64 z0)) (b := w.heap.size + 1) (o := 1) (by omega) (.int .i64 z1)
  have hcf := (hc4.set (b := w.heap.size + 1) (o := 0) (by omega) (.int .i64 z0)).set (b := w.heap.size + 1) (o := 1) (by omega) (.int .i64 z1)
  clear hHeld hk5 hk4 hk3 hk1
  go_wp2
  exact bodyPost_ret (v := ratV (z0, z1)) (by simp [results, Try.results112, go_sem, r0, r1, ratV]) rfl ⟨rfl, hgf, hcf⟩

end Go.Proofs.Ytfcanpebagpdbaa

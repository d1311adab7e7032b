/- Lines and pieces: the program's. No conditions but valid maps. -/
import Derived.Test.YtfcanpebagpdbaaSlope
namespace Go.Proofs.Ytfcanpebagpdbaa
open Go.RowKit

set_option linter.unusedSimpArgs false in
set_option maxHeartbeats 4000000 in
theorem cline_any (g : Nat) (bd : Bool) (p : Quad) (s x : Int × Int) (w : World) (h1 : goodR p.1.1 p.1.2 = true) (h2 : goodR p.2.1 p.2.2 = true) (h3 : goodR s.1 s.2 = true) (h4 : goodR x.1 x.2 = true) (hc : CalcAt w g bd) :
    Calls Try.prog 140 #[.pointer (some ⟨g, 0, none⟩), quadV p, .agg #[.int .i64 s.1, .int .i64 s.2], .agg #[.int .i64 x.1, .int .i64 x.2]] w (RetC g (bd || !lineOk p s x) (ratV (lineZ p s x)) w) := by
  have c1 := fun w (hc : CalcAt w g bd) => csub_any g bd x p.1 w h4 h1 hc
  have c2 := fun w hc => cmul_any g (bd || !(subR x p.1).2) s (orZ (subR x p.1)) w h3 (subR_good _ _) hc
  have c3 := fun w hc => cadd_any g (bd || !(subR x p.1).2 || !(mulR s (orZ (subR x p.1))).2) p.2 (orZ (mulR s (orZ (subR x p.1)))) w h2 (mulR_good _ _) hc
  have hfl : (bd || !(subR x p.1).2 || !(mulR s (orZ (subR x p.1))).2 || !(addR p.2 (orZ (mulR s (orZ (subR x p.1))))).2) = (bd || !lineOk p s x) := by
    unfold lineOk
    simp only [Bool.not_and, Bool.or_assoc]
  have hval : orZ (addR p.2 (orZ (mulR s (orZ (subR x p.1))))) = lineZ p s x := rfl
  rw [hfl, hval] at c3
  generalize (bd || !lineOk p s x) = b3 at *
  generalize (bd || !(subR x p.1).2 || !(mulR s (orZ (subR x p.1))).2) = b2 at *
  generalize (bd || !(subR x p.1).2) = b1 at *
  generalize lineZ p s x = L at *
  generalize orZ (mulR s (orZ (subR x p.1))) = M at *
  generalize orZ (subR x p.1) = D at *
  clear hfl hval h1 h2 h3 h4
  obtain ⟨⟨a0, a1⟩, ⟨a2, a3⟩⟩ := p
  obtain ⟨s1, s2⟩ := s
  obtain ⟨x1, x2⟩ := x
  obtain ⟨l1, l2⟩ := L
  obtain ⟨m1, m2⟩ := M
  obtain ⟨d1, d2⟩ := D
  show Calls _ _ #[_, .agg #[.int .i64 a0, .int .i64 a1, .int .i64 a2, .int .i64 a3], .agg #[.int .i64 s1, .int .i64 s2], .agg #[.int .i64 x1, .int .i64 x2]] w _
  simp only at c1 c2 c3
  have hgl := hc.lt
  obtain ⟨w1, hw1⟩ : ∃ W, (((w.alloc (.cells #[.int .i64 a0, .int .i64 a1, .int .i64 a2, .int .i64 a3] 73)).alloc (.cells #[.int .i64 s1, .int .i64 s2] 34)).alloc (.cells #[.int .i64 x1, .int .i64 x2] 34)).alloc (.cells #[.int .i64 0, .int .i64 0] 34) = W := ⟨_, rfl⟩
  have hB : Below w.heap.size w w1 := by rw [← hw1]; exact ((((Below.refl _ _).alloc (Nat.le_refl _) _).alloc (by simp) _).alloc (by simp; omega) _).alloc (by simp; omega) _
  have hz : w.heap.size + 4 = w1.heap.size := by rw [← hw1]; simp
  have u1 : w1.cell? ⟨w.heap.size, 0, none⟩ = some (.int .i64 a0) ∧ w1.cell? ⟨w.heap.size, 1, none⟩ = some (.int .i64 a1) ∧ w1.cell? ⟨w.heap.size, 2, none⟩ = some (.int .i64 a2) ∧ w1.cell? ⟨w.heap.size, 3, none⟩ = some (.int .i64 a3) := by rw [← hw1]; simp [go_sem]
  have u2 : w1.cell? ⟨w.heap.size + 1, 0, none⟩ = some (.int .i64 s1) ∧ w1.cell? ⟨w.heap.size + 1, 1, none⟩ = some (.int .i64 s2) ∧ w1.cell? ⟨w.heap.size + 1 + 1, 0, none⟩ = some (.int .i64 x1) ∧ w1.cell? ⟨w.heap.size + 1 + 1, 1, none⟩ = some (.int .i64 x2) := by rw [← hw1]; simp [go_sem]
  have y0 : w1.cell? ⟨w.heap.size + 1 + 1 + 1, 0, none⟩ = some (.int .i64 0) := by rw [← hw1]; simp [go_sem]
  have y1 : w1.cell? ⟨w.heap.size + 1 + 1 + 1, 1, none⟩ = some (.int .i64 0) := by rw [← hw1]; simp [go_sem]
  have y2 : w1.frozen? ⟨w.heap.size + 1 + 1 + 1, 0, none⟩ = false := by rw [← hw1]; simp [go_sem]
  have y3 : w1.frozen? ⟨w.heap.size + 1 + 1 + 1, 1, none⟩ = false := by rw [← hw1]; simp [go_sem]
  have at' : ∀ w', SameBut g (w.heap.size + 3) w1 w' → (w'.cell? ⟨w.heap.size, 0, none⟩ = some (.int .i64 a0) ∧ w'.cell? ⟨w.heap.size, 1, none⟩ = some (.int .i64 a1) ∧ w'.cell? ⟨w.heap.size, 2, none⟩ = some (.int .i64 a2) ∧ w'.cell? ⟨w.heap.size, 3, none⟩ = some (.int .i64 a3)) ∧ w'.cell? ⟨w.heap.size + 1, 0, none⟩ = some (.int .i64 s1) ∧ w'.cell? ⟨w.heap.size + 1, 1, none⟩ = some (.int .i64 s2) ∧ w'.cell? ⟨w.heap.size + 1 + 1, 0, none⟩ = some (.int .i64 x1) ∧ w'.cell? ⟨w.heap.size + 1 + 1, 1, none⟩ = some (.int .i64 x2) :=
    fun w' h => ⟨⟨h.keep u1.1 (by omega) (by omega), h.keep u1.2.1 (by omega) (by omega), h.keep u1.2.2.1 (by omega) (by omega), h.keep u1.2.2.2 (by omega) (by omega)⟩, h.keep u2.1 (by omega) (by omega), h.keep u2.2.1 (by omega) (by omega), h.keep u2.2.2.1 (by omega) (by omega), h.keep u2.2.2.2 (by omega) (by omega)⟩
  have hk1 : w1.grownBy w1.drew (some g) := gdrew (World.grownBy.refl _ _)
  have hcd : CalcAt w1.drew g bd := (hc.grown ⟨hB.os, hB.tape, hB.output, hB.size, fun k hk _ => hB.block k hk⟩ (r := none) (by simp)).drew
  have hg1 : w.grownBy w1 (some g) := ⟨hB.os, hB.tape, hB.output, hB.size, fun k hk _ => hB.block k hk⟩
  have hrg : (some g : Option Nat) ≠ some (w.heap.size + 1 + 1 + 1) := fun e => by have := Option.some.inj e; omega
  have hE : w.heap.size + 3 ≤ w1.heap.size := by omega
  clear u1 u2 hc
  have c1' := Lib.hid c1
  have c2' := Lib.hid c2
  have c3' := Lib.hid c3
  have hw1' := Lib.hid hw1
  have at'' := Lib.hid at'
  have hz' := Lib.hid hz
  clear c1 c2 c3 hw1 at' hz
  go_enter Try.func140, Try.ntmps140
  go_wp2_with fail
  rw [hw1'.out]
  refine wp_region_held_drew (S := (fun w' => (w'.cell? ⟨w.heap.size, 0, none⟩ = some (.int .i64 a0) ∧ w'.cell? ⟨w.heap.size, 1, none⟩ = some (.int .i64 a1) ∧ w'.cell? ⟨w.heap.size, 2, none⟩ = some (.int .i64 a2) ∧ w'.cell? ⟨w.heap.size, 3, none⟩ = some (.int .i64 a3)) ∧ w'.cell? ⟨w.heap.size + 1, 0, none⟩ = some (.int .i64 s1) ∧ w'.cell? ⟨w.heap.size + 1, 1, none⟩ = some (.int .i64 s2) ∧ w'.cell? ⟨w.heap.size + 1 + 1, 0, none⟩ = some (.int .i64 x1) ∧ w'.cell? ⟨w.heap.size + 1 + 1, 1, none⟩ = some (.int .i64 x2))) (by kernel_rfl) (by (try dsimp only); (first | exact at''.out _ (SameBut.grown hk1 hE) | exact at''.out _ (SameBut.grown hk2 hE) | exact at''.out _ (SameBut.grown hk3 hE) | exact at''.out _ (SameBut.grown hk4 hE) | exact at''.out _ hk5)) (fun hHeld => ?_)
  refine wpAnyH_take (i := 0) (oi := Oper.mk _ _ _ _ _ _) (v := ?_) rfl (by kernel_rfl) (by kernel_rfl) (by kernel_rfl) (fun _ _ _ h => h) (Or.inl ⟨by kernel_rfl, ?_⟩) hHeld ?_
  rotate_left
  · (intro wS hSw; (try dsimp only at hSw); go_simp; all_goals (with_reducible rfl))
  try simp only [Act.put, List.setIfInBounds_toArray, List.set_cons_zero, List.set_cons_succ]
  refine wpAnyH_take (i := 1) (oi := Oper.mk _ _ _ _ _ _) (v := ?_) rfl (by kernel_rfl) (by kernel_rfl) (by kernel_rfl) (fun _ _ _ h => h) (Or.inl ⟨by kernel_rfl, ?_⟩) hHeld ?_
  rotate_left
  · (intro wS hSw; (try dsimp only at hSw); go_simp; all_goals (with_reducible rfl))
  try simp only [Act.put, List.setIfInBounds_toArray, List.set_cons_zero, List.set_cons_succ]
  refine wpAnyH_take (i := 2) (oi := Oper.mk _ _ _ _ _ _) (v := ?_) rfl (by kernel_rfl) (by kernel_rfl) (by kernel_rfl) (fun _ _ _ h => h) (Or.inl ⟨by kernel_rfl, ?_⟩) hHeld ?_
  rotate_left
  · (intro wS hSw; (try dsimp only at hSw); go_simp; all_goals (with_reducible rfl))
  try simp only [Act.put, List.setIfInBounds_toArray, List.set_cons_zero, List.set_cons_succ]
  refine wpAnyH_take (i := 3) (oi := Oper.mk _ _ _ _ _ _) (v := ?_) rfl (by kernel_rfl) (by kernel_rfl) (by kernel_rfl) (fun _ _ _ h => h) (Or.inl ⟨by kernel_rfl, ?_⟩) hHeld ?_
  rotate_left
  · (intro wS hSw; (try dsimp only at hSw); go_simp; all_goals (with_reducible rfl))
  try simp only [Act.put, List.setIfInBounds_toArray, List.set_cons_zero, List.set_cons_succ]
  refine wpAnyH_take (i := 4) (oi := Oper.mk _ _ _ _ _ _) (v := ?_) rfl (by kernel_rfl) (by kernel_rfl) (by kernel_rfl) (fun _ _ _ h => h) (Or.inl ⟨by kernel_rfl, ?_⟩) hHeld ?_
  rotate_left
  · (intro wS hSw; (try dsimp only at hSw); go_simp; all_goals (with_reducible rfl))
  try simp only [Act.put, List.setIfInBounds_toArray, List.set_cons_zero, List.set_cons_succ]
  refine wpAnyH_take (i := 5) (oi := Oper.mk _ _ _ _ _ _) (v := ?_) rfl (by kernel_rfl) (by kernel_rfl) (by kernel_rfl) (fun _ _ _ h => h) (Or.inl ⟨by kernel_rfl, ?_⟩) hHeld ?_
  rotate_left
  · (intro wS hSw; (try dsimp only at hSw); go_simp; all_goals (with_reducible rfl))
  try simp only [Act.put, List.setIfInBounds_toArray, List.set_cons_zero, List.set_cons_succ]
  refine wpAnyH_take (i := 6) (oi := Oper.mk _ _ _ _ _ _) (v := ?_) rfl (by kernel_rfl) (by kernel_rfl) (by kernel_rfl) (fun _ _ _ h => h) (Or.inl ⟨by kernel_rfl, ?_⟩) hHeld ?_
  rotate_left
  · (intro wS hSw; (try dsimp only at hSw); go_simp; all_goals (with_reducible rfl))
  try simp only [Act.put, List.setIfInBounds_toArray, List.set_cons_zero, List.set_cons_succ]
  refine wpAnyH_take (i := 7) (oi := Oper.mk _ _ _ _ _ _) (v := ?_) rfl (by kernel_rfl) (by kernel_rfl) (by kernel_rfl) (fun _ _ _ h => h) (Or.inl ⟨by kernel_rfl, ?_⟩) hHeld ?_
  rotate_left
  · (intro wS hSw; (try dsimp only at hSw); go_simp; all_goals (with_reducible rfl))
  try simp only [Act.put, List.setIfInBounds_toArray, List.set_cons_zero, List.set_cons_succ]
  refine wpAnyH_take (i := 8) (oi := Oper.mk _ _ _ _ _ _) (v := ?_) rfl (by kernel_rfl) (by kernel_rfl) (by kernel_rfl) (fun _ _ _ h => h) (Or.inl ⟨by kernel_rfl, ?_⟩) hHeld ?_
  rotate_left
  · (intro wS hSw; (try dsimp only at hSw); go_simp; all_goals (with_reducible rfl))
  try simp only [Act.put, List.setIfInBounds_toArray, List.set_cons_zero, List.set_cons_succ]
  refine wpAnyH_ready (rs := [9]) (by kernel_rfl) (by simp) ?_
  refine AllReadyH.cons (o := Oper.mk _ _ _ _ _ _) rfl (fun KK hKK => ?_) AllReadyH.nil
  rw [if_pos (by kernel_rfl)]
  go_simp
  refine (c1'.out _ hcd).mono ?_
  rintro e w2 ⟨rfl, hg2, hc2⟩
  have hk2 := hk1.trans hg2
  try dsimp only
  refine hKK.out _ _ (by (try dsimp only); (first | exact at''.out _ (SameBut.grown hk1 hE) | exact at''.out _ (SameBut.grown hk2 hE) | exact at''.out _ (SameBut.grown hk3 hE) | exact at''.out _ (SameBut.grown hk4 hE) | exact at''.out _ hk5)) (fun hHeld => ?_)
  clear hKK KK
  try simp only [Act.put, List.setIfInBounds_toArray, List.set_cons_zero, List.set_cons_succ]
  refine wpAnyH_ready (rs := [10]) (by kernel_rfl) (by simp) ?_
  refine AllReadyH.cons (o := Oper.mk _ _ _ _ _ _) rfl (fun KK hKK => ?_) AllReadyH.nil
  rw [if_pos (by kernel_rfl)]
  go_simp
  refine (c2'.out _ hc2).mono ?_
  rintro e w3 ⟨rfl, hg3, hc3⟩
  have hk3 := hk2.trans hg3
  try dsimp only
  refine hKK.out _ _ (by (try dsimp only); (first | exact at''.out _ (SameBut.grown hk1 hE) | exact at''.out _ (SameBut.grown hk2 hE) | exact at''.out _ (SameBut.grown hk3 hE) | exact at''.out _ (SameBut.grown hk4 hE) | exact at''.out _ hk5)) (fun hHeld => ?_)
  clear hKK KK
  try simp only [Act.put, List.setIfInBounds_toArray, List.set_cons_zero, List.set_cons_succ]
  refine wpAnyH_ready (rs := [11]) (by kernel_rfl) (by simp) ?_
  refine AllReadyH.cons (o := Oper.mk _ _ _ _ _ _) rfl (fun KK hKK => ?_) AllReadyH.nil
  rw [if_pos (by kernel_rfl)]
  go_simp
  refine (c3'.out _ hc3).mono ?_
  rintro e w4 ⟨rfl, hg4, hc4⟩
  have hk4 := hk3.trans hg4
  have q0 := gcell hk4 y0 hrg
  have q1 := gcell hk4 y1 hrg
  have q2 := gfrozen hk4 y0 y2 hrg
  have q3 := gfrozen hk4 y1 y3 hrg
  try dsimp only
  refine hKK.out _ _ (by (try dsimp only); (first | exact at''.out _ (SameBut.grown hk1 hE) | exact at''.out _ (SameBut.grown hk2 hE) | exact at''.out _ (SameBut.grown hk3 hE) | exact at''.out _ (SameBut.grown hk4 hE) | exact at''.out _ hk5)) (fun hHeld => ?_)
  clear hKK KK
  try simp only [Act.put, List.setIfInBounds_toArray, List.set_cons_zero, List.set_cons_succ]
  refine wpAnyH_ready (rs := [12]) (by kernel_rfl) (by simp) ?_
  refine AllReadyH.cons (o := Oper.mk _ _ _ _ _ _) rfl (fun KK hKK => ?_) AllReadyH.nil
  rw [if_pos (by kernel_rfl)]
  go_simp
  have hk5 := ((SameBut.grown hk4 hE).set (b := w.heap.size + 1 + 1 + 1) (o := 0) (Nat.le_refl _) (.int .i64 l1)).set (b := w.heap.size + 1 + 1 + 1) (o := 1) (Nat.le_refl _) (.int .i64 l2)
  try dsimp only
  refine hKK.out _ _ (by (try dsimp only); (first | exact at''.out _ (SameBut.grown hk1 hE) | exact at''.out _ (SameBut.grown hk2 hE) | exact at''.out _ (SameBut.grown hk3 hE) | exact at''.out _ (SameBut.grown hk4 hE) | exact at''.out _ hk5)) (fun hHeld => ?_)
  clear hKK KK
  try simp only [Act.put, List.setIfInBounds_toArray, List.set_cons_zero, List.set_cons_succ]
  refine wpAnyH_done (by kernel_rfl) ?_ _
  have hgf := grow_set (grow_set (hg1.trans hk4) (b := w.heap.size + 1 + 1 + 1) (o := 0) (by omega) (.int .i64 l1)) (b := w.heap.size + 1 + 1 + 1) (o := 1) (by omega) (.int .i64 l2)
  have hcf := (hc4.set (b := w.heap.size + 1 + 1 + 1) (o := 0) (by omega) (.int .i64 l1)).set (b := w.heap.size + 1 + 1 + 1) (o := 1) (by omega) (.int .i64 l2)
  clear hHeld hk5 hk4 hk3 hk2 hk1
  go_wp2
  exact bodyPost_ret (v := ratV (l1, l2)) (by simp [results, Try.results140, go_sem, q0, q1, ratV]) rfl ⟨rfl, hgf, hcf⟩

/-- The program's way to the piece. -/
theorem piece_idx {f : List Quad} (hf : MapP f) {x : Int × Int} (hx : unitR x.1 x.2 = true) : ∃ k : Nat, idx4 (fun q => !(ltB q.1.1 q.1.2 x.1 x.2)) f = k ∧ k ≤ f.length ∧ pieceN f x = k - 1 := by
  obtain ⟨h1, h2, h3⟩ := pieceN_spec hf.len.1 x
  obtain ⟨p1, p2, p3⟩ := piece_in hf hx
  have hg := unitR_good hx
  have hgi := fun i (hi : i < f.length) => unitR_good (coordR_unit (hf.coord i hi).1)
  generalize pieceN f x = i at *
  have hno : ltB (nth4 f (i + 1)).1.1 (nth4 f (i + 1)).1.2 x.1 x.2 = false := (ltB_qvf (hgi _ p1) hg).2 p3
  cases h0 : ltB (nth4 f 0).1.1 (nth4 f 0).1.2 x.1 x.2
  · refine ⟨0, idx4_hit (by omega) (fun j hj => absurd hj (Nat.not_lt_zero j)) (by simp [h0]), Nat.zero_le _, ?_⟩
    apply Decidable.byContradiction
    intro q
    have a1 := (ltB_qv (hgi 1 (by omega)) hg).1 (h2 1 (by omega) (by omega))
    have a2 := (ltB_qv (hgi 0 (by omega)) (hgi 1 (by omega))).1 (hf.rise 0 (by omega))
    have a3 := (ltB_qvf (hgi 0 (by omega)) hg).1 h0
    grind
  · refine ⟨i + 1, idx4_hit p1 (fun j hj => ?_) (by simp [hno]), by omega, by omega⟩
    by_cases e : j = 0
    · subst e; simp [h0]
    · simp [h2 j (by omega) (by omega)]

theorem ret_int {a b : Int} (h : a = b) : Ending.returned (.int .i64 a) = Ending.returned (.int .i64 b) := by rw [h]
set_option maxHeartbeats 400000 in
theorem pieceAt1_any (q : Quad) (x : Int × Int) (b : Nat) (w : World) (hq : goodR q.1.1 q.1.2 = true) (hx : goodR x.1 x.2 = true) (h0 : w.cell? ⟨b, 0, none⟩ = some (.int .i64 x.1)) (h1 : w.cell? ⟨b, 1, none⟩ = some (.int .i64 x.2)) :
    Calls Try.prog 155 #[quadV q, .pointer (some ⟨b, 0, none⟩)] w (Ret (.bool (!(ltB q.1.1 q.1.2 x.1 x.2))) w) := by
  have c1 := fun w => less_any q.1.1 q.1.2 x.1 x.2 w (good_bd hq) (good_bd hx)
  generalize ltB q.1.1 q.1.2 x.1 x.2 = L at *
  obtain ⟨⟨q0, q1⟩, ⟨q2, q3⟩⟩ := q
  obtain ⟨x0, x1⟩ := x
  show Calls _ _ #[.agg #[.int .i64 q0, .int .i64 q1, .int .i64 q2, .int .i64 q3], _] w _
  simp only at c1 h0 h1
  have hB : Below w.heap.size w (w.alloc (.cells #[.int .i64 q0, .int .i64 q1, .int .i64 q2, .int .i64 q3] 73)) := (Below.refl _ _).alloc (Nat.le_refl _) _
  have l0 := World.block_lt_of_cell? _ _ h0
  simp only at l0
  clear hq hx
  have y0 := bkeep hB h0
  have y1 := bkeep hB h1
  have c1' := Lib.hid c1
  clear c1
  go_enter Try.func155, Try.ntmps155
  go_wp2_with fail
  refine (c1'.out _).mono ?_
  rintro e w1 ⟨rfl, hB1⟩
  have hb1 := hB.trans (hB1.mono hB.size)
  go_wp2
  go_ret
  exact ⟨rfl, hb1⟩
theorem pieceAt_any (v : Value) (f : List Quad) (x : Int × Int) (w : World) (hv : QuadV w v f) (hf : MapP f) (hx : unitR x.1 x.2 = true) :
    Calls Try.prog 139 #[v, .agg #[.int .i64 x.1, .int .i64 x.2]] w (Ret (.int .i64 (pieceN f x : Nat)) w) := by
  have hl := hf.len
  obtain ⟨k, hk, hk2, hk3⟩ := piece_idx hf hx
  obtain ⟨w0, hw0⟩ : ∃ W, w.alloc (.cells #[.int .i64 x.1, .int .i64 x.2] 34) = W := ⟨_, rfl⟩
  have hB : Below w.heap.size w w0 := by rw [← hw0]; exact (Below.refl _ _).alloc (Nat.le_refl _) _
  have y0 : w0.cell? ⟨w.heap.size, 0, none⟩ = some (.int .i64 x.1) := by rw [← hw0]; simp [go_sem]
  have y1 : w0.cell? ⟨w.heap.size, 1, none⟩ = some (.int .i64 x.2) := by rw [← hw0]; simp [go_sem]
  have ci := indexFuncP_any v f 155 #[.pointer (some ⟨w.heap.size, 0, none⟩)] (fun q => !(ltB q.1.1 q.1.2 x.1 x.2)) w0 (enters_of Try.func155 (by kernel_rfl) rfl) (fun i w' hi hB' => pieceAt1_any (nth4 f i) x w.heap.size w' (unitR_good (coordR_unit (hf.coord i hi).1)) (unitR_good hx) (bkeep hB' y0) (bkeep hB' y1)) (hv.below hB) (by omega)
  rw [hk] at ci
  rw [hk3]
  clear hk hk3 hv hf hx y0 y1
  obtain ⟨x0, x1⟩ := x
  show Calls _ _ #[v, .agg #[.int .i64 x0, .int .i64 x1]] w _
  simp only at hw0
  have ci' := Lib.hid ci
  have hw0' := Lib.hid hw0
  clear ci hw0
  go_enter Try.func139, Try.ntmps139
  go_wp2_with fail
  rw [hw0'.out]
  refine ci'.out.mono ?_
  rintro e w1 ⟨rfl, hB1⟩
  have hb1 := hB.trans (hB1.mono hB.size)
  go_wp2
  all_goals
    go_ret
    exact ⟨ret_int (by omega), hb1⟩

end Go.Proofs.Ytfcanpebagpdbaa

/- The line through two points: the reference's. No conditions but valid points. -/
import Derived.Test.YtfcanpebagpdbaaImAt
namespace Go.Proofs.Ytfcanpebagpdbaa
open Go.RowKit

theorem new_cells {E : Nat} {w W : World} {u v : Value} {T : TypeId} (_h : Below E w (W.alloc (.cells #[u, v] T))) : (W.alloc (.cells #[u, v] T)).cell? ⟨W.heap.size, 0, none⟩ = some u ∧ (W.alloc (.cells #[u, v] T)).cell? ⟨W.heap.size, 1, none⟩ = some v ∧ (W.alloc (.cells #[u, v] T)).frozen? ⟨W.heap.size, 0, none⟩ = false ∧ (W.alloc (.cells #[u, v] T)).frozen? ⟨W.heap.size, 1, none⟩ = false := by simp [go_sem]

set_option linter.unusedSimpArgs false in
set_option linter.unusedVariables false in
set_option maxHeartbeats 4000000 in
theorem imOn_coreA (a0 a1 a2 a3 b0 b1 b2 b3 x0 x1 f0 f1 s0 s1 m0 m1 r0 r1 : Int) (r2 : Bool) (w : World)
    (c1 : ∀ w, Calls Try.prog 133 #[.agg #[.int .i64 x0, .int .i64 x1], .agg #[.int .i64 a0, .int .i64 a1]] w (Ret (.tuple #[ratV (f0, f1), .bool false]) w))
    (c2 : ∀ w, Calls Try.prog 135 #[.agg #[.int .i64 a0, .int .i64 a1, .int .i64 a2, .int .i64 a3], .agg #[.int .i64 b0, .int .i64 b1, .int .i64 b2, .int .i64 b3]] w (Ret (ratV (s0, s1)) w))
    (c3 : ∀ w, Calls Try.prog 134 #[.agg #[.int .i64 f0, .int .i64 f1], .agg #[.int .i64 s0, .int .i64 s1]] w (Ret (.tuple #[ratV (m0, m1), .bool false]) w))
    (c4 : false = true → ∀ w, Calls Try.prog 136 #[.agg #[.int .i64 a2, .int .i64 a3], .agg #[.int .i64 m0, .int .i64 m1]] w (Ret (.tuple #[ratV (r0, r1), .bool r2]) w))
    (hr : false = false → r0 = 0 ∧ r1 = 0 ∧ r2 = false) :
    Calls Try.prog 104 #[.agg #[.int .i64 a0, .int .i64 a1, .int .i64 a2, .int .i64 a3], .agg #[.int .i64 b0, .int .i64 b1, .int .i64 b2, .int .i64 b3], .agg #[.int .i64 x0, .int .i64 x1]] w (Ret (.tuple #[ratV (r0, r1), .bool r2]) w) := by
  obtain ⟨w1, hw1⟩ : ∃ W, (((w.alloc (.cells #[.int .i64 a0, .int .i64 a1, .int .i64 a2, .int .i64 a3] 73)).alloc (.cells #[.int .i64 b0, .int .i64 b1, .int .i64 b2, .int .i64 b3] 73)).alloc (.cells #[.int .i64 x0, .int .i64 x1] 34)).alloc (.cells #[.int .i64 0, .int .i64 0] 34) = W := ⟨_, rfl⟩
  have hB : Below w.heap.size w w1 := by rw [← hw1]; exact ((((Below.refl _ _).alloc (Nat.le_refl _) _).alloc (by simp) _).alloc (by simp; omega) _).alloc (by simp; omega) _
  have u1 : w1.cell? ⟨w.heap.size, 0, none⟩ = some (.int .i64 a0) ∧ w1.cell? ⟨w.heap.size, 1, none⟩ = some (.int .i64 a1) ∧ w1.cell? ⟨w.heap.size, 2, none⟩ = some (.int .i64 a2) ∧ w1.cell? ⟨w.heap.size, 3, none⟩ = some (.int .i64 a3) := by rw [← hw1]; simp [go_sem]
  have u2 : w1.cell? ⟨w.heap.size + 1, 0, none⟩ = some (.int .i64 b0) ∧ w1.cell? ⟨w.heap.size + 1, 1, none⟩ = some (.int .i64 b1) ∧ w1.cell? ⟨w.heap.size + 1, 2, none⟩ = some (.int .i64 b2) ∧ w1.cell? ⟨w.heap.size + 1, 3, none⟩ = some (.int .i64 b3) := by rw [← hw1]; simp [go_sem]
  have t0 : w1.cell? ⟨w.heap.size + 1 + 1, 0, none⟩ = some (.int .i64 x0) := by rw [← hw1]; simp [go_sem]
  have t1 : w1.cell? ⟨w.heap.size + 1 + 1, 1, none⟩ = some (.int .i64 x1) := by rw [← hw1]; simp [go_sem]
  have y0 : w1.cell? ⟨w.heap.size + 1 + 1 + 1, 0, none⟩ = some (.int .i64 0) := by rw [← hw1]; simp [go_sem]
  have y1 : w1.cell? ⟨w.heap.size + 1 + 1 + 1, 1, none⟩ = some (.int .i64 0) := by rw [← hw1]; simp [go_sem]
  have y2 : w1.frozen? ⟨w.heap.size + 1 + 1 + 1, 0, none⟩ = false := by rw [← hw1]; simp [go_sem]
  have y3 : w1.frozen? ⟨w.heap.size + 1 + 1 + 1, 1, none⟩ = false := by rw [← hw1]; simp [go_sem]
  have e0 := u1.1
  have e1 := u1.2.1
  have c1' := Lib.hid c1
  have c2' := Lib.hid c2
  have c3' := Lib.hid c3
  have c4' := Lib.hid c4
  have hw1' := Lib.hid hw1
  have u1' := Lib.hid u1
  have u2' := Lib.hid u2
  have hr' := Lib.hid hr
  clear c1 c2 c3 c4 hw1 u1 u2 hr
  go_enter Try.func104, Try.ntmps104
  go_wp2_with fail
  rw [hw1'.out]
  go_wp2_with fail
  refine (c1'.out _).mono ?_
  rintro e w2 ⟨rfl, hB2⟩
  obtain ⟨v2, hv2⟩ : ∃ W, w2.alloc (.cells #[.int .i64 f0, .int .i64 f1] 34) = W := ⟨_, rfl⟩
  have hk2 : Below w1.heap.size w1 v2 := by rw [← hv2]; exact hB2.alloc hB2.size _
  have g0 : v2.cell? ⟨w2.heap.size, 0, none⟩ = some (.int .i64 f0) := by rw [← hv2]; simp [go_sem]
  have g1 : v2.cell? ⟨w2.heap.size, 1, none⟩ = some (.int .i64 f1) := by rw [← hv2]; simp [go_sem]
  have at' : ∀ w', Below v2.heap.size v2 w' → ((w'.cell? ⟨w.heap.size, 0, none⟩ = some (.int .i64 a0) ∧ w'.cell? ⟨w.heap.size, 1, none⟩ = some (.int .i64 a1) ∧ w'.cell? ⟨w.heap.size, 2, none⟩ = some (.int .i64 a2) ∧ w'.cell? ⟨w.heap.size, 3, none⟩ = some (.int .i64 a3)) ∧ w'.cell? ⟨w.heap.size + 1, 0, none⟩ = some (.int .i64 b0) ∧ w'.cell? ⟨w.heap.size + 1, 1, none⟩ = some (.int .i64 b1) ∧ w'.cell? ⟨w.heap.size + 1, 2, none⟩ = some (.int .i64 b2) ∧ w'.cell? ⟨w.heap.size + 1, 3, none⟩ = some (.int .i64 b3)) ∧ w'.cell? ⟨w2.heap.size, 0, none⟩ = some (.int .i64 f0) ∧ w'.cell? ⟨w2.heap.size, 1, none⟩ = some (.int .i64 f1) :=
    fun w' h => by
      have hk := hk2.trans (h.mono hk2.size)
      exact ⟨⟨⟨bkeep hk u1'.out.1, bkeep hk u1'.out.2.1, bkeep hk u1'.out.2.2.1, bkeep hk u1'.out.2.2.2⟩, bkeep hk u2'.out.1, bkeep hk u2'.out.2.1, bkeep hk u2'.out.2.2.1, bkeep hk u2'.out.2.2.2⟩, bkeep h g0, bkeep h g1⟩
  have hd := (Below.refl v2.heap.size v2).drew
  clear e0 e1 t0 t1 g0 g1 hB2
  have hv2' := Lib.hid hv2
  have at'' := Lib.hid at'
  clear hv2 at'
  go_wp2_with fail
  rw [hv2'.out]
  refine wp_region_held_drew (S := (fun w' => Below v2.heap.size v2 w' ∧ ((w'.cell? ⟨w.heap.size, 0, none⟩ = some (.int .i64 a0) ∧ w'.cell? ⟨w.heap.size, 1, none⟩ = some (.int .i64 a1) ∧ w'.cell? ⟨w.heap.size, 2, none⟩ = some (.int .i64 a2) ∧ w'.cell? ⟨w.heap.size, 3, none⟩ = some (.int .i64 a3)) ∧ w'.cell? ⟨w.heap.size + 1, 0, none⟩ = some (.int .i64 b0) ∧ w'.cell? ⟨w.heap.size + 1, 1, none⟩ = some (.int .i64 b1) ∧ w'.cell? ⟨w.heap.size + 1, 2, none⟩ = some (.int .i64 b2) ∧ w'.cell? ⟨w.heap.size + 1, 3, none⟩ = some (.int .i64 b3)) ∧ w'.cell? ⟨w2.heap.size, 0, none⟩ = some (.int .i64 f0) ∧ w'.cell? ⟨w2.heap.size, 1, none⟩ = some (.int .i64 f1))) (by kernel_rfl) (by (try dsimp only); (first | exact ⟨hd, at''.out _ hd⟩ | exact ⟨hdp.alloc hdp.size _, at''.out _ (hdp.alloc hdp.size _)⟩ | exact ⟨(hd.setCell (p := ⟨_, 0, none⟩) hlow _).setCell (p := ⟨_, 1, none⟩) hlow _, at''.out _ ((hd.setCell (p := ⟨_, 0, none⟩) hlow _).setCell (p := ⟨_, 1, none⟩) hlow _)⟩)) (fun hHeld => ?_)
  refine wpAnyH_take (i := 0) (oi := Oper.mk _ _ _ _ _ _) (v := ?_) rfl (by kernel_rfl) (by kernel_rfl) (by kernel_rfl) (fun _ _ _ h => h) (Or.inl ⟨by kernel_rfl, ?_⟩) hHeld ?_
  rotate_left
  · (intro wS hSw; (try dsimp only at hSw); go_simp; all_goals (with_reducible rfl))
  try simp only [Act.put, List.setIfInBounds_toArray, List.set_cons_zero, List.set_cons_succ]
  refine wpAnyH_take (i := 1) (oi := Oper.mk _ _ _ _ _ _) (v := ?_) rfl (by kernel_rfl) (by kernel_rfl) (by kernel_rfl) (fun _ _ _ h => h) (Or.inl ⟨by kernel_rfl, ?_⟩) hHeld ?_
  rotate_left
  · (intro wS hSw; (try dsimp only at hSw); go_simp; all_goals (with_reducible rfl))
  try simp only [Act.put, List.setIfInBounds_toArray, List.set_cons_zero, List.set_cons_succ]
  refine wpAnyH_take (i := 2) (oi := Oper.mk _ _ _ _ _ _) (v := ?_) rfl (by kernel_rfl) (by kernel_rfl) (by kernel_rfl) (fun _ _ _ h => h) (Or.inl ⟨by kernel_rfl, ?_⟩) hHeld ?_
  rotate_left
  · (intro wS hSw; (try dsimp only at hSw); go_simp; all_goals (with_reducible rfl))
  try simp only [Act.put, List.setIfInBounds_toArray, List.set_cons_zero, List.set_cons_succ]
  refine wpAnyH_ready (rs := [3, 8]) (by kernel_rfl) (by simp) ?_
  refine AllReadyH.cons (o := Oper.mk _ _ _ _ _ _) rfl (fun KK hKK => ?_) (AllReadyH.cons (o := Oper.mk _ _ _ _ _ _) rfl (fun KK hKK => ?_) (AllReadyH.nil))
  · rw [if_pos (by kernel_rfl)]
    go_simp
    refine (c2'.out _).mono ?_
    rintro e w3 ⟨rfl, hB3⟩
    replace hd := hd.trans (hB3.mono hd.size)
    (try replace n2 := gfrozen (bgrow hB3 none) n0 n2 (by simp))
    (try replace n3 := gfrozen (bgrow hB3 none) n1 n3 (by simp))
    (try replace n0 := bkeep hB3 n0)
    (try replace n1 := bkeep hB3 n1)
    try dsimp only
    refine hKK.out _ _ (by (try dsimp only); (first | exact ⟨hd, at''.out _ hd⟩ | exact ⟨hdp.alloc hdp.size _, at''.out _ (hdp.alloc hdp.size _)⟩ | exact ⟨(hd.setCell (p := ⟨_, 0, none⟩) hlow _).setCell (p := ⟨_, 1, none⟩) hlow _, at''.out _ ((hd.setCell (p := ⟨_, 0, none⟩) hlow _).setCell (p := ⟨_, 1, none⟩) hlow _)⟩)) (fun hHeld => ?_)
    clear hKK KK
    try simp only [Act.put, List.setIfInBounds_toArray, List.set_cons_zero, List.set_cons_succ]
    refine wpAnyH_ready (rs := [4, 8]) (by kernel_rfl) (by simp) ?_
    refine AllReadyH.cons (o := Oper.mk _ _ _ _ _ _) rfl (fun KK hKK => ?_) (AllReadyH.cons (o := Oper.mk _ _ _ _ _ _) rfl (fun KK hKK => ?_) (AllReadyH.nil))
    · rw [if_pos (by kernel_rfl)]
      go_simp
      refine (c3'.out _).mono ?_
      rintro e w4 ⟨rfl, hB4⟩
      replace hd := hd.trans (hB4.mono hd.size)
      (try replace n2 := gfrozen (bgrow hB4 none) n0 n2 (by simp))
      (try replace n3 := gfrozen (bgrow hB4 none) n1 n3 (by simp))
      (try replace n0 := bkeep hB4 n0)
      (try replace n1 := bkeep hB4 n1)
      try dsimp only
      refine hKK.out _ _ (by (try dsimp only); (first | exact ⟨hd, at''.out _ hd⟩ | exact ⟨hdp.alloc hdp.size _, at''.out _ (hdp.alloc hdp.size _)⟩ | exact ⟨(hd.setCell (p := ⟨_, 0, none⟩) hlow _).setCell (p := ⟨_, 1, none⟩) hlow _, at''.out _ ((hd.setCell (p := ⟨_, 0, none⟩) hlow _).setCell (p := ⟨_, 1, none⟩) hlow _)⟩)) (fun hHeld => ?_)
      clear hKK KK
      try simp only [Act.put, List.setIfInBounds_toArray, List.set_cons_zero, List.set_cons_succ]
      refine wpAnyH_take (i := 5) (oi := Oper.mk _ _ _ _ _ _) (v := ?_) rfl (by kernel_rfl) (by kernel_rfl) (by kernel_rfl) (fun _ _ _ h => h) (Or.inl ⟨by kernel_rfl, ?_⟩) hHeld ?_
      rotate_left
      · (intro wS hSw; (try dsimp only at hSw); go_simp; all_goals (with_reducible rfl))
      try simp only [Act.put, List.setIfInBounds_toArray, List.set_cons_zero, List.set_cons_succ]
      refine wpAnyH_take (i := 6) (oi := Oper.mk _ _ _ _ _ _) (v := ?_) rfl (by kernel_rfl) (by kernel_rfl) (by kernel_rfl) (fun _ _ _ h => h) (Or.inl ⟨by kernel_rfl, ?_⟩) hHeld ?_
      rotate_left
      · (intro wS hSw; (try dsimp only at hSw); go_simp; all_goals (with_reducible rfl))
      try simp only [Act.put, List.setIfInBounds_toArray, List.set_cons_zero, List.set_cons_succ]
      refine wpAnyH_take (i := 7) (oi := Oper.mk _ _ _ _ _ _) (v := ?_) rfl (by kernel_rfl) (by kernel_rfl) (by kernel_rfl) (fun _ _ _ h => h) (Or.inl ⟨by kernel_rfl, ?_⟩) hHeld ?_
      rotate_left
      · (intro wS hSw; (try dsimp only at hSw); go_simp; all_goals (with_reducible rfl))
      try simp only [Act.put, List.setIfInBounds_toArray, List.set_cons_zero, List.set_cons_succ]
      refine wpAnyH_ready (rs := [8]) (by kernel_rfl) (by simp) ?_
      refine AllReadyH.cons (o := Oper.mk _ _ _ _ _ _) rfl (fun KK hKK => ?_) AllReadyH.nil
      rw [if_pos (by kernel_rfl)]
      go_simp
      have hdp := hd
      have hlow := hd.size
      replace hd := hd.alloc hd.size (.cells #[.int .i64 0, .int .i64 0] 34)
      obtain ⟨n0, n1, n2, n3⟩ := new_cells hd
      (try change World.cell? _ ⟨v2.heap.size, 0, none⟩ = _ at n0)
      (try change World.cell? _ ⟨v2.heap.size, 1, none⟩ = _ at n1)
      (try change World.frozen? _ ⟨v2.heap.size, 0, none⟩ = _ at n2)
      (try change World.frozen? _ ⟨v2.heap.size, 1, none⟩ = _ at n3)
      try dsimp only
      refine hKK.out _ _ (by (try dsimp only); (first | exact ⟨hd, at''.out _ hd⟩ | exact ⟨hdp.alloc hdp.size _, at''.out _ (hdp.alloc hdp.size _)⟩ | exact ⟨(hd.setCell (p := ⟨_, 0, none⟩) hlow _).setCell (p := ⟨_, 1, none⟩) hlow _, at''.out _ ((hd.setCell (p := ⟨_, 0, none⟩) hlow _).setCell (p := ⟨_, 1, none⟩) hlow _)⟩)) (fun hHeld => ?_)
      clear hKK KK
      try simp only [Act.put, List.setIfInBounds_toArray, List.set_cons_zero, List.set_cons_succ]
      refine wpAnyH_ready (rs := [9]) (by kernel_rfl) (by simp) ?_
      refine AllReadyH.cons (o := Oper.mk _ _ _ _ _ _) rfl (fun KK hKK => ?_) AllReadyH.nil
      rw [if_pos (by kernel_rfl)]
      go_simp
      skip
      try dsimp only
      refine hKK.out _ _ (by (try dsimp only); (first | exact ⟨hd, at''.out _ hd⟩ | exact ⟨hdp.alloc hdp.size _, at''.out _ (hdp.alloc hdp.size _)⟩ | exact ⟨(hd.setCell (p := ⟨_, 0, none⟩) hlow _).setCell (p := ⟨_, 1, none⟩) hlow _, at''.out _ ((hd.setCell (p := ⟨_, 0, none⟩) hlow _).setCell (p := ⟨_, 1, none⟩) hlow _)⟩)) (fun hHeld => ?_)
      clear hKK KK
      try simp only [Act.put, List.setIfInBounds_toArray, List.set_cons_zero, List.set_cons_succ]
      refine wpAnyH_take (i := 10) (oi := Oper.mk _ _ _ _ _ _) (v := ?_) rfl (by kernel_rfl) (by kernel_rfl) (by kernel_rfl) (fun _ _ _ h => h) (Or.inl ⟨by kernel_rfl, ?_⟩) hHeld ?_
      rotate_left
      · (intro wS hSw; (try dsimp only at hSw); go_simp; all_goals (with_reducible rfl))
      try simp only [Act.put, List.setIfInBounds_toArray, List.set_cons_zero, List.set_cons_succ]
      refine wpAnyH_done (by kernel_rfl) ?_ _
      obtain ⟨hdV, _⟩ := hHeld
      have hk5 := hk2.trans (hdV.mono hk2.size)
      have hb5 := hB.trans (hk5.mono hB.size)
      have p2 := bkeep hk5 u1'.out.2.2.1
      have p3 := bkeep hk5 u1'.out.2.2.2
      have q0 := bkeep hk5 y0
      have q1 := bkeep hk5 y1
      have q2 := gfrozen (bgrow hk5 none) y0 y2 (by simp)
      have q3 := gfrozen (bgrow hk5 none) y1 y3 (by simp)
      clear y0 y1 y2 y3 hk2 hk5 hdV
      have hset : ∀ (W : World), Below w.heap.size w W → ∀ z0 z1, Below w.heap.size w ((W.setCell ⟨w.heap.size + 1 + 1 + 1, 0, none⟩ z0).setCell ⟨w.heap.size + 1 + 1 + 1, 1, none⟩ z1) := fun W h z0 z1 =>
        (h.setCell (p := ⟨w.heap.size + 1 + 1 + 1, 0, none⟩) (by show w.heap.size ≤ w.heap.size + 1 + 1 + 1; omega) _).setCell (p := ⟨w.heap.size + 1 + 1 + 1, 1, none⟩) (by show w.heap.size ≤ w.heap.size + 1 + 1 + 1; omega) _
      have hset' := Lib.hid hset
      clear hset
      first
        | (obtain ⟨rfl, rfl, rfl⟩ := hr'.out (by simp)
           go_wp2
           exact bodyPost_ret (v := .tuple #[ratV (0, 0), .bool false]) (by simp [results, Try.results104, go_sem, q0, q1, ratV]) rfl ⟨rfl, hset'.out _ hb5 _ _⟩)
        | (have c5 := c4'.out (by simp)
           clear c4'
           have c5' := Lib.hid c5
           clear c5
           go_wp2_with fail
           refine (c5'.out _).mono ?_
           rintro e w6 ⟨rfl, hB6⟩
           have hb6 := hb5.trans (hB6.mono hb5.size)
           have h0 := bkeep hB6 q0
           have h1 := bkeep hB6 q1
           have h2 := gfrozen (bgrow hB6 none) q0 q2 (by simp)
           have h3 := gfrozen (bgrow hB6 none) q1 q3 (by simp)
           clear q0 q1 q2 q3 p2 p3 hB6
           go_wp2
           exact bodyPost_ret (v := .tuple #[ratV (r0, r1), .bool r2]) (by simp [results, Try.results104, go_sem, h0, h1, ratV]) rfl ⟨rfl, hset'.out _ hb6 _ _⟩)
    · rw [if_pos (by kernel_rfl)]
      go_simp
      have hdp := hd
      have hlow := hd.size
      replace hd := hd.alloc hd.size (.cells #[.int .i64 0, .int .i64 0] 34)
      obtain ⟨n0, n1, n2, n3⟩ := new_cells hd
      (try change World.cell? _ ⟨v2.heap.size, 0, none⟩ = _ at n0)
      (try change World.cell? _ ⟨v2.heap.size, 1, none⟩ = _ at n1)
      (try change World.frozen? _ ⟨v2.heap.size, 0, none⟩ = _ at n2)
      (try change World.frozen? _ ⟨v2.heap.size, 1, none⟩ = _ at n3)
      try dsimp only
      refine hKK.out _ _ (by (try dsimp only); (first | exact ⟨hd, at''.out _ hd⟩ | exact ⟨hdp.alloc hdp.size _, at''.out _ (hdp.alloc hdp.size _)⟩ | exact ⟨(hd.setCell (p := ⟨_, 0, none⟩) hlow _).setCell (p := ⟨_, 1, none⟩) hlow _, at''.out _ ((hd.setCell (p := ⟨_, 0, none⟩) hlow _).setCell (p := ⟨_, 1, none⟩) hlow _)⟩)) (fun hHeld => ?_)
      clear hKK KK
      try simp only [Act.put, List.setIfInBounds_toArray, List.set_cons_zero, List.set_cons_succ]
      refine wpAnyH_ready (rs := [4]) (by kernel_rfl) (by simp) ?_
      refine AllReadyH.cons (o := Oper.mk _ _ _ _ _ _) rfl (fun KK hKK => ?_) AllReadyH.nil
      rw [if_pos (by kernel_rfl)]
      go_simp
      refine (c3'.out _).mono ?_
      rintro e w4 ⟨rfl, hB4⟩
      replace hd := hd.trans (hB4.mono hd.size)
      (try replace n2 := gfrozen (bgrow hB4 none) n0 n2 (by simp))
      (try replace n3 := gfrozen (bgrow hB4 none) n1 n3 (by simp))
      (try replace n0 := bkeep hB4 n0)
      (try replace n1 := bkeep hB4 n1)
      try dsimp only
      refine hKK.out _ _ (by (try dsimp only); (first | exact ⟨hd, at''.out _ hd⟩ | exact ⟨hdp.alloc hdp.size _, at''.out _ (hdp.alloc hdp.size _)⟩ | exact ⟨(hd.setCell (p := ⟨_, 0, none⟩) hlow _).setCell (p := ⟨_, 1, none⟩) hlow _, at''.out _ ((hd.setCell (p := ⟨_, 0, none⟩) hlow _).setCell (p := ⟨_, 1, none⟩) hlow _)⟩)) (fun hHeld => ?_)
      clear hKK KK
      try simp only [Act.put, List.setIfInBounds_toArray, List.set_cons_zero, List.set_cons_succ]
      refine wpAnyH_take (i := 5) (oi := Oper.mk _ _ _ _ _ _) (v := ?_) rfl (by kernel_rfl) (by kernel_rfl) (by kernel_rfl) (fun _ _ _ h => h) (Or.inl ⟨by kernel_rfl, ?_⟩) hHeld ?_
      rotate_left
      · (intro wS hSw; (try dsimp only at hSw); go_simp; all_goals (with_reducible rfl))
      try simp only [Act.put, List.setIfInBounds_toArray, List.set_cons_zero, List.set_cons_succ]
      refine wpAnyH_take (i := 6) (oi := Oper.mk _ _ _ _ _ _) (v := ?_) rfl (by kernel_rfl) (by kernel_rfl) (by kernel_rfl) (fun _ _ _ h => h) (Or.inl ⟨by kernel_rfl, ?_⟩) hHeld ?_
      rotate_left
      · (intro wS hSw; (try dsimp only at hSw); go_simp; all_goals (with_reducible rfl))
      try simp only [Act.put, List.setIfInBounds_toArray, List.set_cons_zero, List.set_cons_succ]
      refine wpAnyH_take (i := 7) (oi := Oper.mk _ _ _ _ _ _) (v := ?_) rfl (by kernel_rfl) (by kernel_rfl) (by kernel_rfl) (fun _ _ _ h => h) (Or.inl ⟨by kernel_rfl, ?_⟩) hHeld ?_
      rotate_left
      · (intro wS hSw; (try dsimp only at hSw); go_simp; all_goals (with_reducible rfl))
      try simp only [Act.put, List.setIfInBounds_toArray, List.set_cons_zero, List.set_cons_succ]
      refine wpAnyH_ready (rs := [9]) (by kernel_rfl) (by simp) ?_
      refine AllReadyH.cons (o := Oper.mk _ _ _ _ _ _) rfl (fun KK hKK => ?_) AllReadyH.nil
      rw [if_pos (by kernel_rfl)]
      go_simp
      skip
      try dsimp only
      refine hKK.out _ _ (by (try dsimp only); (first | exact ⟨hd, at''.out _ hd⟩ | exact ⟨hdp.alloc hdp.size _, at''.out _ (hdp.alloc hdp.size _)⟩ | exact ⟨(hd.setCell (p := ⟨_, 0, none⟩) hlow _).setCell (p := ⟨_, 1, none⟩) hlow _, at''.out _ ((hd.setCell (p := ⟨_, 0, none⟩) hlow _).setCell (p := ⟨_, 1, none⟩) hlow _)⟩)) (fun hHeld => ?_)
      clear hKK KK
      try simp only [Act.put, List.setIfInBounds_toArray, List.set_cons_zero, List.set_cons_succ]
      refine wpAnyH_take (i := 10) (oi := Oper.mk _ _ _ _ _ _) (v := ?_) rfl (by kernel_rfl) (by kernel_rfl) (by kernel_rfl) (fun _ _ _ h => h) (Or.inl ⟨by kernel_rfl, ?_⟩) hHeld ?_
      rotate_left
      · (intro wS hSw; (try dsimp only at hSw); go_simp; all_goals (with_reducible rfl))
      try simp only [Act.put, List.setIfInBounds_toArray, List.set_cons_zero, List.set_cons_succ]
      refine wpAnyH_done (by kernel_rfl) ?_ _
      obtain ⟨hdV, _⟩ := hHeld
      have hk5 := hk2.trans (hdV.mono hk2.size)
      have hb5 := hB.trans (hk5.mono hB.size)
      have p2 := bkeep hk5 u1'.out.2.2.1
      have p3 := bkeep hk5 u1'.out.2.2.2
      have q0 := bkeep hk5 y0
      have q1 := bkeep hk5 y1
      have q2 := gfrozen (bgrow hk5 none) y0 y2 (by simp)
      have q3 := gfrozen (bgrow hk5 none) y1 y3 (by simp)
      clear y0 y1 y2 y3 hk2 hk5 hdV
      have hset : ∀ (W : World), Below w.heap.size w W → ∀ z0 z1, Below w.heap.size w ((W.setCell ⟨w.heap.size + 1 + 1 + 1, 0, none⟩ z0).setCell ⟨w.heap.size + 1 + 1 + 1, 1, none⟩ z1) := fun W h z0 z1 =>
        (h.setCell (p := ⟨w.heap.size + 1 + 1 + 1, 0, none⟩) (by show w.heap.size ≤ w.heap.size + 1 + 1 + 1; omega) _).setCell (p := ⟨w.heap.size + 1 + 1 + 1, 1, none⟩) (by show w.heap.size ≤ w.heap.size + 1 + 1 + 1; omega) _
      have hset' := Lib.hid hset
      clear hset
      first
        | (obtain ⟨rfl, rfl, rfl⟩ := hr'.out (by simp)
           go_wp2
           exact bodyPost_ret (v := .tuple #[ratV (0, 0), .bool false]) (by simp [results, Try.results104, go_sem, q0, q1, ratV]) rfl ⟨rfl, hset'.out _ hb5 _ _⟩)
        | (have c5 := c4'.out (by simp)
           clear c4'
           have c5' := Lib.hid c5
           clear c5
           go_wp2_with fail
           refine (c5'.out _).mono ?_
           rintro e w6 ⟨rfl, hB6⟩
           have hb6 := hb5.trans (hB6.mono hb5.size)
           have h0 := bkeep hB6 q0
           have h1 := bkeep hB6 q1
           have h2 := gfrozen (bgrow hB6 none) q0 q2 (by simp)
           have h3 := gfrozen (bgrow hB6 none) q1 q3 (by simp)
           clear q0 q1 q2 q3 p2 p3 hB6
           go_wp2
           exact bodyPost_ret (v := .tuple #[ratV (r0, r1), .bool r2]) (by simp [results, Try.results104, go_sem, h0, h1, ratV]) rfl ⟨rfl, hset'.out _ hb6 _ _⟩)
  · rw [if_pos (by kernel_rfl)]
    go_simp
    have hdp := hd
    have hlow := hd.size
    replace hd := hd.alloc hd.size (.cells #[.int .i64 0, .int .i64 0] 34)
    obtain ⟨n0, n1, n2, n3⟩ := new_cells hd
    (try change World.cell? _ ⟨v2.heap.size, 0, none⟩ = _ at n0)
    (try change World.cell? _ ⟨v2.heap.size, 1, none⟩ = _ at n1)
    (try change World.frozen? _ ⟨v2.heap.size, 0, none⟩ = _ at n2)
    (try change World.frozen? _ ⟨v2.heap.size, 1, none⟩ = _ at n3)
    try dsimp only
    refine hKK.out _ _ (by (try dsimp only); (first | exact ⟨hd, at''.out _ hd⟩ | exact ⟨hdp.alloc hdp.size _, at''.out _ (hdp.alloc hdp.size _)⟩ | exact ⟨(hd.setCell (p := ⟨_, 0, none⟩) hlow _).setCell (p := ⟨_, 1, none⟩) hlow _, at''.out _ ((hd.setCell (p := ⟨_, 0, none⟩) hlow _).setCell (p := ⟨_, 1, none⟩) hlow _)⟩)) (fun hHeld => ?_)
    clear hKK KK
    try simp only [Act.put, List.setIfInBounds_toArray, List.set_cons_zero, List.set_cons_succ]
    refine wpAnyH_ready (rs := [3]) (by kernel_rfl) (by simp) ?_
    refine AllReadyH.cons (o := Oper.mk _ _ _ _ _ _) rfl (fun KK hKK => ?_) AllReadyH.nil
    rw [if_pos (by kernel_rfl)]
    go_simp
    refine (c2'.out _).mono ?_
    rintro e w3 ⟨rfl, hB3⟩
    replace hd := hd.trans (hB3.mono hd.size)
    (try replace n2 := gfrozen (bgrow hB3 none) n0 n2 (by simp))
    (try replace n3 := gfrozen (bgrow hB3 none) n1 n3 (by simp))
    (try replace n0 := bkeep hB3 n0)
    (try replace n1 := bkeep hB3 n1)
    try dsimp only
    refine hKK.out _ _ (by (try dsimp only); (first | exact ⟨hd, at''.out _ hd⟩ | exact ⟨hdp.alloc hdp.size _, at''.out _ (hdp.alloc hdp.size _)⟩ | exact ⟨(hd.setCell (p := ⟨_, 0, none⟩) hlow _).setCell (p := ⟨_, 1, none⟩) hlow _, at''.out _ ((hd.setCell (p := ⟨_, 0, none⟩) hlow _).setCell (p := ⟨_, 1, none⟩) hlow _)⟩)) (fun hHeld => ?_)
    clear hKK KK
    try simp only [Act.put, List.setIfInBounds_toArray, List.set_cons_zero, List.set_cons_succ]
    refine wpAnyH_ready (rs := [4]) (by kernel_rfl) (by simp) ?_
    refine AllReadyH.cons (o := Oper.mk _ _ _ _ _ _) rfl (fun KK hKK => ?_) AllReadyH.nil
    rw [if_pos (by kernel_rfl)]
    go_simp
    refine (c3'.out _).mono ?_
    rintro e w4 ⟨rfl, hB4⟩
    replace hd := hd.trans (hB4.mono hd.size)
    (try replace n2 := gfrozen (bgrow hB4 none) n0 n2 (by simp))
    (try replace n3 := gfrozen (bgrow hB4 none) n1 n3 (by simp))
    (try replace n0 := bkeep hB4 n0)
    (try replace n1 := bkeep hB4 n1)
    try dsimp only
    refine hKK.out _ _ (by (try dsimp only); (first | exact ⟨hd, at''.out _ hd⟩ | exact ⟨hdp.alloc hdp.size _, at''.out _ (hdp.alloc hdp.size _)⟩ | exact ⟨(hd.setCell (p := ⟨_, 0, none⟩) hlow _).setCell (p := ⟨_, 1, none⟩) hlow _, at''.out _ ((hd.setCell (p := ⟨_, 0, none⟩) hlow _).setCell (p := ⟨_, 1, none⟩) hlow _)⟩)) (fun hHeld => ?_)
    clear hKK KK
    try simp only [Act.put, List.setIfInBounds_toArray, List.set_cons_zero, List.set_cons_succ]
    refine wpAnyH_take (i := 5) (oi := Oper.mk _ _ _ _ _ _) (v := ?_) rfl (by kernel_rfl) (by kernel_rfl) (by kernel_rfl) (fun _ _ _ h => h) (Or.inl ⟨by kernel_rfl, ?_⟩) hHeld ?_
    rotate_left
    · (intro wS hSw; (try dsimp only at hSw); go_simp; all_goals (with_reducible rfl))
    try simp only [Act.put, List.setIfInBounds_toArray, List.set_cons_zero, List.set_cons_succ]
    refine wpAnyH_take (i := 6) (oi := Oper.mk _ _ _ _ _ _) (v := ?_) rfl (by kernel_rfl) (by kernel_rfl) (by kernel_rfl) (fun _ _ _ h => h) (Or.inl ⟨by kernel_rfl, ?_⟩) hHeld ?_
    rotate_left
    · (intro wS hSw; (try dsimp only at hSw); go_simp; all_goals (with_reducible rfl))
    try simp only [Act.put, List.setIfInBounds_toArray, List.set_cons_zero, List.set_cons_succ]
    refine wpAnyH_take (i := 7) (oi := Oper.mk _ _ _ _ _ _) (v := ?_) rfl (by kernel_rfl) (by kernel_rfl) (by kernel_rfl) (fun _ _ _ h => h) (Or.inl ⟨by kernel_rfl, ?_⟩) hHeld ?_
    rotate_left
    · (intro wS hSw; (try dsimp only at hSw); go_simp; all_goals (with_reducible rfl))
    try simp only [Act.put, List.setIfInBounds_toArray, List.set_cons_zero, List.set_cons_succ]
    refine wpAnyH_ready (rs := [9]) (by kernel_rfl) (by simp) ?_
    refine AllReadyH.cons (o := Oper.mk _ _ _ _ _ _) rfl (fun KK hKK => ?_) AllReadyH.nil
    rw [if_pos (by kernel_rfl)]
    go_simp
    skip
    try dsimp only
    refine hKK.out _ _ (by (try dsimp only); (first | exact ⟨hd, at''.out _ hd⟩ | exact ⟨hdp.alloc hdp.size _, at''.out _ (hdp.alloc hdp.size _)⟩ | exact ⟨(hd.setCell (p := ⟨_, 0, none⟩) hlow _).setCell (p := ⟨_, 1, none⟩) hlow _, at''.out _ ((hd.setCell (p := ⟨_, 0, none⟩) hlow _).setCell (p := ⟨_, 1, none⟩) hlow _)⟩)) (fun hHeld => ?_)
    clear hKK KK
    try simp only [Act.put, List.setIfInBounds_toArray, List.set_cons_zero, List.set_cons_succ]
    refine wpAnyH_take (i := 10) (oi := Oper.mk _ _ _ _ _ _) (v := ?_) rfl (by kernel_rfl) (by kernel_rfl) (by kernel_rfl) (fun _ _ _ h => h) (Or.inl ⟨by kernel_rfl, ?_⟩) hHeld ?_
    rotate_left
    · (intro wS hSw; (try dsimp only at hSw); go_simp; all_goals (with_reducible rfl))
    try simp only [Act.put, List.setIfInBounds_toArray, List.set_cons_zero, List.set_cons_succ]
    refine wpAnyH_done (by kernel_rfl) ?_ _
    obtain ⟨hdV, _⟩ := hHeld
    have hk5 := hk2.trans (hdV.mono hk2.size)
    have hb5 := hB.trans (hk5.mono hB.size)
    have p2 := bkeep hk5 u1'.out.2.2.1
    have p3 := bkeep hk5 u1'.out.2.2.2
    have q0 := bkeep hk5 y0
    have q1 := bkeep hk5 y1
    have q2 := gfrozen (bgrow hk5 none) y0 y2 (by simp)
    have q3 := gfrozen (bgrow hk5 none) y1 y3 (by simp)
    clear y0 y1 y2 y3 hk2 hk5 hdV
    have hset : ∀ (W : World), Below w.heap.size w W → ∀ z0 z1, Below w.heap.size w ((W.setCell ⟨w.heap.size + 1 + 1 + 1, 0, none⟩ z0).setCell ⟨w.heap.size + 1 + 1 + 1, 1, none⟩ z1) := fun W h z0 z1 =>
      (h.setCell (p := ⟨w.heap.size + 1 + 1 + 1, 0, none⟩) (by show w.heap.size ≤ w.heap.size + 1 + 1 + 1; omega) _).setCell (p := ⟨w.heap.size + 1 + 1 + 1, 1, none⟩) (by show w.heap.size ≤ w.heap.size + 1 + 1 + 1; omega) _
    have hset' := Lib.hid hset
    clear hset
    first
      | (obtain ⟨rfl, rfl, rfl⟩ := hr'.out (by simp)
         go_wp2
         exact bodyPost_ret (v := .tuple #[ratV (0, 0), .bool false]) (by simp [results, Try.results104, go_sem, q0, q1, ratV]) rfl ⟨rfl, hset'.out _ hb5 _ _⟩)
      | (have c5 := c4'.out (by simp)
         clear c4'
         have c5' := Lib.hid c5
         clear c5
         go_wp2_with fail
         refine (c5'.out _).mono ?_
         rintro e w6 ⟨rfl, hB6⟩
         have hb6 := hb5.trans (hB6.mono hb5.size)
         have h0 := bkeep hB6 q0
         have h1 := bkeep hB6 q1
         have h2 := gfrozen (bgrow hB6 none) q0 q2 (by simp)
         have h3 := gfrozen (bgrow hB6 none) q1 q3 (by simp)
         clear q0 q1 q2 q3 p2 p3 hB6
         go_wp2
         exact bodyPost_ret (v := .tuple #[ratV (r0, r1), .bool r2]) (by simp [results, Try.results104, go_sem, h0, h1, ratV]) rfl ⟨rfl, hset'.out _ hb6 _ _⟩)
set_option linter.unusedSimpArgs false in
set_option linter.unusedVariables false in
set_option maxHeartbeats 4000000 in
theorem imOn_coreB (a0 a1 a2 a3 b0 b1 b2 b3 x0 x1 f0 f1 s0 s1 m0 m1 r0 r1 : Int) (r2 : Bool) (w : World)
    (c1 : ∀ w, Calls Try.prog 133 #[.agg #[.int .i64 x0, .int .i64 x1], .agg #[.int .i64 a0, .int .i64 a1]] w (Ret (.tuple #[ratV (f0, f1), .bool true]) w))
    (c2 : ∀ w, Calls Try.prog 135 #[.agg #[.int .i64 a0, .int .i64 a1, .int .i64 a2, .int .i64 a3], .agg #[.int .i64 b0, .int .i64 b1, .int .i64 b2, .int .i64 b3]] w (Ret (ratV (s0, s1)) w))
    (c3 : ∀ w, Calls Try.prog 134 #[.agg #[.int .i64 f0, .int .i64 f1], .agg #[.int .i64 s0, .int .i64 s1]] w (Ret (.tuple #[ratV (m0, m1), .bool false]) w))
    (c4 : false = true → ∀ w, Calls Try.prog 136 #[.agg #[.int .i64 a2, .int .i64 a3], .agg #[.int .i64 m0, .int .i64 m1]] w (Ret (.tuple #[ratV (r0, r1), .bool r2]) w))
    (hr : false = false → r0 = 0 ∧ r1 = 0 ∧ r2 = false) :
    Calls Try.prog 104 #[.agg #[.int .i64 a0, .int .i64 a1, .int .i64 a2, .int .i64 a3], .agg #[.int .i64 b0, .int .i64 b1, .int .i64 b2, .int .i64 b3], .agg #[.int .i64 x0, .int .i64 x1]] w (Ret (.tuple #[ratV (r0, r1), .bool r2]) w) := by
  obtain ⟨w1, hw1⟩ : ∃ W, (((w.alloc (.cells #[.int .i64 a0, .int .i64 a1, .int .i64 a2, .int .i64 a3] 73)).alloc (.cells #[.int .i64 b0, .int .i64 b1, .int .i64 b2, .int .i64 b3] 73)).alloc (.cells #[.int .i64 x0, .int .i64 x1] 34)).alloc (.cells #[.int .i64 0, .int .i64 0] 34) = W := ⟨_, rfl⟩
  have hB : Below w.heap.size w w1 := by rw [← hw1]; exact ((((Below.refl _ _).alloc (Nat.le_refl _) _).alloc (by simp) _).alloc (by simp; omega) _).alloc (by simp; omega) _
  have u1 : w1.cell? ⟨w.heap.size, 0, none⟩ = some (.int .i64 a0) ∧ w1.cell? ⟨w.heap.size, 1, none⟩ = some (.int .i64 a1) ∧ w1.cell? ⟨w.heap.size, 2, none⟩ = some (.int .i64 a2) ∧ w1.cell? ⟨w.heap.size, 3, none⟩ = some (.int .i64 a3) := by rw [← hw1]; simp [go_sem]
  have u2 : w1.cell? ⟨w.heap.size + 1, 0, none⟩ = some (.int .i64 b0) ∧ w1.cell? ⟨w.heap.size + 1, 1, none⟩ = some (.int .i64 b1) ∧ w1.cell? ⟨w.heap.size + 1, 2, none⟩ = some (.int .i64 b2) ∧ w1.cell? ⟨w.heap.size + 1, 3, none⟩ = some (.int .i64 b3) := by rw [← hw1]; simp [go_sem]
  have t0 : w1.cell? ⟨w.heap.size + 1 + 1, 0, none⟩ = some (.int .i64 x0) := by rw [← hw1]; simp [go_sem]
  have t1 : w1.cell? ⟨w.heap.size + 1 + 1, 1, none⟩ = some (.int .i64 x1) := by rw [← hw1]; simp [go_sem]
  have y0 : w1.cell? ⟨w.heap.size + 1 + 1 + 1, 0, none⟩ = some (.int .i64 0) := by rw [← hw1]; simp [go_sem]
  have y1 : w1.cell? ⟨w.heap.size + 1 + 1 + 1, 1, none⟩ = some (.int .i64 0) := by rw [← hw1]; simp [go_sem]
  have y2 : w1.frozen? ⟨w.heap.size + 1 + 1 + 1, 0, none⟩ = false := by rw [← hw1]; simp [go_sem]
  have y3 : w1.frozen? ⟨w.heap.size + 1 + 1 + 1, 1, none⟩ = false := by rw [← hw1]; simp [go_sem]
  have e0 := u1.1
  have e1 := u1.2.1
  have c1' := Lib.hid c1
  have c2' := Lib.hid c2
  have c3' := Lib.hid c3
  have c4' := Lib.hid c4
  have hw1' := Lib.hid hw1
  have u1' := Lib.hid u1
  have u2' := Lib.hid u2
  have hr' := Lib.hid hr
  clear c1 c2 c3 c4 hw1 u1 u2 hr
  go_enter Try.func104, Try.ntmps104
  go_wp2_with fail
  rw [hw1'.out]
  go_wp2_with fail
  refine (c1'.out _).mono ?_
  rintro e w2 ⟨rfl, hB2⟩
  obtain ⟨v2, hv2⟩ : ∃ W, w2.alloc (.cells #[.int .i64 f0, .int .i64 f1] 34) = W := ⟨_, rfl⟩
  have hk2 : Below w1.heap.size w1 v2 := by rw [← hv2]; exact hB2.alloc hB2.size _
  have g0 : v2.cell? ⟨w2.heap.size, 0, none⟩ = some (.int .i64 f0) := by rw [← hv2]; simp [go_sem]
  have g1 : v2.cell? ⟨w2.heap.size, 1, none⟩ = some (.int .i64 f1) := by rw [← hv2]; simp [go_sem]
  have at' : ∀ w', Below v2.heap.size v2 w' → ((w'.cell? ⟨w.heap.size, 0, none⟩ = some (.int .i64 a0) ∧ w'.cell? ⟨w.heap.size, 1, none⟩ = some (.int .i64 a1) ∧ w'.cell? ⟨w.heap.size, 2, none⟩ = some (.int .i64 a2) ∧ w'.cell? ⟨w.heap.size, 3, none⟩ = some (.int .i64 a3)) ∧ w'.cell? ⟨w.heap.size + 1, 0, none⟩ = some (.int .i64 b0) ∧ w'.cell? ⟨w.heap.size + 1, 1, none⟩ = some (.int .i64 b1) ∧ w'.cell? ⟨w.heap.size + 1, 2, none⟩ = some (.int .i64 b2) ∧ w'.cell? ⟨w.heap.size + 1, 3, none⟩ = some (.int .i64 b3)) ∧ w'.cell? ⟨w2.heap.size, 0, none⟩ = some (.int .i64 f0) ∧ w'.cell? ⟨w2.heap.size, 1, none⟩ = some (.int .i64 f1) :=
    fun w' h => by
      have hk := hk2.trans (h.mono hk2.size)
      exact ⟨⟨⟨bkeep hk u1'.out.1, bkeep hk u1'.out.2.1, bkeep hk u1'.out.2.2.1, bkeep hk u1'.out.2.2.2⟩, bkeep hk u2'.out.1, bkeep hk u2'.out.2.1, bkeep hk u2'.out.2.2.1, bkeep hk u2'.out.2.2.2⟩, bkeep h g0, bkeep h g1⟩
  have hd := (Below.refl v2.heap.size v2).drew
  clear e0 e1 t0 t1 g0 g1 hB2
  have hv2' := Lib.hid hv2
  have at'' := Lib.hid at'
  clear hv2 at'
  go_wp2_with fail
  rw [hv2'.out]
  refine wp_region_held_drew (S := (fun w' => Below v2.heap.size v2 w' ∧ ((w'.cell? ⟨w.heap.size, 0, none⟩ = some (.int .i64 a0) ∧ w'.cell? ⟨w.heap.size, 1, none⟩ = some (.int .i64 a1) ∧ w'.cell? ⟨w.heap.size, 2, none⟩ = some (.int .i64 a2) ∧ w'.cell? ⟨w.heap.size, 3, none⟩ = some (.int .i64 a3)) ∧ w'.cell? ⟨w.heap.size + 1, 0, none⟩ = some (.int .i64 b0) ∧ w'.cell? ⟨w.heap.size + 1, 1, none⟩ = some (.int .i64 b1) ∧ w'.cell? ⟨w.heap.size + 1, 2, none⟩ = some (.int .i64 b2) ∧ w'.cell? ⟨w.heap.size + 1, 3, none⟩ = some (.int .i64 b3)) ∧ w'.cell? ⟨w2.heap.size, 0, none⟩ = some (.int .i64 f0) ∧ w'.cell? ⟨w2.heap.size, 1, none⟩ = some (.int .i64 f1))) (by kernel_rfl) (by (try dsimp only); (first | exact ⟨hd, at''.out _ hd⟩ | exact ⟨hdp.alloc hdp.size _, at''.out _ (hdp.alloc hdp.size _)⟩ | exact ⟨(hd.setCell (p := ⟨_, 0, none⟩) hlow _).setCell (p := ⟨_, 1, none⟩) hlow _, at''.out _ ((hd.setCell (p := ⟨_, 0, none⟩) hlow _).setCell (p := ⟨_, 1, none⟩) hlow _)⟩)) (fun hHeld => ?_)
  refine wpAnyH_take (i := 0) (oi := Oper.mk _ _ _ _ _ _) (v := ?_) rfl (by kernel_rfl) (by kernel_rfl) (by kernel_rfl) (fun _ _ _ h => h) (Or.inl ⟨by kernel_rfl, ?_⟩) hHeld ?_
  rotate_left
  · (intro wS hSw; (try dsimp only at hSw); go_simp; all_goals (with_reducible rfl))
  try simp only [Act.put, List.setIfInBounds_toArray, List.set_cons_zero, List.set_cons_succ]
  refine wpAnyH_take (i := 1) (oi := Oper.mk _ _ _ _ _ _) (v := ?_) rfl (by kernel_rfl) (by kernel_rfl) (by kernel_rfl) (fun _ _ _ h => h) (Or.inl ⟨by kernel_rfl, ?_⟩) hHeld ?_
  rotate_left
  · (intro wS hSw; (try dsimp only at hSw); go_simp; all_goals (with_reducible rfl))
  try simp only [Act.put, List.setIfInBounds_toArray, List.set_cons_zero, List.set_cons_succ]
  refine wpAnyH_take (i := 2) (oi := Oper.mk _ _ _ _ _ _) (v := ?_) rfl (by kernel_rfl) (by kernel_rfl) (by kernel_rfl) (fun _ _ _ h => h) (Or.inl ⟨by kernel_rfl, ?_⟩) hHeld ?_
  rotate_left
  · (intro wS hSw; (try dsimp only at hSw); go_simp; all_goals (with_reducible rfl))
  try simp only [Act.put, List.setIfInBounds_toArray, List.set_cons_zero, List.set_cons_succ]
  refine wpAnyH_ready (rs := [3, 8]) (by kernel_rfl) (by simp) ?_
  refine AllReadyH.cons (o := Oper.mk _ _ _ _ _ _) rfl (fun KK hKK => ?_) (AllReadyH.cons (o := Oper.mk _ _ _ _ _ _) rfl (fun KK hKK => ?_) (AllReadyH.nil))
  · rw [if_pos (by kernel_rfl)]
    go_simp
    refine (c2'.out _).mono ?_
    rintro e w3 ⟨rfl, hB3⟩
    replace hd := hd.trans (hB3.mono hd.size)
    (try replace n2 := gfrozen (bgrow hB3 none) n0 n2 (by simp))
    (try replace n3 := gfrozen (bgrow hB3 none) n1 n3 (by simp))
    (try replace n0 := bkeep hB3 n0)
    (try replace n1 := bkeep hB3 n1)
    try dsimp only
    refine hKK.out _ _ (by (try dsimp only); (first | exact ⟨hd, at''.out _ hd⟩ | exact ⟨hdp.alloc hdp.size _, at''.out _ (hdp.alloc hdp.size _)⟩ | exact ⟨(hd.setCell (p := ⟨_, 0, none⟩) hlow _).setCell (p := ⟨_, 1, none⟩) hlow _, at''.out _ ((hd.setCell (p := ⟨_, 0, none⟩) hlow _).setCell (p := ⟨_, 1, none⟩) hlow _)⟩)) (fun hHeld => ?_)
    clear hKK KK
    try simp only [Act.put, List.setIfInBounds_toArray, List.set_cons_zero, List.set_cons_succ]
    refine wpAnyH_ready (rs := [4, 8]) (by kernel_rfl) (by simp) ?_
    refine AllReadyH.cons (o := Oper.mk _ _ _ _ _ _) rfl (fun KK hKK => ?_) (AllReadyH.cons (o := Oper.mk _ _ _ _ _ _) rfl (fun KK hKK => ?_) (AllReadyH.nil))
    · rw [if_pos (by kernel_rfl)]
      go_simp
      refine (c3'.out _).mono ?_
      rintro e w4 ⟨rfl, hB4⟩
      replace hd := hd.trans (hB4.mono hd.size)
      (try replace n2 := gfrozen (bgrow hB4 none) n0 n2 (by simp))
      (try replace n3 := gfrozen (bgrow hB4 none) n1 n3 (by simp))
      (try replace n0 := bkeep hB4 n0)
      (try replace n1 := bkeep hB4 n1)
      try dsimp only
      refine hKK.out _ _ (by (try dsimp only); (first | exact ⟨hd, at''.out _ hd⟩ | exact ⟨hdp.alloc hdp.size _, at''.out _ (hdp.alloc hdp.size _)⟩ | exact ⟨(hd.setCell (p := ⟨_, 0, none⟩) hlow _).setCell (p := ⟨_, 1, none⟩) hlow _, at''.out _ ((hd.setCell (p := ⟨_, 0, none⟩) hlow _).setCell (p := ⟨_, 1, none⟩) hlow _)⟩)) (fun hHeld => ?_)
      clear hKK KK
      try simp only [Act.put, List.setIfInBounds_toArray, List.set_cons_zero, List.set_cons_succ]
      refine wpAnyH_take (i := 5) (oi := Oper.mk _ _ _ _ _ _) (v := ?_) rfl (by kernel_rfl) (by kernel_rfl) (by kernel_rfl) (fun _ _ _ h => h) (Or.inl ⟨by kernel_rfl, ?_⟩) hHeld ?_
      rotate_left
      · (intro wS hSw; (try dsimp only at hSw); go_simp; all_goals (with_reducible rfl))
      try simp only [Act.put, List.setIfInBounds_toArray, List.set_cons_zero, List.set_cons_succ]
      refine wpAnyH_take (i := 6) (oi := Oper.mk _ _ _ _ _ _) (v := ?_) rfl (by kernel_rfl) (by kernel_rfl) (by kernel_rfl) (fun _ _ _ h => h) (Or.inl ⟨by kernel_rfl, ?_⟩) hHeld ?_
      rotate_left
      · (intro wS hSw; (try dsimp only at hSw); go_simp; all_goals (with_reducible rfl))
      try simp only [Act.put, List.setIfInBounds_toArray, List.set_cons_zero, List.set_cons_succ]
      refine wpAnyH_take (i := 7) (oi := Oper.mk _ _ _ _ _ _) (v := ?_) rfl (by kernel_rfl) (by kernel_rfl) (by kernel_rfl) (fun _ _ _ h => h) (Or.inl ⟨by kernel_rfl, ?_⟩) hHeld ?_
      rotate_left
      · (intro wS hSw; (try dsimp only at hSw); go_simp; all_goals (with_reducible rfl))
      try simp only [Act.put, List.setIfInBounds_toArray, List.set_cons_zero, List.set_cons_succ]
      refine wpAnyH_ready (rs := [8]) (by kernel_rfl) (by simp) ?_
      refine AllReadyH.cons (o := Oper.mk _ _ _ _ _ _) rfl (fun KK hKK => ?_) AllReadyH.nil
      rw [if_pos (by kernel_rfl)]
      go_simp
      have hdp := hd
      have hlow := hd.size
      replace hd := hd.alloc hd.size (.cells #[.int .i64 0, .int .i64 0] 34)
      obtain ⟨n0, n1, n2, n3⟩ := new_cells hd
      (try change World.cell? _ ⟨v2.heap.size, 0, none⟩ = _ at n0)
      (try change World.cell? _ ⟨v2.heap.size, 1, none⟩ = _ at n1)
      (try change World.frozen? _ ⟨v2.heap.size, 0, none⟩ = _ at n2)
      (try change World.frozen? _ ⟨v2.heap.size, 1, none⟩ = _ at n3)
      try dsimp only
      refine hKK.out _ _ (by (try dsimp only); (first | exact ⟨hd, at''.out _ hd⟩ | exact ⟨hdp.alloc hdp.size _, at''.out _ (hdp.alloc hdp.size _)⟩ | exact ⟨(hd.setCell (p := ⟨_, 0, none⟩) hlow _).setCell (p := ⟨_, 1, none⟩) hlow _, at''.out _ ((hd.setCell (p := ⟨_, 0, none⟩) hlow _).setCell (p := ⟨_, 1, none⟩) hlow _)⟩)) (fun hHeld => ?_)
      clear hKK KK
      try simp only [Act.put, List.setIfInBounds_toArray, List.set_cons_zero, List.set_cons_succ]
      refine wpAnyH_ready (rs := [9]) (by kernel_rfl) (by simp) ?_
      refine AllReadyH.cons (o := Oper.mk _ _ _ _ _ _) rfl (fun KK hKK => ?_) AllReadyH.nil
      rw [if_pos (by kernel_rfl)]
      go_simp
      skip
      try dsimp only
      refine hKK.out _ _ (by (try dsimp only); (first | exact ⟨hd, at''.out _ hd⟩ | exact ⟨hdp.alloc hdp.size _, at''.out _ (hdp.alloc hdp.size _)⟩ | exact ⟨(hd.setCell (p := ⟨_, 0, none⟩) hlow _).setCell (p := ⟨_, 1, none⟩) hlow _, at''.out _ ((hd.setCell (p := ⟨_, 0, none⟩) hlow _).setCell (p := ⟨_, 1, none⟩) hlow _)⟩)) (fun hHeld => ?_)
      clear hKK KK
      try simp only [Act.put, List.setIfInBounds_toArray, List.set_cons_zero, List.set_cons_succ]
      refine wpAnyH_take (i := 10) (oi := Oper.mk _ _ _ _ _ _) (v := ?_) rfl (by kernel_rfl) (by kernel_rfl) (by kernel_rfl) (fun _ _ _ h => h) (Or.inl ⟨by kernel_rfl, ?_⟩) hHeld ?_
      rotate_left
      · (intro wS hSw; (try dsimp only at hSw); go_simp; all_goals (with_reducible rfl))
      try simp only [Act.put, List.setIfInBounds_toArray, List.set_cons_zero, List.set_cons_succ]
      refine wpAnyH_done (by kernel_rfl) ?_ _
      obtain ⟨hdV, _⟩ := hHeld
      have hk5 := hk2.trans (hdV.mono hk2.size)
      have hb5 := hB.trans (hk5.mono hB.size)
      have p2 := bkeep hk5 u1'.out.2.2.1
      have p3 := bkeep hk5 u1'.out.2.2.2
      have q0 := bkeep hk5 y0
      have q1 := bkeep hk5 y1
      have q2 := gfrozen (bgrow hk5 none) y0 y2 (by simp)
      have q3 := gfrozen (bgrow hk5 none) y1 y3 (by simp)
      clear y0 y1 y2 y3 hk2 hk5 hdV
      have hset : ∀ (W : World), Below w.heap.size w W → ∀ z0 z1, Below w.heap.size w ((W.setCell ⟨w.heap.size + 1 + 1 + 1, 0, none⟩ z0).setCell ⟨w.heap.size + 1 + 1 + 1, 1, none⟩ z1) := fun W h z0 z1 =>
        (h.setCell (p := ⟨w.heap.size + 1 + 1 + 1, 0, none⟩) (by show w.heap.size ≤ w.heap.size + 1 + 1 + 1; omega) _).setCell (p := ⟨w.heap.size + 1 + 1 + 1, 1, none⟩) (by show w.heap.size ≤ w.heap.size + 1 + 1 + 1; omega) _
      have hset' := Lib.hid hset
      clear hset
      first
        | (obtain ⟨rfl, rfl, rfl⟩ := hr'.out (by simp)
           go_wp2
           exact bodyPost_ret (v := .tuple #[ratV (0, 0), .bool false]) (by simp [results, Try.results104, go_sem, q0, q1, ratV]) rfl ⟨rfl, hset'.out _ hb5 _ _⟩)
        | (have c5 := c4'.out (by simp)
           clear c4'
           have c5' := Lib.hid c5
           clear c5
           go_wp2_with fail
           refine (c5'.out _).mono ?_
           rintro e w6 ⟨rfl, hB6⟩
           have hb6 := hb5.trans (hB6.mono hb5.size)
           have h0 := bkeep hB6 q0
           have h1 := bkeep hB6 q1
           have h2 := gfrozen (bgrow hB6 none) q0 q2 (by simp)
           have h3 := gfrozen (bgrow hB6 none) q1 q3 (by simp)
           clear q0 q1 q2 q3 p2 p3 hB6
           go_wp2
           exact bodyPost_ret (v := .tuple #[ratV (r0, r1), .bool r2]) (by simp [results, Try.results104, go_sem, h0, h1, ratV]) rfl ⟨rfl, hset'.out _ hb6 _ _⟩)
    · rw [if_pos (by kernel_rfl)]
      go_simp
      have hdp := hd
      have hlow := hd.size
      replace hd := hd.alloc hd.size (.cells #[.int .i64 0, .int .i64 0] 34)
      obtain ⟨n0, n1, n2, n3⟩ := new_cells hd
      (try change World.cell? _ ⟨v2.heap.size, 0, none⟩ = _ at n0)
      (try change World.cell? _ ⟨v2.heap.size, 1, none⟩ = _ at n1)
      (try change World.frozen? _ ⟨v2.heap.size, 0, none⟩ = _ at n2)
      (try change World.frozen? _ ⟨v2.heap.size, 1, none⟩ = _ at n3)
      try dsimp only
      refine hKK.out _ _ (by (try dsimp only); (first | exact ⟨hd, at''.out _ hd⟩ | exact ⟨hdp.alloc hdp.size _, at''.out _ (hdp.alloc hdp.size _)⟩ | exact ⟨(hd.setCell (p := ⟨_, 0, none⟩) hlow _).setCell (p := ⟨_, 1, none⟩) hlow _, at''.out _ ((hd.setCell (p := ⟨_, 0, none⟩) hlow _).setCell (p := ⟨_, 1, none⟩) hlow _)⟩)) (fun hHeld => ?_)
      clear hKK KK
      try simp only [Act.put, List.setIfInBounds_toArray, List.set_cons_zero, List.set_cons_succ]
      refine wpAnyH_ready (rs := [4]) (by kernel_rfl) (by simp) ?_
      refine AllReadyH.cons (o := Oper.mk _ _ _ _ _ _) rfl (fun KK hKK => ?_) AllReadyH.nil
      rw [if_pos (by kernel_rfl)]
      go_simp
      refine (c3'.out _).mono ?_
      rintro e w4 ⟨rfl, hB4⟩
      replace hd := hd.trans (hB4.mono hd.size)
      (try replace n2 := gfrozen (bgrow hB4 none) n0 n2 (by simp))
      (try replace n3 := gfrozen (bgrow hB4 none) n1 n3 (by simp))
      (try replace n0 := bkeep hB4 n0)
      (try replace n1 := bkeep hB4 n1)
      try dsimp only
      refine hKK.out _ _ (by (try dsimp only); (first | exact ⟨hd, at''.out _ hd⟩ | exact ⟨hdp.alloc hdp.size _, at''.out _ (hdp.alloc hdp.size _)⟩ | exact ⟨(hd.setCell (p := ⟨_, 0, none⟩) hlow _).setCell (p := ⟨_, 1, none⟩) hlow _, at''.out _ ((hd.setCell (p := ⟨_, 0, none⟩) hlow _).setCell (p := ⟨_, 1, none⟩) hlow _)⟩)) (fun hHeld => ?_)
      clear hKK KK
      try simp only [Act.put, List.setIfInBounds_toArray, List.set_cons_zero, List.set_cons_succ]
      refine wpAnyH_take (i := 5) (oi := Oper.mk _ _ _ _ _ _) (v := ?_) rfl (by kernel_rfl) (by kernel_rfl) (by kernel_rfl) (fun _ _ _ h => h) (Or.inl ⟨by kernel_rfl, ?_⟩) hHeld ?_
      rotate_left
      · (intro wS hSw; (try dsimp only at hSw); go_simp; all_goals (with_reducible rfl))
      try simp only [Act.put, List.setIfInBounds_toArray, List.set_cons_zero, List.set_cons_succ]
      refine wpAnyH_take (i := 6) (oi := Oper.mk _ _ _ _ _ _) (v := ?_) rfl (by kernel_rfl) (by kernel_rfl) (by kernel_rfl) (fun _ _ _ h => h) (Or.inl ⟨by kernel_rfl, ?_⟩) hHeld ?_
      rotate_left
      · (intro wS hSw; (try dsimp only at hSw); go_simp; all_goals (with_reducible rfl))
      try simp only [Act.put, List.setIfInBounds_toArray, List.set_cons_zero, List.set_cons_succ]
      refine wpAnyH_take (i := 7) (oi := Oper.mk _ _ _ _ _ _) (v := ?_) rfl (by kernel_rfl) (by kernel_rfl) (by kernel_rfl) (fun _ _ _ h => h) (Or.inl ⟨by kernel_rfl, ?_⟩) hHeld ?_
      rotate_left
      · (intro wS hSw; (try dsimp only at hSw); go_simp; all_goals (with_reducible rfl))
      try simp only [Act.put, List.setIfInBounds_toArray, List.set_cons_zero, List.set_cons_succ]
      refine wpAnyH_ready (rs := [9]) (by kernel_rfl) (by simp) ?_
      refine AllReadyH.cons (o := Oper.mk _ _ _ _ _ _) rfl (fun KK hKK => ?_) AllReadyH.nil
      rw [if_pos (by kernel_rfl)]
      go_simp
      skip
      try dsimp only
      refine hKK.out _ _ (by (try dsimp only); (first | exact ⟨hd, at''.out _ hd⟩ | exact ⟨hdp.alloc hdp.size _, at''.out _ (hdp.alloc hdp.size _)⟩ | exact ⟨(hd.setCell (p := ⟨_, 0, none⟩) hlow _).setCell (p := ⟨_, 1, none⟩) hlow _, at''.out _ ((hd.setCell (p := ⟨_, 0, none⟩) hlow _).setCell (p := ⟨_, 1, none⟩) hlow _)⟩)) (fun hHeld => ?_)
      clear hKK KK
      try simp only [Act.put, List.setIfInBounds_toArray, List.set_cons_zero, List.set_cons_succ]
      refine wpAnyH_take (i := 10) (oi := Oper.mk _ _ _ _ _ _) (v := ?_) rfl (by kernel_rfl) (by kernel_rfl) (by kernel_rfl) (fun _ _ _ h => h) (Or.inl ⟨by kernel_rfl, ?_⟩) hHeld ?_
      rotate_left
      · (intro wS hSw; (try dsimp only at hSw); go_simp; all_goals (with_reducible rfl))
      try simp only [Act.put, List.setIfInBounds_toArray, List.set_cons_zero, List.set_cons_succ]
      refine wpAnyH_done (by kernel_rfl) ?_ _
      obtain ⟨hdV, _⟩ := hHeld
      have hk5 := hk2.trans (hdV.mono hk2.size)
      have hb5 := hB.trans (hk5.mono hB.size)
      have p2 := bkeep hk5 u1'.out.2.2.1
      have p3 := bkeep hk5 u1'.out.2.2.2
      have q0 := bkeep hk5 y0
      have q1 := bkeep hk5 y1
      have q2 := gfrozen (bgrow hk5 none) y0 y2 (by simp)
      have q3 := gfrozen (bgrow hk5 none) y1 y3 (by simp)
      clear y0 y1 y2 y3 hk2 hk5 hdV
      have hset : ∀ (W : World), Below w.heap.size w W → ∀ z0 z1, Below w.heap.size w ((W.setCell ⟨w.heap.size + 1 + 1 + 1, 0, none⟩ z0).setCell ⟨w.heap.size + 1 + 1 + 1, 1, none⟩ z1) := fun W h z0 z1 =>
        (h.setCell (p := ⟨w.heap.size + 1 + 1 + 1, 0, none⟩) (by show w.heap.size ≤ w.heap.size + 1 + 1 + 1; omega) _).setCell (p := ⟨w.heap.size + 1 + 1 + 1, 1, none⟩) (by show w.heap.size ≤ w.heap.size + 1 + 1 + 1; omega) _
      have hset' := Lib.hid hset
      clear hset
      first
        | (obtain ⟨rfl, rfl, rfl⟩ := hr'.out (by simp)
           go_wp2
           exact bodyPost_ret (v := .tuple #[ratV (0, 0), .bool false]) (by simp [results, Try.results104, go_sem, q0, q1, ratV]) rfl ⟨rfl, hset'.out _ hb5 _ _⟩)
        | (have c5 := c4'.out (by simp)
           clear c4'
           have c5' := Lib.hid c5
           clear c5
           go_wp2_with fail
           refine (c5'.out _).mono ?_
           rintro e w6 ⟨rfl, hB6⟩
           have hb6 := hb5.trans (hB6.mono hb5.size)
           have h0 := bkeep hB6 q0
           have h1 := bkeep hB6 q1
           have h2 := gfrozen (bgrow hB6 none) q0 q2 (by simp)
           have h3 := gfrozen (bgrow hB6 none) q1 q3 (by simp)
           clear q0 q1 q2 q3 p2 p3 hB6
           go_wp2
           exact bodyPost_ret (v := .tuple #[ratV (r0, r1), .bool r2]) (by simp [results, Try.results104, go_sem, h0, h1, ratV]) rfl ⟨rfl, hset'.out _ hb6 _ _⟩)
  · rw [if_pos (by kernel_rfl)]
    go_simp
    have hdp := hd
    have hlow := hd.size
    replace hd := hd.alloc hd.size (.cells #[.int .i64 0, .int .i64 0] 34)
    obtain ⟨n0, n1, n2, n3⟩ := new_cells hd
    (try change World.cell? _ ⟨v2.heap.size, 0, none⟩ = _ at n0)
    (try change World.cell? _ ⟨v2.heap.size, 1, none⟩ = _ at n1)
    (try change World.frozen? _ ⟨v2.heap.size, 0, none⟩ = _ at n2)
    (try change World.frozen? _ ⟨v2.heap.size, 1, none⟩ = _ at n3)
    try dsimp only
    refine hKK.out _ _ (by (try dsimp only); (first | exact ⟨hd, at''.out _ hd⟩ | exact ⟨hdp.alloc hdp.size _, at''.out _ (hdp.alloc hdp.size _)⟩ | exact ⟨(hd.setCell (p := ⟨_, 0, none⟩) hlow _).setCell (p := ⟨_, 1, none⟩) hlow _, at''.out _ ((hd.setCell (p := ⟨_, 0, none⟩) hlow _).setCell (p := ⟨_, 1, none⟩) hlow _)⟩)) (fun hHeld => ?_)
    clear hKK KK
    try simp only [Act.put, List.setIfInBounds_toArray, List.set_cons_zero, List.set_cons_succ]
    refine wpAnyH_ready (rs := [3]) (by kernel_rfl) (by simp) ?_
    refine AllReadyH.cons (o := Oper.mk _ _ _ _ _ _) rfl (fun KK hKK => ?_) AllReadyH.nil
    rw [if_pos (by kernel_rfl)]
    go_simp
    refine (c2'.out _).mono ?_
    rintro e w3 ⟨rfl, hB3⟩
    replace hd := hd.trans (hB3.mono hd.size)
    (try replace n2 := gfrozen (bgrow hB3 none) n0 n2 (by simp))
    (try replace n3 := gfrozen (bgrow hB3 none) n1 n3 (by simp))
    (try replace n0 := bkeep hB3 n0)
    (try replace n1 := bkeep hB3 n1)
    try dsimp only
    refine hKK.out _ _ (by (try dsimp only); (first | exact ⟨hd, at''.out _ hd⟩ | exact ⟨hdp.alloc hdp.size _, at''.out _ (hdp.alloc hdp.size _)⟩ | exact ⟨(hd.setCell (p := ⟨_, 0, none⟩) hlow _).setCell (p := ⟨_, 1, none⟩) hlow _, at''.out _ ((hd.setCell (p := ⟨_, 0, none⟩) hlow _).setCell (p := ⟨_, 1, none⟩) hlow _)⟩)) (fun hHeld => ?_)
    clear hKK KK
    try simp only [Act.put, List.setIfInBounds_toArray, List.set_cons_zero, List.set_cons_succ]
    refine wpAnyH_ready (rs := [4]) (by kernel_rfl) (by simp) ?_
    refine AllReadyH.cons (o := Oper.mk _ _ _ _ _ _) rfl (fun KK hKK => ?_) AllReadyH.nil
    rw [if_pos (by kernel_rfl)]
    go_simp
    refine (c3'.out _).mono ?_
    rintro e w4 ⟨rfl, hB4⟩
    replace hd := hd.trans (hB4.mono hd.size)
    (try replace n2 := gfrozen (bgrow hB4 none) n0 n2 (by simp))
    (try replace n3 := gfrozen (bgrow hB4 none) n1 n3 (by simp))
    (try replace n0 := bkeep hB4 n0)
    (try replace n1 := bkeep hB4 n1)
    try dsimp only
    refine hKK.out _ _ (by (try dsimp only); (first | exact ⟨hd, at''.out _ hd⟩ | exact ⟨hdp.alloc hdp.size _, at''.out _ (hdp.alloc hdp.size _)⟩ | exact ⟨(hd.setCell (p := ⟨_, 0, none⟩) hlow _).setCell (p := ⟨_, 1, none⟩) hlow _, at''.out _ ((hd.setCell (p := ⟨_, 0, none⟩) hlow _).setCell (p := ⟨_, 1, none⟩) hlow _)⟩)) (fun hHeld => ?_)
    clear hKK KK
    try simp only [Act.put, List.setIfInBounds_toArray, List.set_cons_zero, List.set_cons_succ]
    refine wpAnyH_take (i := 5) (oi := Oper.mk _ _ _ _ _ _) (v := ?_) rfl (by kernel_rfl) (by kernel_rfl) (by kernel_rfl) (fun _ _ _ h => h) (Or.inl ⟨by kernel_rfl, ?_⟩) hHeld ?_
    rotate_left
    · (intro wS hSw; (try dsimp only at hSw); go_simp; all_goals (with_reducible rfl))
    try simp only [Act.put, List.setIfInBounds_toArray, List.set_cons_zero, List.set_cons_succ]
    refine wpAnyH_take (i := 6) (oi := Oper.mk _ _ _ _ _ _) (v := ?_) rfl (by kernel_rfl) (by kernel_rfl) (by kernel_rfl) (fun _ _ _ h => h) (Or.inl ⟨by kernel_rfl, ?_⟩) hHeld ?_
    rotate_left
    · (intro wS hSw; (try dsimp only at hSw); go_simp; all_goals (with_reducible rfl))
    try simp only [Act.put, List.setIfInBounds_toArray, List.set_cons_zero, List.set_cons_succ]
    refine wpAnyH_take (i := 7) (oi := Oper.mk _ _ _ _ _ _) (v := ?_) rfl (by kernel_rfl) (by kernel_rfl) (by kernel_rfl) (fun _ _ _ h => h) (Or.inl ⟨by kernel_rfl, ?_⟩) hHeld ?_
    rotate_left
    · (intro wS hSw; (try dsimp only at hSw); go_simp; all_goals (with_reducible rfl))
    try simp only [Act.put, List.setIfInBounds_toArray, List.set_cons_zero, List.set_cons_succ]
    refine wpAnyH_ready (rs := [9]) (by kernel_rfl) (by simp) ?_
    refine AllReadyH.cons (o := Oper.mk _ _ _ _ _ _) rfl (fun KK hKK => ?_) AllReadyH.nil
    rw [if_pos (by kernel_rfl)]
    go_simp
    skip
    try dsimp only
    refine hKK.out _ _ (by (try dsimp only); (first | exact ⟨hd, at''.out _ hd⟩ | exact ⟨hdp.alloc hdp.size _, at''.out _ (hdp.alloc hdp.size _)⟩ | exact ⟨(hd.setCell (p := ⟨_, 0, none⟩) hlow _).setCell (p := ⟨_, 1, none⟩) hlow _, at''.out _ ((hd.setCell (p := ⟨_, 0, none⟩) hlow _).setCell (p := ⟨_, 1, none⟩) hlow _)⟩)) (fun hHeld => ?_)
    clear hKK KK
    try simp only [Act.put, List.setIfInBounds_toArray, List.set_cons_zero, List.set_cons_succ]
    refine wpAnyH_take (i := 10) (oi := Oper.mk _ _ _ _ _ _) (v := ?_) rfl (by kernel_rfl) (by kernel_rfl) (by kernel_rfl) (fun _ _ _ h => h) (Or.inl ⟨by kernel_rfl, ?_⟩) hHeld ?_
    rotate_left
    · (intro wS hSw; (try dsimp only at hSw); go_simp; all_goals (with_reducible rfl))
    try simp only [Act.put, List.setIfInBounds_toArray, List.set_cons_zero, List.set_cons_succ]
    refine wpAnyH_done (by kernel_rfl) ?_ _
    obtain ⟨hdV, _⟩ := hHeld
    have hk5 := hk2.trans (hdV.mono hk2.size)
    have hb5 := hB.trans (hk5.mono hB.size)
    have p2 := bkeep hk5 u1'.out.2.2.1
    have p3 := bkeep hk5 u1'.out.2.2.2
    have q0 := bkeep hk5 y0
    have q1 := bkeep hk5 y1
    have q2 := gfrozen (bgrow hk5 none) y0 y2 (by simp)
    have q3 := gfrozen (bgrow hk5 none) y1 y3 (by simp)
    clear y0 y1 y2 y3 hk2 hk5 hdV
    have hset : ∀ (W : World), Below w.heap.size w W → ∀ z0 z1, Below w.heap.size w ((W.setCell ⟨w.heap.size + 1 + 1 + 1, 0, none⟩ z0).setCell ⟨w.heap.size + 1 + 1 + 1, 1, none⟩ z1) := fun W h z0 z1 =>
      (h.setCell (p := ⟨w.heap.size + 1 + 1 + 1, 0, none⟩) (by show w.heap.size ≤ w.heap.size + 1 + 1 + 1; omega) _).setCell (p := ⟨w.heap.size + 1 + 1 + 1, 1, none⟩) (by show w.heap.size ≤ w.heap.size + 1 + 1 + 1; omega) _
    have hset' := Lib.hid hset
    clear hset
    first
      | (obtain ⟨rfl, rfl, rfl⟩ := hr'.out (by simp)
         go_wp2
         exact bodyPost_ret (v := .tuple #[ratV (0, 0), .bool false]) (by simp [results, Try.results104, go_sem, q0, q1, ratV]) rfl ⟨rfl, hset'.out _ hb5 _ _⟩)
      | (have c5 := c4'.out (by simp)
         clear c4'
         have c5' := Lib.hid c5
         clear c5
         go_wp2_with fail
         refine (c5'.out _).mono ?_
         rintro e w6 ⟨rfl, hB6⟩
         have hb6 := hb5.trans (hB6.mono hb5.size)
         have h0 := bkeep hB6 q0
         have h1 := bkeep hB6 q1
         have h2 := gfrozen (bgrow hB6 none) q0 q2 (by simp)
         have h3 := gfrozen (bgrow hB6 none) q1 q3 (by simp)
         clear q0 q1 q2 q3 p2 p3 hB6
         go_wp2
         exact bodyPost_ret (v := .tuple #[ratV (r0, r1), .bool r2]) (by simp [results, Try.results104, go_sem, h0, h1, ratV]) rfl ⟨rfl, hset'.out _ hb6 _ _⟩)
set_option linter.unusedSimpArgs false in
set_option linter.unusedVariables false in
set_option maxHeartbeats 4000000 in
theorem imOn_coreC (a0 a1 a2 a3 b0 b1 b2 b3 x0 x1 f0 f1 s0 s1 m0 m1 r0 r1 : Int) (r2 : Bool) (w : World)
    (c1 : ∀ w, Calls Try.prog 133 #[.agg #[.int .i64 x0, .int .i64 x1], .agg #[.int .i64 a0, .int .i64 a1]] w (Ret (.tuple #[ratV (f0, f1), .bool true]) w))
    (c2 : ∀ w, Calls Try.prog 135 #[.agg #[.int .i64 a0, .int .i64 a1, .int .i64 a2, .int .i64 a3], .agg #[.int .i64 b0, .int .i64 b1, .int .i64 b2, .int .i64 b3]] w (Ret (ratV (s0, s1)) w))
    (c3 : ∀ w, Calls Try.prog 134 #[.agg #[.int .i64 f0, .int .i64 f1], .agg #[.int .i64 s0, .int .i64 s1]] w (Ret (.tuple #[ratV (m0, m1), .bool true]) w))
    (c4 : true = true → ∀ w, Calls Try.prog 136 #[.agg #[.int .i64 a2, .int .i64 a3], .agg #[.int .i64 m0, .int .i64 m1]] w (Ret (.tuple #[ratV (r0, r1), .bool r2]) w))
    (hr : true = false → r0 = 0 ∧ r1 = 0 ∧ r2 = false) :
    Calls Try.prog 104 #[.agg #[.int .i64 a0, .int .i64 a1, .int .i64 a2, .int .i64 a3], .agg #[.int .i64 b0, .int .i64 b1, .int .i64 b2, .int .i64 b3], .agg #[.int .i64 x0, .int .i64 x1]] w (Ret (.tuple #[ratV (r0, r1), .bool r2]) w) := by
  obtain ⟨w1, hw1⟩ : ∃ W, (((w.alloc (.cells #[.int .i64 a0, .int .i64 a1, .int .i64 a2, .int .i64 a3] 73)).alloc (.cells #[.int .i64 b0, .int .i64 b1, .int .i64 b2, .int .i64 b3] 73)).alloc (.cells #[.int .i64 x0, .int .i64 x1] 34)).alloc (.cells #[.int .i64 0, .int .i64 0] 34) = W := ⟨_, rfl⟩
  have hB : Below w.heap.size w w1 := by rw [← hw1]; exact ((((Below.refl _ _).alloc (Nat.le_refl _) _).alloc (by simp) _).alloc (by simp; omega) _).alloc (by simp; omega) _
  have u1 : w1.cell? ⟨w.heap.size, 0, none⟩ = some (.int .i64 a0) ∧ w1.cell? ⟨w.heap.size, 1, none⟩ = some (.int .i64 a1) ∧ w1.cell? ⟨w.heap.size, 2, none⟩ = some (.int .i64 a2) ∧ w1.cell? ⟨w.heap.size, 3, none⟩ = some (.int .i64 a3) := by rw [← hw1]; simp [go_sem]
  have u2 : w1.cell? ⟨w.heap.size + 1, 0, none⟩ = some (.int .i64 b0) ∧ w1.cell? ⟨w.heap.size + 1, 1, none⟩ = some (.int .i64 b1) ∧ w1.cell? ⟨w.heap.size + 1, 2, none⟩ = some (.int .i64 b2) ∧ w1.cell? ⟨w.heap.size + 1, 3, none⟩ = some (.int .i64 b3) := by rw [← hw1]; simp [go_sem]
  have t0 : w1.cell? ⟨w.heap.size + 1 + 1, 0, none⟩ = some (.int .i64 x0) := by rw [← hw1]; simp [go_sem]
  have t1 : w1.cell? ⟨w.heap.size + 1 + 1, 1, none⟩ = some (.int .i64 x1) := by rw [← hw1]; simp [go_sem]
  have y0 : w1.cell? ⟨w.heap.size + 1 + 1 + 1, 0, none⟩ = some (.int .i64 0) := by rw [← hw1]; simp [go_sem]
  have y1 : w1.cell? ⟨w.heap.size + 1 + 1 + 1, 1, none⟩ = some (.int .i64 0) := by rw [← hw1]; simp [go_sem]
  have y2 : w1.frozen? ⟨w.heap.size + 1 + 1 + 1, 0, none⟩ = false := by rw [← hw1]; simp [go_sem]
  have y3 : w1.frozen? ⟨w.heap.size + 1 + 1 + 1, 1, none⟩ = false := by rw [← hw1]; simp [go_sem]
  have e0 := u1.1
  have e1 := u1.2.1
  have c1' := Lib.hid c1
  have c2' := Lib.hid c2
  have c3' := Lib.hid c3
  have c4' := Lib.hid c4
  have hw1' := Lib.hid hw1
  have u1' := Lib.hid u1
  have u2' := Lib.hid u2
  have hr' := Lib.hid hr
  clear c1 c2 c3 c4 hw1 u1 u2 hr
  go_enter Try.func104, Try.ntmps104
  go_wp2_with fail
  rw [hw1'.out]
  go_wp2_with fail
  refine (c1'.out _).mono ?_
  rintro e w2 ⟨rfl, hB2⟩
  obtain ⟨v2, hv2⟩ : ∃ W, w2.alloc (.cells #[.int .i64 f0, .int .i64 f1] 34) = W := ⟨_, rfl⟩
  have hk2 : Below w1.heap.size w1 v2 := by rw [← hv2]; exact hB2.alloc hB2.size _
  have g0 : v2.cell? ⟨w2.heap.size, 0, none⟩ = some (.int .i64 f0) := by rw [← hv2]; simp [go_sem]
  have g1 : v2.cell? ⟨w2.heap.size, 1, none⟩ = some (.int .i64 f1) := by rw [← hv2]; simp [go_sem]
  have at' : ∀ w', Below v2.heap.size v2 w' → ((w'.cell? ⟨w.heap.size, 0, none⟩ = some (.int .i64 a0) ∧ w'.cell? ⟨w.heap.size, 1, none⟩ = some (.int .i64 a1) ∧ w'.cell? ⟨w.heap.size, 2, none⟩ = some (.int .i64 a2) ∧ w'.cell? ⟨w.heap.size, 3, none⟩ = some (.int .i64 a3)) ∧ w'.cell? ⟨w.heap.size + 1, 0, none⟩ = some (.int .i64 b0) ∧ w'.cell? ⟨w.heap.size + 1, 1, none⟩ = some (.int .i64 b1) ∧ w'.cell? ⟨w.heap.size + 1, 2, none⟩ = some (.int .i64 b2) ∧ w'.cell? ⟨w.heap.size + 1, 3, none⟩ = some (.int .i64 b3)) ∧ w'.cell? ⟨w2.heap.size, 0, none⟩ = some (.int .i64 f0) ∧ w'.cell? ⟨w2.heap.size, 1, none⟩ = some (.int .i64 f1) :=
    fun w' h => by
      have hk := hk2.trans (h.mono hk2.size)
      exact ⟨⟨⟨bkeep hk u1'.out.1, bkeep hk u1'.out.2.1, bkeep hk u1'.out.2.2.1, bkeep hk u1'.out.2.2.2⟩, bkeep hk u2'.out.1, bkeep hk u2'.out.2.1, bkeep hk u2'.out.2.2.1, bkeep hk u2'.out.2.2.2⟩, bkeep h g0, bkeep h g1⟩
  have hd := (Below.refl v2.heap.size v2).drew
  clear e0 e1 t0 t1 g0 g1 hB2
  have hv2' := Lib.hid hv2
  have at'' := Lib.hid at'
  clear hv2 at'
  go_wp2_with fail
  rw [hv2'.out]
  refine wp_region_held_drew (S := (fun w' => Below v2.heap.size v2 w' ∧ ((w'.cell? ⟨w.heap.size, 0, none⟩ = some (.int .i64 a0) ∧ w'.cell? ⟨w.heap.size, 1, none⟩ = some (.int .i64 a1) ∧ w'.cell? ⟨w.heap.size, 2, none⟩ = some (.int .i64 a2) ∧ w'.cell? ⟨w.heap.size, 3, none⟩ = some (.int .i64 a3)) ∧ w'.cell? ⟨w.heap.size + 1, 0, none⟩ = some (.int .i64 b0) ∧ w'.cell? ⟨w.heap.size + 1, 1, none⟩ = some (.int .i64 b1) ∧ w'.cell? ⟨w.heap.size + 1, 2, none⟩ = some (.int .i64 b2) ∧ w'.cell? ⟨w.heap.size + 1, 3, none⟩ = some (.int .i64 b3)) ∧ w'.cell? ⟨w2.heap.size, 0, none⟩ = some (.int .i64 f0) ∧ w'.cell? ⟨w2.heap.size, 1, none⟩ = some (.int .i64 f1))) (by kernel_rfl) (by (try dsimp only); (first | exact ⟨hd, at''.out _ hd⟩ | exact ⟨hdp.alloc hdp.size _, at''.out _ (hdp.alloc hdp.size _)⟩ | exact ⟨(hd.setCell (p := ⟨_, 0, none⟩) hlow _).setCell (p := ⟨_, 1, none⟩) hlow _, at''.out _ ((hd.setCell (p := ⟨_, 0, none⟩) hlow _).setCell (p := ⟨_, 1, none⟩) hlow _)⟩)) (fun hHeld => ?_)
  refine wpAnyH_take (i := 0) (oi := Oper.mk _ _ _ _ _ _) (v := ?_) rfl (by kernel_rfl) (by kernel_rfl) (by kernel_rfl) (fun _ _ _ h => h) (Or.inl ⟨by kernel_rfl, ?_⟩) hHeld ?_
  rotate_left
  · (intro wS hSw; (try dsimp only at hSw); go_simp; all_goals (with_reducible rfl))
  try simp only [Act.put, List.setIfInBounds_toArray, List.set_cons_zero, List.set_cons_succ]
  refine wpAnyH_take (i := 1) (oi := Oper.mk _ _ _ _ _ _) (v := ?_) rfl (by kernel_rfl) (by kernel_rfl) (by kernel_rfl) (fun _ _ _ h => h) (Or.inl ⟨by kernel_rfl, ?_⟩) hHeld ?_
  rotate_left
  · (intro wS hSw; (try dsimp only at hSw); go_simp; all_goals (with_reducible rfl))
  try simp only [Act.put, List.setIfInBounds_toArray, List.set_cons_zero, List.set_cons_succ]
  refine wpAnyH_take (i := 2) (oi := Oper.mk _ _ _ _ _ _) (v := ?_) rfl (by kernel_rfl) (by kernel_rfl) (by kernel_rfl) (fun _ _ _ h => h) (Or.inl ⟨by kernel_rfl, ?_⟩) hHeld ?_
  rotate_left
  · (intro wS hSw; (try dsimp only at hSw); go_simp; all_goals (with_reducible rfl))
  try simp only [Act.put, List.setIfInBounds_toArray, List.set_cons_zero, List.set_cons_succ]
  refine wpAnyH_ready (rs := [3, 8]) (by kernel_rfl) (by simp) ?_
  refine AllReadyH.cons (o := Oper.mk _ _ _ _ _ _) rfl (fun KK hKK => ?_) (AllReadyH.cons (o := Oper.mk _ _ _ _ _ _) rfl (fun KK hKK => ?_) (AllReadyH.nil))
  · rw [if_pos (by kernel_rfl)]
    go_simp
    refine (c2'.out _).mono ?_
    rintro e w3 ⟨rfl, hB3⟩
    replace hd := hd.trans (hB3.mono hd.size)
    (try replace n2 := gfrozen (bgrow hB3 none) n0 n2 (by simp))
    (try replace n3 := gfrozen (bgrow hB3 none) n1 n3 (by simp))
    (try replace n0 := bkeep hB3 n0)
    (try replace n1 := bkeep hB3 n1)
    try dsimp only
    refine hKK.out _ _ (by (try dsimp only); (first | exact ⟨hd, at''.out _ hd⟩ | exact ⟨hdp.alloc hdp.size _, at''.out _ (hdp.alloc hdp.size _)⟩ | exact ⟨(hd.setCell (p := ⟨_, 0, none⟩) hlow _).setCell (p := ⟨_, 1, none⟩) hlow _, at''.out _ ((hd.setCell (p := ⟨_, 0, none⟩) hlow _).setCell (p := ⟨_, 1, none⟩) hlow _)⟩)) (fun hHeld => ?_)
    clear hKK KK
    try simp only [Act.put, List.setIfInBounds_toArray, List.set_cons_zero, List.set_cons_succ]
    refine wpAnyH_ready (rs := [4, 8]) (by kernel_rfl) (by simp) ?_
    refine AllReadyH.cons (o := Oper.mk _ _ _ _ _ _) rfl (fun KK hKK => ?_) (AllReadyH.cons (o := Oper.mk _ _ _ _ _ _) rfl (fun KK hKK => ?_) (AllReadyH.nil))
    · rw [if_pos (by kernel_rfl)]
      go_simp
      refine (c3'.out _).mono ?_
      rintro e w4 ⟨rfl, hB4⟩
      replace hd := hd.trans (hB4.mono hd.size)
      (try replace n2 := gfrozen (bgrow hB4 none) n0 n2 (by simp))
      (try replace n3 := gfrozen (bgrow hB4 none) n1 n3 (by simp))
      (try replace n0 := bkeep hB4 n0)
      (try replace n1 := bkeep hB4 n1)
      try dsimp only
      refine hKK.out _ _ (by (try dsimp only); (first | exact ⟨hd, at''.out _ hd⟩ | exact ⟨hdp.alloc hdp.size _, at''.out _ (hdp.alloc hdp.size _)⟩ | exact ⟨(hd.setCell (p := ⟨_, 0, none⟩) hlow _).setCell (p := ⟨_, 1, none⟩) hlow _, at''.out _ ((hd.setCell (p := ⟨_, 0, none⟩) hlow _).setCell (p := ⟨_, 1, none⟩) hlow _)⟩)) (fun hHeld => ?_)
      clear hKK KK
      try simp only [Act.put, List.setIfInBounds_toArray, List.set_cons_zero, List.set_cons_succ]
      refine wpAnyH_take (i := 5) (oi := Oper.mk _ _ _ _ _ _) (v := ?_) rfl (by kernel_rfl) (by kernel_rfl) (by kernel_rfl) (fun _ _ _ h => h) (Or.inl ⟨by kernel_rfl, ?_⟩) hHeld ?_
      rotate_left
      · (intro wS hSw; (try dsimp only at hSw); go_simp; all_goals (with_reducible rfl))
      try simp only [Act.put, List.setIfInBounds_toArray, List.set_cons_zero, List.set_cons_succ]
      refine wpAnyH_take (i := 6) (oi := Oper.mk _ _ _ _ _ _) (v := ?_) rfl (by kernel_rfl) (by kernel_rfl) (by kernel_rfl) (fun _ _ _ h => h) (Or.inl ⟨by kernel_rfl, ?_⟩) hHeld ?_
      rotate_left
      · (intro wS hSw; (try dsimp only at hSw); go_simp; all_goals (with_reducible rfl))
      try simp only [Act.put, List.setIfInBounds_toArray, List.set_cons_zero, List.set_cons_succ]
      refine wpAnyH_take (i := 7) (oi := Oper.mk _ _ _ _ _ _) (v := ?_) rfl (by kernel_rfl) (by kernel_rfl) (by kernel_rfl) (fun _ _ _ h => h) (Or.inl ⟨by kernel_rfl, ?_⟩) hHeld ?_
      rotate_left
      · (intro wS hSw; (try dsimp only at hSw); go_simp; all_goals (with_reducible rfl))
      try simp only [Act.put, List.setIfInBounds_toArray, List.set_cons_zero, List.set_cons_succ]
      refine wpAnyH_ready (rs := [8]) (by kernel_rfl) (by simp) ?_
      refine AllReadyH.cons (o := Oper.mk _ _ _ _ _ _) rfl (fun KK hKK => ?_) AllReadyH.nil
      rw [if_pos (by kernel_rfl)]
      go_simp
      have hdp := hd
      have hlow := hd.size
      replace hd := hd.alloc hd.size (.cells #[.int .i64 0, .int .i64 0] 34)
      obtain ⟨n0, n1, n2, n3⟩ := new_cells hd
      (try change World.cell? _ ⟨v2.heap.size, 0, none⟩ = _ at n0)
      (try change World.cell? _ ⟨v2.heap.size, 1, none⟩ = _ at n1)
      (try change World.frozen? _ ⟨v2.heap.size, 0, none⟩ = _ at n2)
      (try change World.frozen? _ ⟨v2.heap.size, 1, none⟩ = _ at n3)
      try dsimp only
      refine hKK.out _ _ (by (try dsimp only); (first | exact ⟨hd, at''.out _ hd⟩ | exact ⟨hdp.alloc hdp.size _, at''.out _ (hdp.alloc hdp.size _)⟩ | exact ⟨(hd.setCell (p := ⟨_, 0, none⟩) hlow _).setCell (p := ⟨_, 1, none⟩) hlow _, at''.out _ ((hd.setCell (p := ⟨_, 0, none⟩) hlow _).setCell (p := ⟨_, 1, none⟩) hlow _)⟩)) (fun hHeld => ?_)
      clear hKK KK
      try simp only [Act.put, List.setIfInBounds_toArray, List.set_cons_zero, List.set_cons_succ]
      refine wpAnyH_ready (rs := [9]) (by kernel_rfl) (by simp) ?_
      refine AllReadyH.cons (o := Oper.mk _ _ _ _ _ _) rfl (fun KK hKK => ?_) AllReadyH.nil
      rw [if_pos (by kernel_rfl)]
      go_simp
      skip
      try dsimp only
      refine hKK.out _ _ (by (try dsimp only); (first | exact ⟨hd, at''.out _ hd⟩ | exact ⟨hdp.alloc hdp.size _, at''.out _ (hdp.alloc hdp.size _)⟩ | exact ⟨(hd.setCell (p := ⟨_, 0, none⟩) hlow _).setCell (p := ⟨_, 1, none⟩) hlow _, at''.out _ ((hd.setCell (p := ⟨_, 0, none⟩) hlow _).setCell (p := ⟨_, 1, none⟩) hlow _)⟩)) (fun hHeld => ?_)
      clear hKK KK
      try simp only [Act.put, List.setIfInBounds_toArray, List.set_cons_zero, List.set_cons_succ]
      refine wpAnyH_take (i := 10) (oi := Oper.mk _ _ _ _ _ _) (v := ?_) rfl (by kernel_rfl) (by kernel_rfl) (by kernel_rfl) (fun _ _ _ h => h) (Or.inl ⟨by kernel_rfl, ?_⟩) hHeld ?_
      rotate_left
      · (intro wS hSw; (try dsimp only at hSw); go_simp; all_goals (with_reducible rfl))
      try simp only [Act.put, List.setIfInBounds_toArray, List.set_cons_zero, List.set_cons_succ]
      refine wpAnyH_done (by kernel_rfl) ?_ _
      obtain ⟨hdV, _⟩ := hHeld
      have hk5 := hk2.trans (hdV.mono hk2.size)
      have hb5 := hB.trans (hk5.mono hB.size)
      have p2 := bkeep hk5 u1'.out.2.2.1
      have p3 := bkeep hk5 u1'.out.2.2.2
      have q0 := bkeep hk5 y0
      have q1 := bkeep hk5 y1
      have q2 := gfrozen (bgrow hk5 none) y0 y2 (by simp)
      have q3 := gfrozen (bgrow hk5 none) y1 y3 (by simp)
      clear y0 y1 y2 y3 hk2 hk5 hdV
      have hset : ∀ (W : World), Below w.heap.size w W → ∀ z0 z1, Below w.heap.size w ((W.setCell ⟨w.heap.size + 1 + 1 + 1, 0, none⟩ z0).setCell ⟨w.heap.size + 1 + 1 + 1, 1, none⟩ z1) := fun W h z0 z1 =>
        (h.setCell (p := ⟨w.heap.size + 1 + 1 + 1, 0, none⟩) (by show w.heap.size ≤ w.heap.size + 1 + 1 + 1; omega) _).setCell (p := ⟨w.heap.size + 1 + 1 + 1, 1, none⟩) (by show w.heap.size ≤ w.heap.size + 1 + 1 + 1; omega) _
      have hset' := Lib.hid hset
      clear hset
      first
        | (obtain ⟨rfl, rfl, rfl⟩ := hr'.out (by simp)
           go_wp2
           exact bodyPost_ret (v := .tuple #[ratV (0, 0), .bool false]) (by simp [results, Try.results104, go_sem, q0, q1, ratV]) rfl ⟨rfl, hset'.out _ hb5 _ _⟩)
        | (have c5 := c4'.out (by simp)
           clear c4'
           have c5' := Lib.hid c5
           clear c5
           go_wp2_with fail
           refine (c5'.out _).mono ?_
           rintro e w6 ⟨rfl, hB6⟩
           have hb6 := hb5.trans (hB6.mono hb5.size)
           have h0 := bkeep hB6 q0
           have h1 := bkeep hB6 q1
           have h2 := gfrozen (bgrow hB6 none) q0 q2 (by simp)
           have h3 := gfrozen (bgrow hB6 none) q1 q3 (by simp)
           clear q0 q1 q2 q3 p2 p3 hB6
           go_wp2
           exact bodyPost_ret (v := .tuple #[ratV (r0, r1), .bool r2]) (by simp [results, Try.results104, go_sem, h0, h1, ratV]) rfl ⟨rfl, hset'.out _ hb6 _ _⟩)
    · rw [if_pos (by kernel_rfl)]
      go_simp
      have hdp := hd
      have hlow := hd.size
      replace hd := hd.alloc hd.size (.cells #[.int .i64 0, .int .i64 0] 34)
      obtain ⟨n0, n1, n2, n3⟩ := new_cells hd
      (try change World.cell? _ ⟨v2.heap.size, 0, none⟩ = _ at n0)
      (try change World.cell? _ ⟨v2.heap.size, 1, none⟩ = _ at n1)
      (try change World.frozen? _ ⟨v2.heap.size, 0, none⟩ = _ at n2)
      (try change World.frozen? _ ⟨v2.heap.size, 1, none⟩ = _ at n3)
      try dsimp only
      refine hKK.out _ _ (by (try dsimp only); (first | exact ⟨hd, at''.out _ hd⟩ | exact ⟨hdp.alloc hdp.size _, at''.out _ (hdp.alloc hdp.size _)⟩ | exact ⟨(hd.setCell (p := ⟨_, 0, none⟩) hlow _).setCell (p := ⟨_, 1, none⟩) hlow _, at''.out _ ((hd.setCell (p := ⟨_, 0, none⟩) hlow _).setCell (p := ⟨_, 1, none⟩) hlow _)⟩)) (fun hHeld => ?_)
      clear hKK KK
      try simp only [Act.put, List.setIfInBounds_toArray, List.set_cons_zero, List.set_cons_succ]
      refine wpAnyH_ready (rs := [4]) (by kernel_rfl) (by simp) ?_
      refine AllReadyH.cons (o := Oper.mk _ _ _ _ _ _) rfl (fun KK hKK => ?_) AllReadyH.nil
      rw [if_pos (by kernel_rfl)]
      go_simp
      refine (c3'.out _).mono ?_
      rintro e w4 ⟨rfl, hB4⟩
      replace hd := hd.trans (hB4.mono hd.size)
      (try replace n2 := gfrozen (bgrow hB4 none) n0 n2 (by simp))
      (try replace n3 := gfrozen (bgrow hB4 none) n1 n3 (by simp))
      (try replace n0 := bkeep hB4 n0)
      (try replace n1 := bkeep hB4 n1)
      try dsimp only
      refine hKK.out _ _ (by (try dsimp only); (first | exact ⟨hd, at''.out _ hd⟩ | exact ⟨hdp.alloc hdp.size _, at''.out _ (hdp.alloc hdp.size _)⟩ | exact ⟨(hd.setCell (p := ⟨_, 0, none⟩) hlow _).setCell (p := ⟨_, 1, none⟩) hlow _, at''.out _ ((hd.setCell (p := ⟨_, 0, none⟩) hlow _).setCell (p := ⟨_, 1, none⟩) hlow _)⟩)) (fun hHeld => ?_)
      clear hKK KK
      try simp only [Act.put, List.setIfInBounds_toArray, List.set_cons_zero, List.set_cons_succ]
      refine wpAnyH_take (i := 5) (oi := Oper.mk _ _ _ _ _ _) (v := ?_) rfl (by kernel_rfl) (by kernel_rfl) (by kernel_rfl) (fun _ _ _ h => h) (Or.inl ⟨by kernel_rfl, ?_⟩) hHeld ?_
      rotate_left
      · (intro wS hSw; (try dsimp only at hSw); go_simp; all_goals (with_reducible rfl))
      try simp only [Act.put, List.setIfInBounds_toArray, List.set_cons_zero, List.set_cons_succ]
      refine wpAnyH_take (i := 6) (oi := Oper.mk _ _ _ _ _ _) (v := ?_) rfl (by kernel_rfl) (by kernel_rfl) (by kernel_rfl) (fun _ _ _ h => h) (Or.inl ⟨by kernel_rfl, ?_⟩) hHeld ?_
      rotate_left
      · (intro wS hSw; (try dsimp only at hSw); go_simp; all_goals (with_reducible rfl))
      try simp only [Act.put, List.setIfInBounds_toArray, List.set_cons_zero, List.set_cons_succ]
      refine wpAnyH_take (i := 7) (oi := Oper.mk _ _ _ _ _ _) (v := ?_) rfl (by kernel_rfl) (by kernel_rfl) (by kernel_rfl) (fun _ _ _ h => h) (Or.inl ⟨by kernel_rfl, ?_⟩) hHeld ?_
      rotate_left
      · (intro wS hSw; (try dsimp only at hSw); go_simp; all_goals (with_reducible rfl))
      try simp only [Act.put, List.setIfInBounds_toArray, List.set_cons_zero, List.set_cons_succ]
      refine wpAnyH_ready (rs := [9]) (by kernel_rfl) (by simp) ?_
      refine AllReadyH.cons (o := Oper.mk _ _ _ _ _ _) rfl (fun KK hKK => ?_) AllReadyH.nil
      rw [if_pos (by kernel_rfl)]
      go_simp
      skip
      try dsimp only
      refine hKK.out _ _ (by (try dsimp only); (first | exact ⟨hd, at''.out _ hd⟩ | exact ⟨hdp.alloc hdp.size _, at''.out _ (hdp.alloc hdp.size _)⟩ | exact ⟨(hd.setCell (p := ⟨_, 0, none⟩) hlow _).setCell (p := ⟨_, 1, none⟩) hlow _, at''.out _ ((hd.setCell (p := ⟨_, 0, none⟩) hlow _).setCell (p := ⟨_, 1, none⟩) hlow _)⟩)) (fun hHeld => ?_)
      clear hKK KK
      try simp only [Act.put, List.setIfInBounds_toArray, List.set_cons_zero, List.set_cons_succ]
      refine wpAnyH_take (i := 10) (oi := Oper.mk _ _ _ _ _ _) (v := ?_) rfl (by kernel_rfl) (by kernel_rfl) (by kernel_rfl) (fun _ _ _ h => h) (Or.inl ⟨by kernel_rfl, ?_⟩) hHeld ?_
      rotate_left
      · (intro wS hSw; (try dsimp only at hSw); go_simp; all_goals (with_reducible rfl))
      try simp only [Act.put, List.setIfInBounds_toArray, List.set_cons_zero, List.set_cons_succ]
      refine wpAnyH_done (by kernel_rfl) ?_ _
      obtain ⟨hdV, _⟩ := hHeld
      have hk5 := hk2.trans (hdV.mono hk2.size)
      have hb5 := hB.trans (hk5.mono hB.size)
      have p2 := bkeep hk5 u1'.out.2.2.1
      have p3 := bkeep hk5 u1'.out.2.2.2
      have q0 := bkeep hk5 y0
      have q1 := bkeep hk5 y1
      have q2 := gfrozen (bgrow hk5 none) y0 y2 (by simp)
      have q3 := gfrozen (bgrow hk5 none) y1 y3 (by simp)
      clear y0 y1 y2 y3 hk2 hk5 hdV
      have hset : ∀ (W : World), Below w.heap.size w W → ∀ z0 z1, Below w.heap.size w ((W.setCell ⟨w.heap.size + 1 + 1 + 1, 0, none⟩ z0).setCell ⟨w.heap.size + 1 + 1 + 1, 1, none⟩ z1) := fun W h z0 z1 =>
        (h.setCell (p := ⟨w.heap.size + 1 + 1 + 1, 0, none⟩) (by show w.heap.size ≤ w.heap.size + 1 + 1 + 1; omega) _).setCell (p := ⟨w.heap.size + 1 + 1 + 1, 1, none⟩) (by show w.heap.size ≤ w.heap.size + 1 + 1 + 1; omega) _
      have hset' := Lib.hid hset
      clear hset
      first
        | (obtain ⟨rfl, rfl, rfl⟩ := hr'.out (by simp)
           go_wp2
           exact bodyPost_ret (v := .tuple #[ratV (0, 0), .bool false]) (by simp [results, Try.results104, go_sem, q0, q1, ratV]) rfl ⟨rfl, hset'.out _ hb5 _ _⟩)
        | (have c5 := c4'.out (by simp)
           clear c4'
           have c5' := Lib.hid c5
           clear c5
           go_wp2_with fail
           refine (c5'.out _).mono ?_
           rintro e w6 ⟨rfl, hB6⟩
           have hb6 := hb5.trans (hB6.mono hb5.size)
           have h0 := bkeep hB6 q0
           have h1 := bkeep hB6 q1
           have h2 := gfrozen (bgrow hB6 none) q0 q2 (by simp)
           have h3 := gfrozen (bgrow hB6 none) q1 q3 (by simp)
           clear q0 q1 q2 q3 p2 p3 hB6
           go_wp2
           exact bodyPost_ret (v := .tuple #[ratV (r0, r1), .bool r2]) (by simp [results, Try.results104, go_sem, h0, h1, ratV]) rfl ⟨rfl, hset'.out _ hb6 _ _⟩)
  · rw [if_pos (by kernel_rfl)]
    go_simp
    have hdp := hd
    have hlow := hd.size
    replace hd := hd.alloc hd.size (.cells #[.int .i64 0, .int .i64 0] 34)
    obtain ⟨n0, n1, n2, n3⟩ := new_cells hd
    (try change World.cell? _ ⟨v2.heap.size, 0, none⟩ = _ at n0)
    (try change World.cell? _ ⟨v2.heap.size, 1, none⟩ = _ at n1)
    (try change World.frozen? _ ⟨v2.heap.size, 0, none⟩ = _ at n2)
    (try change World.frozen? _ ⟨v2.heap.size, 1, none⟩ = _ at n3)
    try dsimp only
    refine hKK.out _ _ (by (try dsimp only); (first | exact ⟨hd, at''.out _ hd⟩ | exact ⟨hdp.alloc hdp.size _, at''.out _ (hdp.alloc hdp.size _)⟩ | exact ⟨(hd.setCell (p := ⟨_, 0, none⟩) hlow _).setCell (p := ⟨_, 1, none⟩) hlow _, at''.out _ ((hd.setCell (p := ⟨_, 0, none⟩) hlow _).setCell (p := ⟨_, 1, none⟩) hlow _)⟩)) (fun hHeld => ?_)
    clear hKK KK
    try simp only [Act.put, List.setIfInBounds_toArray, List.set_cons_zero, List.set_cons_succ]
    refine wpAnyH_ready (rs := [3]) (by kernel_rfl) (by simp) ?_
    refine AllReadyH.cons (o := Oper.mk _ _ _ _ _ _) rfl (fun KK hKK => ?_) AllReadyH.nil
    rw [if_pos (by kernel_rfl)]
    go_simp
    refine (c2'.out _).mono ?_
    rintro e w3 ⟨rfl, hB3⟩
    replace hd := hd.trans (hB3.mono hd.size)
    (try replace n2 := gfrozen (bgrow hB3 none) n0 n2 (by simp))
    (try replace n3 := gfrozen (bgrow hB3 none) n1 n3 (by simp))
    (try replace n0 := bkeep hB3 n0)
    (try replace n1 := bkeep hB3 n1)
    try dsimp only
    refine hKK.out _ _ (by (try dsimp only); (first | exact ⟨hd, at''.out _ hd⟩ | exact ⟨hdp.alloc hdp.size _, at''.out _ (hdp.alloc hdp.size _)⟩ | exact ⟨(hd.setCell (p := ⟨_, 0, none⟩) hlow _).setCell (p := ⟨_, 1, none⟩) hlow _, at''.out _ ((hd.setCell (p := ⟨_, 0, none⟩) hlow _).setCell (p := ⟨_, 1, none⟩) hlow _)⟩)) (fun hHeld => ?_)
    clear hKK KK
    try simp only [Act.put, List.setIfInBounds_toArray, List.set_cons_zero, List.set_cons_succ]
    refine wpAnyH_ready (rs := [4]) (by kernel_rfl) (by simp) ?_
    refine AllReadyH.cons (o := Oper.mk _ _ _ _ _ _) rfl (fun KK hKK => ?_) AllReadyH.nil
    rw [if_pos (by kernel_rfl)]
    go_simp
    refine (c3'.out _).mono ?_
    rintro e w4 ⟨rfl, hB4⟩
    replace hd := hd.trans (hB4.mono hd.size)
    (try replace n2 := gfrozen (bgrow hB4 none) n0 n2 (by simp))
    (try replace n3 := gfrozen (bgrow hB4 none) n1 n3 (by simp))
    (try replace n0 := bkeep hB4 n0)
    (try replace n1 := bkeep hB4 n1)
    try dsimp only
    refine hKK.out _ _ (by (try dsimp only); (first | exact ⟨hd, at''.out _ hd⟩ | exact ⟨hdp.alloc hdp.size _, at''.out _ (hdp.alloc hdp.size _)⟩ | exact ⟨(hd.setCell (p := ⟨_, 0, none⟩) hlow _).setCell (p := ⟨_, 1, none⟩) hlow _, at''.out _ ((hd.setCell (p := ⟨_, 0, none⟩) hlow _).setCell (p := ⟨_, 1, none⟩) hlow _)⟩)) (fun hHeld => ?_)
    clear hKK KK
    try simp only [Act.put, List.setIfInBounds_toArray, List.set_cons_zero, List.set_cons_succ]
    refine wpAnyH_take (i := 5) (oi := Oper.mk _ _ _ _ _ _) (v := ?_) rfl (by kernel_rfl) (by kernel_rfl) (by kernel_rfl) (fun _ _ _ h => h) (Or.inl ⟨by kernel_rfl, ?_⟩) hHeld ?_
    rotate_left
    · (intro wS hSw; (try dsimp only at hSw); go_simp; all_goals (with_reducible rfl))
    try simp only [Act.put, List.setIfInBounds_toArray, List.set_cons_zero, List.set_cons_succ]
    refine wpAnyH_take (i := 6) (oi := Oper.mk _ _ _ _ _ _) (v := ?_) rfl (by kernel_rfl) (by kernel_rfl) (by kernel_rfl) (fun _ _ _ h => h) (Or.inl ⟨by kernel_rfl, ?_⟩) hHeld ?_
    rotate_left
    · (intro wS hSw; (try dsimp only at hSw); go_simp; all_goals (with_reducible rfl))
    try simp only [Act.put, List.setIfInBounds_toArray, List.set_cons_zero, List.set_cons_succ]
    refine wpAnyH_take (i := 7) (oi := Oper.mk _ _ _ _ _ _) (v := ?_) rfl (by kernel_rfl) (by kernel_rfl) (by kernel_rfl) (fun _ _ _ h => h) (Or.inl ⟨by kernel_rfl, ?_⟩) hHeld ?_
    rotate_left
    · (intro wS hSw; (try dsimp only at hSw); go_simp; all_goals (with_reducible rfl))
    try simp only [Act.put, List.setIfInBounds_toArray, List.set_cons_zero, List.set_cons_succ]
    refine wpAnyH_ready (rs := [9]) (by kernel_rfl) (by simp) ?_
    refine AllReadyH.cons (o := Oper.mk _ _ _ _ _ _) rfl (fun KK hKK => ?_) AllReadyH.nil
    rw [if_pos (by kernel_rfl)]
    go_simp
    skip
    try dsimp only
    refine hKK.out _ _ (by (try dsimp only); (first | exact ⟨hd, at''.out _ hd⟩ | exact ⟨hdp.alloc hdp.size _, at''.out _ (hdp.alloc hdp.size _)⟩ | exact ⟨(hd.setCell (p := ⟨_, 0, none⟩) hlow _).setCell (p := ⟨_, 1, none⟩) hlow _, at''.out _ ((hd.setCell (p := ⟨_, 0, none⟩) hlow _).setCell (p := ⟨_, 1, none⟩) hlow _)⟩)) (fun hHeld => ?_)
    clear hKK KK
    try simp only [Act.put, List.setIfInBounds_toArray, List.set_cons_zero, List.set_cons_succ]
    refine wpAnyH_take (i := 10) (oi := Oper.mk _ _ _ _ _ _) (v := ?_) rfl (by kernel_rfl) (by kernel_rfl) (by kernel_rfl) (fun _ _ _ h => h) (Or.inl ⟨by kernel_rfl, ?_⟩) hHeld ?_
    rotate_left
    · (intro wS hSw; (try dsimp only at hSw); go_simp; all_goals (with_reducible rfl))
    try simp only [Act.put, List.setIfInBounds_toArray, List.set_cons_zero, List.set_cons_succ]
    refine wpAnyH_done (by kernel_rfl) ?_ _
    obtain ⟨hdV, _⟩ := hHeld
    have hk5 := hk2.trans (hdV.mono hk2.size)
    have hb5 := hB.trans (hk5.mono hB.size)
    have p2 := bkeep hk5 u1'.out.2.2.1
    have p3 := bkeep hk5 u1'.out.2.2.2
    have q0 := bkeep hk5 y0
    have q1 := bkeep hk5 y1
    have q2 := gfrozen (bgrow hk5 none) y0 y2 (by simp)
    have q3 := gfrozen (bgrow hk5 none) y1 y3 (by simp)
    clear y0 y1 y2 y3 hk2 hk5 hdV
    have hset : ∀ (W : World), Below w.heap.size w W → ∀ z0 z1, Below w.heap.size w ((W.setCell ⟨w.heap.size + 1 + 1 + 1, 0, none⟩ z0).setCell ⟨w.heap.size + 1 + 1 + 1, 1, none⟩ z1) := fun W h z0 z1 =>
      (h.setCell (p := ⟨w.heap.size + 1 + 1 + 1, 0, none⟩) (by show w.heap.size ≤ w.heap.size + 1 + 1 + 1; omega) _).setCell (p := ⟨w.heap.size + 1 + 1 + 1, 1, none⟩) (by show w.heap.size ≤ w.heap.size + 1 + 1 + 1; omega) _
    have hset' := Lib.hid hset
    clear hset
    first
      | (obtain ⟨rfl, rfl, rfl⟩ := hr'.out (by simp)
         go_wp2
         exact bodyPost_ret (v := .tuple #[ratV (0, 0), .bool false]) (by simp [results, Try.results104, go_sem, q0, q1, ratV]) rfl ⟨rfl, hset'.out _ hb5 _ _⟩)
      | (have c5 := c4'.out (by simp)
         clear c4'
         have c5' := Lib.hid c5
         clear c5
         go_wp2_with fail
         refine (c5'.out _).mono ?_
         rintro e w6 ⟨rfl, hB6⟩
         have hb6 := hb5.trans (hB6.mono hb5.size)
         have h0 := bkeep hB6 q0
         have h1 := bkeep hB6 q1
         have h2 := gfrozen (bgrow hB6 none) q0 q2 (by simp)
         have h3 := gfrozen (bgrow hB6 none) q1 q3 (by simp)
         clear q0 q1 q2 q3 p2 p3 hB6
         go_wp2
         exact bodyPost_ret (v := .tuple #[ratV (r0, r1), .bool r2]) (by simp [results, Try.results104, go_sem, h0, h1, ratV]) rfl ⟨rfl, hset'.out _ hb6 _ _⟩)
theorem imOn_any (p q : Quad) (x : Int × Int) (w : World) (h1 : coordR p.1 = true) (h2 : coordR p.2 = true) (h3 : coordR q.1 = true) (h4 : coordR q.2 = true) (hl : ltB p.1.1 p.1.2 q.1.1 q.1.2 = true) (hx : goodR x.1 x.2 = true) :
    Calls Try.prog 104 #[quadV p, quadV q, .agg #[.int .i64 x.1, .int .i64 x.2]] w (Ret (.tuple #[ratV (onR p q x).1, .bool (onR p q x).2]) w) := by
  have g1 := unitR_good (coordR_unit h1)
  have g2 := unitR_good (coordR_unit h2)
  have gs := (slope_ok h1 h2 h3 h4 hl).2.1
  have c1 := fun w => raSub_any x p.1 w (good_bd hx) (good_bd g1)
  have c2 := fun w => imSlope_any p q w h1 h2 h3 h4 hl
  cases o1 : (subR x p.1).2
  · rw [onR_bad1 o1]
    rw [o1, show (subR x p.1).1 = (0, 0) from mkR_bad o1] at c1
    exact imOn_coreA p.1.1 p.1.2 p.2.1 p.2.2 q.1.1 q.1.2 q.2.1 q.2.2 x.1 x.2 0 0 (slopeR p q).1 (slopeR p q).2 0 0 0 0 false w c1 c2 (fun w => raMul_zero (slopeR p q) w) (fun h => by cases h) (fun _ => ⟨rfl, rfl, rfl⟩)
  · rw [o1] at c1
    have gf : goodR (subR x p.1).1.1 (subR x p.1).1.2 = true := mkR_good o1
    have c3 := fun w => raMul_any (subR x p.1).1 (slopeR p q) w (good_bd gf) (good_bd gs)
    cases o2 : (mulR (subR x p.1).1 (slopeR p q)).2
    · rw [onR_bad2 o1 o2]
      rw [o2] at c3
      exact imOn_coreB p.1.1 p.1.2 p.2.1 p.2.2 q.1.1 q.1.2 q.2.1 q.2.2 x.1 x.2 (subR x p.1).1.1 (subR x p.1).1.2 (slopeR p q).1 (slopeR p q).2 (mulR (subR x p.1).1 (slopeR p q)).1.1 (mulR (subR x p.1).1 (slopeR p q)).1.2 0 0 false w c1 c2 c3 (fun h => by cases h) (fun _ => ⟨rfl, rfl, rfl⟩)
    · rw [onR_ok o1 o2]
      rw [o2] at c3
      have gm : goodR (mulR (subR x p.1).1 (slopeR p q)).1.1 (mulR (subR x p.1).1 (slopeR p q)).1.2 = true := mkR_good o2
      have c4 := fun w => raAdd_any p.2 (mulR (subR x p.1).1 (slopeR p q)).1 w (good_bd g2) (good_bd gm)
      exact imOn_coreC p.1.1 p.1.2 p.2.1 p.2.2 q.1.1 q.1.2 q.2.1 q.2.2 x.1 x.2 (subR x p.1).1.1 (subR x p.1).1.2 (slopeR p q).1 (slopeR p q).2 (mulR (subR x p.1).1 (slopeR p q)).1.1 (mulR (subR x p.1).1 (slopeR p q)).1.2 _ _ _ w c1 c2 c3 (fun _ => c4) (fun h => by cases h)

end Go.Proofs.Ytfcanpebagpdbaa

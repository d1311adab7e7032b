/- impl.common: whether two intervals have more than a point in common; slices.MinFunc at fractions. No conditions but small sizes. -/
import Derived.Test.YtfhhofecfllbfaaGreatLsLaw
import Derived.Test.YtfhhofecfllbfaaGreatPkO
import Derived.Test.YtfhhofecfllbfaaGreatImgIv
namespace Go.Proofs.YtfhhofecfllbfaaGreat
open Go.RowKit
set_option maxRecDepth 100000

set_option linter.unusedSimpArgs false in
set_option linter.unusedVariables false in
set_option maxRecDepth 10000 in
set_option maxHeartbeats 4000000 in
theorem common_any (i k : Quad) (w : World) (hi : ivB i = true) (hk1 : goodR k.1.1 k.1.2 = true) (hk2 : goodR k.2.1 k.2.2 = true) (hk : ltB k.1.1 k.1.2 k.2.1 k.2.2 = true) :
    Calls Tryz.prog 73 #[quadV i, quadV k] w (fun e w' => ∃ z : Quad, e = .returned (.tuple #[quadV z, .bool (lsB i (k.1, k.1) (k.2, k.2))]) ∧ Below w.heap.size w w') := by
  obtain ⟨i1, i2, i3⟩ := ivB_true hi
  have hM : ltB (greatR i.1 k.1).1 (greatR i.1 k.1).2 (lessR i.2 k.2).1 (lessR i.2 k.2).2 = lsB i (k.1, k.1) (k.2, k.2) := meet_iff (unitR_good i1) (unitR_good i2) hk1 hk2 i3 hk
  have c1 := fun w' => greater_any i.1 k.1 w' (unitR_good i1) hk1
  have c2 := fun w' => lesser_any i.2 k.2 w' (unitR_good i2) hk2
  have g1 := greatR_good (unitR_good i1) hk1
  have g2 := lessR_good (unitR_good i2) hk2
  rw [← hM]
  clear hM
  generalize greatR i.1 k.1 = G at *
  generalize lessR i.2 k.2 = L at *
  have c3 := fun w' => less_any G.1 G.2 L.1 L.2 w' (good_bd g1) (good_bd g2)
  generalize ltB G.1 G.2 L.1 L.2 = M at *
  obtain ⟨⟨p0, p1⟩, ⟨p2, p3⟩⟩ := i
  obtain ⟨⟨q0, q1⟩, ⟨q2, q3⟩⟩ := k
  obtain ⟨x0, x1⟩ := G
  obtain ⟨y0, y1⟩ := L
  simp only at c1 c2 c3
  obtain ⟨w1, hw1⟩ : ∃ W, ((w.alloc (.cells #[.int .i64 p0, .int .i64 p1, .int .i64 p2, .int .i64 p3] 44)).alloc (.cells #[.int .i64 q0, .int .i64 q1, .int .i64 q2, .int .i64 q3] 44)).alloc (.cells #[.int .i64 0, .int .i64 0, .int .i64 0, .int .i64 0] 44) = W := ⟨_, rfl⟩
  have hB1 : Below w.heap.size w w1 := by rw [← hw1]; exact (((Below.refl _ _).alloc (Nat.le_refl _) _).alloc (by simp) _).alloc (by simp; omega) _
  have xi : BoxQ w1 w.heap.size ((p0, p1), (p2, p3)) := by rw [← hw1]; refine ⟨?_, ?_, ?_, ?_⟩ <;> simp [go_sem]
  have xk : BoxQ w1 (w.heap.size + 1) ((q0, q1), (q2, q3)) := by rw [← hw1]; refine ⟨?_, ?_, ?_, ?_⟩ <;> simp [go_sem]
  have xr : BoxW w1 (w.heap.size + 1 + 1) ((0, 0), (0, 0)) := by rw [← hw1]; refine ⟨⟨?_, ?_, ?_, ?_⟩, ?_, ?_, ?_, ?_⟩ <;> simp [go_sem]
  obtain ⟨rb, hrbe⟩ : ∃ b, w.heap.size + 1 + 1 = b := ⟨_, rfl⟩
  rw [hrbe] at xr
  have hrbl : w.heap.size ≤ rb := by omega
  have at' : ∀ w', Below w1.heap.size w1 w' → (w'.cell? ⟨w.heap.size, 0, none⟩ = some (.int .i64 p0) ∧ w'.cell? ⟨w.heap.size, 1, none⟩ = some (.int .i64 p1) ∧ w'.cell? ⟨w.heap.size, 2, none⟩ = some (.int .i64 p2) ∧ w'.cell? ⟨w.heap.size, 3, none⟩ = some (.int .i64 p3)) ∧ (w'.cell? ⟨w.heap.size + 1, 0, none⟩ = some (.int .i64 q0) ∧ w'.cell? ⟨w.heap.size + 1, 1, none⟩ = some (.int .i64 q1) ∧ w'.cell? ⟨w.heap.size + 1, 2, none⟩ = some (.int .i64 q2) ∧ w'.cell? ⟨w.heap.size + 1, 3, none⟩ = some (.int .i64 q3)) :=
    fun w' h => ⟨xi.below h, xk.below h⟩
  have hd : Below w1.heap.size w1 w1.drew := (Below.refl _ _).drew
  clear xi xk g1 g2 hi i1 i2 i3 hk1 hk2 hk
  have c1' := Lib.hid c1
  have c2' := Lib.hid c2
  have c3' := Lib.hid c3
  have hw1' := Lib.hid hw1
  have xr' := Lib.hid xr
  have at'' := Lib.hid at'
  clear c1 c2 c3 hw1 xr at'
  show Calls _ _ #[.agg #[.int .i64 p0, .int .i64 p1, .int .i64 p2, .int .i64 p3], .agg #[.int .i64 q0, .int .i64 q1, .int .i64 q2, .int .i64 q3]] w _
  go_enter Tryz.func73, Tryz.ntmps73
  go_upto_region 1 with fail
  rw [hw1'.out]
  go_cut [6] from 7 to 17 (fun s6 wx => ∃ bx, s6 = .pointer (some ⟨bx, 0, none⟩) ∧ w1.heap.size ≤ bx ∧ Below w1.heap.size w1 wx ∧ BoxQ wx bx ((x0, x1), (y0, y1)))
  case first =>
    refine wp_region_held_drew (S := (fun w' => Below w1.heap.size w1 w' ∧ (w'.cell? ⟨w.heap.size, 0, none⟩ = some (.int .i64 p0) ∧ w'.cell? ⟨w.heap.size, 1, none⟩ = some (.int .i64 p1) ∧ w'.cell? ⟨w.heap.size, 2, none⟩ = some (.int .i64 p2) ∧ w'.cell? ⟨w.heap.size, 3, none⟩ = some (.int .i64 p3)) ∧ (w'.cell? ⟨w.heap.size + 1, 0, none⟩ = some (.int .i64 q0) ∧ w'.cell? ⟨w.heap.size + 1, 1, none⟩ = some (.int .i64 q1) ∧ w'.cell? ⟨w.heap.size + 1, 2, none⟩ = some (.int .i64 q2) ∧ w'.cell? ⟨w.heap.size + 1, 3, none⟩ = some (.int .i64 q3)))) (by kernel_rfl) (by (try dsimp only); (first | exact ⟨hd, at''.out _ hd⟩ | exact ⟨hdp.alloc hdp.size _, at''.out _ (hdp.alloc hdp.size _)⟩ | exact ⟨below_set4 hd hlow ((x0, x1), (y0, y1)), at''.out _ (below_set4 hd hlow ((x0, x1), (y0, y1)))⟩)) (fun hHeld => ?_)
    refine ly_q 0 (v := ?_) hHeld ?_
    try simp only [Act.put, lyA, lyB, lyC]
    refine ly_q 1 (v := ?_) hHeld ?_
    try simp only [Act.put, lyA, lyB, lyC]
    refine ly_q 2 (v := ?_) hHeld ?_
    try simp only [Act.put, lyA, lyB, lyC]
    refine ly_q 3 (v := ?_) hHeld ?_
    try simp only [Act.put, lyA, lyB, lyC]
    refine ly_q 5 (v := ?_) hHeld ?_
    try simp only [Act.put, lyA, lyB, lyC]
    refine ly_q 6 (v := ?_) hHeld ?_
    try simp only [Act.put, lyA, lyB, lyC]
    refine ly_q 7 (v := ?_) hHeld ?_
    try simp only [Act.put, lyA, lyB, lyC]
    refine ly_q 8 (v := ?_) hHeld ?_
    try simp only [Act.put, lyA, lyB, lyC]
    refine wpAnyH_ready (rs := [4, 11]) (by kernel_rfl) (by simp) ?_
    refine AllReadyH.cons (o := Oper.mk _ _ _ _ _ _) rfl (fun KK hKK => ?_) (AllReadyH.cons (o := Oper.mk _ _ _ _ _ _) rfl (fun KK hKK => ?_) (AllReadyH.nil))
    · rw [if_pos (by kernel_rfl)]
      go_simp
      refine (c1'.out _).mono ?_
      rintro e w4 ⟨rfl, hB4⟩
      replace hd := hd.trans (hB4.mono hd.size)
      (try replace f0 := gfrozen (bgrow hB4 none) n0 f0 (by simp))
      (try replace f1 := gfrozen (bgrow hB4 none) n1 f1 (by simp))
      (try replace f2 := gfrozen (bgrow hB4 none) n2 f2 (by simp))
      (try replace f3 := gfrozen (bgrow hB4 none) n3 f3 (by simp))
      (try replace n0 := bkeep hB4 n0)
      (try replace n1 := bkeep hB4 n1)
      (try replace n2 := bkeep hB4 n2)
      (try replace n3 := bkeep hB4 n3)
      try dsimp only
      refine hKK.out _ _ (by (try dsimp only); (first | exact ⟨hd, at''.out _ hd⟩ | exact ⟨hdp.alloc hdp.size _, at''.out _ (hdp.alloc hdp.size _)⟩ | exact ⟨below_set4 hd hlow ((x0, x1), (y0, y1)), at''.out _ (below_set4 hd hlow ((x0, x1), (y0, y1)))⟩)) (fun hHeld => ?_)
      clear hKK KK
      try simp only [Act.put, lyA, lyB, lyC]
      refine wpAnyH_ready (rs := [9, 11]) (by kernel_rfl) (by simp) ?_
      refine AllReadyH.cons (o := Oper.mk _ _ _ _ _ _) rfl (fun KK hKK => ?_) (AllReadyH.cons (o := Oper.mk _ _ _ _ _ _) rfl (fun KK hKK => ?_) (AllReadyH.nil))
      · rw [if_pos (by kernel_rfl)]
        go_simp
        refine (c2'.out _).mono ?_
        rintro e w9 ⟨rfl, hB9⟩
        replace hd := hd.trans (hB9.mono hd.size)
        (try replace f0 := gfrozen (bgrow hB9 none) n0 f0 (by simp))
        (try replace f1 := gfrozen (bgrow hB9 none) n1 f1 (by simp))
        (try replace f2 := gfrozen (bgrow hB9 none) n2 f2 (by simp))
        (try replace f3 := gfrozen (bgrow hB9 none) n3 f3 (by simp))
        (try replace n0 := bkeep hB9 n0)
        (try replace n1 := bkeep hB9 n1)
        (try replace n2 := bkeep hB9 n2)
        (try replace n3 := bkeep hB9 n3)
        try dsimp only
        refine hKK.out _ _ (by (try dsimp only); (first | exact ⟨hd, at''.out _ hd⟩ | exact ⟨hdp.alloc hdp.size _, at''.out _ (hdp.alloc hdp.size _)⟩ | exact ⟨below_set4 hd hlow ((x0, x1), (y0, y1)), at''.out _ (below_set4 hd hlow ((x0, x1), (y0, y1)))⟩)) (fun hHeld => ?_)
        clear hKK KK
        try simp only [Act.put, lyA, lyB, lyC]
        refine ly_q 10 (v := ?_) hHeld ?_
        try simp only [Act.put, lyA, lyB, lyC]
        refine ly_a 11 (fun KK hKK => ?_)
        go_simp
        have hdp := hd
        have hlow := hd.size
        replace hd := hd.alloc hd.size (.cells #[.int .i64 0, .int .i64 0, .int .i64 0, .int .i64 0] 44)
        obtain ⟨⟨n0, n1, n2, n3⟩, f0, f1, f2, f3⟩ := new_cells4 hd
        (try change World.cell? _ ⟨w1.heap.size, 0, none⟩ = _ at n0)
        (try change World.cell? _ ⟨w1.heap.size, 1, none⟩ = _ at n1)
        (try change World.cell? _ ⟨w1.heap.size, 2, none⟩ = _ at n2)
        (try change World.cell? _ ⟨w1.heap.size, 3, none⟩ = _ at n3)
        (try change World.frozen? _ ⟨w1.heap.size, 0, none⟩ = _ at f0)
        (try change World.frozen? _ ⟨w1.heap.size, 1, none⟩ = _ at f1)
        (try change World.frozen? _ ⟨w1.heap.size, 2, none⟩ = _ at f2)
        (try change World.frozen? _ ⟨w1.heap.size, 3, none⟩ = _ at f3)
        try dsimp only
        refine hKK.out _ _ (by (try dsimp only); (first | exact ⟨hd, at''.out _ hd⟩ | exact ⟨hdp.alloc hdp.size _, at''.out _ (hdp.alloc hdp.size _)⟩ | exact ⟨below_set4 hd hlow ((x0, x1), (y0, y1)), at''.out _ (below_set4 hd hlow ((x0, x1), (y0, y1)))⟩)) (fun hHeld => ?_)
        clear hKK KK
        try simp only [Act.put, lyA, lyB, lyC]
        refine ly_a 12 (fun KK hKK => ?_)
        go_simp
        skip
        try dsimp only
        refine hKK.out _ _ (by (try dsimp only); (first | exact ⟨hd, at''.out _ hd⟩ | exact ⟨hdp.alloc hdp.size _, at''.out _ (hdp.alloc hdp.size _)⟩ | exact ⟨below_set4 hd hlow ((x0, x1), (y0, y1)), at''.out _ (below_set4 hd hlow ((x0, x1), (y0, y1)))⟩)) (fun hHeld => ?_)
        clear hKK KK
        try simp only [Act.put, lyA, lyB, lyC]
        refine wpAnyH_done (by kernel_rfl) ?_ _
        obtain ⟨hdV, _⟩ := hHeld
        go_wp2
        go_meet
        exact ⟨_, rfl, hlow, hdV, by first | (refine ⟨?_, ?_, ?_, ?_⟩ <;> simp [go_sem]; done) | (refine ⟨?_, ?_, ?_, ?_⟩ <;> simp [go_sem, n0, n1, n2, n3])⟩
      · rw [if_pos (by kernel_rfl)]
        go_simp
        have hdp := hd
        have hlow := hd.size
        replace hd := hd.alloc hd.size (.cells #[.int .i64 0, .int .i64 0, .int .i64 0, .int .i64 0] 44)
        obtain ⟨⟨n0, n1, n2, n3⟩, f0, f1, f2, f3⟩ := new_cells4 hd
        (try change World.cell? _ ⟨w1.heap.size, 0, none⟩ = _ at n0)
        (try change World.cell? _ ⟨w1.heap.size, 1, none⟩ = _ at n1)
        (try change World.cell? _ ⟨w1.heap.size, 2, none⟩ = _ at n2)
        (try change World.cell? _ ⟨w1.heap.size, 3, none⟩ = _ at n3)
        (try change World.frozen? _ ⟨w1.heap.size, 0, none⟩ = _ at f0)
        (try change World.frozen? _ ⟨w1.heap.size, 1, none⟩ = _ at f1)
        (try change World.frozen? _ ⟨w1.heap.size, 2, none⟩ = _ at f2)
        (try change World.frozen? _ ⟨w1.heap.size, 3, none⟩ = _ at f3)
        try dsimp only
        refine hKK.out _ _ (by (try dsimp only); (first | exact ⟨hd, at''.out _ hd⟩ | exact ⟨hdp.alloc hdp.size _, at''.out _ (hdp.alloc hdp.size _)⟩ | exact ⟨below_set4 hd hlow ((x0, x1), (y0, y1)), at''.out _ (below_set4 hd hlow ((x0, x1), (y0, y1)))⟩)) (fun hHeld => ?_)
        clear hKK KK
        try simp only [Act.put, lyA, lyB, lyC]
        refine ly_a 9 (fun KK hKK => ?_)
        go_simp
        refine (c2'.out _).mono ?_
        rintro e w9 ⟨rfl, hB9⟩
        replace hd := hd.trans (hB9.mono hd.size)
        (try replace f0 := gfrozen (bgrow hB9 none) n0 f0 (by simp))
        (try replace f1 := gfrozen (bgrow hB9 none) n1 f1 (by simp))
        (try replace f2 := gfrozen (bgrow hB9 none) n2 f2 (by simp))
        (try replace f3 := gfrozen (bgrow hB9 none) n3 f3 (by simp))
        (try replace n0 := bkeep hB9 n0)
        (try replace n1 := bkeep hB9 n1)
        (try replace n2 := bkeep hB9 n2)
        (try replace n3 := bkeep hB9 n3)
        try dsimp only
        refine hKK.out _ _ (by (try dsimp only); (first | exact ⟨hd, at''.out _ hd⟩ | exact ⟨hdp.alloc hdp.size _, at''.out _ (hdp.alloc hdp.size _)⟩ | exact ⟨below_set4 hd hlow ((x0, x1), (y0, y1)), at''.out _ (below_set4 hd hlow ((x0, x1), (y0, y1)))⟩)) (fun hHeld => ?_)
        clear hKK KK
        try simp only [Act.put, lyA, lyB, lyC]
        refine ly_q 10 (v := ?_) hHeld ?_
        try simp only [Act.put, lyA, lyB, lyC]
        refine ly_a 12 (fun KK hKK => ?_)
        go_simp
        skip
        try dsimp only
        refine hKK.out _ _ (by (try dsimp only); (first | exact ⟨hd, at''.out _ hd⟩ | exact ⟨hdp.alloc hdp.size _, at''.out _ (hdp.alloc hdp.size _)⟩ | exact ⟨below_set4 hd hlow ((x0, x1), (y0, y1)), at''.out _ (below_set4 hd hlow ((x0, x1), (y0, y1)))⟩)) (fun hHeld => ?_)
        clear hKK KK
        try simp only [Act.put, lyA, lyB, lyC]
        refine wpAnyH_done (by kernel_rfl) ?_ _
        obtain ⟨hdV, _⟩ := hHeld
        go_wp2
        go_meet
        exact ⟨_, rfl, hlow, hdV, by first | (refine ⟨?_, ?_, ?_, ?_⟩ <;> simp [go_sem]; done) | (refine ⟨?_, ?_, ?_, ?_⟩ <;> simp [go_sem, n0, n1, n2, n3])⟩
    · rw [if_pos (by kernel_rfl)]
      go_simp
      have hdp := hd
      have hlow := hd.size
      replace hd := hd.alloc hd.size (.cells #[.int .i64 0, .int .i64 0, .int .i64 0, .int .i64 0] 44)
      obtain ⟨⟨n0, n1, n2, n3⟩, f0, f1, f2, f3⟩ := new_cells4 hd
      (try change World.cell? _ ⟨w1.heap.size, 0, none⟩ = _ at n0)
      (try change World.cell? _ ⟨w1.heap.size, 1, none⟩ = _ at n1)
      (try change World.cell? _ ⟨w1.heap.size, 2, none⟩ = _ at n2)
      (try change World.cell? _ ⟨w1.heap.size, 3, none⟩ = _ at n3)
      (try change World.frozen? _ ⟨w1.heap.size, 0, none⟩ = _ at f0)
      (try change World.frozen? _ ⟨w1.heap.size, 1, none⟩ = _ at f1)
      (try change World.frozen? _ ⟨w1.heap.size, 2, none⟩ = _ at f2)
      (try change World.frozen? _ ⟨w1.heap.size, 3, none⟩ = _ at f3)
      try dsimp only
      refine hKK.out _ _ (by (try dsimp only); (first | exact ⟨hd, at''.out _ hd⟩ | exact ⟨hdp.alloc hdp.size _, at''.out _ (hdp.alloc hdp.size _)⟩ | exact ⟨below_set4 hd hlow ((x0, x1), (y0, y1)), at''.out _ (below_set4 hd hlow ((x0, x1), (y0, y1)))⟩)) (fun hHeld => ?_)
      clear hKK KK
      try simp only [Act.put, lyA, lyB, lyC]
      refine ly_a 4 (fun KK hKK => ?_)
      go_simp
      refine (c1'.out _).mono ?_
      rintro e w4 ⟨rfl, hB4⟩
      replace hd := hd.trans (hB4.mono hd.size)
      (try replace f0 := gfrozen (bgrow hB4 none) n0 f0 (by simp))
      (try replace f1 := gfrozen (bgrow hB4 none) n1 f1 (by simp))
      (try replace f2 := gfrozen (bgrow hB4 none) n2 f2 (by simp))
      (try replace f3 := gfrozen (bgrow hB4 none) n3 f3 (by simp))
      (try replace n0 := bkeep hB4 n0)
      (try replace n1 := bkeep hB4 n1)
      (try replace n2 := bkeep hB4 n2)
      (try replace n3 := bkeep hB4 n3)
      try dsimp only
      refine hKK.out _ _ (by (try dsimp only); (first | exact ⟨hd, at''.out _ hd⟩ | exact ⟨hdp.alloc hdp.size _, at''.out _ (hdp.alloc hdp.size _)⟩ | exact ⟨below_set4 hd hlow ((x0, x1), (y0, y1)), at''.out _ (below_set4 hd hlow ((x0, x1), (y0, y1)))⟩)) (fun hHeld => ?_)
      clear hKK KK
      try simp only [Act.put, lyA, lyB, lyC]
      refine ly_a 9 (fun KK hKK => ?_)
      go_simp
      refine (c2'.out _).mono ?_
      rintro e w9 ⟨rfl, hB9⟩
      replace hd := hd.trans (hB9.mono hd.size)
      (try replace f0 := gfrozen (bgrow hB9 none) n0 f0 (by simp))
      (try replace f1 := gfrozen (bgrow hB9 none) n1 f1 (by simp))
      (try replace f2 := gfrozen (bgrow hB9 none) n2 f2 (by simp))
      (try replace f3 := gfrozen (bgrow hB9 none) n3 f3 (by simp))
      (try replace n0 := bkeep hB9 n0)
      (try replace n1 := bkeep hB9 n1)
      (try replace n2 := bkeep hB9 n2)
      (try replace n3 := bkeep hB9 n3)
      try dsimp only
      refine hKK.out _ _ (by (try dsimp only); (first | exact ⟨hd, at''.out _ hd⟩ | exact ⟨hdp.alloc hdp.size _, at''.out _ (hdp.alloc hdp.size _)⟩ | exact ⟨below_set4 hd hlow ((x0, x1), (y0, y1)), at''.out _ (below_set4 hd hlow ((x0, x1), (y0, y1)))⟩)) (fun hHeld => ?_)
      clear hKK KK
      try simp only [Act.put, lyA, lyB, lyC]
      refine ly_q 10 (v := ?_) hHeld ?_
      try simp only [Act.put, lyA, lyB, lyC]
      refine ly_a 12 (fun KK hKK => ?_)
      go_simp
      skip
      try dsimp only
      refine hKK.out _ _ (by (try dsimp only); (first | exact ⟨hd, at''.out _ hd⟩ | exact ⟨hdp.alloc hdp.size _, at''.out _ (hdp.alloc hdp.size _)⟩ | exact ⟨below_set4 hd hlow ((x0, x1), (y0, y1)), at''.out _ (below_set4 hd hlow ((x0, x1), (y0, y1)))⟩)) (fun hHeld => ?_)
      clear hKK KK
      try simp only [Act.put, lyA, lyB, lyC]
      refine wpAnyH_done (by kernel_rfl) ?_ _
      obtain ⟨hdV, _⟩ := hHeld
      go_wp2
      go_meet
      exact ⟨_, rfl, hlow, hdV, by first | (refine ⟨?_, ?_, ?_, ?_⟩ <;> simp [go_sem]; done) | (refine ⟨?_, ?_, ?_, ?_⟩ <;> simp [go_sem, n0, n1, n2, n3])⟩
  case rest =>
  obtain ⟨bx, rfl, hbx, hBx, z0, z1, z2, z3⟩ := hcut
  simp only at z0 z1 z2 z3
  have hb2 := hB1.trans (hBx.mono hB1.size)
  have xr2 := xr'.out.grown (bgrow hBx none) (by simp)
  clear xr' hBx hB1 hd at''
  have hb2' := Lib.hid hb2
  have xr2' := Lib.hid xr2
  clear hb2 xr2
  go_wp2_with fail
  refine (c3'.out _).mono ?_
  rintro e w5 ⟨rfl, hB5⟩
  have hb5 := hb2'.out.trans (hB5.mono hb2'.out.size)
  have xr5 := xr2'.out.grown (bgrow hB5 none) (by simp)
  obtain ⟨⟨n0, n1, n2, n3⟩, f0, f1, f2, f3⟩ := id xr5
  replace z0 := bkeep hB5 z0
  replace z1 := bkeep hB5 z1
  replace z2 := bkeep hB5 z2
  replace z3 := bkeep hB5 z3
  have hf0 := below_set4 hb5 hrbl ((0, 0), (0, 0))
  have hf1 := below_set4 hb5 hrbl ((x0, x1), (y0, y1))
  clear hB5 xr5 xr2' hb2' c1' c2' c3' hw1' hb5
  have hf0' := Lib.hid hf0
  have hf1' := Lib.hid hf1
  clear hf0 hf1
  cases M
  · go_wp2
    exact bodyPost_ret (v := .tuple #[quadV ((0, 0), (0, 0)), .bool false]) (by simp [results, Tryz.results73, go_sem, n0, n1, n2, n3, quadV]) rfl ⟨_, rfl, hf0'.out⟩
  · go_wp2
    exact bodyPost_ret (v := .tuple #[quadV ((x0, x1), (y0, y1)), .bool true]) (by simp [results, Tryz.results73, go_sem, n0, n1, n2, n3, quadV]) rfl ⟨_, rfl, hf1'.out⟩

set_option linter.unusedSimpArgs false in
set_option maxHeartbeats 4000000 in
theorem minFunc_any (v : Value) (xs : List (Int × Int)) (w : World) (hv : RatsV w v xs) (hn : 0 < xs.length) (hm : xs.length ≤ 1099511627776) (hg : ∀ x, x ∈ xs → goodR x.1 x.2 = true) :
    Calls Tryz.prog 75 #[v, .func (.func 76) #[] #[]] w (Ret (ratV (minL xs)) w) := by
  have hst := fun (k : Nat) (h0 : 0 < k) (h : k < xs.length) => minL_take (l := xs) h0 h
  have h1 : minL (xs.take 1) = nthR xs 0 := by
    match xs with
    | [] => simp at hn
    | a :: t => rfl
  have hall : minL (xs.take xs.length) = minL xs := by rw [List.take_length]
  have hgn : ∀ k, k < xs.length → goodR (nthR xs k).1 (nthR xs k).2 = true := fun k hk => hg _ (by rw [nthR_eq hk]; exact List.getElem_mem _)
  have hgm : ∀ k, 0 < k → k ≤ xs.length → goodR (minL (xs.take k)).1 (minL (xs.take k)).2 = true := fun k h0 hk => by
    have hne : xs.take k ≠ [] := fun e => by
      have := congrArg List.length e
      rw [List.length_take, List.length_nil] at this
      omega
    exact hg _ (List.mem_of_mem_take (minL_mem _ hne))
  obtain ⟨ao, cap, rfl, _, _, H⟩ := hv.form
  obtain ⟨b, off, rfl, c0, c1⟩ := H 0 hn
  have hbl : b < w.heap.size := World.block_lt_of_cell? _ _ c0
  have hX : ∀ k, k < xs.length → ∀ w', Below w.heap.size w w' → w'.cell? ⟨b, off + k * 2, none⟩ = some (.int .i64 (nthR xs k).1) ∧ w'.cell? ⟨b, off + k * 2 + 1, none⟩ = some (.int .i64 (nthR xs k).2) := fun k hk w' hB => by
    obtain ⟨_, _, e, d0, d1⟩ := H k hk
    cases e
    exact ⟨bkeep hB d0, bkeep hB d1⟩
  obtain ⟨n, hn'⟩ : ∃ n, xs.length = n := ⟨_, rfl⟩
  rw [hn'] at hn hm hst hall hgn hgm hX ⊢
  obtain ⟨R, hR⟩ : ∃ R, minL xs = R := ⟨_, rfl⟩
  rw [hR] at hall ⊢
  obtain ⟨MN, hMN⟩ : ∃ M : Nat → Int × Int, ∀ k, minL (xs.take k) = M k := ⟨_, fun _ => rfl⟩
  simp only [hMN] at hst h1 hall hgm
  rw [← h1, Nat.zero_mul, Nat.add_zero] at c0 c1
  generalize hm0 : MN 1 = M0 at *
  obtain ⟨m00, m01⟩ := M0
  simp only at c0 c1
  have hB2 := ((Below.refl w.heap.size w).alloc (Nat.le_refl _) (.cells #[.int .i64 0, .int .i64 0] 42)).alloc (by simp) (.cells #[.int .i64 m00, .int .i64 m01] 42)
  obtain ⟨w2, hw2⟩ : ∃ W, (w.alloc (.cells #[.int .i64 0, .int .i64 0] 42)).alloc (.cells #[.int .i64 m00, .int .i64 m01] 42) = W := ⟨_, rfl⟩
  rw [hw2] at hB2
  have xr : BoxV w2 w.heap.size (0, 0) := by rw [← hw2]; refine ⟨⟨?_, ?_⟩, ?_, ?_⟩ <;> simp [go_sem]
  have xm : BoxV w2 (w.heap.size + 1) (MN 1) := by rw [hm0, ← hw2]; refine ⟨⟨?_, ?_⟩, ?_, ?_⟩ <;> simp [go_sem]
  obtain ⟨bx, hbx⟩ : ∃ b, w.heap.size + 1 = b := ⟨_, rfl⟩
  rw [hbx] at xm
  have hbx1 : b ≠ bx ∧ w.heap.size ≠ bx ∧ w.heap.size ≤ bx := by omega
  have g0 : ¬ (n : Int) < 1 := by omega
  have g1 : (0 : Int) < (n : Int) := by omega
  clear hv H hg
  have hst' := Lib.hid hst
  have hall' := Lib.hid hall
  have hgn' := Lib.hid hgn
  have hgm' := Lib.hid hgm
  have hX' := Lib.hid hX
  have hw2' := Lib.hid hw2
  have xr' := Lib.hid xr
  have xm' := Lib.hid xm
  have hm0' := Lib.hid hm0
  have hR' := Lib.hid hR
  have hMN' := Lib.hid hMN
  have h1' := Lib.hid h1
  have hn'' := Lib.hid hn'
  clear hst hall hgn hgm hX hw2 xr xm hm0 hR hMN h1 hn'
  go_enter Tryz.func75, Tryz.ntmps75
  go_wp2
  rw [hw2'.out]
  clear c0 c1
  go_loopw [6] (fun i W => ∃ k : Nat, 0 < k ∧ k ≤ n ∧ i = .int .i64 k ∧ Below w.heap.size w W ∧ BoxV W w.heap.size (0, 0) ∧ BoxV W bx (MN k)) (fun i _ => n - (intOf i).toNat)
  case atStart => exact ⟨1, by omega, by omega, rfl, hB2, xr'.out, xm'.out⟩
  case round =>
    obtain ⟨k, hk0, hk, rfl, hB, xr, xm⟩ := hrel
    by_cases hlt : k < n
    · have hst1 := hst'.out k hk0 hlt
      have cc := fun w' => compare_any (nthR xs k).1 (nthR xs k).2 (MN k).1 (MN k).2 w' (good_bd (hgn'.out k hlt)) (good_bd (hgm'.out k hk0 hk))
      have hdec := cmpN_lt (nthR xs k).1 (nthR xs k).2 (MN k).1 (MN k).2
      unfold minS at hst1
      rw [← hdec] at hst1
      generalize cmpN (nthR xs k).1 (nthR xs k).2 (MN k).1 (MN k).2 = C at cc hst1 hdec
      obtain ⟨a0, a1⟩ := hX'.out k hlt wr hB
      obtain ⟨X, hXe⟩ : ∃ X, nthR xs k = X := ⟨_, rfl⟩
      obtain ⟨M, hMe⟩ : ∃ M, MN k = M := ⟨_, rfl⟩
      rw [hXe] at cc hst1 a0 a1
      rw [hMe] at cc hst1 xm
      obtain ⟨x0, x1⟩ := X
      obtain ⟨m0, m1⟩ := M
      obtain ⟨⟨b0, b1⟩, fb0, fb1⟩ := id xm
      simp only at cc hst1 a0 a1 b0 b1
      have g2 : (0 : Int) ≤ (k : Int) := by omega
      have g3 : (k : Int) < (n : Int) := by omega
      have g4 : IntKind.i64.wrap ((k : Int) + 1) = (k : Int) + 1 := by rw [IntKind.wrap_i64]; omega
      have hd : Below wr.heap.size wr wr.drew := (Below.refl _ _).drew
      have at' : ∀ w', Below wr.heap.size wr w' → (w'.cell? ⟨b, off + k * 2, none⟩ = some (.int .i64 x0) ∧ w'.cell? ⟨b, off + k * 2 + 1, none⟩ = some (.int .i64 x1)) ∧ w'.cell? ⟨bx, 0, none⟩ = some (.int .i64 m0) ∧ w'.cell? ⟨bx, 1, none⟩ = some (.int .i64 m1) := fun w' h => ⟨⟨bkeep h a0, bkeep h a1⟩, bkeep h b0, bkeep h b1⟩
      clear a0 a1 b0 b1 fb0 fb1 hdec
      have hst1' := Lib.hid hst1
      have cc' := Lib.hid cc
      have hXe' := Lib.hid hXe
      have hMe' := Lib.hid hMe
      have at'' := Lib.hid at'
      have xr' := Lib.hid xr
      have xm' := Lib.hid xm
      have hB' := Lib.hid hB
      clear hst1 cc hXe hMe at' xr xm hB
      by_cases hc : C < 0
      · have hM1 : MN (k + 1) = (x0, x1) := by rw [hst1'.out, if_pos (decide_eq_true hc)]
        go_wp2_with fail
        refine wp_region_held_drew (S := (fun w' => (w'.cell? ⟨b, off + k * 2, none⟩ = some (.int .i64 x0) ∧ w'.cell? ⟨b, off + k * 2 + 1, none⟩ = some (.int .i64 x1)) ∧ w'.cell? ⟨bx, 0, none⟩ = some (.int .i64 m0) ∧ w'.cell? ⟨bx, 1, none⟩ = some (.int .i64 m1))) (by kernel_rfl) (by (try dsimp only); (first | exact at''.out _ hd | exact at''.out _ hd2)) (fun hHeld => ?_)
        refine ly_q 0 (v := ?_) hHeld ?_
        try simp only [Act.put, lyA, lyB, lyC]
        refine ly_q 1 (v := ?_) hHeld ?_
        try simp only [Act.put, lyA, lyB, lyC]
        refine ly_q 2 (v := ?_) hHeld ?_
        try simp only [Act.put, lyA, lyB, lyC]
        refine ly_q 3 (v := ?_) hHeld ?_
        try simp only [Act.put, lyA, lyB, lyC]
        refine ly_q 4 (v := ?_) hHeld ?_
        try simp only [Act.put, lyA, lyB, lyC]
        refine ly_q 5 (v := ?_) hHeld ?_
        try simp only [Act.put, lyA, lyB, lyC]
        refine ly_a 6 (fun KK hKK => ?_)
        go_simp
        refine (cc'.out _).mono ?_
        rintro e w5 ⟨rfl, hB5⟩
        have hd2 := hd.trans (hB5.mono hd.size)
        try dsimp only
        refine hKK.out _ _ (by (try dsimp only); (first | exact at''.out _ hd | exact at''.out _ hd2)) (fun hHeld => ?_)
        clear hKK KK
        try simp only [Act.put, lyA, lyB, lyC]
        refine ly_q 7 (v := .bool true) (hy := by intro wS hSw; (try dsimp only at hSw); go_simp; all_goals (simp [hc])) hHeld ?_
        try simp only [Act.put, lyA, lyB, lyC]
        refine wpAnyH_done (by kernel_rfl) ?_ _
        clear hHeld
        obtain ⟨⟨a0, a1⟩, _⟩ := at''.out _ hd2
        have xm5 := xm'.out.below hd2
        have xr5 := xr'.out.below hd2
        obtain ⟨⟨b0, b1⟩, fb0, fb1⟩ := id xm5
        have hb5 := hB'.out.trans (hd2.mono hB'.out.size)
        have hbs := (hb5.setCell (p := ⟨bx, 0, none⟩) hbx1.2.2 (.int .i64 x0)).setCell (p := ⟨bx, 1, none⟩) hbx1.2.2 (.int .i64 x1)
        have xms : BoxV ((w5.setCell ⟨bx, 0, none⟩ (.int .i64 x0)).setCell ⟨bx, 1, none⟩ (.int .i64 x1)) bx (MN (k + 1)) := by
          rw [hM1]
          exact ⟨⟨by simp [go_sem, b0], by simp [go_sem, b1]⟩, by simp [go_sem, fb0], by simp [go_sem, fb1]⟩
        have xrs : BoxV ((w5.setCell ⟨bx, 0, none⟩ (.int .i64 x0)).setCell ⟨bx, 1, none⟩ (.int .i64 x1)) w.heap.size (0, 0) :=
          (xr5.grown (grownBy_setCell_some _ bx 0 _) (fun e => hbx1.2.1 (Option.some.inj e).symm)).grown (grownBy_setCell_some _ bx 1 _) (fun e => hbx1.2.1 (Option.some.inj e).symm)
        clear xm5 xr5 hM1 hd hd2 hb5
        have hbs' := Lib.hid hbs
        have xms' := Lib.hid xms
        have xrs' := Lib.hid xrs
        clear hbs xms xrs
        go_wp2
        go_roundw
        case rel => exact ⟨k + 1, by omega, by omega, by go_num, hbs'.out, xrs'.out, xms'.out⟩
        case measure => simp [intOf]; omega
      · have hM1 : MN (k + 1) = (m0, m1) := by rw [hst1'.out, if_neg (by rw [decide_eq_false hc]; decide)]
        go_wp2_with fail
        refine wp_region_held_drew (S := (fun w' => (w'.cell? ⟨b, off + k * 2, none⟩ = some (.int .i64 x0) ∧ w'.cell? ⟨b, off + k * 2 + 1, none⟩ = some (.int .i64 x1)) ∧ w'.cell? ⟨bx, 0, none⟩ = some (.int .i64 m0) ∧ w'.cell? ⟨bx, 1, none⟩ = some (.int .i64 m1))) (by kernel_rfl) (by (try dsimp only); (first | exact at''.out _ hd | exact at''.out _ hd2)) (fun hHeld => ?_)
        refine ly_q 0 (v := ?_) hHeld ?_
        try simp only [Act.put, lyA, lyB, lyC]
        refine ly_q 1 (v := ?_) hHeld ?_
        try simp only [Act.put, lyA, lyB, lyC]
        refine ly_q 2 (v := ?_) hHeld ?_
        try simp only [Act.put, lyA, lyB, lyC]
        refine ly_q 3 (v := ?_) hHeld ?_
        try simp only [Act.put, lyA, lyB, lyC]
        refine ly_q 4 (v := ?_) hHeld ?_
        try simp only [Act.put, lyA, lyB, lyC]
        refine ly_q 5 (v := ?_) hHeld ?_
        try simp only [Act.put, lyA, lyB, lyC]
        refine ly_a 6 (fun KK hKK => ?_)
        go_simp
        refine (cc'.out _).mono ?_
        rintro e w5 ⟨rfl, hB5⟩
        have hd2 := hd.trans (hB5.mono hd.size)
        try dsimp only
        refine hKK.out _ _ (by (try dsimp only); (first | exact at''.out _ hd | exact at''.out _ hd2)) (fun hHeld => ?_)
        clear hKK KK
        try simp only [Act.put, lyA, lyB, lyC]
        refine ly_q 7 (v := .bool false) (hy := by intro wS hSw; (try dsimp only at hSw); go_simp; all_goals (simp [hc])) hHeld ?_
        try simp only [Act.put, lyA, lyB, lyC]
        refine wpAnyH_done (by kernel_rfl) ?_ _
        clear hHeld
        have xm5 := xm'.out.below hd2
        have xr5 := xr'.out.below hd2
        rw [← hM1] at xm5
        have hb5 := hB'.out.trans (hd2.mono hB'.out.size)
        clear hM1 hd hd2
        have hb5' := Lib.hid hb5
        have xm5' := Lib.hid xm5
        have xr5' := Lib.hid xr5
        clear hb5 xm5 xr5
        go_wp2
        go_roundw
        case rel => exact ⟨k + 1, by omega, by omega, by go_num, hb5'.out, xr5'.out, xm5'.out⟩
        case measure => simp [intOf]; omega
    · obtain rfl : k = n := by omega
      rw [hall'.out] at xm
      obtain ⟨r0, r1⟩ := R
      obtain ⟨⟨b0, b1⟩, fb0, fb1⟩ := id xm
      obtain ⟨⟨a0, a1⟩, fa0, fa1⟩ := id xr
      have hbs := (hB.setCell (p := ⟨w.heap.size, 0, none⟩) (Nat.le_refl _) (.int .i64 r0)).setCell (p := ⟨w.heap.size, 1, none⟩) (Nat.le_refl _) (.int .i64 r1)
      clear xm xr hB
      have hbs' := Lib.hid hbs
      clear hbs
      go_wp2
      exact bodyPost_ret (v := ratV (r0, r1)) (by simp [results, Tryz.results75, go_sem, a0, a1, ratV]) rfl ⟨rfl, hbs'.out⟩
end Go.Proofs.YtfhhofecfllbfaaGreat

/- Pieces and values of a map: the reference's. No conditions but valid maps. -/
import Derived.Test.YtfcanpebagpdbaaImOn
namespace Go.Proofs.Ytfcanpebagpdbaa
open Go.RowKit

/-- The value at x, as the reference tells it. -/
def atR (f : List Quad) (x : Int × Int) : (Int × Int) × Bool := onR (nth4 f (pieceN f x)) (nth4 f (pieceN f x + 1)) x
theorem atR_eq (f : List Quad) (x : Int × Int) : atR f x = if atOk f x = true then (atZ f x, true) else ((0, 0), false) := rfl
theorem atR_ok {f : List Quad} {x : Int × Int} (h : atOk f x = true) : atR f x = (atZ f x, true) := by rw [atR_eq, if_pos h]
theorem atR_bad {f : List Quad} {x : Int × Int} (h : atOk f x = false) : atR f x = ((0, 0), false) := by rw [atR_eq, if_neg (by rw [h]; decide)]

set_option linter.unusedSimpArgs false in
set_option maxHeartbeats 2000000 in
theorem imPiece_any (v : Value) (f : List Quad) (x : Int × Int) (w : World) (hv : QuadV w v f) (hf : MapP f) (hx : goodR x.1 x.2 = true) :
    Calls Try.prog 103 #[v, .agg #[.int .i64 x.1, .int .i64 x.2]] w (Ret (.int .i64 (pieceN f x : Nat)) w) := by
  have hl := hf.len
  obtain ⟨ao, cap, rfl, _, _, H⟩ := hv.form
  have hs : ∀ m k, pieceF f x (m + 1) k = if k + 2 < f.length ∧ ltB (nth4 f (k + 1)).1.1 (nth4 f (k + 1)).1.2 x.1 x.2 = true then pieceF f x m (k + 1) else k := fun m k => rfl
  have h0 : pieceF f x f.length 0 = pieceN f x := rfl
  have hz : ∀ k, pieceF f x 0 k = k := fun k => rfl
  have cc := fun (w : World) k (hk : k < f.length) => raCmp_any (nth4 f k).1.1 (nth4 f k).1.2 x.1 x.2 w (good_bd (unitR_good (coordR_unit (hf.coord k hk).1))) (good_bd hx)
  have hcl := fun k => cmpN_lt (nth4 f k).1.1 (nth4 f k).1.2 x.1 x.2
  generalize pieceN f x = P at *
  generalize pieceF f x = F at *
  obtain ⟨n, hn⟩ : ∃ n, f.length = n := ⟨_, rfl⟩
  rw [hn] at hl hv H h0 cc ⊢
  simp only [hn] at hs
  clear hf hx
  obtain ⟨b, off, e, _⟩ := H 0 (by omega)
  cases e
  obtain ⟨x0, x1⟩ := x
  simp only at cc hcl hs
  show Calls _ _ #[_, .agg #[.int .i64 x0, .int .i64 x1]] w _
  obtain ⟨w1, hw1⟩ : ∃ W, w.alloc (.cells #[.int .i64 x0, .int .i64 x1] 34) = W := ⟨_, rfl⟩
  have hB : Below w.heap.size w w1 := by rw [← hw1]; exact (Below.refl _ _).alloc (Nat.le_refl _) _
  have y0 : w1.cell? ⟨w.heap.size, 0, none⟩ = some (.int .i64 x0) := by rw [← hw1]; simp [go_sem]
  have y1 : w1.cell? ⟨w.heap.size, 1, none⟩ = some (.int .i64 x1) := by rw [← hw1]; simp [go_sem]
  have hs' := Lib.hid hs
  have h0' := Lib.hid h0
  have hz' := Lib.hid hz
  have cc' := Lib.hid cc
  have hcl' := Lib.hid hcl
  have hn' := Lib.hid hn
  have hv' := Lib.hid hv
  have H' := Lib.hid H
  have hw1' := Lib.hid hw1
  have y0' := Lib.hid y0
  have y1' := Lib.hid y1
  clear hs h0 hz cc hcl hn hv H hw1 y0 y1
  go_enter Try.func103, Try.ntmps103
  go_wp2
  rw [hw1'.out]
  go_loopw [5] (fun i wr => ∃ k m : Nat, k + 2 ≤ n ∧ k + m = n ∧ i = .int .i64 k ∧ Below w1.heap.size w1 wr ∧ Hid (F m k = P)) (fun i _ => n - (intOf i).toNat)
  case atStart => exact ⟨0, n, by omega, by omega, rfl, Below.refl _ _, h0'⟩
  case round =>
    obtain ⟨k, m, hk, hkm, rfl, hBr, hI⟩ := hrel
    obtain ⟨m, rfl⟩ : ∃ m', m = m' + 1 := ⟨m - 1, by omega⟩
    have hI2 := hI.out
    rw [hs'.out] at hI2
    have hd := (Below.refl wr.heap.size wr).drew
    have hb1 := hB.trans (hBr.mono hB.size)
    by_cases hlt : k + 2 < n
    · obtain ⟨_, _, e, d0, d1, _⟩ := H'.out (k + 1) (by omega)
      cases e
      have c1 := fun w => cc'.out w (k + 1) (by omega)
      have hcl1 := hcl'.out (k + 1)
      obtain ⟨⟨⟨a, d⟩, _⟩, hq⟩ : ∃ r, nth4 f (k + 1) = r := ⟨_, rfl⟩
      rw [hq] at d0 d1 c1 hcl1 hI2
      simp only at d0 d1 c1 hcl1 hI2
      obtain ⟨j, hj⟩ : ∃ j : Nat, k + 1 = j := ⟨_, rfl⟩
      rw [hj] at d0 d1
      have g1 : IntKind.i64.wrap ((k : Int) + 1) = (j : Int) := by rw [IntKind.wrap_i64]; omega
      have g2 : (0 : Int) ≤ (j : Int) := by omega
      have g3 : (j : Int) < (n : Int) := by omega
      have g4 : IntKind.i64.wrap ((k : Int) + 2) < (n : Int) := by rw [IntKind.wrap_i64]; omega
      have g5 : j < n := by omega
      have g6 : (k : Int) + 2 < (n : Int) := by omega
      have at' : ∀ w', Below wr.heap.size wr w' → (w'.cell? ⟨b, off + j * 4, none⟩ = some (.int .i64 a) ∧ w'.cell? ⟨b, off + j * 4 + 1, none⟩ = some (.int .i64 d)) ∧ w'.cell? ⟨w.heap.size, 0, none⟩ = some (.int .i64 x0) ∧ w'.cell? ⟨w.heap.size, 1, none⟩ = some (.int .i64 x1) := fun w' h => by
        have h1 := hBr.trans (h.mono hBr.size)
        have h2 := hb1.trans (h.mono hb1.size)
        exact ⟨⟨bkeep h2 d0, bkeep h2 d1⟩, bkeep h1 y0'.out, bkeep h1 y1'.out⟩
      generalize ltB a d x0 x1 = L at *
      generalize cmpN a d x0 x1 = C at *
      clear d0 d1
      have at'' := Lib.hid at'
      have c1' := Lib.hid c1
      have hq' := Lib.hid hq
      have hj' := Lib.hid hj
      clear at' c1 hq hj
      cases L
      · have hC : ¬ C < 0 := by simpa using hcl1
        have hP : k = P := by rw [if_neg (by simp)] at hI2; exact hI2
        clear hI2 hI hcl1
        have hP' := Lib.hid hP
        clear hP
        go_wp2_with fail
        refine wp_region_held_drew (S := (fun w' => (w'.cell? ⟨b, off + j * 4, none⟩ = some (.int .i64 a) ∧ w'.cell? ⟨b, off + j * 4 + 1, none⟩ = some (.int .i64 d)) ∧ w'.cell? ⟨w.heap.size, 0, none⟩ = some (.int .i64 x0) ∧ w'.cell? ⟨w.heap.size, 1, none⟩ = some (.int .i64 x1))) (by kernel_rfl) (by (try dsimp only); (first | exact at''.out _ hd | exact at''.out _ hd2)) (fun hHeld => ?_)
        refine wpAnyH_take (i := 0) (oi := Oper.mk _ _ _ _ _ _) (v := ?_) rfl (by kernel_rfl) (by kernel_rfl) (by kernel_rfl) (fun _ _ _ h => h) (Or.inl ⟨by kernel_rfl, ?_⟩) hHeld ?_
        rotate_left
        · (intro wS hSw; (try dsimp only at hSw); go_simp; all_goals (with_reducible rfl))
        try simp only [Act.put, List.setIfInBounds_toArray, List.set_cons_zero, List.set_cons_succ]
        refine wpAnyH_take (i := 1) (oi := Oper.mk _ _ _ _ _ _) (v := ?_) rfl (by kernel_rfl) (by kernel_rfl) (by kernel_rfl) (fun _ _ _ h => h) (Or.inl ⟨by kernel_rfl, ?_⟩) hHeld ?_
        rotate_left
        · (intro wS hSw; (try dsimp only at hSw); go_simp; all_goals (with_reducible rfl))
        try simp only [Act.put, List.setIfInBounds_toArray, List.set_cons_zero, List.set_cons_succ]
        refine wpAnyH_take (i := 2) (oi := Oper.mk _ _ _ _ _ _) (v := ?_) rfl (by kernel_rfl) (by kernel_rfl) (by kernel_rfl) (fun _ _ _ h => h) (Or.inl ⟨by kernel_rfl, ?_⟩) hHeld ?_
        rotate_left
        · (intro wS hSw; (try dsimp only at hSw); go_simp; all_goals (with_reducible rfl))
        try simp only [Act.put, List.setIfInBounds_toArray, List.set_cons_zero, List.set_cons_succ]
        refine wpAnyH_take (i := 3) (oi := Oper.mk _ _ _ _ _ _) (v := ?_) rfl (by kernel_rfl) (by kernel_rfl) (by kernel_rfl) (fun _ _ _ h => h) (Or.inl ⟨by kernel_rfl, ?_⟩) hHeld ?_
        rotate_left
        · (intro wS hSw; (try dsimp only at hSw); go_simp; all_goals (with_reducible rfl))
        try simp only [Act.put, List.setIfInBounds_toArray, List.set_cons_zero, List.set_cons_succ]
        refine wpAnyH_take (i := 4) (oi := Oper.mk _ _ _ _ _ _) (v := ?_) rfl (by kernel_rfl) (by kernel_rfl) (by kernel_rfl) (fun _ _ _ h => h) (Or.inl ⟨by kernel_rfl, ?_⟩) hHeld ?_
        rotate_left
        · (intro wS hSw; (try dsimp only at hSw); go_simp; all_goals (with_reducible rfl))
        try simp only [Act.put, List.setIfInBounds_toArray, List.set_cons_zero, List.set_cons_succ]
        refine wpAnyH_take (i := 5) (oi := Oper.mk _ _ _ _ _ _) (v := ?_) rfl (by kernel_rfl) (by kernel_rfl) (by kernel_rfl) (fun _ _ _ h => h) (Or.inl ⟨by kernel_rfl, ?_⟩) hHeld ?_
        rotate_left
        · (intro wS hSw; (try dsimp only at hSw); go_simp; all_goals (with_reducible rfl))
        try simp only [Act.put, List.setIfInBounds_toArray, List.set_cons_zero, List.set_cons_succ]
        refine wpAnyH_take (i := 6) (oi := Oper.mk _ _ _ _ _ _) (v := ?_) rfl (by kernel_rfl) (by kernel_rfl) (by kernel_rfl) (fun _ _ _ h => h) (Or.inl ⟨by kernel_rfl, ?_⟩) hHeld ?_
        rotate_left
        · (intro wS hSw; (try dsimp only at hSw); go_simp; all_goals (with_reducible rfl))
        try simp only [Act.put, List.setIfInBounds_toArray, List.set_cons_zero, List.set_cons_succ]
        refine wpAnyH_take (i := 7) (oi := Oper.mk _ _ _ _ _ _) (v := ?_) rfl (by kernel_rfl) (by kernel_rfl) (by kernel_rfl) (fun _ _ _ h => h) (Or.inl ⟨by kernel_rfl, ?_⟩) hHeld ?_
        rotate_left
        · (intro wS hSw; (try dsimp only at hSw); go_simp; all_goals (with_reducible rfl))
        try simp only [Act.put, List.setIfInBounds_toArray, List.set_cons_zero, List.set_cons_succ]
        refine wpAnyH_take (i := 8) (oi := Oper.mk _ _ _ _ _ _) (v := ?_) rfl (by kernel_rfl) (by kernel_rfl) (by kernel_rfl) (fun _ _ _ h => h) (Or.inl ⟨by kernel_rfl, ?_⟩) hHeld ?_
        rotate_left
        · (intro wS hSw; (try dsimp only at hSw); go_simp; all_goals (with_reducible rfl))
        try simp only [Act.put, List.setIfInBounds_toArray, List.set_cons_zero, List.set_cons_succ]
        refine wpAnyH_take (i := 9) (oi := Oper.mk _ _ _ _ _ _) (v := ?_) rfl (by kernel_rfl) (by kernel_rfl) (by kernel_rfl) (fun _ _ _ h => h) (Or.inl ⟨by kernel_rfl, ?_⟩) hHeld ?_
        rotate_left
        · (intro wS hSw; (try dsimp only at hSw); go_simp; all_goals (with_reducible rfl))
        try simp only [Act.put, List.setIfInBounds_toArray, List.set_cons_zero, List.set_cons_succ]
        refine wpAnyH_take (i := 10) (oi := Oper.mk _ _ _ _ _ _) (v := ?_) rfl (by kernel_rfl) (by kernel_rfl) (by kernel_rfl) (fun _ _ _ h => h) (Or.inl ⟨by kernel_rfl, ?_⟩) hHeld ?_
        rotate_left
        · (intro wS hSw; (try dsimp only at hSw); go_simp; all_goals (with_reducible rfl))
        try simp only [Act.put, List.setIfInBounds_toArray, List.set_cons_zero, List.set_cons_succ]
        refine wpAnyH_take (i := 11) (oi := Oper.mk _ _ _ _ _ _) (v := ?_) rfl (by kernel_rfl) (by kernel_rfl) (by kernel_rfl) (fun _ _ _ h => h) (Or.inl ⟨by kernel_rfl, ?_⟩) hHeld ?_
        rotate_left
        · (intro wS hSw; (try dsimp only at hSw); go_simp; all_goals (with_reducible rfl))
        try simp only [Act.put, List.setIfInBounds_toArray, List.set_cons_zero, List.set_cons_succ]
        refine wpAnyH_take (i := 12) (oi := Oper.mk _ _ _ _ _ _) (v := ?_) rfl (by kernel_rfl) (by kernel_rfl) (by kernel_rfl) (fun _ _ _ h => h) (Or.inl ⟨by kernel_rfl, ?_⟩) hHeld ?_
        rotate_left
        · (intro wS hSw; (try dsimp only at hSw); go_simp; all_goals (with_reducible rfl))
        try simp only [Act.put, List.setIfInBounds_toArray, List.set_cons_zero, List.set_cons_succ]
        refine wpAnyH_ready (rs := [13]) (by kernel_rfl) (by simp) ?_
        refine AllReadyH.cons (o := Oper.mk _ _ _ _ _ _) rfl (fun KK hKK => ?_) AllReadyH.nil
        rw [if_pos (by kernel_rfl)]
        go_simp
        refine (c1'.out _).mono ?_
        rintro e w2 ⟨rfl, hB2⟩
        have hd2 := hd.trans (hB2.mono hd.size)
        try dsimp only
        refine hKK.out _ _ (by (try dsimp only); (first | exact at''.out _ hd | exact at''.out _ hd2)) (fun hHeld => ?_)
        clear hKK KK
        try simp only [Act.put, List.setIfInBounds_toArray, List.set_cons_zero, List.set_cons_succ]
        refine wpAnyH_take (i := 14) (oi := Oper.mk _ _ _ _ _ _) (v := ?_) rfl (by kernel_rfl) (by kernel_rfl) (by kernel_rfl) (fun _ _ _ h => h) (Or.inl ⟨by kernel_rfl, ?_⟩) hHeld ?_
        rotate_left
        · (intro wS hSw; (try dsimp only at hSw); go_simp; all_goals (with_reducible rfl))
        try simp only [Act.put, List.setIfInBounds_toArray, List.set_cons_zero, List.set_cons_succ]
        refine wpAnyH_take (i := 15) (oi := Oper.mk _ _ _ _ _ _) (v := ?_) rfl (by kernel_rfl) (by kernel_rfl) (by kernel_rfl) (fun _ _ _ h => h) (Or.inl ⟨by kernel_rfl, ?_⟩) hHeld ?_
        rotate_left
        · (intro wS hSw; (try dsimp only at hSw); go_simp; all_goals (with_reducible rfl))
        try simp only [Act.put, List.setIfInBounds_toArray, List.set_cons_zero, List.set_cons_succ]
        refine wpAnyH_done (by kernel_rfl) ?_ _
        have hbf := hb1.trans (hd2.mono hb1.size)
        go_wp2
        go_ret
        exact ⟨by rw [hP'.out]; rfl, hbf⟩
      · have hC : C < 0 := by simpa using hcl1
        have hP : F m (k + 1) = P := by rw [if_pos ⟨hlt, rfl⟩] at hI2; exact hI2
        clear hI2 hI hcl1
        have hP' := Lib.hid hP
        clear hP
        go_wp2_with fail
        refine wp_region_held_drew (S := (fun w' => (w'.cell? ⟨b, off + j * 4, none⟩ = some (.int .i64 a) ∧ w'.cell? ⟨b, off + j * 4 + 1, none⟩ = some (.int .i64 d)) ∧ w'.cell? ⟨w.heap.size, 0, none⟩ = some (.int .i64 x0) ∧ w'.cell? ⟨w.heap.size, 1, none⟩ = some (.int .i64 x1))) (by kernel_rfl) (by (try dsimp only); (first | exact at''.out _ hd | exact at''.out _ hd2)) (fun hHeld => ?_)
        refine wpAnyH_take (i := 0) (oi := Oper.mk _ _ _ _ _ _) (v := ?_) rfl (by kernel_rfl) (by kernel_rfl) (by kernel_rfl) (fun _ _ _ h => h) (Or.inl ⟨by kernel_rfl, ?_⟩) hHeld ?_
        rotate_left
        · (intro wS hSw; (try dsimp only at hSw); go_simp; all_goals (with_reducible rfl))
        try simp only [Act.put, List.setIfInBounds_toArray, List.set_cons_zero, List.set_cons_succ]
        refine wpAnyH_take (i := 1) (oi := Oper.mk _ _ _ _ _ _) (v := ?_) rfl (by kernel_rfl) (by kernel_rfl) (by kernel_rfl) (fun _ _ _ h => h) (Or.inl ⟨by kernel_rfl, ?_⟩) hHeld ?_
        rotate_left
        · (intro wS hSw; (try dsimp only at hSw); go_simp; all_goals (with_reducible rfl))
        try simp only [Act.put, List.setIfInBounds_toArray, List.set_cons_zero, List.set_cons_succ]
        refine wpAnyH_take (i := 2) (oi := Oper.mk _ _ _ _ _ _) (v := ?_) rfl (by kernel_rfl) (by kernel_rfl) (by kernel_rfl) (fun _ _ _ h => h) (Or.inl ⟨by kernel_rfl, ?_⟩) hHeld ?_
        rotate_left
        · (intro wS hSw; (try dsimp only at hSw); go_simp; all_goals (with_reducible rfl))
        try simp only [Act.put, List.setIfInBounds_toArray, List.set_cons_zero, List.set_cons_succ]
        refine wpAnyH_take (i := 3) (oi := Oper.mk _ _ _ _ _ _) (v := ?_) rfl (by kernel_rfl) (by kernel_rfl) (by kernel_rfl) (fun _ _ _ h => h) (Or.inl ⟨by kernel_rfl, ?_⟩) hHeld ?_
        rotate_left
        · (intro wS hSw; (try dsimp only at hSw); go_simp; all_goals (with_reducible rfl))
        try simp only [Act.put, List.setIfInBounds_toArray, List.set_cons_zero, List.set_cons_succ]
        refine wpAnyH_take (i := 4) (oi := Oper.mk _ _ _ _ _ _) (v := ?_) rfl (by kernel_rfl) (by kernel_rfl) (by kernel_rfl) (fun _ _ _ h => h) (Or.inl ⟨by kernel_rfl, ?_⟩) hHeld ?_
        rotate_left
        · (intro wS hSw; (try dsimp only at hSw); go_simp; all_goals (with_reducible rfl))
        try simp only [Act.put, List.setIfInBounds_toArray, List.set_cons_zero, List.set_cons_succ]
        refine wpAnyH_take (i := 5) (oi := Oper.mk _ _ _ _ _ _) (v := ?_) rfl (by kernel_rfl) (by kernel_rfl) (by kernel_rfl) (fun _ _ _ h => h) (Or.inl ⟨by kernel_rfl, ?_⟩) hHeld ?_
        rotate_left
        · (intro wS hSw; (try dsimp only at hSw); go_simp; all_goals (with_reducible rfl))
        try simp only [Act.put, List.setIfInBounds_toArray, List.set_cons_zero, List.set_cons_succ]
        refine wpAnyH_take (i := 6) (oi := Oper.mk _ _ _ _ _ _) (v := ?_) rfl (by kernel_rfl) (by kernel_rfl) (by kernel_rfl) (fun _ _ _ h => h) (Or.inl ⟨by kernel_rfl, ?_⟩) hHeld ?_
        rotate_left
        · (intro wS hSw; (try dsimp only at hSw); go_simp; all_goals (with_reducible rfl))
        try simp only [Act.put, List.setIfInBounds_toArray, List.set_cons_zero, List.set_cons_succ]
        refine wpAnyH_take (i := 7) (oi := Oper.mk _ _ _ _ _ _) (v := ?_) rfl (by kernel_rfl) (by kernel_rfl) (by kernel_rfl) (fun _ _ _ h => h) (Or.inl ⟨by kernel_rfl, ?_⟩) hHeld ?_
        rotate_left
        · (intro wS hSw; (try dsimp only at hSw); go_simp; all_goals (with_reducible rfl))
        try simp only [Act.put, List.setIfInBounds_toArray, List.set_cons_zero, List.set_cons_succ]
        refine wpAnyH_take (i := 8) (oi := Oper.mk _ _ _ _ _ _) (v := ?_) rfl (by kernel_rfl) (by kernel_rfl) (by kernel_rfl) (fun _ _ _ h => h) (Or.inl ⟨by kernel_rfl, ?_⟩) hHeld ?_
        rotate_left
        · (intro wS hSw; (try dsimp only at hSw); go_simp; all_goals (with_reducible rfl))
        try simp only [Act.put, List.setIfInBounds_toArray, List.set_cons_zero, List.set_cons_succ]
        refine wpAnyH_take (i := 9) (oi := Oper.mk _ _ _ _ _ _) (v := ?_) rfl (by kernel_rfl) (by kernel_rfl) (by kernel_rfl) (fun _ _ _ h => h) (Or.inl ⟨by kernel_rfl, ?_⟩) hHeld ?_
        rotate_left
        · (intro wS hSw; (try dsimp only at hSw); go_simp; all_goals (with_reducible rfl))
        try simp only [Act.put, List.setIfInBounds_toArray, List.set_cons_zero, List.set_cons_succ]
        refine wpAnyH_take (i := 10) (oi := Oper.mk _ _ _ _ _ _) (v := ?_) rfl (by kernel_rfl) (by kernel_rfl) (by kernel_rfl) (fun _ _ _ h => h) (Or.inl ⟨by kernel_rfl, ?_⟩) hHeld ?_
        rotate_left
        · (intro wS hSw; (try dsimp only at hSw); go_simp; all_goals (with_reducible rfl))
        try simp only [Act.put, List.setIfInBounds_toArray, List.set_cons_zero, List.set_cons_succ]
        refine wpAnyH_take (i := 11) (oi := Oper.mk _ _ _ _ _ _) (v := ?_) rfl (by kernel_rfl) (by kernel_rfl) (by kernel_rfl) (fun _ _ _ h => h) (Or.inl ⟨by kernel_rfl, ?_⟩) hHeld ?_
        rotate_left
        · (intro wS hSw; (try dsimp only at hSw); go_simp; all_goals (with_reducible rfl))
        try simp only [Act.put, List.setIfInBounds_toArray, List.set_cons_zero, List.set_cons_succ]
        refine wpAnyH_take (i := 12) (oi := Oper.mk _ _ _ _ _ _) (v := ?_) rfl (by kernel_rfl) (by kernel_rfl) (by kernel_rfl) (fun _ _ _ h => h) (Or.inl ⟨by kernel_rfl, ?_⟩) hHeld ?_
        rotate_left
        · (intro wS hSw; (try dsimp only at hSw); go_simp; all_goals (with_reducible rfl))
        try simp only [Act.put, List.setIfInBounds_toArray, List.set_cons_zero, List.set_cons_succ]
        refine wpAnyH_ready (rs := [13]) (by kernel_rfl) (by simp) ?_
        refine AllReadyH.cons (o := Oper.mk _ _ _ _ _ _) rfl (fun KK hKK => ?_) AllReadyH.nil
        rw [if_pos (by kernel_rfl)]
        go_simp
        refine (c1'.out _).mono ?_
        rintro e w2 ⟨rfl, hB2⟩
        have hd2 := hd.trans (hB2.mono hd.size)
        try dsimp only
        refine hKK.out _ _ (by (try dsimp only); (first | exact at''.out _ hd | exact at''.out _ hd2)) (fun hHeld => ?_)
        clear hKK KK
        try simp only [Act.put, List.setIfInBounds_toArray, List.set_cons_zero, List.set_cons_succ]
        refine wpAnyH_take (i := 14) (oi := Oper.mk _ _ _ _ _ _) (v := ?_) rfl (by kernel_rfl) (by kernel_rfl) (by kernel_rfl) (fun _ _ _ h => h) (Or.inl ⟨by kernel_rfl, ?_⟩) hHeld ?_
        rotate_left
        · (intro wS hSw; (try dsimp only at hSw); go_simp; all_goals (with_reducible rfl))
        try simp only [Act.put, List.setIfInBounds_toArray, List.set_cons_zero, List.set_cons_succ]
        refine wpAnyH_take (i := 15) (oi := Oper.mk _ _ _ _ _ _) (v := ?_) rfl (by kernel_rfl) (by kernel_rfl) (by kernel_rfl) (fun _ _ _ h => h) (Or.inl ⟨by kernel_rfl, ?_⟩) hHeld ?_
        rotate_left
        · (intro wS hSw; (try dsimp only at hSw); go_simp; all_goals (with_reducible rfl))
        try simp only [Act.put, List.setIfInBounds_toArray, List.set_cons_zero, List.set_cons_succ]
        refine wpAnyH_done (by kernel_rfl) ?_ _
        have hbf := hBr.trans (hd2.mono hBr.size)
        go_wp2
        go_roundw
        case rel => exact ⟨k + 1, m, by omega, by omega, by rw [hj'.out], hbf, hP'⟩
        case measure => have := hj'.out; simp [intOf]; omega
    · have hP : k = P := by rw [if_neg (fun h => hlt h.1)] at hI2; exact hI2
      have g4 : ¬ IntKind.i64.wrap ((k : Int) + 2) < (n : Int) := by rw [IntKind.wrap_i64]; omega
      have g6 : ¬ (k : Int) + 2 < (n : Int) := by omega
      clear hI2 hI
      have hP' := Lib.hid hP
      clear hP
      go_wp2_with fail
      refine wp_region_held_drew (S := (fun w' => Below wr.heap.size wr w')) (by kernel_rfl) (by (try dsimp only); (first | exact hd)) (fun hHeld => ?_)
      refine wpAnyH_take (i := 0) (oi := Oper.mk _ _ _ _ _ _) (v := ?_) rfl (by kernel_rfl) (by kernel_rfl) (by kernel_rfl) (fun _ _ _ h => h) (Or.inl ⟨by kernel_rfl, ?_⟩) hHeld ?_
      rotate_left
      · (intro wS hSw; (try dsimp only at hSw); go_simp; all_goals (with_reducible rfl))
      try simp only [Act.put, List.setIfInBounds_toArray, List.set_cons_zero, List.set_cons_succ]
      refine wpAnyH_take (i := 1) (oi := Oper.mk _ _ _ _ _ _) (v := ?_) rfl (by kernel_rfl) (by kernel_rfl) (by kernel_rfl) (fun _ _ _ h => h) (Or.inl ⟨by kernel_rfl, ?_⟩) hHeld ?_
      rotate_left
      · (intro wS hSw; (try dsimp only at hSw); go_simp; all_goals (with_reducible rfl))
      try simp only [Act.put, List.setIfInBounds_toArray, List.set_cons_zero, List.set_cons_succ]
      refine wpAnyH_take (i := 2) (oi := Oper.mk _ _ _ _ _ _) (v := ?_) rfl (by kernel_rfl) (by kernel_rfl) (by kernel_rfl) (fun _ _ _ h => h) (Or.inl ⟨by kernel_rfl, ?_⟩) hHeld ?_
      rotate_left
      · (intro wS hSw; (try dsimp only at hSw); go_simp; all_goals (with_reducible rfl))
      try simp only [Act.put, List.setIfInBounds_toArray, List.set_cons_zero, List.set_cons_succ]
      refine wpAnyH_take (i := 3) (oi := Oper.mk _ _ _ _ _ _) (v := ?_) rfl (by kernel_rfl) (by kernel_rfl) (by kernel_rfl) (fun _ _ _ h => h) (Or.inl ⟨by kernel_rfl, ?_⟩) hHeld ?_
      rotate_left
      · (intro wS hSw; (try dsimp only at hSw); go_simp; all_goals (with_reducible rfl))
      try simp only [Act.put, List.setIfInBounds_toArray, List.set_cons_zero, List.set_cons_succ]
      refine wpAnyH_take (i := 4) (oi := Oper.mk _ _ _ _ _ _) (v := .bool false) rfl (by kernel_rfl) (by kernel_rfl) (by kernel_rfl) (fun _ _ _ h => h) (Or.inl ⟨by kernel_rfl, ?_⟩) hHeld ?_
      · (intro wS hSw; (try dsimp only at hSw); go_simp; skip)
      try simp only [Act.put, List.setIfInBounds_toArray, List.set_cons_zero, List.set_cons_succ]
      refine wpAnyH_take (i := 5) (oi := Oper.mk _ _ _ _ _ _) (v := ?_) rfl (by kernel_rfl) (by kernel_rfl) (by kernel_rfl) (fun _ _ _ h => h) (Or.inl ⟨by kernel_rfl, ?_⟩) hHeld ?_
      rotate_left
      · (intro wS hSw; (try dsimp only at hSw); go_simp; all_goals (with_reducible rfl))
      try simp only [Act.put, List.setIfInBounds_toArray, List.set_cons_zero, List.set_cons_succ]
      refine wpAnyH_take (i := 6) (oi := Oper.mk _ _ _ _ _ _) (v := undef) rfl (by kernel_rfl) (by kernel_rfl) (by kernel_rfl) (fun _ _ _ h => h) (Or.inr ⟨by kernel_rfl, rfl⟩) hHeld ?_
      try simp only [Act.put, List.setIfInBounds_toArray, List.set_cons_zero, List.set_cons_succ]
      refine wpAnyH_take (i := 7) (oi := Oper.mk _ _ _ _ _ _) (v := undef) rfl (by kernel_rfl) (by kernel_rfl) (by kernel_rfl) (fun _ _ _ h => h) (Or.inr ⟨by kernel_rfl, rfl⟩) hHeld ?_
      try simp only [Act.put, List.setIfInBounds_toArray, List.set_cons_zero, List.set_cons_succ]
      refine wpAnyH_take (i := 8) (oi := Oper.mk _ _ _ _ _ _) (v := undef) rfl (by kernel_rfl) (by kernel_rfl) (by kernel_rfl) (fun _ _ _ h => h) (Or.inr ⟨by kernel_rfl, rfl⟩) hHeld ?_
      try simp only [Act.put, List.setIfInBounds_toArray, List.set_cons_zero, List.set_cons_succ]
      refine wpAnyH_take (i := 9) (oi := Oper.mk _ _ _ _ _ _) (v := undef) rfl (by kernel_rfl) (by kernel_rfl) (by kernel_rfl) (fun _ _ _ h => h) (Or.inr ⟨by kernel_rfl, rfl⟩) hHeld ?_
      try simp only [Act.put, List.setIfInBounds_toArray, List.set_cons_zero, List.set_cons_succ]
      refine wpAnyH_take (i := 10) (oi := Oper.mk _ _ _ _ _ _) (v := undef) rfl (by kernel_rfl) (by kernel_rfl) (by kernel_rfl) (fun _ _ _ h => h) (Or.inr ⟨by kernel_rfl, rfl⟩) hHeld ?_
      try simp only [Act.put, List.setIfInBounds_toArray, List.set_cons_zero, List.set_cons_succ]
      refine wpAnyH_take (i := 11) (oi := Oper.mk _ _ _ _ _ _) (v := undef) rfl (by kernel_rfl) (by kernel_rfl) (by kernel_rfl) (fun _ _ _ h => h) (Or.inr ⟨by kernel_rfl, rfl⟩) hHeld ?_
      try simp only [Act.put, List.setIfInBounds_toArray, List.set_cons_zero, List.set_cons_succ]
      refine wpAnyH_take (i := 12) (oi := Oper.mk _ _ _ _ _ _) (v := undef) rfl (by kernel_rfl) (by kernel_rfl) (by kernel_rfl) (fun _ _ _ h => h) (Or.inr ⟨by kernel_rfl, rfl⟩) hHeld ?_
      try simp only [Act.put, List.setIfInBounds_toArray, List.set_cons_zero, List.set_cons_succ]
      refine wpAnyH_take (i := 13) (oi := Oper.mk _ _ _ _ _ _) (v := undef) rfl (by kernel_rfl) (by kernel_rfl) (by kernel_rfl) (fun _ _ _ h => h) (Or.inr ⟨by kernel_rfl, rfl⟩) hHeld ?_
      try simp only [Act.put, List.setIfInBounds_toArray, List.set_cons_zero, List.set_cons_succ]
      refine wpAnyH_take (i := 14) (oi := Oper.mk _ _ _ _ _ _) (v := undef) rfl (by kernel_rfl) (by kernel_rfl) (by kernel_rfl) (fun _ _ _ h => h) (Or.inr ⟨by kernel_rfl, rfl⟩) hHeld ?_
      try simp only [Act.put, List.setIfInBounds_toArray, List.set_cons_zero, List.set_cons_succ]
      refine wpAnyH_take (i := 15) (oi := Oper.mk _ _ _ _ _ _) (v := ?_) rfl (by kernel_rfl) (by kernel_rfl) (by kernel_rfl) (fun _ _ _ h => h) (Or.inl ⟨by kernel_rfl, ?_⟩) hHeld ?_
      rotate_left
      · (intro wS hSw; (try dsimp only at hSw); go_simp; all_goals (with_reducible rfl))
      try simp only [Act.put, List.setIfInBounds_toArray, List.set_cons_zero, List.set_cons_succ]
      refine wpAnyH_done (by kernel_rfl) ?_ _
      have hbf := hb1.trans (hd.mono hb1.size)
      go_wp2
      go_ret
      exact ⟨by rw [hP'.out]; rfl, hbf⟩

set_option linter.unusedSimpArgs false in
set_option maxHeartbeats 2000000 in
theorem imAt_any (v : Value) (f : List Quad) (x : Int × Int) (w : World) (hv : QuadV w v f) (hf : MapP f) (hx : unitR x.1 x.2 = true) :
    Calls Try.prog 70 #[v, .agg #[.int .i64 x.1, .int .i64 x.2]] w (Ret (.tuple #[ratV (atR f x).1, .bool (atR f x).2]) w) := by
  obtain ⟨pi1, _, _⟩ := piece_in hf hx
  have hl := hf.len
  have cp := fun w' (h : Below w.heap.size w w') => imPiece_any v f x w' (hv.below h) hf (unitR_good hx)
  have hi := hf.coord (pieceN f x) (by omega)
  have hj := hf.coord (pieceN f x + 1) pi1
  have cl := fun w' => imOn_any (nth4 f (pieceN f x)) (nth4 f (pieceN f x + 1)) x w' hi.1 hi.2 hj.1 hj.2 (hf.rise (pieceN f x) pi1) (unitR_good hx)
  change ∀ w', Calls _ _ _ w' (Ret (.tuple #[ratV (atR f x).1, .bool (atR f x).2]) w') at cl
  obtain ⟨ao, cap, rfl, _, _, H⟩ := hv.form
  obtain ⟨b, off, e, p0, p1, p2, p3⟩ := H (pieceN f x) (by omega)
  cases e
  obtain ⟨_, _, e, q0, q1, q2, q3⟩ := H (pieceN f x + 1) pi1
  cases e
  generalize atR f x = R at *
  clear H hi hj hf hx
  obtain ⟨i, hi⟩ : ∃ i, pieceN f x = i := ⟨_, rfl⟩
  obtain ⟨j, hj⟩ : ∃ j, i + 1 = j := ⟨_, rfl⟩
  rw [hi] at p0 p1 p2 p3 q0 q1 q2 q3 pi1 cp cl
  rw [hj] at q0 q1 q2 q3 pi1 cl
  obtain ⟨n, hn⟩ : ∃ n, f.length = n := ⟨_, rfl⟩
  rw [hn] at pi1 cp hv hl ⊢
  obtain ⟨P, hP⟩ : ∃ P, nth4 f i = P := ⟨_, rfl⟩
  obtain ⟨Q, hQ⟩ : ∃ Q, nth4 f j = Q := ⟨_, rfl⟩
  rw [hP] at p0 p1 p2 p3 cl
  rw [hQ] at q0 q1 q2 q3 cl
  obtain ⟨⟨a0, a1⟩, ⟨a2, a3⟩⟩ := P
  obtain ⟨⟨b0, b1⟩, ⟨b2, b3⟩⟩ := Q
  obtain ⟨x0, x1⟩ := x
  obtain ⟨⟨r0, r1⟩, r2⟩ := R
  simp only at p0 p1 p2 p3 q0 q1 q2 q3 cp cl
  show Calls _ _ #[_, .agg #[.int .i64 x0, .int .i64 x1]] w _
  obtain ⟨w1, hw1⟩ : ∃ W, (w.alloc (.cells #[.int .i64 x0, .int .i64 x1] 34)).alloc (.cells #[.int .i64 0, .int .i64 0] 34) = W := ⟨_, rfl⟩
  have hB : Below w.heap.size w w1 := by rw [← hw1]; exact ((Below.refl _ _).alloc (Nat.le_refl _) _).alloc (by simp) _
  have u0 : w1.cell? ⟨w.heap.size, 0, none⟩ = some (.int .i64 x0) := by rw [← hw1]; simp [go_sem]
  have u1 : w1.cell? ⟨w.heap.size, 1, none⟩ = some (.int .i64 x1) := by rw [← hw1]; simp [go_sem]
  have y0 : w1.cell? ⟨w.heap.size + 1, 0, none⟩ = some (.int .i64 0) := by rw [← hw1]; simp [go_sem]
  have y1 : w1.cell? ⟨w.heap.size + 1, 1, none⟩ = some (.int .i64 0) := by rw [← hw1]; simp [go_sem]
  have y2 : w1.frozen? ⟨w.heap.size + 1, 0, none⟩ = false := by rw [← hw1]; simp [go_sem]
  have y3 : w1.frozen? ⟨w.heap.size + 1, 1, none⟩ = false := by rw [← hw1]; simp [go_sem]
  have hz : w.heap.size + 1 < w1.heap.size := by rw [← hw1]; simp
  have cp1 := cp w1 hB
  have hlb := World.block_lt_of_cell? _ _ p0
  simp only at hlb
  have at' : ∀ w' : World, (∀ a : Addr, a.block < w.heap.size + 1 → w'.cell? a = w1.cell? a) → ((w'.cell? ⟨b, off + i * 4, none⟩ = some (.int .i64 a0) ∧ w'.cell? ⟨b, off + i * 4 + 1, none⟩ = some (.int .i64 a1) ∧ w'.cell? ⟨b, off + i * 4 + 2, none⟩ = some (.int .i64 a2) ∧ w'.cell? ⟨b, off + i * 4 + 3, none⟩ = some (.int .i64 a3)) ∧ w'.cell? ⟨b, off + j * 4, none⟩ = some (.int .i64 b0) ∧ w'.cell? ⟨b, off + j * 4 + 1, none⟩ = some (.int .i64 b1) ∧ w'.cell? ⟨b, off + j * 4 + 2, none⟩ = some (.int .i64 b2) ∧ w'.cell? ⟨b, off + j * 4 + 3, none⟩ = some (.int .i64 b3)) ∧ w'.cell? ⟨w.heap.size, 0, none⟩ = some (.int .i64 x0) ∧ w'.cell? ⟨w.heap.size, 1, none⟩ = some (.int .i64 x1) := fun w' h => by
    have hbl : b < w.heap.size + 1 := by omega
    exact ⟨⟨⟨(h ⟨b, _, none⟩ hbl).trans (bkeep hB p0), (h ⟨b, _, none⟩ hbl).trans (bkeep hB p1), (h ⟨b, _, none⟩ hbl).trans (bkeep hB p2), (h ⟨b, _, none⟩ hbl).trans (bkeep hB p3)⟩, (h ⟨b, _, none⟩ hbl).trans (bkeep hB q0), (h ⟨b, _, none⟩ hbl).trans (bkeep hB q1), (h ⟨b, _, none⟩ hbl).trans (bkeep hB q2), (h ⟨b, _, none⟩ hbl).trans (bkeep hB q3)⟩, (h ⟨w.heap.size, _, none⟩ (Nat.lt_succ_self _)).trans u0, (h ⟨w.heap.size, _, none⟩ (Nat.lt_succ_self _)).trans u1⟩
  have hwi : IntKind.i64.wrap ((i : Int) + 1) = (j : Int) := by rw [IntKind.wrap_i64]; omega
  have f1 : (0 : Int) ≤ (j : Int) := by omega
  have f2 : (j : Int) < (n : Int) := by omega
  have f3 : (0 : Int) ≤ (i : Int) := by omega
  have f4 : (i : Int) < (n : Int) := by omega
  have f5 : i < n := by omega
  clear p0 p1 p2 p3 q0 q1 q2 q3 cp hv
  have hj' := Lib.hid hj
  have hn' := Lib.hid hn
  clear hj hn
  have cp1' := Lib.hid cp1
  have cl' := Lib.hid cl
  have hw1' := Lib.hid hw1
  have at'' := Lib.hid at'
  have hi' := Lib.hid hi
  have hP' := Lib.hid hP
  have hQ' := Lib.hid hQ
  clear cp1 cl hw1 at' hi hP hQ
  go_enter Try.func70, Try.ntmps70
  go_wp2_with fail
  rw [hw1'.out]
  go_wp2_with fail
  refine (cp1'.out).mono ?_
  rintro e w2 ⟨rfl, hB2⟩
  have hd := hB2.drew
  have hcells : ∀ (w' : World), Below w1.heap.size w1 w' → ∀ a : Addr, a.block < w.heap.size + 1 → w'.cell? a = w1.cell? a := fun w' h a ha => h.cell (by omega)
  have hset : ∀ (w' : World), Below w1.heap.size w1 w' → ∀ z0 z1, ∀ a : Addr, a.block < w.heap.size + 1 → ((w'.setCell ⟨w.heap.size + 1, 0, none⟩ z0).setCell ⟨w.heap.size + 1, 1, none⟩ z1).cell? a = w1.cell? a := fun w' h z0 z1 a ha => by
    have hs := ((h.mono (show w.heap.size + 1 ≤ w1.heap.size by omega)).setCell (p := ⟨w.heap.size + 1, 0, none⟩) (Nat.le_refl _) z0).setCell (p := ⟨w.heap.size + 1, 1, none⟩) (Nat.le_refl _) z1
    exact hs.cell ha
  have hcells' := Lib.hid hcells
  have hset' := Lib.hid hset
  clear hcells hset
  go_wp2_with fail
  refine wp_region_held_drew (S := (fun (w' : World) => ((w'.cell? ⟨b, off + i * 4, none⟩ = some (.int .i64 a0) ∧ w'.cell? ⟨b, off + i * 4 + 1, none⟩ = some (.int .i64 a1) ∧ w'.cell? ⟨b, off + i * 4 + 2, none⟩ = some (.int .i64 a2) ∧ w'.cell? ⟨b, off + i * 4 + 3, none⟩ = some (.int .i64 a3)) ∧ w'.cell? ⟨b, off + j * 4, none⟩ = some (.int .i64 b0) ∧ w'.cell? ⟨b, off + j * 4 + 1, none⟩ = some (.int .i64 b1) ∧ w'.cell? ⟨b, off + j * 4 + 2, none⟩ = some (.int .i64 b2) ∧ w'.cell? ⟨b, off + j * 4 + 3, none⟩ = some (.int .i64 b3)) ∧ w'.cell? ⟨w.heap.size, 0, none⟩ = some (.int .i64 x0) ∧ w'.cell? ⟨w.heap.size, 1, none⟩ = some (.int .i64 x1))) (by kernel_rfl) (by (try dsimp only); (first | exact at''.out _ (hcells'.out _ hd) | exact at''.out _ (hcells'.out _ hd3) | exact at''.out _ (hset'.out _ hd3 _ _))) (fun hHeld => ?_)
  refine wpAnyH_take (i := 0) (oi := Oper.mk _ _ _ _ _ _) (v := ?_) rfl (by kernel_rfl) (by kernel_rfl) (by kernel_rfl) (fun _ _ _ h => h) (Or.inl ⟨by kernel_rfl, ?_⟩) hHeld ?_
  rotate_left
  · (intro wS hSw; (try dsimp only at hSw); go_simp; all_goals (with_reducible rfl))
  try simp only [Act.put, List.setIfInBounds_toArray, List.set_cons_zero, List.set_cons_succ]
  refine wpAnyH_take (i := 1) (oi := Oper.mk _ _ _ _ _ _) (v := ?_) rfl (by kernel_rfl) (by kernel_rfl) (by kernel_rfl) (fun _ _ _ h => h) (Or.inl ⟨by kernel_rfl, ?_⟩) hHeld ?_
  rotate_left
  · (intro wS hSw; (try dsimp only at hSw); go_simp; all_goals (with_reducible rfl))
  try simp only [Act.put, List.setIfInBounds_toArray, List.set_cons_zero, List.set_cons_succ]
  refine wpAnyH_take (i := 2) (oi := Oper.mk _ _ _ _ _ _) (v := ?_) rfl (by kernel_rfl) (by kernel_rfl) (by kernel_rfl) (fun _ _ _ h => h) (Or.inl ⟨by kernel_rfl, ?_⟩) hHeld ?_
  rotate_left
  · (intro wS hSw; (try dsimp only at hSw); go_simp; all_goals (with_reducible rfl))
  try simp only [Act.put, List.setIfInBounds_toArray, List.set_cons_zero, List.set_cons_succ]
  refine wpAnyH_take (i := 3) (oi := Oper.mk _ _ _ _ _ _) (v := ?_) rfl (by kernel_rfl) (by kernel_rfl) (by kernel_rfl) (fun _ _ _ h => h) (Or.inl ⟨by kernel_rfl, ?_⟩) hHeld ?_
  rotate_left
  · (intro wS hSw; (try dsimp only at hSw); go_simp; all_goals (with_reducible rfl))
  try simp only [Act.put, List.setIfInBounds_toArray, List.set_cons_zero, List.set_cons_succ]
  refine wpAnyH_take (i := 4) (oi := Oper.mk _ _ _ _ _ _) (v := ?_) rfl (by kernel_rfl) (by kernel_rfl) (by kernel_rfl) (fun _ _ _ h => h) (Or.inl ⟨by kernel_rfl, ?_⟩) hHeld ?_
  rotate_left
  · (intro wS hSw; (try dsimp only at hSw); go_simp; all_goals (with_reducible rfl))
  try simp only [Act.put, List.setIfInBounds_toArray, List.set_cons_zero, List.set_cons_succ]
  refine wpAnyH_take (i := 5) (oi := Oper.mk _ _ _ _ _ _) (v := ?_) rfl (by kernel_rfl) (by kernel_rfl) (by kernel_rfl) (fun _ _ _ h => h) (Or.inl ⟨by kernel_rfl, ?_⟩) hHeld ?_
  rotate_left
  · (intro wS hSw; (try dsimp only at hSw); go_simp; all_goals (with_reducible rfl))
  try simp only [Act.put, List.setIfInBounds_toArray, List.set_cons_zero, List.set_cons_succ]
  refine wpAnyH_take (i := 6) (oi := Oper.mk _ _ _ _ _ _) (v := ?_) rfl (by kernel_rfl) (by kernel_rfl) (by kernel_rfl) (fun _ _ _ h => h) (Or.inl ⟨by kernel_rfl, ?_⟩) hHeld ?_
  rotate_left
  · (intro wS hSw; (try dsimp only at hSw); go_simp; all_goals (with_reducible rfl))
  try simp only [Act.put, List.setIfInBounds_toArray, List.set_cons_zero, List.set_cons_succ]
  refine wpAnyH_take (i := 7) (oi := Oper.mk _ _ _ _ _ _) (v := ?_) rfl (by kernel_rfl) (by kernel_rfl) (by kernel_rfl) (fun _ _ _ h => h) (Or.inl ⟨by kernel_rfl, ?_⟩) hHeld ?_
  rotate_left
  · (intro wS hSw; (try dsimp only at hSw); go_simp; all_goals (with_reducible rfl))
  try simp only [Act.put, List.setIfInBounds_toArray, List.set_cons_zero, List.set_cons_succ]
  refine wpAnyH_take (i := 8) (oi := Oper.mk _ _ _ _ _ _) (v := ?_) rfl (by kernel_rfl) (by kernel_rfl) (by kernel_rfl) (fun _ _ _ h => h) (Or.inl ⟨by kernel_rfl, ?_⟩) hHeld ?_
  rotate_left
  · (intro wS hSw; (try dsimp only at hSw); go_simp; all_goals (with_reducible rfl))
  try simp only [Act.put, List.setIfInBounds_toArray, List.set_cons_zero, List.set_cons_succ]
  refine wpAnyH_take (i := 9) (oi := Oper.mk _ _ _ _ _ _) (v := ?_) rfl (by kernel_rfl) (by kernel_rfl) (by kernel_rfl) (fun _ _ _ h => h) (Or.inl ⟨by kernel_rfl, ?_⟩) hHeld ?_
  rotate_left
  · (intro wS hSw; (try dsimp only at hSw); go_simp; all_goals (with_reducible rfl))
  try simp only [Act.put, List.setIfInBounds_toArray, List.set_cons_zero, List.set_cons_succ]
  refine wpAnyH_ready (rs := [10]) (by kernel_rfl) (by simp) ?_
  refine AllReadyH.cons (o := Oper.mk _ _ _ _ _ _) rfl (fun KK hKK => ?_) AllReadyH.nil
  rw [if_pos (by kernel_rfl)]
  go_simp
  refine (cl'.out _).mono ?_
  rintro e w3 ⟨rfl, hB3⟩
  have hd3 := hd.trans (hB3.mono hd.size)
  have n0 := bkeep hd3 y0
  have n1 := bkeep hd3 y1
  have n2 := gfrozen (bgrow hd3 none) y0 y2 (by simp)
  have n3 := gfrozen (bgrow hd3 none) y1 y3 (by simp)
  try dsimp only
  refine hKK.out _ _ (by (try dsimp only); (first | exact at''.out _ (hcells'.out _ hd) | exact at''.out _ (hcells'.out _ hd3) | exact at''.out _ (hset'.out _ hd3 _ _))) (fun hHeld => ?_)
  clear hKK KK
  try simp only [Act.put, List.setIfInBounds_toArray, List.set_cons_zero, List.set_cons_succ]
  refine wpAnyH_take (i := 11) (oi := Oper.mk _ _ _ _ _ _) (v := ?_) rfl (by kernel_rfl) (by kernel_rfl) (by kernel_rfl) (fun _ _ _ h => h) (Or.inl ⟨by kernel_rfl, ?_⟩) hHeld ?_
  rotate_left
  · (intro wS hSw; (try dsimp only at hSw); go_simp; all_goals (with_reducible rfl))
  try simp only [Act.put, List.setIfInBounds_toArray, List.set_cons_zero, List.set_cons_succ]
  refine wpAnyH_take (i := 12) (oi := Oper.mk _ _ _ _ _ _) (v := ?_) rfl (by kernel_rfl) (by kernel_rfl) (by kernel_rfl) (fun _ _ _ h => h) (Or.inl ⟨by kernel_rfl, ?_⟩) hHeld ?_
  rotate_left
  · (intro wS hSw; (try dsimp only at hSw); go_simp; all_goals (with_reducible rfl))
  try simp only [Act.put, List.setIfInBounds_toArray, List.set_cons_zero, List.set_cons_succ]
  refine wpAnyH_ready (rs := [13]) (by kernel_rfl) (by simp) ?_
  refine AllReadyH.cons (o := Oper.mk _ _ _ _ _ _) rfl (fun KK hKK => ?_) AllReadyH.nil
  rw [if_pos (by kernel_rfl)]
  go_simp
  skip
  try dsimp only
  refine hKK.out _ _ (by (try dsimp only); (first | exact at''.out _ (hcells'.out _ hd) | exact at''.out _ (hcells'.out _ hd3) | exact at''.out _ (hset'.out _ hd3 _ _))) (fun hHeld => ?_)
  clear hKK KK
  try simp only [Act.put, List.setIfInBounds_toArray, List.set_cons_zero, List.set_cons_succ]
  refine wpAnyH_take (i := 14) (oi := Oper.mk _ _ _ _ _ _) (v := ?_) rfl (by kernel_rfl) (by kernel_rfl) (by kernel_rfl) (fun _ _ _ h => h) (Or.inl ⟨by kernel_rfl, ?_⟩) hHeld ?_
  rotate_left
  · (intro wS hSw; (try dsimp only at hSw); go_simp; all_goals (with_reducible rfl))
  try simp only [Act.put, List.setIfInBounds_toArray, List.set_cons_zero, List.set_cons_succ]
  refine wpAnyH_done (by kernel_rfl) ?_ _
  have hb3 := hB.trans (hd3.mono hB.size)
  have hBf := (hb3.setCell (p := ⟨w.heap.size + 1, 0, none⟩) (by show w.heap.size ≤ w.heap.size + 1; omega) (.int .i64 r0)).setCell (p := ⟨w.heap.size + 1, 1, none⟩) (by show w.heap.size ≤ w.heap.size + 1; omega) (.int .i64 r1)
  clear hHeld hd hd3 y0 y1 y2 y3
  have hBf' := Lib.hid hBf
  clear hBf
  go_wp2
  exact bodyPost_ret (v := .tuple #[ratV (r0, r1), .bool r2]) (by simp [results, Try.results70, go_sem, n0, n1, ratV]) rfl ⟨rfl, hBf'.out⟩

end Go.Proofs.Ytfcanpebagpdbaa

/- The reference's chFaults. No conditions but valid maps and lists. -/
import Derived.Test.YtfcanpebagpdbaaChain
namespace Go.Proofs.Ytfcanpebagpdbaa
open Go.RowKit

set_option linter.unusedSimpArgs false in
set_option maxRecDepth 10000 in
set_option maxHeartbeats 4000000 in
theorem chFaults_any (v u : Value) (f l : List Quad) (w : World) (hv : QuadV w v f) (hu : QuadV w u l) (hf : MapP f) (hl : ivsB l = true) :
    Calls Try.prog 77 #[v, u] w (RetOB Own (cf_v f l) w) := by
  obtain ⟨hl1, hl2⟩ := ivsB_true hl
  have hnx : ∀ k, k < l.length → nxt l.length k < l.length := fun k h => nxt_lt h
  have cc := fun (k : Nat) (w' : World) (hB : Below w.heap.size w w') (h : k < l.length) =>
    ivCovers_any v f (nth4 l k) (nth4 l (nxt l.length k)) w' (hv.below hB) hf (ivB_true (hl2 k h)).1 (ivB_true (hl2 k h)).2.1 (ivB_true (hl2 _ (hnx k h))).1 (ivB_true (hl2 _ (hnx k h))).2.1
  have hck := ckK_step f l
  have h00 : ckK f l 0 = true := rfl
  have hcf : ∀ k, cfK f l (k + 1) = if covB f (nth4 l k) (nth4 l (nxt l.length k)) = true then cfK f l k else cfK f l k ++ [(k : Int)] := fun k => rfl
  have hcl := cfK_len f l
  have hc0 : cfK f l 0 = [] := rfl
  have hV : cf_v f l = if ckK f l l.length = true then (cfK f l l.length, true) else ([], false) := rfl
  have hno := fun k (h : k < l.length) hb => ckK_false (f := f) (l := l) h hb
  have hR : ∀ k j, covR f (nth4 l k) (nth4 l j) = if imgOk f (nth4 l k).1 (nth4 l k).2 = true then (covB f (nth4 l k) (nth4 l j), true) else (false, false) := fun k j => rfl
  rw [hV]
  simp only [hR] at cc
  clear hV hl2 hl hf hR
  obtain ⟨n, hn⟩ : ∃ n, l.length = n := ⟨_, rfl⟩
  rw [hn] at cc hcf hnx hl1 hno ⊢
  generalize cfK f l = CF at *
  generalize ckK f l = CK at *
  obtain ⟨OK, hOK⟩ : ∃ OK : Nat → Bool, ∀ k, imgOk f (nth4 l k).1 (nth4 l k).2 = OK k := ⟨_, fun _ => rfl⟩
  obtain ⟨CB, hCB⟩ : ∃ CB : Nat → Bool, ∀ k, covB f (nth4 l k) (nth4 l (nxt n k)) = CB k := ⟨_, fun _ => rfl⟩
  simp only [hOK, hCB] at cc hck hcf hno
  clear hOK hCB
  obtain ⟨V, hV⟩ : ∃ V, (if CK n = true then (CF n, true) else ([], false)) = V := ⟨_, rfl⟩
  rw [hV]
  obtain ⟨ao, cap, rfl, _, _, H⟩ := hu.form
  rw [hn] at H ⊢
  clear hu hv
  have cc' := Lib.hid cc
  have hck' := Lib.hid hck
  have h00' := Lib.hid h00
  have hcf' := Lib.hid hcf
  have hcl' := Lib.hid hcl
  have hc0' := Lib.hid hc0
  have hV' := Lib.hid hV
  have hn' := Lib.hid hn
  have H' := Lib.hid H
  have hno' := Lib.hid hno
  clear cc hck h00 hcf hcl hc0 hV hn H hno
  go_enter Try.func77, Try.ntmps77
  go_wp2
  go_loopw [6, 13] (fun o i wr => ∃ k : Nat, k ≤ n ∧ i = .int .i64 k ∧ Grow wr w.heap.size o (CF k) ∧ CK k = true ∧ Below w.heap.size w wr) (fun _ i _ => n - (intOf i).toNat)
  case atStart => exact ⟨0, Nat.zero_le _, rfl, by rw [hc0'.out]; exact Grow.nil _ _, h00'.out, Below.refl _ _⟩
  case round =>
    obtain ⟨k, hk, rfl, hgr, hcr, hbr⟩ := hrel
    by_cases hlt : k < n
    · obtain ⟨b, off, rfl, p0, p1, p2, p3⟩ := H'.out k hlt
      obtain ⟨m, hm⟩ : ∃ m, nxt n k = m := ⟨_, rfl⟩
      have hml : m < n := by rw [← hm]; exact hnx k hlt
      obtain ⟨_, _, e, q0, q1, q2, q3⟩ := H'.out m hml
      cases e
      have cc1 := fun w' hB => cc'.out k w' hB hlt
      rw [hm] at cc1
      replace p0 := bkeep hbr p0
      replace p1 := bkeep hbr p1
      replace p2 := bkeep hbr p2
      replace p3 := bkeep hbr p3
      replace q0 := bkeep hbr q0
      replace q1 := bkeep hbr q1
      replace q2 := bkeep hbr q2
      replace q3 := bkeep hbr q3
      have hck1 := hck'.out k
      have hcf1 := hcf'.out k
      have hno1 := hno'.out k hlt
      have hcl1 := hcl'.out k
      rw [hcr, Bool.true_and] at hck1
      generalize nth4 l k = P at *
      generalize nth4 l m = Q at *
      generalize OK k = ok at *
      generalize CB k = cb at *
      have hn0 : n ≠ 0 := by omega
      have hrem : Int.tmod ((k : Int) + 1) (n : Int) = (m : Int) := by
        rw [← hm, show ((k : Int) + 1) = ((k + 1 : Nat) : Int) by omega]
        rfl
      obtain ⟨⟨a0, a1⟩, ⟨a2, a3⟩⟩ := P
      obtain ⟨⟨b0, b1⟩, ⟨b2, b3⟩⟩ := Q
      simp only at p0 p1 p2 p3 q0 q1 q2 q3 cc1
      obtain ⟨w4, hw4⟩ : ∃ W, wr.alloc (.cells #[.int .i64 a0, .int .i64 a1, .int .i64 a2, .int .i64 a3] 43) = W := ⟨_, rfl⟩
      have hB4 : Below wr.heap.size wr w4 := by rw [← hw4]; exact (Below.refl _ _).alloc (Nat.le_refl _) _
      have i0 : w4.cell? ⟨wr.heap.size, 0, none⟩ = some (.int .i64 a0) := by rw [← hw4]; simp [go_sem]
      have i1 : w4.cell? ⟨wr.heap.size, 1, none⟩ = some (.int .i64 a1) := by rw [← hw4]; simp [go_sem]
      have i2 : w4.cell? ⟨wr.heap.size, 2, none⟩ = some (.int .i64 a2) := by rw [← hw4]; simp [go_sem]
      have i3 : w4.cell? ⟨wr.heap.size, 3, none⟩ = some (.int .i64 a3) := by rw [← hw4]; simp [go_sem]
      replace q0 := bkeep hB4 q0
      replace q1 := bkeep hB4 q1
      replace q2 := bkeep hB4 q2
      replace q3 := bkeep hB4 q3
      have hb4 := hbr.trans (hB4.mono hbr.size)
      have hbd : Below w.heap.size w w4.drew := hb4.drew
      have hgr4 := hgr.below hB4
      have hd : Below w4.heap.size w4 w4.drew := (Below.refl _ _).drew
      have hs4 := hb4.size
      have at' : ∀ w', Below w4.heap.size w4 w' → (w'.cell? ⟨wr.heap.size, 0, none⟩ = some (.int .i64 a0) ∧ w'.cell? ⟨wr.heap.size, 1, none⟩ = some (.int .i64 a1) ∧ w'.cell? ⟨wr.heap.size, 2, none⟩ = some (.int .i64 a2) ∧ w'.cell? ⟨wr.heap.size, 3, none⟩ = some (.int .i64 a3)) ∧ w'.cell? ⟨b, off + m * 4, none⟩ = some (.int .i64 b0) ∧ w'.cell? ⟨b, off + m * 4 + 1, none⟩ = some (.int .i64 b1) ∧ w'.cell? ⟨b, off + m * 4 + 2, none⟩ = some (.int .i64 b2) ∧ w'.cell? ⟨b, off + m * 4 + 3, none⟩ = some (.int .i64 b3) :=
        fun w' h => ⟨⟨bkeep h i0, bkeep h i1, bkeep h i2, bkeep h i3⟩, bkeep h q0, bkeep h q1, bkeep h q2, bkeep h q3⟩
      have g1 : (0 : Int) ≤ (m : Int) := by omega
      have g2 : (m : Int) < (n : Int) := by omega
      have cc2 := cc1 _ hbd
      have hwi : IntKind.i64.wrap ((k : Int) + 1) = (k : Int) + 1 := by rw [IntKind.wrap_i64]; omega
      clear i0 i1 i2 i3 q0 q1 q2 q3 hB4 hgr cc1 hbd
      cases ok
      · have e2 : CK n = false := hno1 rfl
        rw [if_neg (by decide)] at cc2
        clear hno1 hck1 hcf1
        have cc2' := Lib.hid cc2
        have at'' := Lib.hid at'
        have hw4' := Lib.hid hw4
        have hgr4' := Lib.hid hgr4
        have hm' := Lib.hid hm
        have e2' := Lib.hid e2
        have hcr' := Lib.hid hcr
        clear cc2 at' hw4 hgr4 hm e2 hcr
        go_wp2_with fail
        rw [hw4'.out]
        clear p0 p1 p2 p3
        go_wp2_with fail
        refine wp_region_held_drew (S := (fun w' => (w'.cell? ⟨wr.heap.size, 0, none⟩ = some (.int .i64 a0) ∧ w'.cell? ⟨wr.heap.size, 1, none⟩ = some (.int .i64 a1) ∧ w'.cell? ⟨wr.heap.size, 2, none⟩ = some (.int .i64 a2) ∧ w'.cell? ⟨wr.heap.size, 3, none⟩ = some (.int .i64 a3)) ∧ w'.cell? ⟨b, off + m * 4, none⟩ = some (.int .i64 b0) ∧ w'.cell? ⟨b, off + m * 4 + 1, none⟩ = some (.int .i64 b1) ∧ w'.cell? ⟨b, off + m * 4 + 2, none⟩ = some (.int .i64 b2) ∧ w'.cell? ⟨b, off + m * 4 + 3, none⟩ = some (.int .i64 b3))) (by kernel_rfl) (by (try dsimp only); (first | exact at''.out _ hd | exact at''.out _ hd2)) (fun hHeld => ?_)
        refine wpAnyH_take (i := 0) (oi := Oper.mk _ _ _ _ _ _) (v := ?_) rfl (by kernel_rfl) (by kernel_rfl) (by kernel_rfl) (fun _ _ _ h => h) (Or.inl ⟨by kernel_rfl, ?_⟩) hHeld ?_
        rotate_left
        · (intro wS hSw; (try dsimp only at hSw); go_simp; all_goals (with_reducible rfl))
        try simp only [Act.put, List.setIfInBounds_toArray, List.set_cons_zero, List.set_cons_succ]
        refine wpAnyH_take (i := 1) (oi := Oper.mk _ _ _ _ _ _) (v := ?_) rfl (by kernel_rfl) (by kernel_rfl) (by kernel_rfl) (fun _ _ _ h => h) (Or.inl ⟨by kernel_rfl, ?_⟩) hHeld ?_
        rotate_left
        · (intro wS hSw; (try dsimp only at hSw); go_simp; all_goals (with_reducible rfl))
        try simp only [Act.put, List.setIfInBounds_toArray, List.set_cons_zero, List.set_cons_succ]
        refine wpAnyH_take (i := 2) (oi := Oper.mk _ _ _ _ _ _) (v := ?_) rfl (by kernel_rfl) (by kernel_rfl) (by kernel_rfl) (fun _ _ _ h => h) (Or.inl ⟨by kernel_rfl, ?_⟩) hHeld ?_
        rotate_left
        · (intro wS hSw; (try dsimp only at hSw); go_simp; all_goals (with_reducible rfl))
        try simp only [Act.put, List.setIfInBounds_toArray, List.set_cons_zero, List.set_cons_succ]
        refine wpAnyH_take (i := 3) (oi := Oper.mk _ _ _ _ _ _) (v := ?_) rfl (by kernel_rfl) (by kernel_rfl) (by kernel_rfl) (fun _ _ _ h => h) (Or.inl ⟨by kernel_rfl, ?_⟩) hHeld ?_
        rotate_left
        · (intro wS hSw; (try dsimp only at hSw); go_simp; all_goals (with_reducible rfl))
        try simp only [Act.put, List.setIfInBounds_toArray, List.set_cons_zero, List.set_cons_succ]
        refine wpAnyH_take (i := 4) (oi := Oper.mk _ _ _ _ _ _) (v := ?_) rfl (by kernel_rfl) (by kernel_rfl) (by kernel_rfl) (fun _ _ _ h => h) (Or.inl ⟨by kernel_rfl, ?_⟩) hHeld ?_
        rotate_left
        · (intro wS hSw; (try dsimp only at hSw); go_simp; all_goals (with_reducible rfl))
        try simp only [Act.put, List.setIfInBounds_toArray, List.set_cons_zero, List.set_cons_succ]
        refine wpAnyH_take (i := 5) (oi := Oper.mk _ _ _ _ _ _) (v := ?_) rfl (by kernel_rfl) (by kernel_rfl) (by kernel_rfl) (fun _ _ _ h => h) (Or.inl ⟨by kernel_rfl, ?_⟩) hHeld ?_
        rotate_left
        · (intro wS hSw; (try dsimp only at hSw); go_simp; all_goals (with_reducible rfl))
        try simp only [Act.put, List.setIfInBounds_toArray, List.set_cons_zero, List.set_cons_succ]
        refine wpAnyH_take (i := 6) (oi := Oper.mk _ _ _ _ _ _) (v := ?_) rfl (by kernel_rfl) (by kernel_rfl) (by kernel_rfl) (fun _ _ _ h => h) (Or.inl ⟨by kernel_rfl, ?_⟩) hHeld ?_
        rotate_left
        · (intro wS hSw; (try dsimp only at hSw); go_simp; all_goals (with_reducible rfl))
        try simp only [Act.put, List.setIfInBounds_toArray, List.set_cons_zero, List.set_cons_succ]
        refine wpAnyH_take (i := 7) (oi := Oper.mk _ _ _ _ _ _) (v := ?_) rfl (by kernel_rfl) (by kernel_rfl) (by kernel_rfl) (fun _ _ _ h => h) (Or.inl ⟨by kernel_rfl, ?_⟩) hHeld ?_
        rotate_left
        · (intro wS hSw; (try dsimp only at hSw); go_simp; all_goals (with_reducible rfl))
        try simp only [Act.put, List.setIfInBounds_toArray, List.set_cons_zero, List.set_cons_succ]
        refine wpAnyH_take (i := 8) (oi := Oper.mk _ _ _ _ _ _) (v := ?_) rfl (by kernel_rfl) (by kernel_rfl) (by kernel_rfl) (fun _ _ _ h => h) (Or.inl ⟨by kernel_rfl, ?_⟩) hHeld ?_
        rotate_left
        · (intro wS hSw; (try dsimp only at hSw); go_simp; all_goals (with_reducible rfl))
        try simp only [Act.put, List.setIfInBounds_toArray, List.set_cons_zero, List.set_cons_succ]
        refine wpAnyH_take (i := 9) (oi := Oper.mk _ _ _ _ _ _) (v := ?_) rfl (by kernel_rfl) (by kernel_rfl) (by kernel_rfl) (fun _ _ _ h => h) (Or.inl ⟨by kernel_rfl, ?_⟩) hHeld ?_
        rotate_left
        · (intro wS hSw; (try dsimp only at hSw); go_simp; all_goals (with_reducible rfl))
        try simp only [Act.put, List.setIfInBounds_toArray, List.set_cons_zero, List.set_cons_succ]
        refine wpAnyH_ready (rs := [10]) (by kernel_rfl) (by simp) ?_
        refine AllReadyH.cons (o := Oper.mk _ _ _ _ _ _) rfl (fun KK hKK => ?_) AllReadyH.nil
        rw [if_pos (by kernel_rfl)]
        go_simp
        refine (cc2'.out).mono ?_
        rintro e w5 ⟨rfl, hB5⟩
        have hd2 := hd.trans (hB5.mono hd.size)
        try dsimp only
        refine hKK.out _ _ (by (try dsimp only); (first | exact at''.out _ hd | exact at''.out _ hd2)) (fun hHeld => ?_)
        clear hKK KK
        try simp only [Act.put, List.setIfInBounds_toArray, List.set_cons_zero, List.set_cons_succ]
        refine wpAnyH_take (i := 11) (oi := Oper.mk _ _ _ _ _ _) (v := ?_) rfl (by kernel_rfl) (by kernel_rfl) (by kernel_rfl) (fun _ _ _ h => h) (Or.inl ⟨by kernel_rfl, ?_⟩) hHeld ?_
        rotate_left
        · (intro wS hSw; (try dsimp only at hSw); go_simp; all_goals (with_reducible rfl))
        try simp only [Act.put, List.setIfInBounds_toArray, List.set_cons_zero, List.set_cons_succ]
        refine wpAnyH_take (i := 12) (oi := Oper.mk _ _ _ _ _ _) (v := ?_) rfl (by kernel_rfl) (by kernel_rfl) (by kernel_rfl) (fun _ _ _ h => h) (Or.inl ⟨by kernel_rfl, ?_⟩) hHeld ?_
        rotate_left
        · (intro wS hSw; (try dsimp only at hSw); go_simp; all_goals (with_reducible rfl))
        try simp only [Act.put, List.setIfInBounds_toArray, List.set_cons_zero, List.set_cons_succ]
        refine wpAnyH_take (i := 13) (oi := Oper.mk _ _ _ _ _ _) (v := ?_) rfl (by kernel_rfl) (by kernel_rfl) (by kernel_rfl) (fun _ _ _ h => h) (Or.inl ⟨by kernel_rfl, ?_⟩) hHeld ?_
        rotate_left
        · (intro wS hSw; (try dsimp only at hSw); go_simp; all_goals (with_reducible rfl))
        try simp only [Act.put, List.setIfInBounds_toArray, List.set_cons_zero, List.set_cons_succ]
        refine wpAnyH_take (i := 14) (oi := Oper.mk _ _ _ _ _ _) (v := ?_) rfl (by kernel_rfl) (by kernel_rfl) (by kernel_rfl) (fun _ _ _ h => h) (Or.inl ⟨by kernel_rfl, ?_⟩) hHeld ?_
        rotate_left
        · (intro wS hSw; (try dsimp only at hSw); go_simp; all_goals (with_reducible rfl))
        try simp only [Act.put, List.setIfInBounds_toArray, List.set_cons_zero, List.set_cons_succ]
        refine wpAnyH_take (i := 15) (oi := Oper.mk _ _ _ _ _ _) (v := ?_) rfl (by kernel_rfl) (by kernel_rfl) (by kernel_rfl) (fun _ _ _ h => h) (Or.inl ⟨by kernel_rfl, ?_⟩) hHeld ?_
        rotate_left
        · (intro wS hSw; (try dsimp only at hSw); go_simp; all_goals (with_reducible rfl))
        try simp only [Act.put, List.setIfInBounds_toArray, List.set_cons_zero, List.set_cons_succ]
        refine wpAnyH_done (by kernel_rfl) ?_ _
        have hb5 := hb4.trans (hd2.mono hb4.size)
        clear hHeld hd hd2 hB5 hb4 hgr4'
        have hV := hV'.out
        rw [if_neg (by rw [e2'.out]; decide)] at hV
        subst hV
        have hb5' := Lib.hid hb5
        clear hb5
        go_wp2
        go_ret2
        exact ⟨_, rfl, Own.nil _ _ _, hb5'.out⟩
      · rw [if_pos rfl] at cc2
        clear hno1
        have cc2' := Lib.hid cc2
        have at'' := Lib.hid at'
        have hw4' := Lib.hid hw4
        have hgr4' := Lib.hid hgr4
        have hm' := Lib.hid hm
        have hck1' := Lib.hid hck1
        have hcr' := Lib.hid hcr
        have hcf1' := Lib.hid hcf1
        have hcl1' := Lib.hid hcl1
        clear cc2 at' hw4 hgr4 hm hck1 hcr hcf1 hcl1
        go_wp2_with fail
        rw [hw4'.out]
        clear p0 p1 p2 p3
        go_wp2_with fail
        refine wp_region_held_drew (S := (fun w' => (w'.cell? ⟨wr.heap.size, 0, none⟩ = some (.int .i64 a0) ∧ w'.cell? ⟨wr.heap.size, 1, none⟩ = some (.int .i64 a1) ∧ w'.cell? ⟨wr.heap.size, 2, none⟩ = some (.int .i64 a2) ∧ w'.cell? ⟨wr.heap.size, 3, none⟩ = some (.int .i64 a3)) ∧ w'.cell? ⟨b, off + m * 4, none⟩ = some (.int .i64 b0) ∧ w'.cell? ⟨b, off + m * 4 + 1, none⟩ = some (.int .i64 b1) ∧ w'.cell? ⟨b, off + m * 4 + 2, none⟩ = some (.int .i64 b2) ∧ w'.cell? ⟨b, off + m * 4 + 3, none⟩ = some (.int .i64 b3))) (by kernel_rfl) (by (try dsimp only); (first | exact at''.out _ hd | exact at''.out _ hd2)) (fun hHeld => ?_)
        refine wpAnyH_take (i := 0) (oi := Oper.mk _ _ _ _ _ _) (v := ?_) rfl (by kernel_rfl) (by kernel_rfl) (by kernel_rfl) (fun _ _ _ h => h) (Or.inl ⟨by kernel_rfl, ?_⟩) hHeld ?_
        rotate_left
        · (intro wS hSw; (try dsimp only at hSw); go_simp; all_goals (with_reducible rfl))
        try simp only [Act.put, List.setIfInBounds_toArray, List.set_cons_zero, List.set_cons_succ]
        refine wpAnyH_take (i := 1) (oi := Oper.mk _ _ _ _ _ _) (v := ?_) rfl (by kernel_rfl) (by kernel_rfl) (by kernel_rfl) (fun _ _ _ h => h) (Or.inl ⟨by kernel_rfl, ?_⟩) hHeld ?_
        rotate_left
        · (intro wS hSw; (try dsimp only at hSw); go_simp; all_goals (with_reducible rfl))
        try simp only [Act.put, List.setIfInBounds_toArray, List.set_cons_zero, List.set_cons_succ]
        refine wpAnyH_take (i := 2) (oi := Oper.mk _ _ _ _ _ _) (v := ?_) rfl (by kernel_rfl) (by kernel_rfl) (by kernel_rfl) (fun _ _ _ h => h) (Or.inl ⟨by kernel_rfl, ?_⟩) hHeld ?_
        rotate_left
        · (intro wS hSw; (try dsimp only at hSw); go_simp; all_goals (with_reducible rfl))
        try simp only [Act.put, List.setIfInBounds_toArray, List.set_cons_zero, List.set_cons_succ]
        refine wpAnyH_take (i := 3) (oi := Oper.mk _ _ _ _ _ _) (v := ?_) rfl (by kernel_rfl) (by kernel_rfl) (by kernel_rfl) (fun _ _ _ h => h) (Or.inl ⟨by kernel_rfl, ?_⟩) hHeld ?_
        rotate_left
        · (intro wS hSw; (try dsimp only at hSw); go_simp; all_goals (with_reducible rfl))
        try simp only [Act.put, List.setIfInBounds_toArray, List.set_cons_zero, List.set_cons_succ]
        refine wpAnyH_take (i := 4) (oi := Oper.mk _ _ _ _ _ _) (v := ?_) rfl (by kernel_rfl) (by kernel_rfl) (by kernel_rfl) (fun _ _ _ h => h) (Or.inl ⟨by kernel_rfl, ?_⟩) hHeld ?_
        rotate_left
        · (intro wS hSw; (try dsimp only at hSw); go_simp; all_goals (with_reducible rfl))
        try simp only [Act.put, List.setIfInBounds_toArray, List.set_cons_zero, List.set_cons_succ]
        refine wpAnyH_take (i := 5) (oi := Oper.mk _ _ _ _ _ _) (v := ?_) rfl (by kernel_rfl) (by kernel_rfl) (by kernel_rfl) (fun _ _ _ h => h) (Or.inl ⟨by kernel_rfl, ?_⟩) hHeld ?_
        rotate_left
        · (intro wS hSw; (try dsimp only at hSw); go_simp; all_goals (with_reducible rfl))
        try simp only [Act.put, List.setIfInBounds_toArray, List.set_cons_zero, List.set_cons_succ]
        refine wpAnyH_take (i := 6) (oi := Oper.mk _ _ _ _ _ _) (v := ?_) rfl (by kernel_rfl) (by kernel_rfl) (by kernel_rfl) (fun _ _ _ h => h) (Or.inl ⟨by kernel_rfl, ?_⟩) hHeld ?_
        rotate_left
        · (intro wS hSw; (try dsimp only at hSw); go_simp; all_goals (with_reducible rfl))
        try simp only [Act.put, List.setIfInBounds_toArray, List.set_cons_zero, List.set_cons_succ]
        refine wpAnyH_take (i := 7) (oi := Oper.mk _ _ _ _ _ _) (v := ?_) rfl (by kernel_rfl) (by kernel_rfl) (by kernel_rfl) (fun _ _ _ h => h) (Or.inl ⟨by kernel_rfl, ?_⟩) hHeld ?_
        rotate_left
        · (intro wS hSw; (try dsimp only at hSw); go_simp; all_goals (with_reducible rfl))
        try simp only [Act.put, List.setIfInBounds_toArray, List.set_cons_zero, List.set_cons_succ]
        refine wpAnyH_take (i := 8) (oi := Oper.mk _ _ _ _ _ _) (v := ?_) rfl (by kernel_rfl) (by kernel_rfl) (by kernel_rfl) (fun _ _ _ h => h) (Or.inl ⟨by kernel_rfl, ?_⟩) hHeld ?_
        rotate_left
        · (intro wS hSw; (try dsimp only at hSw); go_simp; all_goals (with_reducible rfl))
        try simp only [Act.put, List.setIfInBounds_toArray, List.set_cons_zero, List.set_cons_succ]
        refine wpAnyH_take (i := 9) (oi := Oper.mk _ _ _ _ _ _) (v := ?_) rfl (by kernel_rfl) (by kernel_rfl) (by kernel_rfl) (fun _ _ _ h => h) (Or.inl ⟨by kernel_rfl, ?_⟩) hHeld ?_
        rotate_left
        · (intro wS hSw; (try dsimp only at hSw); go_simp; all_goals (with_reducible rfl))
        try simp only [Act.put, List.setIfInBounds_toArray, List.set_cons_zero, List.set_cons_succ]
        refine wpAnyH_ready (rs := [10]) (by kernel_rfl) (by simp) ?_
        refine AllReadyH.cons (o := Oper.mk _ _ _ _ _ _) rfl (fun KK hKK => ?_) AllReadyH.nil
        rw [if_pos (by kernel_rfl)]
        go_simp
        refine (cc2'.out).mono ?_
        rintro e w5 ⟨rfl, hB5⟩
        have hd2 := hd.trans (hB5.mono hd.size)
        try dsimp only
        refine hKK.out _ _ (by (try dsimp only); (first | exact at''.out _ hd | exact at''.out _ hd2)) (fun hHeld => ?_)
        clear hKK KK
        try simp only [Act.put, List.setIfInBounds_toArray, List.set_cons_zero, List.set_cons_succ]
        refine wpAnyH_take (i := 11) (oi := Oper.mk _ _ _ _ _ _) (v := ?_) rfl (by kernel_rfl) (by kernel_rfl) (by kernel_rfl) (fun _ _ _ h => h) (Or.inl ⟨by kernel_rfl, ?_⟩) hHeld ?_
        rotate_left
        · (intro wS hSw; (try dsimp only at hSw); go_simp; all_goals (with_reducible rfl))
        try simp only [Act.put, List.setIfInBounds_toArray, List.set_cons_zero, List.set_cons_succ]
        refine wpAnyH_take (i := 12) (oi := Oper.mk _ _ _ _ _ _) (v := ?_) rfl (by kernel_rfl) (by kernel_rfl) (by kernel_rfl) (fun _ _ _ h => h) (Or.inl ⟨by kernel_rfl, ?_⟩) hHeld ?_
        rotate_left
        · (intro wS hSw; (try dsimp only at hSw); go_simp; all_goals (with_reducible rfl))
        try simp only [Act.put, List.setIfInBounds_toArray, List.set_cons_zero, List.set_cons_succ]
        refine wpAnyH_take (i := 13) (oi := Oper.mk _ _ _ _ _ _) (v := ?_) rfl (by kernel_rfl) (by kernel_rfl) (by kernel_rfl) (fun _ _ _ h => h) (Or.inl ⟨by kernel_rfl, ?_⟩) hHeld ?_
        rotate_left
        · (intro wS hSw; (try dsimp only at hSw); go_simp; all_goals (with_reducible rfl))
        try simp only [Act.put, List.setIfInBounds_toArray, List.set_cons_zero, List.set_cons_succ]
        refine wpAnyH_take (i := 14) (oi := Oper.mk _ _ _ _ _ _) (v := ?_) rfl (by kernel_rfl) (by kernel_rfl) (by kernel_rfl) (fun _ _ _ h => h) (Or.inl ⟨by kernel_rfl, ?_⟩) hHeld ?_
        rotate_left
        · (intro wS hSw; (try dsimp only at hSw); go_simp; all_goals (with_reducible rfl))
        try simp only [Act.put, List.setIfInBounds_toArray, List.set_cons_zero, List.set_cons_succ]
        refine wpAnyH_take (i := 15) (oi := Oper.mk _ _ _ _ _ _) (v := ?_) rfl (by kernel_rfl) (by kernel_rfl) (by kernel_rfl) (fun _ _ _ h => h) (Or.inl ⟨by kernel_rfl, ?_⟩) hHeld ?_
        rotate_left
        · (intro wS hSw; (try dsimp only at hSw); go_simp; all_goals (with_reducible rfl))
        try simp only [Act.put, List.setIfInBounds_toArray, List.set_cons_zero, List.set_cons_succ]
        refine wpAnyH_done (by kernel_rfl) ?_ _
        have hb5 := hb4.trans (hd2.mono hb4.size)
        have hgr5 := hgr4'.out.below hd2
        have hs5 := hb5.size
        clear hHeld hd hd2 hB5 hb4 hgr4'
        cases cb
        · have e2 : CF (k + 1) = CF k ++ [(k : Int)] := by rw [hcf1'.out]; rfl
          have hb5' := Lib.hid hb5
          have hgr5' := Lib.hid hgr5
          have e2' := Lib.hid e2
          clear hb5 hgr5 e2
          go_wp2_with (at_builtin; refine wpList_append_int rfl _ _ rfl w.heap.size u6 (CF k) (k : Int) 1 rfl rfl hgr5'.out (by have := hcl1'.out; omega) hs5 ?_)
          intro v' w6 hown hgrow
          have hb6 := hgr5'.out.belowB hb5'.out (Nat.le_refl _) hs5 hgrow
          clear hgrow
          have hown' := Lib.hid hown
          have hb6' := Lib.hid hb6
          clear hown hb6
          go_wp2
          go_roundw
          case rel => exact ⟨k + 1, by omega, by go_num, by rw [e2'.out]; exact hown'.out, hck1'.out, hb6'.out⟩
          case measure => simp [intOf]; omega
        · have e2 : CF (k + 1) = CF k := by rw [hcf1'.out]; rfl
          have hb5' := Lib.hid hb5
          have hgr5' := Lib.hid hgr5
          have e2' := Lib.hid e2
          clear hb5 hgr5 e2
          go_wp2
          go_roundw
          case rel => exact ⟨k + 1, by omega, by go_num, by rw [e2'.out]; exact hgr5'.out, hck1'.out, hb5'.out⟩
          case measure => simp [intOf]; omega
    · obtain rfl : k = n := by omega
      have hV := hV'.out
      have hgro := hgr.own
      rw [if_pos hcr] at hV
      subst hV
      clear hcr hgr H'
      have hbr' := Lib.hid hbr
      have hgro' := Lib.hid hgro
      clear hbr hgro
      go_wp2
      go_ret2
      exact ⟨_, rfl, hgro'.out, hbr'.out⟩

end Go.Proofs.Ytfcanpebagpdbaa

/- The reference's mkWidths. No conditions but bounds. -/
import Derived.Test.YtnggopbehohjnaaGreatPkD
import Derived.Deep.RegionHeld3
namespace Go.Proofs.YtnggopbehohjnaaGreat
open Go.RowKit
set_option maxRecDepth 100000

set_option linter.unusedSimpArgs false in
set_option maxHeartbeats 1600000 in
theorem mkWidths_any (v : Value) (xs : List (Int × Int)) (w : World) (hv : RatsV w v xs) (hm : szRatS xs ≤ 1099511627776) (hb : ∀ i, i < xs.length → BdR (nthR xs i).1 (nthR xs i).2) :
    Calls Tryz.prog 110 #[v] w (RetOB OwnR (if wdOk xs (xs.length - 1) = true then (wdK xs (xs.length - 1), true) else ([], false)) w) := by
  replace hm : xs.length ≤ 1099511627776 := hm
  obtain ⟨ao, cap, rfl, _, _, H⟩ := hv.form
  obtain ⟨n, hn⟩ : ∃ n, xs.length = n := ⟨_, rfl⟩
  rw [hn] at hb H hv hm ⊢
  obtain ⟨R, hR⟩ : ∃ R, (if wdOk xs (n - 1) = true then (wdK xs (n - 1), true) else ([], false)) = R := ⟨_, rfl⟩
  rw [hR]
  have hb' := Lib.hid hb
  have hv' := Lib.hid hv
  have H' := Lib.hid H
  have hn' := Lib.hid hn
  have hR' := Lib.hid hR
  clear hb hv H hn hR
  go_enter Tryz.func110, Tryz.ntmps110
  go_wp2
  go_loopw [4, 5] (fun o i wr => ∃ k : Nat, (k + 1 ≤ n ∨ k = 0) ∧ i = .int .i64 ((k : Int) + 1) ∧ GrowR wr w.heap.size o (wdK xs k) ∧ wdOk xs k = true ∧ Below w.heap.size w wr) (fun _ i _ => n - (intOf i).toNat)
  case atStart => exact ⟨0, .inr rfl, rfl, GrowR.nil _ _, rfl, Below.refl _ _⟩
  case round =>
    obtain ⟨k, hk, rfl, hg, hok, hB⟩ := hrel
    by_cases hlt : k + 1 < n
    · obtain ⟨j, hj⟩ : ∃ j : Nat, j = k + 1 := ⟨_, rfl⟩
      rw [← hj] at hlt
      rw [show (k : Int) + 1 = (j : Int) by omega]
      obtain ⟨b, off, rfl, hc0, hc1⟩ := H'.out k (by omega)
      obtain ⟨_, _, e', hd0, hd1⟩ := H'.out j hlt
      cases e'
      have l0 := World.block_lt_of_cell? _ _ hc0
      simp only at l0
      have c1 := fun w => raSub_any (nthR xs j) (nthR xs k) w (hb'.out j hlt) (hb'.out k (by omega))
      have hR1 : subR (nthR xs j) (nthR xs k) = wdR xs k := by rw [hj]; rfl
      rw [hR1] at c1
      have hws := wdK_step xs k
      have hwo := wdOk_step xs k
      have hwf := fun h => wdOk_false (xs := xs) (k := k) (n := n - 1) (by omega) h
      generalize wdR xs k = D at *
      obtain ⟨⟨r1, r2⟩, r3⟩ := D
      generalize nthR xs k = x at *
      generalize nthR xs j = y at *
      obtain ⟨p, q⟩ := x
      obtain ⟨p', q'⟩ := y
      simp only at c1 hc0 hc1 hd0 hd1 hws hwo hwf
      have at' : ∀ w', Below w.heap.size w w' → (w'.cell? ⟨b, off + k * 2, none⟩ = some (.int .i64 p) ∧ w'.cell? ⟨b, off + k * 2 + 1, none⟩ = some (.int .i64 q)) ∧ w'.cell? ⟨b, off + j * 2, none⟩ = some (.int .i64 p') ∧ w'.cell? ⟨b, off + j * 2 + 1, none⟩ = some (.int .i64 q') :=
        fun w' h => ⟨⟨(h.cell (p := ⟨b, off + k * 2, none⟩) l0).trans hc0, (h.cell (p := ⟨b, off + k * 2 + 1, none⟩) l0).trans hc1⟩, (h.cell (p := ⟨b, off + j * 2, none⟩) l0).trans hd0, (h.cell (p := ⟨b, off + j * 2 + 1, none⟩) l0).trans hd1⟩
      clear hc0 hc1 hd0 hd1
      have g1 : IntKind.i64.wrap ((j : Int) - 1) = (k : Int) := by rw [IntKind.wrap_i64]; omega
      have g2 : (0 : Int) ≤ (k : Int) := by omega
      have g3 : (k : Int) < (n : Int) := by omega
      have g4 : k < n := by omega
      have g5 : (0 : Int) ≤ (j : Int) := by omega
      have hb1 := hB.drew
      have hs0 := hB.size
      have c1' := Lib.hid c1
      have hws' := Lib.hid hws
      have hwo' := Lib.hid hwo
      have hwf' := Lib.hid hwf
      have hg' := Lib.hid hg
      have hok' := Lib.hid hok
      have at'' := Lib.hid at'
      have hj' := Lib.hid hj
      clear c1 hws hwo hwf hg hok at' hj
      go_wp2_with fail
      refine wp_region_held_drew (S := (fun w' => (w'.cell? ⟨b, off + k * 2, none⟩ = some (.int .i64 p) ∧ w'.cell? ⟨b, off + k * 2 + 1, none⟩ = some (.int .i64 q)) ∧ w'.cell? ⟨b, off + j * 2, none⟩ = some (.int .i64 p') ∧ w'.cell? ⟨b, off + j * 2 + 1, none⟩ = some (.int .i64 q'))) (by kernel_rfl) (by (try dsimp only); (first | exact at''.out _ hb1 | exact at''.out _ hb2 | exact at''.out _ hb3 | exact at''.out _ hb4)) (fun hHeld => ?_)
      refine ly_q 0 (v := ?_) hHeld ?_
      try simp only [Act.put, lyA, lyB, lyC]
      refine ly_q 1 (v := ?_) hHeld ?_
      try simp only [Act.put, lyA, lyB, lyC]
      refine ly_q 2 (v := ?_) hHeld ?_
      try simp only [Act.put, lyA, lyB, lyC]
      refine ly_q 3 (v := ?_) hHeld ?_
      try simp only [Act.put, lyA, lyB, lyC]
      refine ly_q 4 (v := ?_) hHeld ?_
      try simp only [Act.put, lyA, lyB, lyC]
      refine ly_q 5 (v := ?_) hHeld ?_
      try simp only [Act.put, lyA, lyB, lyC]
      refine ly_q 6 (v := ?_) hHeld ?_
      try simp only [Act.put, lyA, lyB, lyC]
      refine ly_q 7 (v := ?_) hHeld ?_
      try simp only [Act.put, lyA, lyB, lyC]
      refine ly_q 8 (v := ?_) hHeld ?_
      try simp only [Act.put, lyA, lyB, lyC]
      refine wpAnyH_ready (rs := [9, 13]) (by kernel_rfl) (by simp) ?_
      refine AllReadyH.cons (o := Oper.mk _ _ _ _ _ _) rfl (fun KK hKK => ?_) (AllReadyH.cons (o := Oper.mk _ _ _ _ _ _) rfl (fun KK hKK => ?_) (AllReadyH.nil))
      · rw [if_pos (by kernel_rfl)]
        go_simp
        refine (c1'.out _).mono ?_
        rintro e w2 ⟨rfl, hB2⟩
        have hb2 := hb1.trans (hB2.mono hb1.size)
        try dsimp only
        refine hKK.out _ _ (by (try dsimp only); (first | exact at''.out _ hb1 | exact at''.out _ hb2 | exact at''.out _ hb3 | exact at''.out _ hb4)) (fun hHeld => ?_)
        clear hKK KK
        try simp only [Act.put, lyA, lyB, lyC]
        refine ly_q 10 (v := ?_) hHeld ?_
        try simp only [Act.put, lyA, lyB, lyC]
        refine ly_q 11 (v := ?_) hHeld ?_
        try simp only [Act.put, lyA, lyB, lyC]
        refine ly_q 12 (v := ?_) hHeld ?_
        try simp only [Act.put, lyA, lyB, lyC]
        refine ly_a 13 (fun KK hKK => ?_)
        go_simp
        have hb3 : Below w.heap.size w (w2.alloc (.cells #[.int .i64 0, .int .i64 0] 50)) := hb2.alloc hb2.size _
        try dsimp only
        refine hKK.out _ _ (by (try dsimp only); (first | exact at''.out _ hb1 | exact at''.out _ hb2 | exact at''.out _ hb3 | exact at''.out _ hb4)) (fun hHeld => ?_)
        clear hKK KK
        try simp only [Act.put, lyA, lyB, lyC]
        refine ly_a 14 (fun KK hKK => ?_)
        go_simp
        have hb4 : Below w.heap.size w (w2.alloc (.cells #[.int .i64 r1, .int .i64 r2] 50)) := hb2.alloc hb2.size _
        try dsimp only
        refine hKK.out _ _ (by (try dsimp only); (first | exact at''.out _ hb1 | exact at''.out _ hb2 | exact at''.out _ hb3 | exact at''.out _ hb4)) (fun hHeld => ?_)
        clear hKK KK
        try simp only [Act.put, lyA, lyB, lyC]
        refine ly_q 15 (v := ?_) hHeld ?_
        try simp only [Act.put, lyA, lyB, lyC]
        refine wpAnyH_done (by kernel_rfl) ?_ _
        have hB2r : Below wr.heap.size wr w2 := by
          exact (Below.refl _ _).drew.trans hB2
        obtain ⟨V, hV⟩ : ∃ V, w2.alloc (.cells #[.int .i64 r1, .int .i64 r2] 50) = V := ⟨_, rfl⟩
        have v0 : V.cell? ⟨w2.heap.size, 0, none⟩ = some (.int .i64 r1) := by rw [← hV]; simp [go_sem]
        have v1 : V.cell? ⟨w2.heap.size, 1, none⟩ = some (.int .i64 r2) := by rw [← hV]; simp [go_sem]
        have hBV : Below wr.heap.size wr V := by rw [← hV]; exact hB2r.alloc hB2r.size _
        have hgV := hg'.out.below hBV
        rw [hV] at hb4 ⊢
        have hsV := hb4.size
        clear hV hBV hB2r hB2 hb3 hb2 hb1 hHeld
        have hlen := wdK_len xs k
        cases r3
        · have hR2 : R = ([], false) := by rw [← hR'.out, if_neg (by rw [hwf'.out rfl]; simp)]
          subst hR2
          go_wp2
          go_ret2
          exact ⟨_, rfl, OwnR.nil _ _ _, hb4⟩
        · go_wp2_with (at_builtin; refine wpList_append_rat rfl _ _ rfl w.heap.size u4 (wdK xs k) r1 r2 _ rfl rfl hgV (by omega) hsV ?_)
          intro v' w' hown' hgrow
          go_wp2
          go_roundw
          case rel =>
            have := hj'.out
            exact ⟨k + 1, .inl (by omega), by go_num, by rw [hws'.out]; exact hown', by rw [hwo'.out, hok'.out]; rfl, hgV.belowB hb4 (Nat.le_refl _) hsV hgrow⟩
          case measure => simp [intOf]; omega
      · rw [if_pos (by kernel_rfl)]
        go_simp
        have hb2 : Below w.heap.size w (wr.drew.alloc (.cells #[.int .i64 0, .int .i64 0] 50)) := hb1.alloc hs0 _
        try dsimp only
        refine hKK.out _ _ (by (try dsimp only); (first | exact at''.out _ hb1 | exact at''.out _ hb2 | exact at''.out _ hb3 | exact at''.out _ hb4)) (fun hHeld => ?_)
        clear hKK KK
        try simp only [Act.put, lyA, lyB, lyC]
        refine ly_a 9 (fun KK hKK => ?_)
        go_simp
        refine (c1'.out _).mono ?_
        rintro e w2 ⟨rfl, hB2⟩
        have hb3 := hb2.trans (hB2.mono hb2.size)
        obtain ⟨hc2, hf2⟩ := bcell hB2
        have q0 : w2.cell? ⟨wr.heap.size, 0, none⟩ = some (.int .i64 0) := by rw [hc2 _ _ (by simp)]; simp [go_sem]
        have q1 : w2.cell? ⟨wr.heap.size, 1, none⟩ = some (.int .i64 0) := by rw [hc2 _ _ (by simp)]; simp [go_sem]
        have q2 : w2.frozen? ⟨wr.heap.size, 0, none⟩ = false := by rw [hf2 _ _ (by simp)]; simp [go_sem]
        have q3 : w2.frozen? ⟨wr.heap.size, 1, none⟩ = false := by rw [hf2 _ _ (by simp)]; simp [go_sem]
        clear hc2 hf2
        try dsimp only
        refine hKK.out _ _ (by (try dsimp only); (first | exact at''.out _ hb1 | exact at''.out _ hb2 | exact at''.out _ hb3 | exact at''.out _ hb4)) (fun hHeld => ?_)
        clear hKK KK
        try simp only [Act.put, lyA, lyB, lyC]
        refine ly_q 10 (v := ?_) hHeld ?_
        try simp only [Act.put, lyA, lyB, lyC]
        refine ly_q 11 (v := ?_) hHeld ?_
        try simp only [Act.put, lyA, lyB, lyC]
        refine ly_q 12 (v := ?_) hHeld ?_
        try simp only [Act.put, lyA, lyB, lyC]
        refine ly_a 14 (fun KK hKK => ?_)
        go_simp
        have hb4 := (hb3.setCell (p := ⟨wr.heap.size, 0, none⟩) hs0 (.int .i64 r1)).setCell (p := ⟨wr.heap.size, 1, none⟩) hs0 (.int .i64 r2)
        try dsimp only
        refine hKK.out _ _ (by (try dsimp only); (first | exact at''.out _ hb1 | exact at''.out _ hb2 | exact at''.out _ hb3 | exact at''.out _ hb4)) (fun hHeld => ?_)
        clear hKK KK
        try simp only [Act.put, lyA, lyB, lyC]
        refine ly_q 15 (v := ?_) hHeld ?_
        try simp only [Act.put, lyA, lyB, lyC]
        refine wpAnyH_done (by kernel_rfl) ?_ _
        have hB2r : Below wr.heap.size wr w2 := by
          exact (((Below.refl wr.heap.size wr).drew).alloc (Nat.le_refl _) _).trans (hB2.mono (by simp))
        obtain ⟨V, hV⟩ : ∃ V, (w2.setCell ⟨wr.heap.size, 0, none⟩ (.int .i64 r1)).setCell ⟨wr.heap.size, 1, none⟩ (.int .i64 r2) = V := ⟨_, rfl⟩
        have v0 : V.cell? ⟨wr.heap.size, 0, none⟩ = some (.int .i64 r1) := by rw [← hV]; simp [go_sem, q0, q1]
        have v1 : V.cell? ⟨wr.heap.size, 1, none⟩ = some (.int .i64 r2) := by rw [← hV]; simp [go_sem, q0, q1]
        have hBV : Below wr.heap.size wr V := by rw [← hV]; exact (hB2r.setCell (p := ⟨wr.heap.size, 0, none⟩) (Nat.le_refl _) _).setCell (p := ⟨wr.heap.size, 1, none⟩) (Nat.le_refl _) _
        have hgV := hg'.out.below hBV
        rw [hV] at hb4 ⊢
        have hsV := hb4.size
        clear hV hBV hB2r hB2 hb3 hb2 hb1 hHeld
        clear q0 q1 q2 q3
        have hlen := wdK_len xs k
        cases r3
        · have hR2 : R = ([], false) := by rw [← hR'.out, if_neg (by rw [hwf'.out rfl]; simp)]
          subst hR2
          go_wp2
          go_ret2
          exact ⟨_, rfl, OwnR.nil _ _ _, hb4⟩
        · go_wp2_with (at_builtin; refine wpList_append_rat rfl _ _ rfl w.heap.size u4 (wdK xs k) r1 r2 _ rfl rfl hgV (by omega) hsV ?_)
          intro v' w' hown' hgrow
          go_wp2
          go_roundw
          case rel =>
            have := hj'.out
            exact ⟨k + 1, .inl (by omega), by go_num, by rw [hws'.out]; exact hown', by rw [hwo'.out, hok'.out]; rfl, hgV.belowB hb4 (Nat.le_refl _) hsV hgrow⟩
          case measure => simp [intOf]; omega
    · have hke : k = n - 1 := by omega
      have hR2 : R = (wdK xs k, true) := by rw [← hR'.out, ← hke, if_pos hok]
      subst hR2
      have ho := hg.own
      have hg' := Lib.hid hg
      have ho' := Lib.hid ho
      have hok' := Lib.hid hok
      clear hg ho hok
      clear H'
      go_wp2
      go_ret2
      exact ⟨_, rfl, ho'.out, hB⟩

end Go.Proofs.YtnggopbehohjnaaGreat

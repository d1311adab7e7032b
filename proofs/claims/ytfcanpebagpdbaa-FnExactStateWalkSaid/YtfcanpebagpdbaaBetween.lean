/- The intervals between neighbouring fractions. No conditions. -/
import Derived.Test.YtfcanpebagpdbaaQuad
import Derived.Test.YtfcanpebagpdbaaPart
namespace Go.Proofs.Ytfcanpebagpdbaa
open Go.RowKit

/-- The first k intervals between neighbours. -/
def betwK (xs : List (Int × Int)) (k : Nat) : List Quad := (List.range k).map fun i => (nthR xs i, nthR xs (i + 1))
def betwL (xs : List (Int × Int)) : List Quad := betwK xs (xs.length - 1)
theorem betwK_len (xs : List (Int × Int)) (k : Nat) : (betwK xs k).length = k := by simp [betwK]
theorem betwK_step (xs : List (Int × Int)) (k : Nat) : betwK xs (k + 1) = betwK xs k ++ [(nthR xs k, nthR xs (k + 1))] := by simp [betwK, List.range_succ]
theorem nth4_betwK (xs : List (Int × Int)) {k i : Nat} (h : i < k) : nth4 (betwK xs k) i = (nthR xs i, nthR xs (i + 1)) := by
  rw [nth4_eq (by rw [betwK_len]; exact h)]; simp [betwK]

set_option linter.unusedSimpArgs false in
set_option maxHeartbeats 800000 in
theorem between_any (v : Value) (xs : List (Int × Int)) (w : World) (hv : RatsV w v xs) (hm : szRatS xs ≤ 1099511627776) :
    Calls Try.prog 113 #[v] w (RetO OwnI (betwL xs) w) := by
  replace hm : xs.length ≤ 1099511627776 := hm
  obtain ⟨ao, cap, rfl, _, _, H⟩ := hv.form
  obtain ⟨n, hn⟩ : ∃ n, xs.length = n := ⟨_, rfl⟩
  unfold betwL
  rw [hn] at hm H hv ⊢
  have hn' := Lib.hid hn
  have hv' := Lib.hid hv
  have H' := Lib.hid H
  clear hn hv H
  go_enter Try.func113, Try.ntmps113
  go_wp2
  go_loopw [3, 4] (fun o i wr => ∃ k : Nat, (k + 1 ≤ n ∨ k = 0) ∧ i = .int .i64 ((k : Int) + 1) ∧ GrowI wr w.heap.size o (betwK xs k) ∧ Below w.heap.size w wr) (fun _ i _ => n - (intOf i).toNat)
  case atStart => exact ⟨0, .inr rfl, rfl, GrowI.nil _ _, Below.refl _ _⟩
  case round =>
    obtain ⟨k, hk, rfl, hg, hB⟩ := hrel
    by_cases hlt : k + 1 < n
    · obtain ⟨b, off, rfl, hc0, hc1⟩ := H'.out k (by omega)
      obtain ⟨_, _, e', hd0, hd1⟩ := H'.out (k + 1) hlt
      cases e'
      have l0 := World.block_lt_of_cell? _ _ hc0
      simp only at l0
      have hst := betwK_step xs k
      have hgl : (betwK xs k).length ≤ 1099511627776 := by rw [betwK_len]; omega
      obtain ⟨⟨p, q⟩, hr1⟩ : ∃ r, nthR xs k = r := ⟨_, rfl⟩
      obtain ⟨⟨p', q'⟩, hr2⟩ : ∃ r, nthR xs (k + 1) = r := ⟨_, rfl⟩
      rw [hr1] at hc0 hc1
      rw [hr2] at hd0 hd1
      rw [hr1, hr2] at hst
      simp only at hc0 hc1 hd0 hd1
      have at' : ∀ w', Below w.heap.size w w' → (w'.cell? ⟨b, off + k * 2, none⟩ = some (.int .i64 p) ∧ w'.cell? ⟨b, off + k * 2 + 1, none⟩ = some (.int .i64 q)) ∧ w'.cell? ⟨b, off + (k + 1) * 2, none⟩ = some (.int .i64 p') ∧ w'.cell? ⟨b, off + (k + 1) * 2 + 1, none⟩ = some (.int .i64 q') :=
        fun w' h => ⟨⟨(h.cell (p := ⟨b, off + k * 2, none⟩) l0).trans hc0, (h.cell (p := ⟨b, off + k * 2 + 1, none⟩) l0).trans hc1⟩, (h.cell (p := ⟨b, off + (k + 1) * 2, none⟩) l0).trans hd0, (h.cell (p := ⟨b, off + (k + 1) * 2 + 1, none⟩) l0).trans hd1⟩
      clear hc0 hc1 hd0 hd1
      obtain ⟨j, hj⟩ : ∃ j : Nat, j = k + 1 := ⟨_, rfl⟩
      rw [← hj] at at' hlt
      rw [show (k : Int) + 1 = (j : Int) by omega]
      have g1 : IntKind.i64.wrap ((j : Int) - 1) = (k : Int) := by rw [IntKind.wrap_i64]; omega
      have g2 : (0 : Int) ≤ (k : Int) := by omega
      have g3 : (k : Int) < (n : Int) := by omega
      have g4 : k < n := by omega
      have hb1 := hB.drew
      have hs0 := hB.size
      have hb2 : Below w.heap.size w (wr.drew.alloc (.cells #[.int .i64 p, .int .i64 q, .int .i64 p', .int .i64 q'] 43)) := hb1.alloc hs0 _
      have hg1 : GrowI wr.drew w.heap.size u3 (betwK xs k) := hg
      have hst' := Lib.hid hst
      have hr1' := Lib.hid hr1
      have hr2' := Lib.hid hr2
      have at'' := Lib.hid at'
      have hg1' := Lib.hid hg1
      have hgl' := Lib.hid hgl
      have hj' := Lib.hid hj
      clear hst hr1 hr2 at' hg1 hgl hj
      clear hg
      go_wp2_with fail
      refine wp_region_held_drew (S := (fun w' => (w'.cell? ⟨b, off + k * 2, none⟩ = some (.int .i64 p) ∧ w'.cell? ⟨b, off + k * 2 + 1, none⟩ = some (.int .i64 q)) ∧ w'.cell? ⟨b, off + j * 2, none⟩ = some (.int .i64 p') ∧ w'.cell? ⟨b, off + j * 2 + 1, none⟩ = some (.int .i64 q'))) (by kernel_rfl) (by (try dsimp only); (first | exact at''.out _ hb1 | exact at''.out _ hb2 | exact at''.out _ hb3)) (fun hHeld => ?_)
      refine wpAnyH_take (i := 0) (oi := Oper.mk _ _ _ _ _ _) (v := ?_) rfl (by kernel_rfl) (by kernel_rfl) (by kernel_rfl) (fun _ _ _ h => h) (Or.inl ⟨by kernel_rfl, ?_⟩) hHeld ?_
      rotate_left
      · (intro wS hSw; (try dsimp only at hSw); go_simp; all_goals (with_reducible rfl))
      try simp only [Act.put, List.setIfInBounds_toArray, List.set_cons_zero, List.set_cons_succ]
      refine wpAnyH_take (i := 1) (oi := Oper.mk _ _ _ _ _ _) (v := ?_) rfl (by kernel_rfl) (by kernel_rfl) (by kernel_rfl) (fun _ _ _ h => h) (Or.inl ⟨by kernel_rfl, ?_⟩) hHeld ?_
      rotate_left
      · (intro wS hSw; (try dsimp only at hSw); go_simp; all_goals (with_reducible rfl))
      try simp only [Act.put, List.setIfInBounds_toArray, List.set_cons_zero, List.set_cons_succ]
      refine wpAnyH_take (i := 2) (oi := Oper.mk _ _ _ _ _ _) (v := ?_) rfl (by kernel_rfl) (by kernel_rfl) (by kernel_rfl) (fun _ _ _ h => h) (Or.inl ⟨by kernel_rfl, ?_⟩) hHeld ?_
      rotate_left
      · (intro wS hSw; (try dsimp only at hSw); go_simp; all_goals (with_reducible rfl))
      try simp only [Act.put, List.setIfInBounds_toArray, List.set_cons_zero, List.set_cons_succ]
      refine wpAnyH_take (i := 3) (oi := Oper.mk _ _ _ _ _ _) (v := ?_) rfl (by kernel_rfl) (by kernel_rfl) (by kernel_rfl) (fun _ _ _ h => h) (Or.inl ⟨by kernel_rfl, ?_⟩) hHeld ?_
      rotate_left
      · (intro wS hSw; (try dsimp only at hSw); go_simp; all_goals (with_reducible rfl))
      try simp only [Act.put, List.setIfInBounds_toArray, List.set_cons_zero, List.set_cons_succ]
      refine wpAnyH_take (i := 4) (oi := Oper.mk _ _ _ _ _ _) (v := ?_) rfl (by kernel_rfl) (by kernel_rfl) (by kernel_rfl) (fun _ _ _ h => h) (Or.inl ⟨by kernel_rfl, ?_⟩) hHeld ?_
      rotate_left
      · (intro wS hSw; (try dsimp only at hSw); go_simp; all_goals (with_reducible rfl))
      try simp only [Act.put, List.setIfInBounds_toArray, List.set_cons_zero, List.set_cons_succ]
      refine wpAnyH_take (i := 5) (oi := Oper.mk _ _ _ _ _ _) (v := ?_) rfl (by kernel_rfl) (by kernel_rfl) (by kernel_rfl) (fun _ _ _ h => h) (Or.inl ⟨by kernel_rfl, ?_⟩) hHeld ?_
      rotate_left
      · (intro wS hSw; (try dsimp only at hSw); go_simp; all_goals (with_reducible rfl))
      try simp only [Act.put, List.setIfInBounds_toArray, List.set_cons_zero, List.set_cons_succ]
      refine wpAnyH_take (i := 6) (oi := Oper.mk _ _ _ _ _ _) (v := ?_) rfl (by kernel_rfl) (by kernel_rfl) (by kernel_rfl) (fun _ _ _ h => h) (Or.inl ⟨by kernel_rfl, ?_⟩) hHeld ?_
      rotate_left
      · (intro wS hSw; (try dsimp only at hSw); go_simp; all_goals (with_reducible rfl))
      try simp only [Act.put, List.setIfInBounds_toArray, List.set_cons_zero, List.set_cons_succ]
      refine wpAnyH_take (i := 7) (oi := Oper.mk _ _ _ _ _ _) (v := ?_) rfl (by kernel_rfl) (by kernel_rfl) (by kernel_rfl) (fun _ _ _ h => h) (Or.inl ⟨by kernel_rfl, ?_⟩) hHeld ?_
      rotate_left
      · (intro wS hSw; (try dsimp only at hSw); go_simp; all_goals (with_reducible rfl))
      try simp only [Act.put, List.setIfInBounds_toArray, List.set_cons_zero, List.set_cons_succ]
      refine wpAnyH_take (i := 8) (oi := Oper.mk _ _ _ _ _ _) (v := ?_) rfl (by kernel_rfl) (by kernel_rfl) (by kernel_rfl) (fun _ _ _ h => h) (Or.inl ⟨by kernel_rfl, ?_⟩) hHeld ?_
      rotate_left
      · (intro wS hSw; (try dsimp only at hSw); go_simp; all_goals (with_reducible rfl))
      try simp only [Act.put, List.setIfInBounds_toArray, List.set_cons_zero, List.set_cons_succ]
      refine wpAnyH_take (i := 9) (oi := Oper.mk _ _ _ _ _ _) (v := ?_) rfl (by kernel_rfl) (by kernel_rfl) (by kernel_rfl) (fun _ _ _ h => h) (Or.inl ⟨by kernel_rfl, ?_⟩) hHeld ?_
      rotate_left
      · (intro wS hSw; (try dsimp only at hSw); go_simp; all_goals (with_reducible rfl))
      try simp only [Act.put, List.setIfInBounds_toArray, List.set_cons_zero, List.set_cons_succ]
      refine wpAnyH_take (i := 10) (oi := Oper.mk _ _ _ _ _ _) (v := ?_) rfl (by kernel_rfl) (by kernel_rfl) (by kernel_rfl) (fun _ _ _ h => h) (Or.inl ⟨by kernel_rfl, ?_⟩) hHeld ?_
      rotate_left
      · (intro wS hSw; (try dsimp only at hSw); go_simp; all_goals (with_reducible rfl))
      try simp only [Act.put, List.setIfInBounds_toArray, List.set_cons_zero, List.set_cons_succ]
      refine wpAnyH_ready (rs := [11]) (by kernel_rfl) (by simp) ?_
      refine AllReadyH.cons (o := Oper.mk _ _ _ _ _ _) rfl (fun KK hKK => ?_) AllReadyH.nil
      rw [if_pos (by kernel_rfl)]
      go_simp
      skip
      try dsimp only
      refine hKK.out _ _ (by (try dsimp only); (first | exact at''.out _ hb1 | exact at''.out _ hb2 | exact at''.out _ hb3)) (fun hHeld => ?_)
      clear hKK KK
      try simp only [Act.put, List.setIfInBounds_toArray, List.set_cons_zero, List.set_cons_succ]
      refine wpAnyH_ready (rs := [12]) (by kernel_rfl) (by simp) ?_
      refine AllReadyH.cons (o := Oper.mk _ _ _ _ _ _) rfl (fun KK hKK => ?_) AllReadyH.nil
      rw [if_pos (by kernel_rfl)]
      refine wp_append_I _ _ rfl w.heap.size u3 (betwK xs k) p q p' q' _ rfl rfl hg1'.out hgl'.out hs0 ?_
      intro v2 w2 hg2 hgr
      have hb3 := hg1'.out.belowB hb1 (Nat.le_refl _) hs0 hgr
      try dsimp only
      refine hKK.out _ _ (by (try dsimp only); (first | exact at''.out _ hb1 | exact at''.out _ hb2 | exact at''.out _ hb3)) (fun hHeld => ?_)
      clear hKK KK
      try simp only [Act.put, List.setIfInBounds_toArray, List.set_cons_zero, List.set_cons_succ]
      refine wpAnyH_take (i := 13) (oi := Oper.mk _ _ _ _ _ _) (v := ?_) rfl (by kernel_rfl) (by kernel_rfl) (by kernel_rfl) (fun _ _ _ h => h) (Or.inl ⟨by kernel_rfl, ?_⟩) hHeld ?_
      rotate_left
      · (intro wS hSw; (try dsimp only at hSw); go_simp; all_goals (with_reducible rfl))
      try simp only [Act.put, List.setIfInBounds_toArray, List.set_cons_zero, List.set_cons_succ]
      refine wpAnyH_done (by kernel_rfl) ?_ _
      go_wp2
      go_roundw
      case rel =>
        have := hj'.out
        rw [← hst'.out] at hg2
        exact ⟨k + 1, .inl (by omega), by go_num, hg2, hb3⟩
      case measure => simp [intOf]; omega
    · have hke : betwK xs k = betwK xs (n - 1) := by rw [show n - 1 = k by omega]
      rw [hke] at hg
      have ho := hg.own
      have hke' := Lib.hid hke
      have hg' := Lib.hid hg
      have ho' := Lib.hid ho
      clear hke hg ho
      clear H'
      go_wp2
      go_ret
      exact ⟨_, rfl, ho'.out.mono (Nat.le_refl _) (Nat.le_refl _), hB⟩

end Go.Proofs.Ytfcanpebagpdbaa

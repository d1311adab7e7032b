/- Several texts in one: Part LiftRs Quad Between States StatesOf. No conditions but those that each theorem states. -/
import Derived.Test.YtnggopbehohjnaaGreatPkB

namespace Go.Proofs.YtnggopbehohjnaaGreat
open Go.RowKit
set_option maxRecDepth 100000

/-- A partition: 2 to 9 fractions of 0..1, strictly rising from 0 to 1. -/
def partB (xs : List (Int × Int)) : Bool :=
  inB xs.length 2 9 && (unitsB xs && (riseK xs xs.length && (decide (nthR xs 0 = (0, 1)) && decide (nthR xs (xs.length - 1) = (1, 1)))))

set_option linter.unusedSimpArgs false in
set_option maxHeartbeats 1600000 in
theorem isPartition_any (v : Value) (xs : List (Int × Int)) (w : World) (hv : RatsV w v xs) (hm : szRatS xs ≤ 1099511627776) :
    Calls Tryz.prog 106 #[v] w (Ret (.bool (partB xs)) w) := by
  replace hm : xs.length ≤ 1099511627776 := hm
  obtain ⟨ao, cap, rfl, _, _, H⟩ := hv.form
  have c1 := fun w => within_any (xs.length : Int) 2 9 w
  unfold partB
  cases hw : inB xs.length 2 9
  · rw [hw] at c1
    rw [Bool.false_and]
    generalize xs.length = n at *
    have c1' := Lib.hid c1
    clear c1
    clear H
    go_enter Tryz.func106, Tryz.ntmps106
    go_wp2_with fail
    go_quiet ((go_at_call 169; exact Calls.quiet_of_same (Same.is (c1'.out _))))
    go_wp2
    go_ret
    exact ⟨rfl, below_drewN (Below.refl _ _) _⟩
  · rw [hw] at c1
    rw [Bool.true_and]
    rw [inB_true] at hw
    have c2 := fun w' (hB : Below w.heap.size w w') => areUnits_any _ xs w' (hv.below hB) hm
    have c3 := fun w' (hB : Below w.heap.size w w') h => isRising_any _ xs w' (hv.below hB) hm h
    obtain ⟨b, off, e1, hp0, hp1⟩ := H 0 (by omega)
    obtain ⟨_, _, e2, hq0, hq1⟩ := H (xs.length - 1) (by omega)
    cases e1; cases e2
    have hub : unitsB xs = true → ∀ i, i < xs.length → BdR (nthR xs i).1 (nthR xs i).2 := fun h i hi => unitR_bd (unitsB_nth h hi)
    generalize unitsB xs = U at *
    generalize riseK xs xs.length = R at *
    obtain ⟨n, hn⟩ : ∃ n, xs.length = n := ⟨_, rfl⟩
    obtain ⟨m, hm1⟩ : ∃ m, xs.length - 1 = m := ⟨_, rfl⟩
    obtain ⟨⟨p, q⟩, hr1⟩ : ∃ r, nthR xs 0 = r := ⟨_, rfl⟩
    obtain ⟨⟨p', q'⟩, hr2⟩ : ∃ r, nthR xs m = r := ⟨_, rfl⟩
    rw [hm1, hr2] at hq0 hq1 ⊢
    rw [hr1] at hp0 hp1 ⊢
    rw [hn] at hw hm hv c1 c2 c3 hub hm1 ⊢
    have l0 := World.block_lt_of_cell? _ _ hp0
    simp only at hp0 hp1 hq0 hq1
    have g1 : IntKind.i64.wrap ((n : Int) - 1) = (m : Int) := by rw [IntKind.wrap_i64]; omega
    have g2 : (0 : Int) ≤ (m : Int) := by omega
    have g3 : (m : Int) < (n : Int) := by omega
    have g4 : (0 : Int) ≤ (n : Int) := by omega
    have g5 : (0 : Int) < (n : Int) := by omega
    have g6 : 0 < n := by omega
    have g7 : m < n := by omega
    rw [Nat.zero_mul, Nat.add_zero] at hp0 hp1
    have c1' := Lib.hid c1
    have c2' := Lib.hid c2
    have c3' := Lib.hid c3
    have hub' := Lib.hid hub
    have hn' := Lib.hid hn
    have hm1' := Lib.hid hm1
    have hr1' := Lib.hid hr1
    have hr2' := Lib.hid hr2
    have hv' := Lib.hid hv
    clear c1 c2 c3 hub hn hm1 hr1 hr2 hv
    clear H
    have hb0 := Below.refl w.heap.size w
    cases U
    · rw [Bool.false_and]
      go_enter Tryz.func106, Tryz.ntmps106
      go_wp2_with fail
      refine wp_region_held_drew (S := (fun w' => (w'.cell? ⟨b, off, none⟩ = some (.int .i64 p) ∧ w'.cell? ⟨b, off + 1, none⟩ = some (.int .i64 q)) ∧ w'.cell? ⟨b, off + m * 2, none⟩ = some (.int .i64 p') ∧ w'.cell? ⟨b, off + m * 2 + 1, none⟩ = some (.int .i64 q'))) (by kernel_rfl) (by (try dsimp only); (first | exact ⟨⟨hp0, hp1⟩, hq0, hq1⟩ | exact ⟨⟨hp2, hp3⟩, hq2, hq3⟩ | exact ⟨⟨hp4, hp5⟩, hq4, hq5⟩ | exact ⟨⟨hp6, hp7⟩, hq6, hq7⟩ | exact ⟨⟨hp8, hp9⟩, hq8, hq9⟩)) (fun hHeld => ?_)
      refine ly_q 0 (v := ?_) hHeld ?_
      try simp only [Act.put, lyA, lyB, lyC]
      refine ly_q 1 (v := ?_) hHeld ?_
      try simp only [Act.put, lyA, lyB, lyC]
      refine ly_a 2 (fun KK hKK => ?_)
      go_simp
      refine (c1'.out _).mono ?_
      rintro e w1 ⟨rfl, rfl⟩
      try dsimp only
      refine hKK.out _ _ (by (try dsimp only); (first | exact ⟨⟨hp0, hp1⟩, hq0, hq1⟩ | exact ⟨⟨hp2, hp3⟩, hq2, hq3⟩ | exact ⟨⟨hp4, hp5⟩, hq4, hq5⟩ | exact ⟨⟨hp6, hp7⟩, hq6, hq7⟩ | exact ⟨⟨hp8, hp9⟩, hq8, hq9⟩)) (fun hHeld => ?_)
      clear hKK KK
      try simp only [Act.put, lyA, lyB, lyC]
      refine ly_q 3 (v := ?_) hHeld ?_
      try simp only [Act.put, lyA, lyB, lyC]
      refine ly_q 4 (v := ?_) hHeld ?_
      try simp only [Act.put, lyA, lyB, lyC]
      refine ly_a 5 (fun KK hKK => ?_)
      go_simp
      refine (c2'.out _ hb0.drew).mono ?_
      rintro e w2 ⟨rfl, hB2⟩
      have hb2 := hb0.drew.trans (hB2.mono (Nat.le_refl _))
      have l2 := Nat.lt_of_lt_of_le l0 hB2.size
      have hp2 := (hB2.cell (p := ⟨b, off, none⟩) l0).trans hp0
      have hp3 := (hB2.cell (p := ⟨b, off + 1, none⟩) l0).trans hp1
      have hq2 := (hB2.cell (p := ⟨b, off + m * 2, none⟩) l0).trans hq0
      have hq3 := (hB2.cell (p := ⟨b, off + m * 2 + 1, none⟩) l0).trans hq1
      try dsimp only
      refine hKK.out _ _ (by (try dsimp only); (first | exact ⟨⟨hp0, hp1⟩, hq0, hq1⟩ | exact ⟨⟨hp2, hp3⟩, hq2, hq3⟩ | exact ⟨⟨hp4, hp5⟩, hq4, hq5⟩ | exact ⟨⟨hp6, hp7⟩, hq6, hq7⟩ | exact ⟨⟨hp8, hp9⟩, hq8, hq9⟩)) (fun hHeld => ?_)
      clear hKK KK
      try simp only [Act.put, lyA, lyB, lyC]
      refine ly_q 6 (v := ?_) hHeld ?_
      try simp only [Act.put, lyA, lyB, lyC]
      refine ly_q 7 (v := ?_) hHeld ?_
      try simp only [Act.put, lyA, lyB, lyC]
      refine ly_off 8 hHeld ?_
      try simp only [Act.put, lyA, lyB, lyC]
      refine ly_off 9 hHeld ?_
      try simp only [Act.put, lyA, lyB, lyC]
      refine ly_q 10 (v := ?_) hHeld ?_
      try simp only [Act.put, lyA, lyB, lyC]
      refine ly_q 11 (v := ?_) hHeld ?_
      try simp only [Act.put, lyA, lyB, lyC]
      refine ly_off 12 hHeld ?_
      try simp only [Act.put, lyA, lyB, lyC]
      refine ly_off 13 hHeld ?_
      try simp only [Act.put, lyA, lyB, lyC]
      refine ly_off 14 hHeld ?_
      try simp only [Act.put, lyA, lyB, lyC]
      refine ly_off 15 hHeld ?_
      try simp only [Act.put, lyA, lyB, lyC]
      refine ly_off 16 hHeld ?_
      try simp only [Act.put, lyA, lyB, lyC]
      refine ly_q 17 (v := ?_) hHeld ?_
      try simp only [Act.put, lyA, lyB, lyC]
      refine ly_q 18 (v := ?_) hHeld ?_
      try simp only [Act.put, lyA, lyB, lyC]
      refine ly_off 19 hHeld ?_
      try simp only [Act.put, lyA, lyB, lyC]
      refine ly_off 20 hHeld ?_
      try simp only [Act.put, lyA, lyB, lyC]
      refine ly_off 21 hHeld ?_
      try simp only [Act.put, lyA, lyB, lyC]
      refine ly_off 22 hHeld ?_
      try simp only [Act.put, lyA, lyB, lyC]
      refine ly_off 23 hHeld ?_
      try simp only [Act.put, lyA, lyB, lyC]
      refine ly_off 24 hHeld ?_
      try simp only [Act.put, lyA, lyB, lyC]
      refine ly_off 25 hHeld ?_
      try simp only [Act.put, lyA, lyB, lyC]
      refine ly_off 26 hHeld ?_
      try simp only [Act.put, lyA, lyB, lyC]
      refine ly_q 27 (v := ?_) hHeld ?_
      try simp only [Act.put, lyA, lyB, lyC]
      refine ly_q 28 (v := ?_) hHeld ?_
      try simp only [Act.put, lyA, lyB, lyC]
      refine wpAnyH_done (by kernel_rfl) ?_ _
      go_wp2
      go_ret
      exact ⟨rfl, hb2⟩
    rw [Bool.true_and]
    have hbd := hub'.out rfl
    clear hub'
    have hbd' := Lib.hid hbd
    clear hbd
    cases R
    · rw [Bool.false_and]
      go_enter Tryz.func106, Tryz.ntmps106
      go_wp2_with fail
      refine wp_region_held_drew (S := (fun w' => (w'.cell? ⟨b, off, none⟩ = some (.int .i64 p) ∧ w'.cell? ⟨b, off + 1, none⟩ = some (.int .i64 q)) ∧ w'.cell? ⟨b, off + m * 2, none⟩ = some (.int .i64 p') ∧ w'.cell? ⟨b, off + m * 2 + 1, none⟩ = some (.int .i64 q'))) (by kernel_rfl) (by (try dsimp only); (first | exact ⟨⟨hp0, hp1⟩, hq0, hq1⟩ | exact ⟨⟨hp2, hp3⟩, hq2, hq3⟩ | exact ⟨⟨hp4, hp5⟩, hq4, hq5⟩ | exact ⟨⟨hp6, hp7⟩, hq6, hq7⟩ | exact ⟨⟨hp8, hp9⟩, hq8, hq9⟩)) (fun hHeld => ?_)
      refine ly_q 0 (v := ?_) hHeld ?_
      try simp only [Act.put, lyA, lyB, lyC]
      refine ly_q 1 (v := ?_) hHeld ?_
      try simp only [Act.put, lyA, lyB, lyC]
      refine ly_a 2 (fun KK hKK => ?_)
      go_simp
      refine (c1'.out _).mono ?_
      rintro e w1 ⟨rfl, rfl⟩
      try dsimp only
      refine hKK.out _ _ (by (try dsimp only); (first | exact ⟨⟨hp0, hp1⟩, hq0, hq1⟩ | exact ⟨⟨hp2, hp3⟩, hq2, hq3⟩ | exact ⟨⟨hp4, hp5⟩, hq4, hq5⟩ | exact ⟨⟨hp6, hp7⟩, hq6, hq7⟩ | exact ⟨⟨hp8, hp9⟩, hq8, hq9⟩)) (fun hHeld => ?_)
      clear hKK KK
      try simp only [Act.put, lyA, lyB, lyC]
      refine ly_q 3 (v := ?_) hHeld ?_
      try simp only [Act.put, lyA, lyB, lyC]
      refine ly_q 4 (v := ?_) hHeld ?_
      try simp only [Act.put, lyA, lyB, lyC]
      refine ly_a 5 (fun KK hKK => ?_)
      go_simp
      refine (c2'.out _ hb0.drew).mono ?_
      rintro e w2 ⟨rfl, hB2⟩
      have hb2 := hb0.drew.trans (hB2.mono (Nat.le_refl _))
      have l2 := Nat.lt_of_lt_of_le l0 hB2.size
      have hp2 := (hB2.cell (p := ⟨b, off, none⟩) l0).trans hp0
      have hp3 := (hB2.cell (p := ⟨b, off + 1, none⟩) l0).trans hp1
      have hq2 := (hB2.cell (p := ⟨b, off + m * 2, none⟩) l0).trans hq0
      have hq3 := (hB2.cell (p := ⟨b, off + m * 2 + 1, none⟩) l0).trans hq1
      try dsimp only
      refine hKK.out _ _ (by (try dsimp only); (first | exact ⟨⟨hp0, hp1⟩, hq0, hq1⟩ | exact ⟨⟨hp2, hp3⟩, hq2, hq3⟩ | exact ⟨⟨hp4, hp5⟩, hq4, hq5⟩ | exact ⟨⟨hp6, hp7⟩, hq6, hq7⟩ | exact ⟨⟨hp8, hp9⟩, hq8, hq9⟩)) (fun hHeld => ?_)
      clear hKK KK
      try simp only [Act.put, lyA, lyB, lyC]
      refine ly_q 6 (v := ?_) hHeld ?_
      try simp only [Act.put, lyA, lyB, lyC]
      refine ly_q 7 (v := ?_) hHeld ?_
      try simp only [Act.put, lyA, lyB, lyC]
      refine ly_q 8 (v := ?_) hHeld ?_
      try simp only [Act.put, lyA, lyB, lyC]
      refine ly_a 9 (fun KK hKK => ?_)
      go_simp
      refine (c3'.out _ hb2 hbd'.out).mono ?_
      rintro e w3 ⟨rfl, hB3⟩
      have hb3 := hb2.trans (hB3.mono hB2.size)
      have l3 := Nat.lt_of_lt_of_le l2 hB3.size
      have hp4 := (hB3.cell (p := ⟨b, off, none⟩) l2).trans hp2
      have hp5 := (hB3.cell (p := ⟨b, off + 1, none⟩) l2).trans hp3
      have hq4 := (hB3.cell (p := ⟨b, off + m * 2, none⟩) l2).trans hq2
      have hq5 := (hB3.cell (p := ⟨b, off + m * 2 + 1, none⟩) l2).trans hq3
      try dsimp only
      refine hKK.out _ _ (by (try dsimp only); (first | exact ⟨⟨hp0, hp1⟩, hq0, hq1⟩ | exact ⟨⟨hp2, hp3⟩, hq2, hq3⟩ | exact ⟨⟨hp4, hp5⟩, hq4, hq5⟩ | exact ⟨⟨hp6, hp7⟩, hq6, hq7⟩ | exact ⟨⟨hp8, hp9⟩, hq8, hq9⟩)) (fun hHeld => ?_)
      clear hKK KK
      try simp only [Act.put, lyA, lyB, lyC]
      refine ly_q 10 (v := ?_) hHeld ?_
      try simp only [Act.put, lyA, lyB, lyC]
      refine ly_q 11 (v := ?_) hHeld ?_
      try simp only [Act.put, lyA, lyB, lyC]
      refine ly_off 12 hHeld ?_
      try simp only [Act.put, lyA, lyB, lyC]
      refine ly_off 13 hHeld ?_
      try simp only [Act.put, lyA, lyB, lyC]
      refine ly_off 14 hHeld ?_
      try simp only [Act.put, lyA, lyB, lyC]
      refine ly_off 15 hHeld ?_
      try simp only [Act.put, lyA, lyB, lyC]
      refine ly_off 16 hHeld ?_
      try simp only [Act.put, lyA, lyB, lyC]
      refine ly_q 17 (v := ?_) hHeld ?_
      try simp only [Act.put, lyA, lyB, lyC]
      refine ly_q 18 (v := ?_) hHeld ?_
      try simp only [Act.put, lyA, lyB, lyC]
      refine ly_off 19 hHeld ?_
      try simp only [Act.put, lyA, lyB, lyC]
      refine ly_off 20 hHeld ?_
      try simp only [Act.put, lyA, lyB, lyC]
      refine ly_off 21 hHeld ?_
      try simp only [Act.put, lyA, lyB, lyC]
      refine ly_off 22 hHeld ?_
      try simp only [Act.put, lyA, lyB, lyC]
      refine ly_off 23 hHeld ?_
      try simp only [Act.put, lyA, lyB, lyC]
      refine ly_off 24 hHeld ?_
      try simp only [Act.put, lyA, lyB, lyC]
      refine ly_off 25 hHeld ?_
      try simp only [Act.put, lyA, lyB, lyC]
      refine ly_off 26 hHeld ?_
      try simp only [Act.put, lyA, lyB, lyC]
      refine ly_q 27 (v := ?_) hHeld ?_
      try simp only [Act.put, lyA, lyB, lyC]
      refine ly_q 28 (v := ?_) hHeld ?_
      try simp only [Act.put, lyA, lyB, lyC]
      refine wpAnyH_done (by kernel_rfl) ?_ _
      go_wp2
      go_ret
      exact ⟨rfl, hb3⟩
    rw [Bool.true_and]
    by_cases h1 : (p, q) = ((0 : Int), (1 : Int))
    rotate_left
    · rw [decide_eq_false h1, Bool.false_and]
      go_enter Tryz.func106, Tryz.ntmps106
      go_wp2_with fail
      refine wp_region_held_drew (S := (fun w' => (w'.cell? ⟨b, off, none⟩ = some (.int .i64 p) ∧ w'.cell? ⟨b, off + 1, none⟩ = some (.int .i64 q)) ∧ w'.cell? ⟨b, off + m * 2, none⟩ = some (.int .i64 p') ∧ w'.cell? ⟨b, off + m * 2 + 1, none⟩ = some (.int .i64 q'))) (by kernel_rfl) (by (try dsimp only); (first | exact ⟨⟨hp0, hp1⟩, hq0, hq1⟩ | exact ⟨⟨hp2, hp3⟩, hq2, hq3⟩ | exact ⟨⟨hp4, hp5⟩, hq4, hq5⟩ | exact ⟨⟨hp6, hp7⟩, hq6, hq7⟩ | exact ⟨⟨hp8, hp9⟩, hq8, hq9⟩)) (fun hHeld => ?_)
      refine ly_q 0 (v := ?_) hHeld ?_
      try simp only [Act.put, lyA, lyB, lyC]
      refine ly_q 1 (v := ?_) hHeld ?_
      try simp only [Act.put, lyA, lyB, lyC]
      refine ly_a 2 (fun KK hKK => ?_)
      go_simp
      refine (c1'.out _).mono ?_
      rintro e w1 ⟨rfl, rfl⟩
      try dsimp only
      refine hKK.out _ _ (by (try dsimp only); (first | exact ⟨⟨hp0, hp1⟩, hq0, hq1⟩ | exact ⟨⟨hp2, hp3⟩, hq2, hq3⟩ | exact ⟨⟨hp4, hp5⟩, hq4, hq5⟩ | exact ⟨⟨hp6, hp7⟩, hq6, hq7⟩ | exact ⟨⟨hp8, hp9⟩, hq8, hq9⟩)) (fun hHeld => ?_)
      clear hKK KK
      try simp only [Act.put, lyA, lyB, lyC]
      refine ly_q 3 (v := ?_) hHeld ?_
      try simp only [Act.put, lyA, lyB, lyC]
      refine ly_q 4 (v := ?_) hHeld ?_
      try simp only [Act.put, lyA, lyB, lyC]
      refine ly_a 5 (fun KK hKK => ?_)
      go_simp
      refine (c2'.out _ hb0.drew).mono ?_
      rintro e w2 ⟨rfl, hB2⟩
      have hb2 := hb0.drew.trans (hB2.mono (Nat.le_refl _))
      have l2 := Nat.lt_of_lt_of_le l0 hB2.size
      have hp2 := (hB2.cell (p := ⟨b, off, none⟩) l0).trans hp0
      have hp3 := (hB2.cell (p := ⟨b, off + 1, none⟩) l0).trans hp1
      have hq2 := (hB2.cell (p := ⟨b, off + m * 2, none⟩) l0).trans hq0
      have hq3 := (hB2.cell (p := ⟨b, off + m * 2 + 1, none⟩) l0).trans hq1
      try dsimp only
      refine hKK.out _ _ (by (try dsimp only); (first | exact ⟨⟨hp0, hp1⟩, hq0, hq1⟩ | exact ⟨⟨hp2, hp3⟩, hq2, hq3⟩ | exact ⟨⟨hp4, hp5⟩, hq4, hq5⟩ | exact ⟨⟨hp6, hp7⟩, hq6, hq7⟩ | exact ⟨⟨hp8, hp9⟩, hq8, hq9⟩)) (fun hHeld => ?_)
      clear hKK KK
      try simp only [Act.put, lyA, lyB, lyC]
      refine ly_q 6 (v := ?_) hHeld ?_
      try simp only [Act.put, lyA, lyB, lyC]
      refine ly_q 7 (v := ?_) hHeld ?_
      try simp only [Act.put, lyA, lyB, lyC]
      refine ly_q 8 (v := ?_) hHeld ?_
      try simp only [Act.put, lyA, lyB, lyC]
      refine ly_a 9 (fun KK hKK => ?_)
      go_simp
      refine (c3'.out _ hb2 hbd'.out).mono ?_
      rintro e w3 ⟨rfl, hB3⟩
      have hb3 := hb2.trans (hB3.mono hB2.size)
      have l3 := Nat.lt_of_lt_of_le l2 hB3.size
      have hp4 := (hB3.cell (p := ⟨b, off, none⟩) l2).trans hp2
      have hp5 := (hB3.cell (p := ⟨b, off + 1, none⟩) l2).trans hp3
      have hq4 := (hB3.cell (p := ⟨b, off + m * 2, none⟩) l2).trans hq2
      have hq5 := (hB3.cell (p := ⟨b, off + m * 2 + 1, none⟩) l2).trans hq3
      try dsimp only
      refine hKK.out _ _ (by (try dsimp only); (first | exact ⟨⟨hp0, hp1⟩, hq0, hq1⟩ | exact ⟨⟨hp2, hp3⟩, hq2, hq3⟩ | exact ⟨⟨hp4, hp5⟩, hq4, hq5⟩ | exact ⟨⟨hp6, hp7⟩, hq6, hq7⟩ | exact ⟨⟨hp8, hp9⟩, hq8, hq9⟩)) (fun hHeld => ?_)
      clear hKK KK
      try simp only [Act.put, lyA, lyB, lyC]
      refine ly_q 10 (v := ?_) hHeld ?_
      try simp only [Act.put, lyA, lyB, lyC]
      refine ly_q 11 (v := ?_) hHeld ?_
      try simp only [Act.put, lyA, lyB, lyC]
      refine ly_q 12 (v := ?_) hHeld ?_
      try simp only [Act.put, lyA, lyB, lyC]
      refine ly_q 13 (v := ?_) hHeld ?_
      try simp only [Act.put, lyA, lyB, lyC]
      refine ly_q 14 (v := ?_) hHeld ?_
      try simp only [Act.put, lyA, lyB, lyC]
      refine ly_a 15 (fun KK hKK => ?_)
      go_simp
      refine (zero_any _).mono ?_
      rintro e w4 ⟨rfl, hB4⟩
      have hb4 := hb3.trans (hB4.mono hb3.size)
      have l4 := Nat.lt_of_lt_of_le l3 hB4.size
      have hp6 := (hB4.cell (p := ⟨b, off, none⟩) l3).trans hp4
      have hp7 := (hB4.cell (p := ⟨b, off + 1, none⟩) l3).trans hp5
      have hq6 := (hB4.cell (p := ⟨b, off + m * 2, none⟩) l3).trans hq4
      have hq7 := (hB4.cell (p := ⟨b, off + m * 2 + 1, none⟩) l3).trans hq5
      try dsimp only
      refine hKK.out _ _ (by (try dsimp only); (first | exact ⟨⟨hp0, hp1⟩, hq0, hq1⟩ | exact ⟨⟨hp2, hp3⟩, hq2, hq3⟩ | exact ⟨⟨hp4, hp5⟩, hq4, hq5⟩ | exact ⟨⟨hp6, hp7⟩, hq6, hq7⟩ | exact ⟨⟨hp8, hp9⟩, hq8, hq9⟩)) (fun hHeld => ?_)
      clear hKK KK
      try simp only [Act.put, lyA, lyB, lyC]
      refine ly_q 16 (v := .bool false) (hy := by intro wS hSw; (try dsimp only at hSw); go_simp; by_cases ha : p = 0 <;> by_cases hb : q = 1 <;> simp_all) hHeld ?_
      try simp only [Act.put, lyA, lyB, lyC]
      refine ly_q 17 (v := ?_) hHeld ?_
      try simp only [Act.put, lyA, lyB, lyC]
      refine ly_q 18 (v := ?_) hHeld ?_
      try simp only [Act.put, lyA, lyB, lyC]
      refine ly_off 19 hHeld ?_
      try simp only [Act.put, lyA, lyB, lyC]
      refine ly_off 20 hHeld ?_
      try simp only [Act.put, lyA, lyB, lyC]
      refine ly_off 21 hHeld ?_
      try simp only [Act.put, lyA, lyB, lyC]
      refine ly_off 22 hHeld ?_
      try simp only [Act.put, lyA, lyB, lyC]
      refine ly_off 23 hHeld ?_
      try simp only [Act.put, lyA, lyB, lyC]
      refine ly_off 24 hHeld ?_
      try simp only [Act.put, lyA, lyB, lyC]
      refine ly_off 25 hHeld ?_
      try simp only [Act.put, lyA, lyB, lyC]
      refine ly_off 26 hHeld ?_
      try simp only [Act.put, lyA, lyB, lyC]
      refine ly_q 27 (v := ?_) hHeld ?_
      try simp only [Act.put, lyA, lyB, lyC]
      refine ly_q 28 (v := ?_) hHeld ?_
      try simp only [Act.put, lyA, lyB, lyC]
      refine wpAnyH_done (by kernel_rfl) ?_ _
      go_wp2
      go_ret
      exact ⟨rfl, hb4⟩
    cases h1
    rw [decide_eq_true rfl, Bool.true_and]
    by_cases h2 : (p', q') = ((1 : Int), (1 : Int))
    · cases h2
      rw [decide_eq_true rfl]
      go_enter Tryz.func106, Tryz.ntmps106
      go_wp2_with fail
      refine wp_region_held_drew (S := (fun w' => (w'.cell? ⟨b, off, none⟩ = some (.int .i64 0) ∧ w'.cell? ⟨b, off + 1, none⟩ = some (.int .i64 1)) ∧ w'.cell? ⟨b, off + m * 2, none⟩ = some (.int .i64 1) ∧ w'.cell? ⟨b, off + m * 2 + 1, none⟩ = some (.int .i64 1))) (by kernel_rfl) (by (try dsimp only); (first | exact ⟨⟨hp0, hp1⟩, hq0, hq1⟩ | exact ⟨⟨hp2, hp3⟩, hq2, hq3⟩ | exact ⟨⟨hp4, hp5⟩, hq4, hq5⟩ | exact ⟨⟨hp6, hp7⟩, hq6, hq7⟩ | exact ⟨⟨hp8, hp9⟩, hq8, hq9⟩)) (fun hHeld => ?_)
      refine ly_q 0 (v := ?_) hHeld ?_
      try simp only [Act.put, lyA, lyB, lyC]
      refine ly_q 1 (v := ?_) hHeld ?_
      try simp only [Act.put, lyA, lyB, lyC]
      refine ly_a 2 (fun KK hKK => ?_)
      go_simp
      refine (c1'.out _).mono ?_
      rintro e w1 ⟨rfl, rfl⟩
      try dsimp only
      refine hKK.out _ _ (by (try dsimp only); (first | exact ⟨⟨hp0, hp1⟩, hq0, hq1⟩ | exact ⟨⟨hp2, hp3⟩, hq2, hq3⟩ | exact ⟨⟨hp4, hp5⟩, hq4, hq5⟩ | exact ⟨⟨hp6, hp7⟩, hq6, hq7⟩ | exact ⟨⟨hp8, hp9⟩, hq8, hq9⟩)) (fun hHeld => ?_)
      clear hKK KK
      try simp only [Act.put, lyA, lyB, lyC]
      refine ly_q 3 (v := ?_) hHeld ?_
      try simp only [Act.put, lyA, lyB, lyC]
      refine ly_q 4 (v := ?_) hHeld ?_
      try simp only [Act.put, lyA, lyB, lyC]
      refine ly_a 5 (fun KK hKK => ?_)
      go_simp
      refine (c2'.out _ hb0.drew).mono ?_
      rintro e w2 ⟨rfl, hB2⟩
      have hb2 := hb0.drew.trans (hB2.mono (Nat.le_refl _))
      have l2 := Nat.lt_of_lt_of_le l0 hB2.size
      have hp2 := (hB2.cell (p := ⟨b, off, none⟩) l0).trans hp0
      have hp3 := (hB2.cell (p := ⟨b, off + 1, none⟩) l0).trans hp1
      have hq2 := (hB2.cell (p := ⟨b, off + m * 2, none⟩) l0).trans hq0
      have hq3 := (hB2.cell (p := ⟨b, off + m * 2 + 1, none⟩) l0).trans hq1
      try dsimp only
      refine hKK.out _ _ (by (try dsimp only); (first | exact ⟨⟨hp0, hp1⟩, hq0, hq1⟩ | exact ⟨⟨hp2, hp3⟩, hq2, hq3⟩ | exact ⟨⟨hp4, hp5⟩, hq4, hq5⟩ | exact ⟨⟨hp6, hp7⟩, hq6, hq7⟩ | exact ⟨⟨hp8, hp9⟩, hq8, hq9⟩)) (fun hHeld => ?_)
      clear hKK KK
      try simp only [Act.put, lyA, lyB, lyC]
      refine ly_q 6 (v := ?_) hHeld ?_
      try simp only [Act.put, lyA, lyB, lyC]
      refine ly_q 7 (v := ?_) hHeld ?_
      try simp only [Act.put, lyA, lyB, lyC]
      refine ly_q 8 (v := ?_) hHeld ?_
      try simp only [Act.put, lyA, lyB, lyC]
      refine ly_a 9 (fun KK hKK => ?_)
      go_simp
      refine (c3'.out _ hb2 hbd'.out).mono ?_
      rintro e w3 ⟨rfl, hB3⟩
      have hb3 := hb2.trans (hB3.mono hB2.size)
      have l3 := Nat.lt_of_lt_of_le l2 hB3.size
      have hp4 := (hB3.cell (p := ⟨b, off, none⟩) l2).trans hp2
      have hp5 := (hB3.cell (p := ⟨b, off + 1, none⟩) l2).trans hp3
      have hq4 := (hB3.cell (p := ⟨b, off + m * 2, none⟩) l2).trans hq2
      have hq5 := (hB3.cell (p := ⟨b, off + m * 2 + 1, none⟩) l2).trans hq3
      try dsimp only
      refine hKK.out _ _ (by (try dsimp only); (first | exact ⟨⟨hp0, hp1⟩, hq0, hq1⟩ | exact ⟨⟨hp2, hp3⟩, hq2, hq3⟩ | exact ⟨⟨hp4, hp5⟩, hq4, hq5⟩ | exact ⟨⟨hp6, hp7⟩, hq6, hq7⟩ | exact ⟨⟨hp8, hp9⟩, hq8, hq9⟩)) (fun hHeld => ?_)
      clear hKK KK
      try simp only [Act.put, lyA, lyB, lyC]
      refine ly_q 10 (v := ?_) hHeld ?_
      try simp only [Act.put, lyA, lyB, lyC]
      refine ly_q 11 (v := ?_) hHeld ?_
      try simp only [Act.put, lyA, lyB, lyC]
      refine ly_q 12 (v := ?_) hHeld ?_
      try simp only [Act.put, lyA, lyB, lyC]
      refine ly_q 13 (v := ?_) hHeld ?_
      try simp only [Act.put, lyA, lyB, lyC]
      refine ly_q 14 (v := ?_) hHeld ?_
      try simp only [Act.put, lyA, lyB, lyC]
      refine ly_a 15 (fun KK hKK => ?_)
      go_simp
      refine (zero_any _).mono ?_
      rintro e w4 ⟨rfl, hB4⟩
      have hb4 := hb3.trans (hB4.mono hb3.size)
      have l4 := Nat.lt_of_lt_of_le l3 hB4.size
      have hp6 := (hB4.cell (p := ⟨b, off, none⟩) l3).trans hp4
      have hp7 := (hB4.cell (p := ⟨b, off + 1, none⟩) l3).trans hp5
      have hq6 := (hB4.cell (p := ⟨b, off + m * 2, none⟩) l3).trans hq4
      have hq7 := (hB4.cell (p := ⟨b, off + m * 2 + 1, none⟩) l3).trans hq5
      try dsimp only
      refine hKK.out _ _ (by (try dsimp only); (first | exact ⟨⟨hp0, hp1⟩, hq0, hq1⟩ | exact ⟨⟨hp2, hp3⟩, hq2, hq3⟩ | exact ⟨⟨hp4, hp5⟩, hq4, hq5⟩ | exact ⟨⟨hp6, hp7⟩, hq6, hq7⟩ | exact ⟨⟨hp8, hp9⟩, hq8, hq9⟩)) (fun hHeld => ?_)
      clear hKK KK
      try simp only [Act.put, lyA, lyB, lyC]
      refine ly_q 16 (v := ?_) hHeld ?_
      try simp only [Act.put, lyA, lyB, lyC]
      refine ly_q 17 (v := ?_) hHeld ?_
      try simp only [Act.put, lyA, lyB, lyC]
      refine ly_q 18 (v := ?_) hHeld ?_
      try simp only [Act.put, lyA, lyB, lyC]
      refine ly_q 19 (v := ?_) hHeld ?_
      try simp only [Act.put, lyA, lyB, lyC]
      refine ly_q 20 (v := ?_) hHeld ?_
      try simp only [Act.put, lyA, lyB, lyC]
      refine ly_q 21 (v := ?_) hHeld ?_
      try simp only [Act.put, lyA, lyB, lyC]
      refine ly_q 22 (v := ?_) hHeld ?_
      try simp only [Act.put, lyA, lyB, lyC]
      refine ly_q 23 (v := ?_) hHeld ?_
      try simp only [Act.put, lyA, lyB, lyC]
      refine ly_q 24 (v := ?_) hHeld ?_
      try simp only [Act.put, lyA, lyB, lyC]
      refine ly_a 25 (fun KK hKK => ?_)
      go_simp
      refine (oneRat_any _).mono ?_
      rintro e w5 ⟨rfl, hB5⟩
      have hb5 := hb4.trans (hB5.mono hb4.size)
      have hp8 := (hB5.cell (p := ⟨b, off, none⟩) l4).trans hp6
      have hp9 := (hB5.cell (p := ⟨b, off + 1, none⟩) l4).trans hp7
      have hq8 := (hB5.cell (p := ⟨b, off + m * 2, none⟩) l4).trans hq6
      have hq9 := (hB5.cell (p := ⟨b, off + m * 2 + 1, none⟩) l4).trans hq7
      try dsimp only
      refine hKK.out _ _ (by (try dsimp only); (first | exact ⟨⟨hp0, hp1⟩, hq0, hq1⟩ | exact ⟨⟨hp2, hp3⟩, hq2, hq3⟩ | exact ⟨⟨hp4, hp5⟩, hq4, hq5⟩ | exact ⟨⟨hp6, hp7⟩, hq6, hq7⟩ | exact ⟨⟨hp8, hp9⟩, hq8, hq9⟩)) (fun hHeld => ?_)
      clear hKK KK
      try simp only [Act.put, lyA, lyB, lyC]
      refine ly_q 26 (v := ?_) hHeld ?_
      try simp only [Act.put, lyA, lyB, lyC]
      refine ly_q 27 (v := ?_) hHeld ?_
      try simp only [Act.put, lyA, lyB, lyC]
      refine ly_q 28 (v := ?_) hHeld ?_
      try simp only [Act.put, lyA, lyB, lyC]
      refine wpAnyH_done (by kernel_rfl) ?_ _
      go_wp2
      go_ret
      exact ⟨rfl, hb5⟩
    · rw [decide_eq_false h2]
      go_enter Tryz.func106, Tryz.ntmps106
      go_wp2_with fail
      refine wp_region_held_drew (S := (fun w' => (w'.cell? ⟨b, off, none⟩ = some (.int .i64 0) ∧ w'.cell? ⟨b, off + 1, none⟩ = some (.int .i64 1)) ∧ w'.cell? ⟨b, off + m * 2, none⟩ = some (.int .i64 p') ∧ w'.cell? ⟨b, off + m * 2 + 1, none⟩ = some (.int .i64 q'))) (by kernel_rfl) (by (try dsimp only); (first | exact ⟨⟨hp0, hp1⟩, hq0, hq1⟩ | exact ⟨⟨hp2, hp3⟩, hq2, hq3⟩ | exact ⟨⟨hp4, hp5⟩, hq4, hq5⟩ | exact ⟨⟨hp6, hp7⟩, hq6, hq7⟩ | exact ⟨⟨hp8, hp9⟩, hq8, hq9⟩)) (fun hHeld => ?_)
      refine ly_q 0 (v := ?_) hHeld ?_
      try simp only [Act.put, lyA, lyB, lyC]
      refine ly_q 1 (v := ?_) hHeld ?_
      try simp only [Act.put, lyA, lyB, lyC]
      refine ly_a 2 (fun KK hKK => ?_)
      go_simp
      refine (c1'.out _).mono ?_
      rintro e w1 ⟨rfl, rfl⟩
      try dsimp only
      refine hKK.out _ _ (by (try dsimp only); (first | exact ⟨⟨hp0, hp1⟩, hq0, hq1⟩ | exact ⟨⟨hp2, hp3⟩, hq2, hq3⟩ | exact ⟨⟨hp4, hp5⟩, hq4, hq5⟩ | exact ⟨⟨hp6, hp7⟩, hq6, hq7⟩ | exact ⟨⟨hp8, hp9⟩, hq8, hq9⟩)) (fun hHeld => ?_)
      clear hKK KK
      try simp only [Act.put, lyA, lyB, lyC]
      refine ly_q 3 (v := ?_) hHeld ?_
      try simp only [Act.put, lyA, lyB, lyC]
      refine ly_q 4 (v := ?_) hHeld ?_
      try simp only [Act.put, lyA, lyB, lyC]
      refine ly_a 5 (fun KK hKK => ?_)
      go_simp
      refine (c2'.out _ hb0.drew).mono ?_
      rintro e w2 ⟨rfl, hB2⟩
      have hb2 := hb0.drew.trans (hB2.mono (Nat.le_refl _))
      have l2 := Nat.lt_of_lt_of_le l0 hB2.size
      have hp2 := (hB2.cell (p := ⟨b, off, none⟩) l0).trans hp0
      have hp3 := (hB2.cell (p := ⟨b, off + 1, none⟩) l0).trans hp1
      have hq2 := (hB2.cell (p := ⟨b, off + m * 2, none⟩) l0).trans hq0
      have hq3 := (hB2.cell (p := ⟨b, off + m * 2 + 1, none⟩) l0).trans hq1
      try dsimp only
      refine hKK.out _ _ (by (try dsimp only); (first | exact ⟨⟨hp0, hp1⟩, hq0, hq1⟩ | exact ⟨⟨hp2, hp3⟩, hq2, hq3⟩ | exact ⟨⟨hp4, hp5⟩, hq4, hq5⟩ | exact ⟨⟨hp6, hp7⟩, hq6, hq7⟩ | exact ⟨⟨hp8, hp9⟩, hq8, hq9⟩)) (fun hHeld => ?_)
      clear hKK KK
      try simp only [Act.put, lyA, lyB, lyC]
      refine ly_q 6 (v := ?_) hHeld ?_
      try simp only [Act.put, lyA, lyB, lyC]
      refine ly_q 7 (v := ?_) hHeld ?_
      try simp only [Act.put, lyA, lyB, lyC]
      refine ly_q 8 (v := ?_) hHeld ?_
      try simp only [Act.put, lyA, lyB, lyC]
      refine ly_a 9 (fun KK hKK => ?_)
      go_simp
      refine (c3'.out _ hb2 hbd'.out).mono ?_
      rintro e w3 ⟨rfl, hB3⟩
      have hb3 := hb2.trans (hB3.mono hB2.size)
      have l3 := Nat.lt_of_lt_of_le l2 hB3.size
      have hp4 := (hB3.cell (p := ⟨b, off, none⟩) l2).trans hp2
      have hp5 := (hB3.cell (p := ⟨b, off + 1, none⟩) l2).trans hp3
      have hq4 := (hB3.cell (p := ⟨b, off + m * 2, none⟩) l2).trans hq2
      have hq5 := (hB3.cell (p := ⟨b, off + m * 2 + 1, none⟩) l2).trans hq3
      try dsimp only
      refine hKK.out _ _ (by (try dsimp only); (first | exact ⟨⟨hp0, hp1⟩, hq0, hq1⟩ | exact ⟨⟨hp2, hp3⟩, hq2, hq3⟩ | exact ⟨⟨hp4, hp5⟩, hq4, hq5⟩ | exact ⟨⟨hp6, hp7⟩, hq6, hq7⟩ | exact ⟨⟨hp8, hp9⟩, hq8, hq9⟩)) (fun hHeld => ?_)
      clear hKK KK
      try simp only [Act.put, lyA, lyB, lyC]
      refine ly_q 10 (v := ?_) hHeld ?_
      try simp only [Act.put, lyA, lyB, lyC]
      refine ly_q 11 (v := ?_) hHeld ?_
      try simp only [Act.put, lyA, lyB, lyC]
      refine ly_q 12 (v := ?_) hHeld ?_
      try simp only [Act.put, lyA, lyB, lyC]
      refine ly_q 13 (v := ?_) hHeld ?_
      try simp only [Act.put, lyA, lyB, lyC]
      refine ly_q 14 (v := ?_) hHeld ?_
      try simp only [Act.put, lyA, lyB, lyC]
      refine ly_a 15 (fun KK hKK => ?_)
      go_simp
      refine (zero_any _).mono ?_
      rintro e w4 ⟨rfl, hB4⟩
      have hb4 := hb3.trans (hB4.mono hb3.size)
      have l4 := Nat.lt_of_lt_of_le l3 hB4.size
      have hp6 := (hB4.cell (p := ⟨b, off, none⟩) l3).trans hp4
      have hp7 := (hB4.cell (p := ⟨b, off + 1, none⟩) l3).trans hp5
      have hq6 := (hB4.cell (p := ⟨b, off + m * 2, none⟩) l3).trans hq4
      have hq7 := (hB4.cell (p := ⟨b, off + m * 2 + 1, none⟩) l3).trans hq5
      try dsimp only
      refine hKK.out _ _ (by (try dsimp only); (first | exact ⟨⟨hp0, hp1⟩, hq0, hq1⟩ | exact ⟨⟨hp2, hp3⟩, hq2, hq3⟩ | exact ⟨⟨hp4, hp5⟩, hq4, hq5⟩ | exact ⟨⟨hp6, hp7⟩, hq6, hq7⟩ | exact ⟨⟨hp8, hp9⟩, hq8, hq9⟩)) (fun hHeld => ?_)
      clear hKK KK
      try simp only [Act.put, lyA, lyB, lyC]
      refine ly_q 16 (v := ?_) hHeld ?_
      try simp only [Act.put, lyA, lyB, lyC]
      refine ly_q 17 (v := ?_) hHeld ?_
      try simp only [Act.put, lyA, lyB, lyC]
      refine ly_q 18 (v := ?_) hHeld ?_
      try simp only [Act.put, lyA, lyB, lyC]
      refine ly_q 19 (v := ?_) hHeld ?_
      try simp only [Act.put, lyA, lyB, lyC]
      refine ly_q 20 (v := ?_) hHeld ?_
      try simp only [Act.put, lyA, lyB, lyC]
      refine ly_q 21 (v := ?_) hHeld ?_
      try simp only [Act.put, lyA, lyB, lyC]
      refine ly_q 22 (v := ?_) hHeld ?_
      try simp only [Act.put, lyA, lyB, lyC]
      refine ly_q 23 (v := ?_) hHeld ?_
      try simp only [Act.put, lyA, lyB, lyC]
      refine ly_q 24 (v := ?_) hHeld ?_
      try simp only [Act.put, lyA, lyB, lyC]
      refine ly_a 25 (fun KK hKK => ?_)
      go_simp
      refine (oneRat_any _).mono ?_
      rintro e w5 ⟨rfl, hB5⟩
      have hb5 := hb4.trans (hB5.mono hb4.size)
      have hp8 := (hB5.cell (p := ⟨b, off, none⟩) l4).trans hp6
      have hp9 := (hB5.cell (p := ⟨b, off + 1, none⟩) l4).trans hp7
      have hq8 := (hB5.cell (p := ⟨b, off + m * 2, none⟩) l4).trans hq6
      have hq9 := (hB5.cell (p := ⟨b, off + m * 2 + 1, none⟩) l4).trans hq7
      try dsimp only
      refine hKK.out _ _ (by (try dsimp only); (first | exact ⟨⟨hp0, hp1⟩, hq0, hq1⟩ | exact ⟨⟨hp2, hp3⟩, hq2, hq3⟩ | exact ⟨⟨hp4, hp5⟩, hq4, hq5⟩ | exact ⟨⟨hp6, hp7⟩, hq6, hq7⟩ | exact ⟨⟨hp8, hp9⟩, hq8, hq9⟩)) (fun hHeld => ?_)
      clear hKK KK
      try simp only [Act.put, lyA, lyB, lyC]
      refine ly_q 26 (v := .bool false) (hy := by intro wS hSw; (try dsimp only at hSw); go_simp; by_cases ha : p' = 1 <;> by_cases hb : q' = 1 <;> simp_all) hHeld ?_
      try simp only [Act.put, lyA, lyB, lyC]
      refine ly_q 27 (v := ?_) hHeld ?_
      try simp only [Act.put, lyA, lyB, lyC]
      refine ly_q 28 (v := ?_) hHeld ?_
      try simp only [Act.put, lyA, lyB, lyC]
      refine wpAnyH_done (by kernel_rfl) ?_ _
      go_wp2
      go_ret
      exact ⟨rfl, hb5⟩

theorem partB_unit {xs : List (Int × Int)} {k : Nat} (hk : k < xs.length) (h : unitR (nthR xs k).1 (nthR xs k).2 = false) : partB xs = false := by
  have : unitsB xs = false := by
    cases hu : unitsB xs
    · rfl
    · rw [unitsB_nth hu hk] at h; cases h
  simp [partB, this]
theorem partB_rise {xs : List (Int × Int)} (h : riseK xs xs.length = false) : partB xs = false := by simp [partB, h]
theorem unitsB_of {xs : List (Int × Int)} (h : ∀ j, j < xs.length → unitR (nthR xs j).1 (nthR xs j).2 = true) : unitsB xs = true := by
  unfold unitsB
  rw [Bool.not_eq_true', List.any_eq_false]
  intro x hx
  obtain ⟨j, hj, rfl⟩ := List.getElem_of_mem hx
  have := h j hj
  rw [nthR_eq hj] at this
  simp [this]

set_option linter.unusedSimpArgs false in
set_option maxHeartbeats 1600000 in
theorem mkGood_any (v : Value) (xs : List (Int × Int)) (w : World) (hv : RatsV w v xs) (hm : szRatS xs ≤ 1099511627776) :
    Calls Tryz.prog 109 #[v] w (Ret (.bool (partB xs)) w) := by
  replace hm : xs.length ≤ 1099511627776 := hm
  obtain ⟨ao, cap, rfl, _, _, H⟩ := hv.form
  have c1 := fun w => l1In_any (xs.length : Int) 2 9 w
  cases hw : inB xs.length 2 9
  · rw [hw] at c1
    have hR : partB xs = false := by simp [partB, hw]
    rw [hR]
    clear hR hw
    generalize xs.length = n at *
    have c1' := Lib.hid c1
    clear c1
    clear H
    go_enter Tryz.func109, Tryz.ntmps109
    go_wp2_with fail
    refine (c1'.out _).mono ?_
    rintro e w_ ⟨rfl, rfl⟩
    go_wp2
    go_ret
    exact ⟨rfl, Below.refl _ _⟩
  · rw [hw] at c1
    have hw2 := hw
    rw [inB_true] at hw
    obtain ⟨b, off, e1, hp0, hp1⟩ := H 0 (by omega)
    obtain ⟨_, _, e2, hq0, hq1⟩ := H (xs.length - 1) (by omega)
    cases e1; cases e2
    obtain ⟨n, hn⟩ : ∃ n, xs.length = n := ⟨_, rfl⟩
    obtain ⟨m, hm1⟩ : ∃ m, xs.length - 1 = m := ⟨_, rfl⟩
    have hfU := fun k (h : k < n) hu => partB_unit (xs := xs) (k := k) (by omega) hu
    have hfR := fun h => partB_rise (xs := xs) h
    have hfin : (∀ j, j < n → unitR (nthR xs j).1 (nthR xs j).2 = true) → riseK xs n = true → partB xs = (decide (nthR xs 0 = (0, 1)) && decide (nthR xs m = (1, 1))) := by
      intro hu hr
      unfold partB
      rw [hw2, unitsB_of (by rw [hn]; exact hu), hm1, hn, hr]; rfl
    obtain ⟨⟨p, q⟩, hr1⟩ : ∃ r, nthR xs 0 = r := ⟨_, rfl⟩
    obtain ⟨⟨p', q'⟩, hr2⟩ : ∃ r, nthR xs m = r := ⟨_, rfl⟩
    rw [hm1, hr2] at hq0 hq1
    rw [hr2] at hfin
    rw [hr1] at hp0 hp1 hfin
    rw [hn] at hw hm hv c1 hm1 hfR H ⊢
    have l0 := World.block_lt_of_cell? _ _ hp0
    simp only at hp0 hp1 hq0 hq1 l0
    have g1 : IntKind.i64.wrap ((n : Int) - 1) = (m : Int) := by rw [IntKind.wrap_i64]; omega
    have g2 : (0 : Int) ≤ (m : Int) := by omega
    have g3 : (m : Int) < (n : Int) := by omega
    have g4 : (0 : Int) ≤ (n : Int) := by omega
    have g5 : (0 : Int) < (n : Int) := by omega
    have g6 : 0 < n := by omega
    have g7 : m < n := by omega
    rw [Nat.zero_mul, Nat.add_zero] at hp0 hp1
    obtain ⟨R, hR⟩ : ∃ R, partB xs = R := ⟨_, rfl⟩
    rw [hR] at hfR hfin ⊢
    simp only [hR] at hfU
    have c1' := Lib.hid c1
    have hn' := Lib.hid hn
    have hm1' := Lib.hid hm1
    have hr1' := Lib.hid hr1
    have hr2' := Lib.hid hr2
    have hv' := Lib.hid hv
    have hfU' := Lib.hid hfU
    have hfR' := Lib.hid hfR
    have hfin' := Lib.hid hfin
    have hR' := Lib.hid hR
    have hw2' := Lib.hid hw2
    have H' := Lib.hid H
    clear c1 hn hm1 hr1 hr2 hv hfU hfR hfin hR hw2 H
    go_enter Tryz.func109, Tryz.ntmps109
    go_wp2_with fail
    refine (c1'.out _).mono ?_
    rintro e w_ ⟨rfl, rfl⟩
    go_wp2
    go_loopw [11] (fun i wr => ∃ k : Nat, k ≤ n ∧ i = .int .i64 k ∧ (∀ j, j < k → unitR (nthR xs j).1 (nthR xs j).2 = true) ∧ riseK xs k = true ∧ Below w.heap.size w wr) (fun i _ => n - (intOf i).toNat)
    case atStart => exact ⟨0, Nat.zero_le _, rfl, fun j hj => absurd hj (Nat.not_lt_zero j), rfl, Below.refl _ _⟩
    case round =>
      obtain ⟨k, hk, rfl, hu, hr, hB⟩ := hrel
      by_cases hlt : k < n
      · obtain ⟨_, _, e, hc0, hc1⟩ := H'.out k hlt
        cases e
        rw [← hB.cell (World.block_lt_of_cell? w _ hc0)] at hc0
        rw [← hB.cell (World.block_lt_of_cell? w _ hc1)] at hc1
        have l1 := World.block_lt_of_cell? _ _ hc0
        simp only at l1
        have c2 := fun w => raUnit_any (nthR xs k).1 (nthR xs k).2 w
        have hfu := hfU'.out k hlt
        have hst : k ≠ 0 → riseK xs (k + 1) = ltB (nthR xs (k - 1)).1 (nthR xs (k - 1)).2 (nthR xs k).1 (nthR xs k).2 := fun h => by rw [riseK_step xs k (by omega), hr, Bool.true_and]
        have hst0 : k = 0 → riseK xs (k + 1) = true := fun h => by subst h; rfl
        have hbad : k ≠ 0 → ltB (nthR xs (k - 1)).1 (nthR xs (k - 1)).2 (nthR xs k).1 (nthR xs k).2 = false → R = false := fun h1 h2 => hfR'.out (riseK_false (by omega) hlt h2)
        have c3 := fun w h1 h2 => raCmp_any (nthR xs (k - 1)).1 (nthR xs (k - 1)).2 (nthR xs k).1 (nthR xs k).2 w h1 h2
        have hcl := cmpN_lt (nthR xs (k - 1)).1 (nthR xs (k - 1)).2 (nthR xs k).1 (nthR xs k).2
        have hprev : k ≠ 0 → ∃ mm : Nat, mm + 1 = k ∧ IntKind.i64.wrap ((k : Int) - 1) = (mm : Int) ∧ (0 : Int) ≤ (mm : Int) ∧ mm < n ∧ BdR (nthR xs (k - 1)).1 (nthR xs (k - 1)).2 ∧ wr.cell? ⟨b, off + mm * 2, none⟩ = some (.int .i64 (nthR xs (k - 1)).1) ∧ wr.cell? ⟨b, off + mm * 2 + 1, none⟩ = some (.int .i64 (nthR xs (k - 1)).2) := by
          intro h0
          obtain ⟨_, _, e, hd0, hd1⟩ := H'.out (k - 1) (by omega)
          cases e
          rw [← hB.cell (World.block_lt_of_cell? w _ hd0)] at hd0
          rw [← hB.cell (World.block_lt_of_cell? w _ hd1)] at hd1
          exact ⟨k - 1, by omega, by rw [IntKind.wrap_i64]; omega, by omega, by omega, unitR_bd (hu (k - 1) (by omega)), hd0, hd1⟩
        have hu' : unitR (nthR xs k).1 (nthR xs k).2 = true → ∀ j, j < k + 1 → unitR (nthR xs j).1 (nthR xs j).2 = true := fun h j hj => by
          rcases Nat.lt_succ_iff_lt_or_eq.1 hj with h1 | rfl
          · exact hu j h1
          · exact h
        have hbx := fun h => unitR_bd (n := (nthR xs k).1) (d := (nthR xs k).2) h
        generalize unitR (nthR xs k).1 (nthR xs k).2 = U at *
        generalize ltB (nthR xs (k - 1)).1 (nthR xs (k - 1)).2 (nthR xs k).1 (nthR xs k).2 = L at *
        generalize cmpN (nthR xs (k - 1)).1 (nthR xs (k - 1)).2 (nthR xs k).1 (nthR xs k).2 = C at *
        obtain ⟨⟨x, y⟩, hxy⟩ : ∃ r, nthR xs k = r := ⟨_, rfl⟩
        obtain ⟨⟨x', y'⟩, hxy'⟩ : ∃ r, nthR xs (k - 1) = r := ⟨_, rfl⟩
        rw [hxy] at hc0 hc1 c2 c3 hbx
        rw [hxy'] at c3 hprev
        simp only at hc0 hc1 c2 c3 hbx hprev
        obtain ⟨w1, hw1⟩ : ∃ W, wr.alloc (.cells #[.int .i64 x, .int .i64 y] 50) = W := ⟨_, rfl⟩
        have hB1 : Below wr.heap.size wr w1 := by rw [← hw1]; exact (Below.refl _ _).alloc (Nat.le_refl _) _
        have hx0 : w1.cell? ⟨wr.heap.size, 0, none⟩ = some (.int .i64 x) := by rw [← hw1]; simp [go_sem]
        have hx1 : w1.cell? ⟨wr.heap.size, 1, none⟩ = some (.int .i64 y) := by rw [← hw1]; simp [go_sem]
        have hz1 : wr.heap.size < w1.heap.size := by rw [← hw1]; simp
        have hb1 := hB.trans (hB1.mono hB.size)
        have c2' := Lib.hid c2
        have c3' := Lib.hid c3
        have hfu' := Lib.hid hfu
        have hst' := Lib.hid hst
        have hst0' := Lib.hid hst0
        have hbad' := Lib.hid hbad
        have hcl' := Lib.hid hcl
        have hprev' := Lib.hid hprev
        have hu'' := Lib.hid hu'
        have hbx' := Lib.hid hbx
        have hxy' := Lib.hid hxy
        have hxy'' := Lib.hid hxy'
        have hw1' := Lib.hid hw1
        have hu' := Lib.hid hu
        have hr' := Lib.hid hr
        clear c2 c3 hfu hst hst0 hbad hcl hprev hu' hbx hxy hxy' hw1 hu hr
        cases U
        · replace hfu' := Lib.hid (hfu'.out rfl)
          go_wp2_with fail
          rw [hw1'.out]
          refine wp_region_held_drew (S := (fun w' => (w'.cell? ⟨wr.heap.size, 0, none⟩ = some (.int .i64 x) ∧ w'.cell? ⟨wr.heap.size, 1, none⟩ = some (.int .i64 y)))) (by kernel_rfl) (by (try dsimp only); (first | exact ⟨hx0, hx1⟩ | exact ⟨hx2, hx3⟩)) (fun hHeld => ?_)
          refine ly_q 0 (v := ?_) hHeld ?_
          try simp only [Act.put, lyA, lyB, lyC]
          refine ly_a 1 (fun KK hKK => ?_)
          go_simp
          refine (c2'.out _).mono ?_
          rintro e w2 ⟨rfl, hB2⟩
          have hx2 := (hB2.cell (p := ⟨wr.heap.size, 0, none⟩) hz1).trans hx0
          have hx3 := (hB2.cell (p := ⟨wr.heap.size, 1, none⟩) hz1).trans hx1
          have hb2 := hb1.drew.trans (hB2.mono hb1.size)
          have hz2 := Nat.lt_of_lt_of_le hz1 hB2.size
          try dsimp only
          refine hKK.out _ _ (by (try dsimp only); (first | exact ⟨hx0, hx1⟩ | exact ⟨hx2, hx3⟩)) (fun hHeld => ?_)
          clear hKK KK
          try simp only [Act.put, lyA, lyB, lyC]
          refine ly_q 2 (v := ?_) hHeld ?_
          try simp only [Act.put, lyA, lyB, lyC]
          refine ly_q 3 (v := ?_) hHeld ?_
          try simp only [Act.put, lyA, lyB, lyC]
          refine ly_off 4 hHeld ?_
          try simp only [Act.put, lyA, lyB, lyC]
          refine ly_off 5 hHeld ?_
          try simp only [Act.put, lyA, lyB, lyC]
          refine ly_off 6 hHeld ?_
          try simp only [Act.put, lyA, lyB, lyC]
          refine ly_off 7 hHeld ?_
          try simp only [Act.put, lyA, lyB, lyC]
          refine ly_off 8 hHeld ?_
          try simp only [Act.put, lyA, lyB, lyC]
          refine ly_off 9 hHeld ?_
          try simp only [Act.put, lyA, lyB, lyC]
          refine ly_off 10 hHeld ?_
          try simp only [Act.put, lyA, lyB, lyC]
          refine ly_off 11 hHeld ?_
          try simp only [Act.put, lyA, lyB, lyC]
          refine ly_off 12 hHeld ?_
          try simp only [Act.put, lyA, lyB, lyC]
          refine ly_off 13 hHeld ?_
          try simp only [Act.put, lyA, lyB, lyC]
          refine ly_off 14 hHeld ?_
          try simp only [Act.put, lyA, lyB, lyC]
          refine ly_off 15 hHeld ?_
          try simp only [Act.put, lyA, lyB, lyC]
          refine ly_q 16 (v := ?_) hHeld ?_
          try simp only [Act.put, lyA, lyB, lyC]
          refine wpAnyH_done (by kernel_rfl) ?_ _
          go_wp2
          go_ret
          exact ⟨by rw [hfu'.out]; rfl, hb2⟩
        · have hbx'' := hbx'.out rfl
          by_cases h0 : k = 0
          · have h1 : ¬ (0 : Int) < (k : Int) := by omega
            have h2 : ¬ 0 < k := by omega
            have hst1 := hst0'.out h0
            have hu2 := hu''.out rfl
            have h0' := Lib.hid h0
            have hst1' := Lib.hid hst1
            have hu2' := Lib.hid hu2
            have hbx''' := Lib.hid hbx''
            clear h0 hst1 hu2 hbx''
            go_wp2_with fail
            rw [hw1'.out]
            refine wp_region_held_drew (S := (fun w' => (w'.cell? ⟨wr.heap.size, 0, none⟩ = some (.int .i64 x) ∧ w'.cell? ⟨wr.heap.size, 1, none⟩ = some (.int .i64 y)))) (by kernel_rfl) (by (try dsimp only); (first | exact ⟨hx0, hx1⟩ | exact ⟨hx2, hx3⟩)) (fun hHeld => ?_)
            refine ly_q 0 (v := ?_) hHeld ?_
            try simp only [Act.put, lyA, lyB, lyC]
            refine ly_a 1 (fun KK hKK => ?_)
            go_simp
            refine (c2'.out _).mono ?_
            rintro e w2 ⟨rfl, hB2⟩
            have hx2 := (hB2.cell (p := ⟨wr.heap.size, 0, none⟩) hz1).trans hx0
            have hx3 := (hB2.cell (p := ⟨wr.heap.size, 1, none⟩) hz1).trans hx1
            have hb2 := hb1.drew.trans (hB2.mono hb1.size)
            have hz2 := Nat.lt_of_lt_of_le hz1 hB2.size
            try dsimp only
            refine hKK.out _ _ (by (try dsimp only); (first | exact ⟨hx0, hx1⟩ | exact ⟨hx2, hx3⟩)) (fun hHeld => ?_)
            clear hKK KK
            try simp only [Act.put, lyA, lyB, lyC]
            refine ly_q 2 (v := ?_) hHeld ?_
            try simp only [Act.put, lyA, lyB, lyC]
            refine ly_q 3 (v := ?_) hHeld ?_
            try simp only [Act.put, lyA, lyB, lyC]
            refine ly_q 4 (v := ?_) hHeld ?_
            try simp only [Act.put, lyA, lyB, lyC]
            refine ly_q 5 (v := ?_) hHeld ?_
            try simp only [Act.put, lyA, lyB, lyC]
            refine ly_q 6 (v := ?_) hHeld ?_
            try simp only [Act.put, lyA, lyB, lyC]
            refine ly_off 7 hHeld ?_
            try simp only [Act.put, lyA, lyB, lyC]
            refine ly_off 8 hHeld ?_
            try simp only [Act.put, lyA, lyB, lyC]
            refine ly_off 9 hHeld ?_
            try simp only [Act.put, lyA, lyB, lyC]
            refine ly_off 10 hHeld ?_
            try simp only [Act.put, lyA, lyB, lyC]
            refine ly_off 11 hHeld ?_
            try simp only [Act.put, lyA, lyB, lyC]
            refine ly_off 12 hHeld ?_
            try simp only [Act.put, lyA, lyB, lyC]
            refine ly_off 13 hHeld ?_
            try simp only [Act.put, lyA, lyB, lyC]
            refine ly_off 14 hHeld ?_
            try simp only [Act.put, lyA, lyB, lyC]
            refine ly_q 15 (v := ?_) hHeld ?_
            try simp only [Act.put, lyA, lyB, lyC]
            refine ly_q 16 (v := ?_) hHeld ?_
            try simp only [Act.put, lyA, lyB, lyC]
            refine wpAnyH_done (by kernel_rfl) ?_ _
            go_wp2
            go_roundw
            case rel => exact ⟨k + 1, by omega, by go_num, hu2'.out, hst1'.out, hb2⟩
            case measure => simp [intOf]; omega
          · have h1 : (0 : Int) < (k : Int) := by omega
            have h2 : 0 < k := by omega
            obtain ⟨mm, hmk, hwm, hm0, hmn, hbm, hd0, hd1⟩ := hprev'.out h0
            have hl1 : b < w1.heap.size := by omega
            rw [← hB1.cell l1] at hd0
            rw [← hB1.cell l1] at hd1
            have hst1 := hst'.out h0
            have hbad1 := hbad'.out h0
            have hu2 := hu''.out rfl
            have hmn2 : (mm : Int) < (n : Int) := by omega
            have hst1' := Lib.hid hst1
            have hu2' := Lib.hid hu2
            have hbx''' := Lib.hid hbx''
            have hbm' := Lib.hid hbm
            have h0' := Lib.hid h0
            have hmk' := Lib.hid hmk
            have hbad1' := Lib.hid hbad1
            clear hst1 hu2 hbx'' hbm h0 hmk hbad1
            have hcl := hcl'.out
            by_cases hC : C < 0
            · have hC0 : ¬ 0 ≤ C := by omega
              rw [decide_eq_true hC] at hcl
              subst hcl
              go_wp2_with fail
              rw [hw1'.out]
              refine wp_region_held_drew (S := (fun w' => (w'.cell? ⟨wr.heap.size, 0, none⟩ = some (.int .i64 x) ∧ w'.cell? ⟨wr.heap.size, 1, none⟩ = some (.int .i64 y)) ∧ w'.cell? ⟨b, off + mm * 2, none⟩ = some (.int .i64 x') ∧ w'.cell? ⟨b, off + mm * 2 + 1, none⟩ = some (.int .i64 y'))) (by kernel_rfl) (by (try dsimp only); (first | exact ⟨⟨hx0, hx1⟩, hd0, hd1⟩ | exact ⟨⟨hx2, hx3⟩, hd2, hd3⟩ | exact ⟨⟨hx4, hx5⟩, hd4, hd5⟩)) (fun hHeld => ?_)
              refine ly_q 0 (v := ?_) hHeld ?_
              try simp only [Act.put, lyA, lyB, lyC]
              refine ly_a 1 (fun KK hKK => ?_)
              go_simp
              refine (c2'.out _).mono ?_
              rintro e w2 ⟨rfl, hB2⟩
              have hx2 := (hB2.cell (p := ⟨wr.heap.size, 0, none⟩) hz1).trans hx0
              have hx3 := (hB2.cell (p := ⟨wr.heap.size, 1, none⟩) hz1).trans hx1
              have hb2 := hb1.drew.trans (hB2.mono hb1.size)
              have hz2 := Nat.lt_of_lt_of_le hz1 hB2.size
              have hd2 := (hB2.cell (p := ⟨b, off + mm * 2, none⟩) hl1).trans hd0
              have hd3 := (hB2.cell (p := ⟨b, off + mm * 2 + 1, none⟩) hl1).trans hd1
              have hl2 := Nat.lt_of_lt_of_le hl1 hB2.size
              try dsimp only
              refine hKK.out _ _ (by (try dsimp only); (first | exact ⟨⟨hx0, hx1⟩, hd0, hd1⟩ | exact ⟨⟨hx2, hx3⟩, hd2, hd3⟩ | exact ⟨⟨hx4, hx5⟩, hd4, hd5⟩)) (fun hHeld => ?_)
              clear hKK KK
              try simp only [Act.put, lyA, lyB, lyC]
              refine ly_q 2 (v := ?_) hHeld ?_
              try simp only [Act.put, lyA, lyB, lyC]
              refine ly_q 3 (v := ?_) hHeld ?_
              try simp only [Act.put, lyA, lyB, lyC]
              refine ly_q 4 (v := ?_) hHeld ?_
              try simp only [Act.put, lyA, lyB, lyC]
              refine ly_q 5 (v := ?_) hHeld ?_
              try simp only [Act.put, lyA, lyB, lyC]
              refine ly_q 6 (v := ?_) hHeld ?_
              try simp only [Act.put, lyA, lyB, lyC]
              refine ly_q 7 (v := ?_) hHeld ?_
              try simp only [Act.put, lyA, lyB, lyC]
              refine ly_q 8 (v := ?_) hHeld ?_
              try simp only [Act.put, lyA, lyB, lyC]
              refine ly_q 9 (v := ?_) hHeld ?_
              try simp only [Act.put, lyA, lyB, lyC]
              refine ly_q 10 (v := ?_) hHeld ?_
              try simp only [Act.put, lyA, lyB, lyC]
              refine ly_q 11 (v := ?_) hHeld ?_
              try simp only [Act.put, lyA, lyB, lyC]
              refine ly_q 12 (v := ?_) hHeld ?_
              try simp only [Act.put, lyA, lyB, lyC]
              refine ly_a 13 (fun KK hKK => ?_)
              go_simp
              refine (c3'.out _ hbm'.out hbx'''.out).mono ?_
              rintro e w3 ⟨rfl, hB3⟩
              have hx4 := (hB3.cell (p := ⟨wr.heap.size, 0, none⟩) hz2).trans hx2
              have hx5 := (hB3.cell (p := ⟨wr.heap.size, 1, none⟩) hz2).trans hx3
              have hb3 := hb2.trans (hB3.mono hb2.size)
              have hd4 := (hB3.cell (p := ⟨b, off + mm * 2, none⟩) hl2).trans hd2
              have hd5 := (hB3.cell (p := ⟨b, off + mm * 2 + 1, none⟩) hl2).trans hd3
              try dsimp only
              refine hKK.out _ _ (by (try dsimp only); (first | exact ⟨⟨hx0, hx1⟩, hd0, hd1⟩ | exact ⟨⟨hx2, hx3⟩, hd2, hd3⟩ | exact ⟨⟨hx4, hx5⟩, hd4, hd5⟩)) (fun hHeld => ?_)
              clear hKK KK
              try simp only [Act.put, lyA, lyB, lyC]
              refine ly_q 14 (v := ?_) hHeld ?_
              try simp only [Act.put, lyA, lyB, lyC]
              refine ly_q 15 (v := ?_) hHeld ?_
              try simp only [Act.put, lyA, lyB, lyC]
              refine ly_q 16 (v := ?_) hHeld ?_
              try simp only [Act.put, lyA, lyB, lyC]
              refine wpAnyH_done (by kernel_rfl) ?_ _
              go_wp2
              go_roundw
              case rel => exact ⟨k + 1, by omega, by go_num, hu2'.out, hst1'.out, hb3⟩
              case measure => simp [intOf]; omega
            · have hC0 : 0 ≤ C := by omega
              rw [decide_eq_false hC] at hcl
              subst hcl
              have hbad2 := hbad1'.out rfl
              have hbad2' := Lib.hid hbad2
              clear hbad2
              clear hbad1'
              go_wp2_with fail
              rw [hw1'.out]
              refine wp_region_held_drew (S := (fun w' => (w'.cell? ⟨wr.heap.size, 0, none⟩ = some (.int .i64 x) ∧ w'.cell? ⟨wr.heap.size, 1, none⟩ = some (.int .i64 y)) ∧ w'.cell? ⟨b, off + mm * 2, none⟩ = some (.int .i64 x') ∧ w'.cell? ⟨b, off + mm * 2 + 1, none⟩ = some (.int .i64 y'))) (by kernel_rfl) (by (try dsimp only); (first | exact ⟨⟨hx0, hx1⟩, hd0, hd1⟩ | exact ⟨⟨hx2, hx3⟩, hd2, hd3⟩ | exact ⟨⟨hx4, hx5⟩, hd4, hd5⟩)) (fun hHeld => ?_)
              refine ly_q 0 (v := ?_) hHeld ?_
              try simp only [Act.put, lyA, lyB, lyC]
              refine ly_a 1 (fun KK hKK => ?_)
              go_simp
              refine (c2'.out _).mono ?_
              rintro e w2 ⟨rfl, hB2⟩
              have hx2 := (hB2.cell (p := ⟨wr.heap.size, 0, none⟩) hz1).trans hx0
              have hx3 := (hB2.cell (p := ⟨wr.heap.size, 1, none⟩) hz1).trans hx1
              have hb2 := hb1.drew.trans (hB2.mono hb1.size)
              have hz2 := Nat.lt_of_lt_of_le hz1 hB2.size
              have hd2 := (hB2.cell (p := ⟨b, off + mm * 2, none⟩) hl1).trans hd0
              have hd3 := (hB2.cell (p := ⟨b, off + mm * 2 + 1, none⟩) hl1).trans hd1
              have hl2 := Nat.lt_of_lt_of_le hl1 hB2.size
              try dsimp only
              refine hKK.out _ _ (by (try dsimp only); (first | exact ⟨⟨hx0, hx1⟩, hd0, hd1⟩ | exact ⟨⟨hx2, hx3⟩, hd2, hd3⟩ | exact ⟨⟨hx4, hx5⟩, hd4, hd5⟩)) (fun hHeld => ?_)
              clear hKK KK
              try simp only [Act.put, lyA, lyB, lyC]
              refine ly_q 2 (v := ?_) hHeld ?_
              try simp only [Act.put, lyA, lyB, lyC]
              refine ly_q 3 (v := ?_) hHeld ?_
              try simp only [Act.put, lyA, lyB, lyC]
              refine ly_q 4 (v := ?_) hHeld ?_
              try simp only [Act.put, lyA, lyB, lyC]
              refine ly_q 5 (v := ?_) hHeld ?_
              try simp only [Act.put, lyA, lyB, lyC]
              refine ly_q 6 (v := ?_) hHeld ?_
              try simp only [Act.put, lyA, lyB, lyC]
              refine ly_q 7 (v := ?_) hHeld ?_
              try simp only [Act.put, lyA, lyB, lyC]
              refine ly_q 8 (v := ?_) hHeld ?_
              try simp only [Act.put, lyA, lyB, lyC]
              refine ly_q 9 (v := ?_) hHeld ?_
              try simp only [Act.put, lyA, lyB, lyC]
              refine ly_q 10 (v := ?_) hHeld ?_
              try simp only [Act.put, lyA, lyB, lyC]
              refine ly_q 11 (v := ?_) hHeld ?_
              try simp only [Act.put, lyA, lyB, lyC]
              refine ly_q 12 (v := ?_) hHeld ?_
              try simp only [Act.put, lyA, lyB, lyC]
              refine ly_a 13 (fun KK hKK => ?_)
              go_simp
              refine (c3'.out _ hbm'.out hbx'''.out).mono ?_
              rintro e w3 ⟨rfl, hB3⟩
              have hx4 := (hB3.cell (p := ⟨wr.heap.size, 0, none⟩) hz2).trans hx2
              have hx5 := (hB3.cell (p := ⟨wr.heap.size, 1, none⟩) hz2).trans hx3
              have hb3 := hb2.trans (hB3.mono hb2.size)
              have hd4 := (hB3.cell (p := ⟨b, off + mm * 2, none⟩) hl2).trans hd2
              have hd5 := (hB3.cell (p := ⟨b, off + mm * 2 + 1, none⟩) hl2).trans hd3
              try dsimp only
              refine hKK.out _ _ (by (try dsimp only); (first | exact ⟨⟨hx0, hx1⟩, hd0, hd1⟩ | exact ⟨⟨hx2, hx3⟩, hd2, hd3⟩ | exact ⟨⟨hx4, hx5⟩, hd4, hd5⟩)) (fun hHeld => ?_)
              clear hKK KK
              try simp only [Act.put, lyA, lyB, lyC]
              refine ly_q 14 (v := ?_) hHeld ?_
              try simp only [Act.put, lyA, lyB, lyC]
              refine ly_q 15 (v := ?_) hHeld ?_
              try simp only [Act.put, lyA, lyB, lyC]
              refine ly_q 16 (v := ?_) hHeld ?_
              try simp only [Act.put, lyA, lyB, lyC]
              refine wpAnyH_done (by kernel_rfl) ?_ _
              go_wp2
              go_ret
              exact ⟨by rw [hbad2'.out]; rfl, hb3⟩
      · obtain rfl : k = n := by omega
        have hfi := hfin'.out hu hr
        rw [← hB.cell l0] at hp0 hp1 hq0 hq1
        have l1 : b < wr.heap.size := Nat.lt_of_lt_of_le l0 hB.size
        have hu' := Lib.hid hu
        have hr' := Lib.hid hr
        have hfi' := Lib.hid hfi
        clear hu hr hfi
        clear H'
        by_cases h1 : (p, q) = ((0 : Int), (1 : Int))
        rotate_left
        · have hR1 : R = false := by rw [hfi'.out, decide_eq_false h1, Bool.false_and]
          subst hR1
          go_wp2_with fail
          refine wp_region_held_drew (S := (fun w' => (w'.cell? ⟨b, off, none⟩ = some (.int .i64 p) ∧ w'.cell? ⟨b, off + 1, none⟩ = some (.int .i64 q)) ∧ w'.cell? ⟨b, off + m * 2, none⟩ = some (.int .i64 p') ∧ w'.cell? ⟨b, off + m * 2 + 1, none⟩ = some (.int .i64 q'))) (by kernel_rfl) (by (try dsimp only); (first | exact ⟨⟨hp0, hp1⟩, hq0, hq1⟩ | exact ⟨⟨hp2, hp3⟩, hq2, hq3⟩ | exact ⟨⟨hp4, hp5⟩, hq4, hq5⟩)) (fun hHeld => ?_)
          refine ly_q 0 (v := ?_) hHeld ?_
          try simp only [Act.put, lyA, lyB, lyC]
          refine ly_q 1 (v := ?_) hHeld ?_
          try simp only [Act.put, lyA, lyB, lyC]
          refine ly_q 2 (v := ?_) hHeld ?_
          try simp only [Act.put, lyA, lyB, lyC]
          refine ly_a 3 (fun KK hKK => ?_)
          go_simp
          refine (raInt_any _ _).mono ?_
          rintro e w2 ⟨rfl, hB2⟩
          have hb2 := hB.drew.trans (hB2.mono hB.size)
          have l2 := Nat.lt_of_lt_of_le l1 hB2.size
          have hp2 := (hB2.cell (p := ⟨b, off, none⟩) l1).trans hp0
          have hp3 := (hB2.cell (p := ⟨b, off + 1, none⟩) l1).trans hp1
          have hq2 := (hB2.cell (p := ⟨b, off + m * 2, none⟩) l1).trans hq0
          have hq3 := (hB2.cell (p := ⟨b, off + m * 2 + 1, none⟩) l1).trans hq1
          try dsimp only
          refine hKK.out _ _ (by (try dsimp only); (first | exact ⟨⟨hp0, hp1⟩, hq0, hq1⟩ | exact ⟨⟨hp2, hp3⟩, hq2, hq3⟩ | exact ⟨⟨hp4, hp5⟩, hq4, hq5⟩)) (fun hHeld => ?_)
          clear hKK KK
          try simp only [Act.put, lyA, lyB, lyC]
          refine ly_q 4 (v := .bool false) (hy := by intro wS hSw; (try dsimp only at hSw); go_simp; by_cases ha : p = 0 <;> by_cases hb : q = 1 <;> simp_all) hHeld ?_
          try simp only [Act.put, lyA, lyB, lyC]
          refine ly_q 5 (v := ?_) hHeld ?_
          try simp only [Act.put, lyA, lyB, lyC]
          refine ly_off 6 hHeld ?_
          try simp only [Act.put, lyA, lyB, lyC]
          refine ly_off 7 hHeld ?_
          try simp only [Act.put, lyA, lyB, lyC]
          refine ly_off 8 hHeld ?_
          try simp only [Act.put, lyA, lyB, lyC]
          refine ly_off 9 hHeld ?_
          try simp only [Act.put, lyA, lyB, lyC]
          refine ly_off 10 hHeld ?_
          try simp only [Act.put, lyA, lyB, lyC]
          refine ly_off 11 hHeld ?_
          try simp only [Act.put, lyA, lyB, lyC]
          refine ly_off 12 hHeld ?_
          try simp only [Act.put, lyA, lyB, lyC]
          refine ly_off 13 hHeld ?_
          try simp only [Act.put, lyA, lyB, lyC]
          refine ly_q 14 (v := ?_) hHeld ?_
          try simp only [Act.put, lyA, lyB, lyC]
          refine ly_q 15 (v := ?_) hHeld ?_
          try simp only [Act.put, lyA, lyB, lyC]
          refine wpAnyH_done (by kernel_rfl) ?_ _
          go_wp2
          go_ret
          exact ⟨rfl, hb2⟩
        cases h1
        by_cases h2 : (p', q') = ((1 : Int), (1 : Int))
        · have hR1 : R = true := by rw [hfi'.out, decide_eq_true rfl, decide_eq_true h2]; rfl
          subst hR1
          cases h2
          go_wp2_with fail
          refine wp_region_held_drew (S := (fun w' => (w'.cell? ⟨b, off, none⟩ = some (.int .i64 0) ∧ w'.cell? ⟨b, off + 1, none⟩ = some (.int .i64 1)) ∧ w'.cell? ⟨b, off + m * 2, none⟩ = some (.int .i64 1) ∧ w'.cell? ⟨b, off + m * 2 + 1, none⟩ = some (.int .i64 1))) (by kernel_rfl) (by (try dsimp only); (first | exact ⟨⟨hp0, hp1⟩, hq0, hq1⟩ | exact ⟨⟨hp2, hp3⟩, hq2, hq3⟩ | exact ⟨⟨hp4, hp5⟩, hq4, hq5⟩)) (fun hHeld => ?_)
          refine ly_q 0 (v := ?_) hHeld ?_
          try simp only [Act.put, lyA, lyB, lyC]
          refine ly_q 1 (v := ?_) hHeld ?_
          try simp only [Act.put, lyA, lyB, lyC]
          refine ly_q 2 (v := ?_) hHeld ?_
          try simp only [Act.put, lyA, lyB, lyC]
          refine ly_a 3 (fun KK hKK => ?_)
          go_simp
          refine (raInt_any _ _).mono ?_
          rintro e w2 ⟨rfl, hB2⟩
          have hb2 := hB.drew.trans (hB2.mono hB.size)
          have l2 := Nat.lt_of_lt_of_le l1 hB2.size
          have hp2 := (hB2.cell (p := ⟨b, off, none⟩) l1).trans hp0
          have hp3 := (hB2.cell (p := ⟨b, off + 1, none⟩) l1).trans hp1
          have hq2 := (hB2.cell (p := ⟨b, off + m * 2, none⟩) l1).trans hq0
          have hq3 := (hB2.cell (p := ⟨b, off + m * 2 + 1, none⟩) l1).trans hq1
          try dsimp only
          refine hKK.out _ _ (by (try dsimp only); (first | exact ⟨⟨hp0, hp1⟩, hq0, hq1⟩ | exact ⟨⟨hp2, hp3⟩, hq2, hq3⟩ | exact ⟨⟨hp4, hp5⟩, hq4, hq5⟩)) (fun hHeld => ?_)
          clear hKK KK
          try simp only [Act.put, lyA, lyB, lyC]
          refine ly_q 4 (v := ?_) hHeld ?_
          try simp only [Act.put, lyA, lyB, lyC]
          refine ly_q 5 (v := ?_) hHeld ?_
          try simp only [Act.put, lyA, lyB, lyC]
          refine ly_q 6 (v := ?_) hHeld ?_
          try simp only [Act.put, lyA, lyB, lyC]
          refine ly_q 7 (v := ?_) hHeld ?_
          try simp only [Act.put, lyA, lyB, lyC]
          refine ly_q 8 (v := ?_) hHeld ?_
          try simp only [Act.put, lyA, lyB, lyC]
          refine ly_q 9 (v := ?_) hHeld ?_
          try simp only [Act.put, lyA, lyB, lyC]
          refine ly_q 10 (v := ?_) hHeld ?_
          try simp only [Act.put, lyA, lyB, lyC]
          refine ly_q 11 (v := ?_) hHeld ?_
          try simp only [Act.put, lyA, lyB, lyC]
          refine ly_a 12 (fun KK hKK => ?_)
          go_simp
          refine (raInt_any _ _).mono ?_
          rintro e w3 ⟨rfl, hB3⟩
          have hb3 := hb2.trans (hB3.mono hb2.size)
          have hp4 := (hB3.cell (p := ⟨b, off, none⟩) l2).trans hp2
          have hp5 := (hB3.cell (p := ⟨b, off + 1, none⟩) l2).trans hp3
          have hq4 := (hB3.cell (p := ⟨b, off + m * 2, none⟩) l2).trans hq2
          have hq5 := (hB3.cell (p := ⟨b, off + m * 2 + 1, none⟩) l2).trans hq3
          try dsimp only
          refine hKK.out _ _ (by (try dsimp only); (first | exact ⟨⟨hp0, hp1⟩, hq0, hq1⟩ | exact ⟨⟨hp2, hp3⟩, hq2, hq3⟩ | exact ⟨⟨hp4, hp5⟩, hq4, hq5⟩)) (fun hHeld => ?_)
          clear hKK KK
          try simp only [Act.put, lyA, lyB, lyC]
          refine ly_q 13 (v := ?_) hHeld ?_
          try simp only [Act.put, lyA, lyB, lyC]
          refine ly_q 14 (v := ?_) hHeld ?_
          try simp only [Act.put, lyA, lyB, lyC]
          refine ly_q 15 (v := ?_) hHeld ?_
          try simp only [Act.put, lyA, lyB, lyC]
          refine wpAnyH_done (by kernel_rfl) ?_ _
          go_wp2
          go_ret
          exact ⟨rfl, hb3⟩
        · have hR1 : R = false := by rw [hfi'.out, decide_eq_true rfl, decide_eq_false h2]; rfl
          subst hR1
          go_wp2_with fail
          refine wp_region_held_drew (S := (fun w' => (w'.cell? ⟨b, off, none⟩ = some (.int .i64 0) ∧ w'.cell? ⟨b, off + 1, none⟩ = some (.int .i64 1)) ∧ w'.cell? ⟨b, off + m * 2, none⟩ = some (.int .i64 p') ∧ w'.cell? ⟨b, off + m * 2 + 1, none⟩ = some (.int .i64 q'))) (by kernel_rfl) (by (try dsimp only); (first | exact ⟨⟨hp0, hp1⟩, hq0, hq1⟩ | exact ⟨⟨hp2, hp3⟩, hq2, hq3⟩ | exact ⟨⟨hp4, hp5⟩, hq4, hq5⟩)) (fun hHeld => ?_)
          refine ly_q 0 (v := ?_) hHeld ?_
          try simp only [Act.put, lyA, lyB, lyC]
          refine ly_q 1 (v := ?_) hHeld ?_
          try simp only [Act.put, lyA, lyB, lyC]
          refine ly_q 2 (v := ?_) hHeld ?_
          try simp only [Act.put, lyA, lyB, lyC]
          refine ly_a 3 (fun KK hKK => ?_)
          go_simp
          refine (raInt_any _ _).mono ?_
          rintro e w2 ⟨rfl, hB2⟩
          have hb2 := hB.drew.trans (hB2.mono hB.size)
          have l2 := Nat.lt_of_lt_of_le l1 hB2.size
          have hp2 := (hB2.cell (p := ⟨b, off, none⟩) l1).trans hp0
          have hp3 := (hB2.cell (p := ⟨b, off + 1, none⟩) l1).trans hp1
          have hq2 := (hB2.cell (p := ⟨b, off + m * 2, none⟩) l1).trans hq0
          have hq3 := (hB2.cell (p := ⟨b, off + m * 2 + 1, none⟩) l1).trans hq1
          try dsimp only
          refine hKK.out _ _ (by (try dsimp only); (first | exact ⟨⟨hp0, hp1⟩, hq0, hq1⟩ | exact ⟨⟨hp2, hp3⟩, hq2, hq3⟩ | exact ⟨⟨hp4, hp5⟩, hq4, hq5⟩)) (fun hHeld => ?_)
          clear hKK KK
          try simp only [Act.put, lyA, lyB, lyC]
          refine ly_q 4 (v := ?_) hHeld ?_
          try simp only [Act.put, lyA, lyB, lyC]
          refine ly_q 5 (v := ?_) hHeld ?_
          try simp only [Act.put, lyA, lyB, lyC]
          refine ly_q 6 (v := ?_) hHeld ?_
          try simp only [Act.put, lyA, lyB, lyC]
          refine ly_q 7 (v := ?_) hHeld ?_
          try simp only [Act.put, lyA, lyB, lyC]
          refine ly_q 8 (v := ?_) hHeld ?_
          try simp only [Act.put, lyA, lyB, lyC]
          refine ly_q 9 (v := ?_) hHeld ?_
          try simp only [Act.put, lyA, lyB, lyC]
          refine ly_q 10 (v := ?_) hHeld ?_
          try simp only [Act.put, lyA, lyB, lyC]
          refine ly_q 11 (v := ?_) hHeld ?_
          try simp only [Act.put, lyA, lyB, lyC]
          refine ly_a 12 (fun KK hKK => ?_)
          go_simp
          refine (raInt_any _ _).mono ?_
          rintro e w3 ⟨rfl, hB3⟩
          have hb3 := hb2.trans (hB3.mono hb2.size)
          have hp4 := (hB3.cell (p := ⟨b, off, none⟩) l2).trans hp2
          have hp5 := (hB3.cell (p := ⟨b, off + 1, none⟩) l2).trans hp3
          have hq4 := (hB3.cell (p := ⟨b, off + m * 2, none⟩) l2).trans hq2
          have hq5 := (hB3.cell (p := ⟨b, off + m * 2 + 1, none⟩) l2).trans hq3
          try dsimp only
          refine hKK.out _ _ (by (try dsimp only); (first | exact ⟨⟨hp0, hp1⟩, hq0, hq1⟩ | exact ⟨⟨hp2, hp3⟩, hq2, hq3⟩ | exact ⟨⟨hp4, hp5⟩, hq4, hq5⟩)) (fun hHeld => ?_)
          clear hKK KK
          try simp only [Act.put, lyA, lyB, lyC]
          refine ly_q 13 (v := .bool false) (hy := by intro wS hSw; (try dsimp only at hSw); go_simp; by_cases ha : p' = 1 <;> by_cases hb : q' = 1 <;> simp_all) hHeld ?_
          try simp only [Act.put, lyA, lyB, lyC]
          refine ly_q 14 (v := ?_) hHeld ?_
          try simp only [Act.put, lyA, lyB, lyC]
          refine ly_q 15 (v := ?_) hHeld ?_
          try simp only [Act.put, lyA, lyB, lyC]
          refine wpAnyH_done (by kernel_rfl) ?_ _
          go_wp2
          go_ret
          exact ⟨rfl, hb3⟩

end Go.Proofs.YtnggopbehohjnaaGreat

namespace Go.Proofs.YtnggopbehohjnaaGreat
open Go.ChangeShapes Go.WideShapes Go.ChangeAt Go.RowKit


end Go.Proofs.YtnggopbehohjnaaGreat

namespace Go.Proofs.YtnggopbehohjnaaGreat
open Go.RowKit

abbrev Quad := (Int × Int) × (Int × Int)
/-- Element i of a list of pairs of fractions. -/
def nth4 (xs : List Quad) (i : Nat) : Quad := xs[i]?.getD ((0, 0), (0, 0))
theorem nth4_eq {xs : List Quad} {i : Nat} (h : i < xs.length) : nth4 xs i = xs[i] := by unfold nth4; rw [List.getElem?_eq_getElem h]; rfl
theorem take_nth4 {xs : List Quad} {k : Nat} (h : k < xs.length) : xs.take (k + 1) = xs.take k ++ [nth4 xs k] := by
  rw [List.take_add_one, List.getElem?_eq_getElem h, nth4_eq h]; rfl
def fl4 (xs : List Quad) : List Int := xs.flatMap fun x => [x.1.1, x.1.2, x.2.1, x.2.2]
theorem fl4_len (xs : List Quad) : (fl4 xs).length = xs.length * 4 := by
  induction xs with
  | nil => rfl
  | cons x xs ih => simp only [fl4, List.flatMap_cons, List.length_append, List.length_cons, List.length_nil] at ih ⊢; omega
theorem fl4_append (xs ys : List Quad) : fl4 (xs ++ ys) = fl4 xs ++ fl4 ys := by simp [fl4]
theorem fl4_one (x : Quad) : fl4 [x] = [x.1.1, x.1.2, x.2.1, x.2.2] := rfl
theorem nth_fl4 {xs : List Quad} {i : Nat} (h : i < xs.length) :
    nth (fl4 xs) (i * 4) = (nth4 xs i).1.1 ∧ nth (fl4 xs) (i * 4 + 1) = (nth4 xs i).1.2 ∧ nth (fl4 xs) (i * 4 + 2) = (nth4 xs i).2.1 ∧ nth (fl4 xs) (i * 4 + 3) = (nth4 xs i).2.2 := by
  induction xs generalizing i with
  | nil => simp at h
  | cons x xs ih =>
    have hc : fl4 (x :: xs) = x.1.1 :: x.1.2 :: x.2.1 :: x.2.2 :: fl4 xs := rfl
    cases i with
    | zero => exact ⟨rfl, rfl, rfl, rfl⟩
    | succ i =>
      obtain ⟨a, b, c, d⟩ := ih (i := i) (by simpa using h)
      have e : ∀ j, nth (fl4 (x :: xs)) (j + 4) = nth (fl4 xs) j := fun j => by rw [hc]; rfl
      have e4 : nth4 (x :: xs) (i + 1) = nth4 xs i := rfl
      rw [e4, show (i + 1) * 4 = i * 4 + 4 by omega, show i * 4 + 4 + 1 = (i * 4 + 1) + 4 by omega, show i * 4 + 4 + 2 = (i * 4 + 2) + 4 by omega, show i * 4 + 4 + 3 = (i * 4 + 3) + 4 by omega, e, e, e, e]
      exact ⟨a, b, c, d⟩

/-- A slice value that reads as these. -/
def QuadV (w : World) (v : Value) (xs : List Quad) : Prop := FlatV 4 w v xs.length (fl4 xs)
theorem QuadV.below {w w' : World} {v : Value} {xs : List Quad} (h : QuadV w v xs) (hB : Below w.heap.size w w') : QuadV w' v xs := FlatV.below h hB
theorem QuadV.form {w : World} {v : Value} {xs : List Quad} (h : QuadV w v xs) : ∃ ao cap, v = .slice ao xs.length cap ∧ (xs.length ≤ cap ∧ (ao = none → cap = 0)) ∧ cap ≤ maxLen ∧
    ∀ i, i < xs.length → ∃ b off, ao = some ⟨b, off, none⟩ ∧ w.cell? ⟨b, off + i * 4, none⟩ = some (.int .i64 (nth4 xs i).1.1) ∧ w.cell? ⟨b, off + i * 4 + 1, none⟩ = some (.int .i64 (nth4 xs i).1.2) ∧
      w.cell? ⟨b, off + i * 4 + 2, none⟩ = some (.int .i64 (nth4 xs i).2.1) ∧ w.cell? ⟨b, off + i * 4 + 3, none⟩ = some (.int .i64 (nth4 xs i).2.2) := by
  obtain ⟨ao, cap, e, h1, h2, H⟩ := h
  refine ⟨ao, cap, e, h1, h2, fun i hi => ?_⟩
  obtain ⟨b, off, rfl, c0⟩ := H (i * 4) (by omega)
  obtain ⟨_, _, e', c1⟩ := H (i * 4 + 1) (by omega)
  cases e'
  obtain ⟨_, _, e', c2⟩ := H (i * 4 + 2) (by omega)
  cases e'
  obtain ⟨_, _, e', c3⟩ := H (i * 4 + 3) (by omega)
  cases e'
  obtain ⟨n0, n1, n2, n3⟩ := nth_fl4 hi
  rw [n0] at c0; rw [n1] at c1; rw [n2] at c2; rw [n3] at c3
  exact ⟨b, off, rfl, c0, c1, c2, c3⟩
theorem QuadV.mk {w : World} {ao : Option Addr} {cap : Nat} {xs : List Quad} (h1 : xs.length ≤ cap ∧ (ao = none → cap = 0)) (h2 : cap ≤ maxLen)
    (H : ∀ i, i < xs.length → ∃ b off, ao = some ⟨b, off, none⟩ ∧ w.cell? ⟨b, off + i * 4, none⟩ = some (.int .i64 (nth4 xs i).1.1) ∧ w.cell? ⟨b, off + i * 4 + 1, none⟩ = some (.int .i64 (nth4 xs i).1.2) ∧
      w.cell? ⟨b, off + i * 4 + 2, none⟩ = some (.int .i64 (nth4 xs i).2.1) ∧ w.cell? ⟨b, off + i * 4 + 3, none⟩ = some (.int .i64 (nth4 xs i).2.2)) : QuadV w (.slice ao xs.length cap) xs := by
  refine ⟨ao, cap, rfl, h1, h2, fun j hj => ?_⟩
  obtain ⟨b, off, e, c0, c1, c2, c3⟩ := H (j / 4) (by omega)
  obtain ⟨n0, n1, n2, n3⟩ := nth_fl4 (xs := xs) (i := j / 4) (by omega)
  have hj4 : j % 4 = 0 ∨ j % 4 = 1 ∨ j % 4 = 2 ∨ j % 4 = 3 := by omega
  rcases hj4 with h0 | h0 | h0 | h0
  · have ej : j / 4 * 4 = j := by omega
    rw [ej] at c0 n0
    exact ⟨b, off, e, by rw [c0, n0]⟩
  · have ej : j / 4 * 4 + 1 = j := by omega
    rw [Nat.add_assoc, ej] at c1
    rw [ej] at n1
    exact ⟨b, off, e, by rw [c1, n1]⟩
  · have ej : j / 4 * 4 + 2 = j := by omega
    rw [Nat.add_assoc, ej] at c2
    rw [ej] at n2
    exact ⟨b, off, e, by rw [c2, n2]⟩
  · have ej : j / 4 * 4 + 3 = j := by omega
    rw [Nat.add_assoc, ej] at c3
    rw [ej] at n3
    exact ⟨b, off, e, by rw [c3, n3]⟩

abbrev szIntervalS (xs : List Quad) : Nat := xs.length
abbrev szPointS (xs : List Quad) : Nat := xs.length
def cntIntervalS (xs : List Quad) : Nat := 4 * xs.length
def cntPointS (xs : List Quad) : Nat := 4 * xs.length
theorem cntIntervalS_le (xs : List Quad) : cntIntervalS xs ≤ 4 * szIntervalS xs := Nat.le_refl _
theorem cntPointS_le (xs : List Quad) : cntPointS xs ≤ 4 * szPointS xs := Nat.le_refl _

/-- One element appended to a slice of the call's own. -/
theorem wp_append_flat {T L : TypeId} {K : Nat} {i : TypeInfo} {z : Value} {bytes : Nat} {o : Oper} {a : Act} {w : World} {KK : Act → World → Prop} {Q : Exit → Act → World → Prop} (s x : Operand)
    (ho : o.op = .call { callee := .builtin .append, args := #[s, x], argTypes := #[L, L] }) (hL : Tryz.prog.underlying L = some (.slice T)) (hi : Tryz.prog.info? T = some i) (hz : i.zero = some z) (hk : i.size = K) (hby : i.bytes = bytes)
    (hzs : z.cells.size = K) (hK : 0 < K) (hb : bytes ≤ 64) (B : Nat) (v : Value) (n : Nat) (ys : List Int) (zs : List Int) (c : Nat) (hs : a.eval s = v) (hx : a.eval x = .slice (some ⟨w.heap.size, 0, none⟩) 1 c) (hzl : zs.length = K)
    (hown : GrowF T K w B v n ys) (hl : n ≤ 1099511627776) (hB : B ≤ w.heap.size)
    (h : ∀ v' w', GrowF T K w' B v' (n + 1) (ys ++ zs) → w.grownBy w' v.ownBlock → KK (a.put o.dst v') w') : o.wp Tryz.prog a (w.alloc (.cells (zs.map (Value.int .i64)).toArray T)) KK Q := by
  refine wp_append_own _ s x L ho B T i z K bytes hL hi hz hk hby hzs hK v n _ hs (World.ownsRow.alloc hown _) ⟨w.heap.size, 0, none⟩ 1 c (zs.map (Value.int .i64)) hx (by simp [hzl]) ?_ ?_ (by unfold maxLen; omega) ?_ (by simp; omega) ?_
  · intro j u hj
    have hj' : j < zs.length := by simpa using (List.getElem?_eq_some_iff.1 hj).1
    rw [Addr.add_lit, Nat.zero_add, World.cell?_alloc_at _ _ _ _ rfl]
    simpa using hj
  · intro u hu
    obtain ⟨_, _, rfl⟩ := List.mem_map.1 hu
    rfl
  · calc (n + 1) * bytes ≤ (n + 1) * 64 := Nat.mul_le_mul_left _ hb
      _ ≤ 140737488355328 := by omega
  · intro v' w' h1 h2 _
    exact h v' w' (by unfold GrowF; rw [List.map_append]; exact h1) ((World.grownBy_alloc _ _ _).trans h2)

theorem wp_append_rat {o : Oper} {a : Act} {w : World} {KK : Act → World → Prop} {Q : Exit → Act → World → Prop} (s x : Operand)
    (ho : o.op = .call { callee := .builtin .append, args := #[s, x], argTypes := #[24, 24] }) (B : Nat) (v : Value) (xs : List (Int × Int)) (p q : Int) (c : Nat) (hs : a.eval s = v) (hx : a.eval x = .slice (some ⟨w.heap.size, 0, none⟩) 1 c)
    (hown : GrowR w B v xs) (hl : xs.length ≤ 1099511627776) (hB : B ≤ w.heap.size)
    (h : ∀ v' w', GrowR w' B v' (xs ++ [(p, q)]) → w.grownBy w' v.ownBlock → KK (a.put o.dst v') w') : o.wp Tryz.prog a (w.alloc (.cells #[.int .i64 p, .int .i64 q] 50)) KK Q := by
  obtain ⟨i, hi, hz0, hz1, hz2⟩ := info_parts Tryz.infoRat
  refine wp_append_flat s x ho Tryz.underlying24 hi hz0 hz1 hz2 rfl (by decide) (by decide) B v xs.length (flR xs) [p, q] c hs hx rfl hown hl hB (fun v' w' h1 h2 => h v' w' ?_ h2)
  unfold GrowR
  rw [flR_append, List.length_append]; exact h1

def OwnI (w : World) (B E : Nat) (v : Value) (xs : List Quad) : Prop := OwnF 64 4 w B E v xs.length (fl4 xs)
section
variable {w w' : World} {B E B' E' : Nat} {v : Value} {xs : List Quad}
theorem OwnI.mono (h : OwnI w B E v xs) (hB : B' ≤ B) (hE : E ≤ E') : OwnI w B' E' v xs := OwnF.mono h hB hE
theorem OwnI.below {E'' : Nat} (h : OwnI w B E v xs) (hB : Below E'' w w') (hE : E ≤ E'') : OwnI w' B E v xs := OwnF.below h hB hE
theorem OwnI.kept {row : Option Nat} (h : OwnI w B E v xs) (hg : w.grownBy w' row) (hr : ∀ g, row = some g → g < B ∨ E ≤ g) : OwnI w' B E v xs := OwnF.kept h hg hr
theorem OwnI.turned (h : OwnI w B E v xs) (ht : Turned B' E' w w') (hd : E ≤ B' ∨ E' ≤ B) : OwnI w' B E v xs := OwnF.turned h ht hd
theorem OwnI.read (h : OwnI w B E v xs) : QuadV w v xs := OwnF.read h
theorem OwnI.nil (w : World) (B E : Nat) : OwnI w B E (.slice none 0 0) [] := OwnF.nil _ _ _ _ _ _
end
def GrowI (w : World) (B : Nat) (v : Value) (xs : List Quad) : Prop := GrowF 64 4 w B v xs.length (fl4 xs)
theorem GrowI.nil (w : World) (B : Nat) : GrowI w B (.slice none 0 0) [] := GrowF.nil _ _ _ _
theorem GrowI.own {w : World} {B : Nat} {v : Value} {xs : List Quad} (h : GrowI w B v xs) : OwnI w B w.heap.size v xs := GrowF.own h
theorem GrowI.read {w : World} {B : Nat} {v : Value} {xs : List Quad} (h : GrowI w B v xs) : QuadV w v xs := h.own.read
theorem GrowI.below {w w' : World} {B : Nat} {v : Value} {xs : List Quad} (h : GrowI w B v xs) (hB : Below w.heap.size w w') : GrowI w' B v xs := GrowF.below h hB
theorem GrowI.belowB {w0 w w' : World} {B : Nat} {v : Value} {xs : List Quad} {b : Nat} (h : GrowI w B v xs) (hb : Below b w0 w) (hB : b ≤ B) (hsz : b ≤ w.heap.size) (hg : w.grownBy w' v.ownBlock) : Below b w0 w' := GrowF.belowB h hb hB hsz hg
theorem Tryz.infoInterval : (Tryz.prog.info? 64).map (fun i => (i.zero, i.size, i.bytes)) = some (some (.agg #[.int .i64 0, .int .i64 0, .int .i64 0, .int .i64 0]), 4, 32) := by kernel_rfl
theorem wp_append_I {o : Oper} {a : Act} {w : World} {KK : Act → World → Prop} {Q : Exit → Act → World → Prop} (s x : Operand)
    (ho : o.op = .call { callee := .builtin .append, args := #[s, x], argTypes := #[36, 36] }) (B : Nat) (v : Value) (xs : List Quad) (p q p' q' : Int) (c : Nat) (hs : a.eval s = v) (hx : a.eval x = .slice (some ⟨w.heap.size, 0, none⟩) 1 c)
    (hown : GrowI w B v xs) (hl : xs.length ≤ 1099511627776) (hB : B ≤ w.heap.size)
    (h : ∀ v' w', GrowI w' B v' (xs ++ [((p, q), (p', q'))]) → w.grownBy w' v.ownBlock → KK (a.put o.dst v') w') : o.wp Tryz.prog a (w.alloc (.cells #[.int .i64 p, .int .i64 q, .int .i64 p', .int .i64 q'] 64)) KK Q := by
  obtain ⟨i, hi, hz0, hz1, hz2⟩ := info_parts Tryz.infoInterval
  refine wp_append_flat s x ho Tryz.underlying36 hi hz0 hz1 hz2 rfl (by decide) (by decide) B v xs.length (fl4 xs) [p, q, p', q'] c hs hx rfl hown hl hB (fun v' w' h1 h2 => h v' w' ?_ h2)
  unfold GrowI
  rw [fl4_append, List.length_append]; exact h1
def OwnP (w : World) (B E : Nat) (v : Value) (xs : List Quad) : Prop := OwnF 96 4 w B E v xs.length (fl4 xs)
section
variable {w w' : World} {B E B' E' : Nat} {v : Value} {xs : List Quad}
theorem OwnP.mono (h : OwnP w B E v xs) (hB : B' ≤ B) (hE : E ≤ E') : OwnP w B' E' v xs := OwnF.mono h hB hE
theorem OwnP.below {E'' : Nat} (h : OwnP w B E v xs) (hB : Below E'' w w') (hE : E ≤ E'') : OwnP w' B E v xs := OwnF.below h hB hE
theorem OwnP.kept {row : Option Nat} (h : OwnP w B E v xs) (hg : w.grownBy w' row) (hr : ∀ g, row = some g → g < B ∨ E ≤ g) : OwnP w' B E v xs := OwnF.kept h hg hr
theorem OwnP.turned (h : OwnP w B E v xs) (ht : Turned B' E' w w') (hd : E ≤ B' ∨ E' ≤ B) : OwnP w' B E v xs := OwnF.turned h ht hd
theorem OwnP.read (h : OwnP w B E v xs) : QuadV w v xs := OwnF.read h
theorem OwnP.nil (w : World) (B E : Nat) : OwnP w B E (.slice none 0 0) [] := OwnF.nil _ _ _ _ _ _
end
def GrowP (w : World) (B : Nat) (v : Value) (xs : List Quad) : Prop := GrowF 96 4 w B v xs.length (fl4 xs)
theorem GrowP.nil (w : World) (B : Nat) : GrowP w B (.slice none 0 0) [] := GrowF.nil _ _ _ _
theorem GrowP.own {w : World} {B : Nat} {v : Value} {xs : List Quad} (h : GrowP w B v xs) : OwnP w B w.heap.size v xs := GrowF.own h
theorem GrowP.read {w : World} {B : Nat} {v : Value} {xs : List Quad} (h : GrowP w B v xs) : QuadV w v xs := h.own.read
theorem GrowP.below {w w' : World} {B : Nat} {v : Value} {xs : List Quad} (h : GrowP w B v xs) (hB : Below w.heap.size w w') : GrowP w' B v xs := GrowF.below h hB
theorem GrowP.belowB {w0 w w' : World} {B : Nat} {v : Value} {xs : List Quad} {b : Nat} (h : GrowP w B v xs) (hb : Below b w0 w) (hB : b ≤ B) (hsz : b ≤ w.heap.size) (hg : w.grownBy w' v.ownBlock) : Below b w0 w' := GrowF.belowB h hb hB hsz hg
theorem Tryz.infoPoint : (Tryz.prog.info? 96).map (fun i => (i.zero, i.size, i.bytes)) = some (some (.agg #[.int .i64 0, .int .i64 0, .int .i64 0, .int .i64 0]), 4, 32) := by kernel_rfl
theorem wp_append_P {o : Oper} {a : Act} {w : World} {KK : Act → World → Prop} {Q : Exit → Act → World → Prop} (s x : Operand)
    (ho : o.op = .call { callee := .builtin .append, args := #[s, x], argTypes := #[27, 27] }) (B : Nat) (v : Value) (xs : List Quad) (p q p' q' : Int) (c : Nat) (hs : a.eval s = v) (hx : a.eval x = .slice (some ⟨w.heap.size, 0, none⟩) 1 c)
    (hown : GrowP w B v xs) (hl : xs.length ≤ 1099511627776) (hB : B ≤ w.heap.size)
    (h : ∀ v' w', GrowP w' B v' (xs ++ [((p, q), (p', q'))]) → w.grownBy w' v.ownBlock → KK (a.put o.dst v') w') : o.wp Tryz.prog a (w.alloc (.cells #[.int .i64 p, .int .i64 q, .int .i64 p', .int .i64 q'] 96)) KK Q := by
  obtain ⟨i, hi, hz0, hz1, hz2⟩ := info_parts Tryz.infoPoint
  refine wp_append_flat s x ho Tryz.underlying27 hi hz0 hz1 hz2 rfl (by decide) (by decide) B v xs.length (fl4 xs) [p, q, p', q'] c hs hx rfl hown hl hB (fun v' w' h1 h2 => h v' w' ?_ h2)
  unfold GrowP
  rw [fl4_append, List.length_append]; exact h1

end Go.Proofs.YtnggopbehohjnaaGreat

namespace Go.Proofs.YtnggopbehohjnaaGreat
open Go.RowKit
set_option maxRecDepth 100000

/-- The first k intervals between neighbours. -/
def betwK (xs : List (Int × Int)) (k : Nat) : List Quad := (List.range k).map fun i => (nthR xs i, nthR xs (i + 1))
def betwL (xs : List (Int × Int)) : List Quad := betwK xs (xs.length - 1)
theorem betwK_len (xs : List (Int × Int)) (k : Nat) : (betwK xs k).length = k := by simp [betwK]
theorem betwK_step (xs : List (Int × Int)) (k : Nat) : betwK xs (k + 1) = betwK xs k ++ [(nthR xs k, nthR xs (k + 1))] := by simp [betwK, List.range_succ]
theorem nth4_betwK (xs : List (Int × Int)) {k i : Nat} (h : i < k) : nth4 (betwK xs k) i = (nthR xs i, nthR xs (i + 1)) := by
  rw [nth4_eq (by rw [betwK_len]; exact h)]; simp [betwK]

set_option linter.unusedSimpArgs false in
set_option maxHeartbeats 800000 in
theorem between_any (v : Value) (xs : List (Int × Int)) (w : World) (hv : RatsV w v xs) (hm : szRatS xs ≤ 1099511627776) :
    Calls Tryz.prog 107 #[v] w (RetO OwnI (betwL xs) w) := by
  replace hm : xs.length ≤ 1099511627776 := hm
  obtain ⟨ao, cap, rfl, _, _, H⟩ := hv.form
  obtain ⟨n, hn⟩ : ∃ n, xs.length = n := ⟨_, rfl⟩
  unfold betwL
  rw [hn] at hm H hv ⊢
  have hn' := Lib.hid hn
  have hv' := Lib.hid hv
  have H' := Lib.hid H
  clear hn hv H
  go_enter Tryz.func107, Tryz.ntmps107
  go_wp2
  go_loopw [3, 4] (fun o i wr => ∃ k : Nat, (k + 1 ≤ n ∨ k = 0) ∧ i = .int .i64 ((k : Int) + 1) ∧ GrowI wr w.heap.size o (betwK xs k) ∧ Below w.heap.size w wr) (fun _ i _ => n - (intOf i).toNat)
  case atStart => exact ⟨0, .inr rfl, rfl, GrowI.nil _ _, Below.refl _ _⟩
  case round =>
    obtain ⟨k, hk, rfl, hg, hB⟩ := hrel
    by_cases hlt : k + 1 < n
    · obtain ⟨b, off, rfl, hc0, hc1⟩ := H'.out k (by omega)
      obtain ⟨_, _, e', hd0, hd1⟩ := H'.out (k + 1) hlt
      cases e'
      have l0 := World.block_lt_of_cell? _ _ hc0
      simp only at l0
      have hst := betwK_step xs k
      have hgl : (betwK xs k).length ≤ 1099511627776 := by rw [betwK_len]; omega
      obtain ⟨⟨p, q⟩, hr1⟩ : ∃ r, nthR xs k = r := ⟨_, rfl⟩
      obtain ⟨⟨p', q'⟩, hr2⟩ : ∃ r, nthR xs (k + 1) = r := ⟨_, rfl⟩
      rw [hr1] at hc0 hc1
      rw [hr2] at hd0 hd1
      rw [hr1, hr2] at hst
      simp only at hc0 hc1 hd0 hd1
      have at' : ∀ w', Below w.heap.size w w' → (w'.cell? ⟨b, off + k * 2, none⟩ = some (.int .i64 p) ∧ w'.cell? ⟨b, off + k * 2 + 1, none⟩ = some (.int .i64 q)) ∧ w'.cell? ⟨b, off + (k + 1) * 2, none⟩ = some (.int .i64 p') ∧ w'.cell? ⟨b, off + (k + 1) * 2 + 1, none⟩ = some (.int .i64 q') :=
        fun w' h => ⟨⟨(h.cell (p := ⟨b, off + k * 2, none⟩) l0).trans hc0, (h.cell (p := ⟨b, off + k * 2 + 1, none⟩) l0).trans hc1⟩, (h.cell (p := ⟨b, off + (k + 1) * 2, none⟩) l0).trans hd0, (h.cell (p := ⟨b, off + (k + 1) * 2 + 1, none⟩) l0).trans hd1⟩
      clear hc0 hc1 hd0 hd1
      obtain ⟨j, hj⟩ : ∃ j : Nat, j = k + 1 := ⟨_, rfl⟩
      rw [← hj] at at' hlt
      rw [show (k : Int) + 1 = (j : Int) by omega]
      have g1 : IntKind.i64.wrap ((j : Int) - 1) = (k : Int) := by rw [IntKind.wrap_i64]; omega
      have g2 : (0 : Int) ≤ (k : Int) := by omega
      have g3 : (k : Int) < (n : Int) := by omega
      have g4 : k < n := by omega
      have hb1 := hB.drew
      have hs0 := hB.size
      have hb2 : Below w.heap.size w (wr.drew.alloc (.cells #[.int .i64 p, .int .i64 q, .int .i64 p', .int .i64 q'] 64)) := hb1.alloc hs0 _
      have hg1 : GrowI wr.drew w.heap.size u3 (betwK xs k) := hg
      have hst' := Lib.hid hst
      have hr1' := Lib.hid hr1
      have hr2' := Lib.hid hr2
      have at'' := Lib.hid at'
      have hg1' := Lib.hid hg1
      have hgl' := Lib.hid hgl
      have hj' := Lib.hid hj
      clear hst hr1 hr2 at' hg1 hgl hj
      clear hg
      go_wp2_with fail
      refine wp_region_held_drew (S := (fun w' => (w'.cell? ⟨b, off + k * 2, none⟩ = some (.int .i64 p) ∧ w'.cell? ⟨b, off + k * 2 + 1, none⟩ = some (.int .i64 q)) ∧ w'.cell? ⟨b, off + j * 2, none⟩ = some (.int .i64 p') ∧ w'.cell? ⟨b, off + j * 2 + 1, none⟩ = some (.int .i64 q'))) (by kernel_rfl) (by (try dsimp only); (first | exact at''.out _ hb1 | exact at''.out _ hb2 | exact at''.out _ hb3)) (fun hHeld => ?_)
      refine ly_q 0 (v := ?_) hHeld ?_
      try simp only [Act.put, lyA, lyB, lyC]
      refine ly_q 1 (v := ?_) hHeld ?_
      try simp only [Act.put, lyA, lyB, lyC]
      refine ly_q 2 (v := ?_) hHeld ?_
      try simp only [Act.put, lyA, lyB, lyC]
      refine ly_q 3 (v := ?_) hHeld ?_
      try simp only [Act.put, lyA, lyB, lyC]
      refine ly_q 4 (v := ?_) hHeld ?_
      try simp only [Act.put, lyA, lyB, lyC]
      refine ly_q 5 (v := ?_) hHeld ?_
      try simp only [Act.put, lyA, lyB, lyC]
      refine ly_q 6 (v := ?_) hHeld ?_
      try simp only [Act.put, lyA, lyB, lyC]
      refine ly_q 7 (v := ?_) hHeld ?_
      try simp only [Act.put, lyA, lyB, lyC]
      refine ly_q 8 (v := ?_) hHeld ?_
      try simp only [Act.put, lyA, lyB, lyC]
      refine ly_q 9 (v := ?_) hHeld ?_
      try simp only [Act.put, lyA, lyB, lyC]
      refine ly_q 10 (v := ?_) hHeld ?_
      try simp only [Act.put, lyA, lyB, lyC]
      refine ly_a 11 (fun KK hKK => ?_)
      go_simp
      skip
      try dsimp only
      refine hKK.out _ _ (by (try dsimp only); (first | exact at''.out _ hb1 | exact at''.out _ hb2 | exact at''.out _ hb3)) (fun hHeld => ?_)
      clear hKK KK
      try simp only [Act.put, lyA, lyB, lyC]
      refine ly_a 12 (fun KK hKK => ?_)
      refine wp_append_I _ _ rfl w.heap.size u3 (betwK xs k) p q p' q' _ rfl rfl hg1'.out hgl'.out hs0 ?_
      intro v2 w2 hg2 hgr
      have hb3 := hg1'.out.belowB hb1 (Nat.le_refl _) hs0 hgr
      try dsimp only
      refine hKK.out _ _ (by (try dsimp only); (first | exact at''.out _ hb1 | exact at''.out _ hb2 | exact at''.out _ hb3)) (fun hHeld => ?_)
      clear hKK KK
      try simp only [Act.put, lyA, lyB, lyC]
      refine ly_q 13 (v := ?_) hHeld ?_
      try simp only [Act.put, lyA, lyB, lyC]
      refine wpAnyH_done (by kernel_rfl) ?_ _
      go_wp2
      go_roundw
      case rel =>
        have := hj'.out
        rw [← hst'.out] at hg2
        exact ⟨k + 1, .inl (by omega), by go_num, hg2, hb3⟩
      case measure => simp [intOf]; omega
    · have hke : betwK xs k = betwK xs (n - 1) := by rw [show n - 1 = k by omega]
      rw [hke] at hg
      have ho := hg.own
      have hke' := Lib.hid hke
      have hg' := Lib.hid hg
      have ho' := Lib.hid ho
      clear hke hg ho
      clear H'
      go_wp2
      go_ret
      exact ⟨_, rfl, ho'.out.mono (Nat.le_refl _) (Nat.le_refl _), hB⟩

end Go.Proofs.YtnggopbehohjnaaGreat

namespace Go.Proofs.YtnggopbehohjnaaGreat
open Go.RowKit
set_option maxRecDepth 100000

def stB (xs : List (Int × Int)) (x : Int × Int) (i : Nat) : Bool := !(ltB x.1 x.2 (nthR xs i).1 (nthR xs i).2) && !(ltB (nthR xs (i + 1)).1 (nthR xs (i + 1)).2 x.1 x.2)
/-- Those of the first k states that x belongs to. -/
def stK (xs : List (Int × Int)) (x : Int × Int) : Nat → List Int
  | 0 => []
  | k + 1 => if stB xs x k = true then stK xs x k ++ [(k : Int)] else stK xs x k
def stL (xs : List (Int × Int)) (x : Int × Int) : List Int := stK xs x (xs.length - 1)
theorem stK_len (xs : List (Int × Int)) (x : Int × Int) (k : Nat) : (stK xs x k).length ≤ k := by
  induction k with
  | zero => exact Nat.le_refl _
  | succ k ih =>
    unfold stK
    split
    · rw [List.length_append]; simp; exact ih
    · omega
theorem cmpN_le (n d n' d' : Int) : decide (cmpN n d n' d' ≤ 0) = !(ltB n' d' n d) := by
  unfold cmpN ltB sgn
  by_cases h : n' * d < n * d'
  · rw [if_pos (by omega), decide_eq_true h]; rfl
  · rw [decide_eq_false h, if_neg (by omega)]
    by_cases h2 : n * d' - n' * d < 0
    · rw [if_pos h2]; rfl
    · rw [if_neg h2]; rfl

set_option maxHeartbeats 1600000 in
theorem statesOf_any (v : Value) (xs : List (Int × Int)) (x : Int × Int) (w : World) (hv : RatsV w v xs) (hm : szRatS xs ≤ 1099511627776) (hx : BdR x.1 x.2) (hb : ∀ i, i < xs.length → BdR (nthR xs i).1 (nthR xs i).2) :
    Calls Tryz.prog 117 #[v, .agg #[.int .i64 x.1, .int .i64 x.2]] w (RetO Own (stL xs x) w) := by
  replace hm : xs.length ≤ 1099511627776 := hm
  have c0 := fun w' (hB : Below w.heap.size w w') => between_any v xs w' (hv.below hB) hm
  have hN : (betwL xs).length = xs.length - 1 := betwK_len _ _
  have hat : ∀ i, i < xs.length - 1 → nth4 (betwL xs) i = (nthR xs i, nthR xs (i + 1)) := fun i hi => nth4_betwK xs hi
  unfold stL
  obtain ⟨n, hn⟩ : ∃ n, xs.length - 1 = n := ⟨_, rfl⟩
  replace hb : ∀ i, i < n + 1 → n ≠ 0 → BdR (nthR xs i).1 (nthR xs i).2 := fun i hi h0 => hb i (by omega)
  rw [hn] at hN hat ⊢
  have hm' : n ≤ 1099511627776 := by omega
  generalize betwL xs = L at *
  have hst : ∀ k, stK xs x (k + 1) = if stB xs x k = true then stK xs x k ++ [(k : Int)] else stK xs x k := fun k => rfl
  have hsl : ∀ k, (stK xs x k).length ≤ k := stK_len xs x
  have h0' : stK xs x 0 = [] := rfl
  have hB' : ∀ k, stB xs x k = (!(ltB x.1 x.2 (nthR xs k).1 (nthR xs k).2) && !(ltB (nthR xs (k + 1)).1 (nthR xs (k + 1)).2 x.1 x.2)) := fun k => rfl
  generalize stK xs x = st at *
  generalize stB xs x = sb at *
  have cl1 := fun (w' : World) k (h : k < n) => less_any x.1 x.2 (nthR xs k).1 (nthR xs k).2 w' hx (hb k (by omega) (by omega))
  have cl2 := fun (w' : World) k (h : k < n) => less_any (nthR xs (k + 1)).1 (nthR xs (k + 1)).2 x.1 x.2 w' (hb (k + 1) (by omega) (by omega)) hx
  obtain ⟨p, q⟩ := x
  simp only at cl1 cl2 hB'
  obtain ⟨w0, hw0⟩ : ∃ W, w.alloc (.cells #[.int .i64 p, .int .i64 q] 50) = W := ⟨_, rfl⟩
  have hB0 : Below w.heap.size w w0 := by rw [← hw0]; exact (Below.refl _ _).alloc (Nat.le_refl _) _
  have hz0 : w.heap.size < w0.heap.size := by rw [← hw0]; simp
  have hx0 : w0.cell? ⟨w.heap.size, 0, none⟩ = some (.int .i64 p) := by rw [← hw0]; simp [go_sem]
  have hx1 : w0.cell? ⟨w.heap.size, 1, none⟩ = some (.int .i64 q) := by rw [← hw0]; simp [go_sem]
  have c0' := Lib.hid c0
  have hN' := Lib.hid hN
  have hat' := Lib.hid hat
  have hn' := Lib.hid hn
  have hb' := Lib.hid hb
  have hst' := Lib.hid hst
  have hsl' := Lib.hid hsl
  have h0'' := Lib.hid h0'
  have hB'' := Lib.hid hB'
  have cl1' := Lib.hid cl1
  have cl2' := Lib.hid cl2
  have hw0' := Lib.hid hw0
  have hv' := Lib.hid hv
  clear c0 hN hat hn hb hst hsl h0' hB' cl1 cl2 hw0 hv
  clear hm hx
  show Calls _ _ #[v, .agg #[.int .i64 p, .int .i64 q]] w _
  go_enter Tryz.func117, Tryz.ntmps117
  go_wp2_with fail
  rw [hw0'.out]
  go_wp2_with fail
  refine (c0'.out _ hB0).mono ?_
  rintro e w2 ⟨v1, rfl, hv1, hB1⟩
  have hb1 := hB0.trans (hB1.mono hB0.size)
  have hs1 := hB1.size
  replace hx0 := (hB1.cell (p := ⟨w.heap.size, 0, none⟩) hz0).trans hx0
  replace hx1 := (hB1.cell (p := ⟨w.heap.size, 1, none⟩) hz0).trans hx1
  have hz2 : w.heap.size < w2.heap.size := by omega
  have hq := hv1.read
  obtain ⟨ao, cap, rfl, hcc, hcap, H⟩ := hq.form
  rw [hN'.out] at H hcc ⊢
  clear hv1 hq hB1 hs1 hcc hcap hB0 hz0
  have H' := Lib.hid H
  clear H
  go_wp2
  go_loopw [5, 11] (fun o i wr => ∃ k : Nat, k ≤ n ∧ i = .int .i64 k ∧ Grow wr w2.heap.size o (st k) ∧ Below w2.heap.size w2 wr) (fun _ i _ => n - (intOf i).toNat)
  case atStart => exact ⟨0, Nat.zero_le _, rfl, by rw [h0''.out]; exact Grow.nil _ _, Below.refl _ _⟩
  case round =>
    obtain ⟨k, hk, rfl, hg, hB⟩ := hrel
    by_cases hlt : k < n
    · obtain ⟨b, off, e, d0, d1, d2, d3⟩ := H'.out k hlt
      cases e
      have l1 := World.block_lt_of_cell? _ _ d0
      simp only at l1
      rw [hat'.out k hlt] at d0 d1 d2 d3
      have hsb := hB''.out k
      have hstk := hst'.out k
      have hslk := hsl'.out k
      have e1 := fun w' => cl1'.out w' k hlt
      have e2 := fun w' => cl2'.out w' k hlt
      generalize ltB p q (nthR xs k).1 (nthR xs k).2 = L1 at *
      generalize ltB (nthR xs (k + 1)).1 (nthR xs (k + 1)).2 p q = L2 at *
      generalize nthR xs k = r1 at *
      generalize nthR xs (k + 1) = r2 at *
      obtain ⟨a1, a2⟩ := r1
      obtain ⟨b1, b2⟩ := r2
      simp only at d0 d1 d2 d3 e1 e2
      rw [← hB.cell l1] at d0 d1 d2 d3
      have x0 := (hB.cell (p := ⟨w.heap.size, 0, none⟩) hz2).trans hx0
      have x1 := (hB.cell (p := ⟨w.heap.size, 1, none⟩) hz2).trans hx1
      have hs3 := hB.size
      have hzr : w.heap.size < wr.heap.size := by omega
      obtain ⟨w1, hw1⟩ : ∃ W, wr.alloc (.cells #[.int .i64 a1, .int .i64 a2, .int .i64 b1, .int .i64 b2] 64) = W := ⟨_, rfl⟩
      have hB3 : Below wr.heap.size wr w1 := by rw [← hw1]; exact (Below.refl _ _).alloc (Nat.le_refl _) _
      have i0 : w1.cell? ⟨wr.heap.size, 0, none⟩ = some (.int .i64 a1) := by rw [← hw1]; simp [go_sem]
      have i1 : w1.cell? ⟨wr.heap.size, 1, none⟩ = some (.int .i64 a2) := by rw [← hw1]; simp [go_sem]
      have i2 : w1.cell? ⟨wr.heap.size, 2, none⟩ = some (.int .i64 b1) := by rw [← hw1]; simp [go_sem]
      have i3 : w1.cell? ⟨wr.heap.size, 3, none⟩ = some (.int .i64 b2) := by rw [← hw1]; simp [go_sem]
      have hz3 : wr.heap.size < w1.heap.size := by rw [← hw1]; simp
      replace x0 := (hB3.cell (p := ⟨w.heap.size, 0, none⟩) hzr).trans x0
      replace x1 := (hB3.cell (p := ⟨w.heap.size, 1, none⟩) hzr).trans x1
      have hzx : w.heap.size < w1.heap.size := by omega
      have hb3 := hB.trans (hB3.mono hs3)
      have hg3 := hg.below hB3
      clear hx0 hx1 hz2 hB3 hg hB
      have y0 : (wr.alloc (.cells #[.int .i64 a1, .int .i64 a2, .int .i64 b1, .int .i64 b2] 64)).cell? ⟨w.heap.size, 0, none⟩ = some (.int .i64 p) := by rw [hw1]; exact x0
      have y1 : (wr.alloc (.cells #[.int .i64 a1, .int .i64 a2, .int .i64 b1, .int .i64 b2] 64)).cell? ⟨w.heap.size, 1, none⟩ = some (.int .i64 q) := by rw [hw1]; exact x1
      have hstk' := Lib.hid hstk
      have hslk' := Lib.hid hslk
      have e1' := Lib.hid e1
      have e2' := Lib.hid e2
      have hw1' := Lib.hid hw1
      have hg3' := Lib.hid hg3
      clear hstk hslk e1 e2 hw1 hg3
      cases L1
      · cases L2
        · have hsb1 : sb k = true := hsb
          have hst1 := hstk'.out
          rw [hsb1, if_pos rfl] at hst1
          clear hsb hsb1
          have hst1' := Lib.hid hst1
          clear hst1
          go_wp2_with fail
          rw [hw1'.out]
          clear y0 y1
          go_wp2_with fail
          refine (e1'.out _).mono ?_
          rintro e w3 ⟨rfl, hB4⟩
          replace x0 := (hB4.cell (p := ⟨w.heap.size, 0, none⟩) hzx).trans x0
          replace x1 := (hB4.cell (p := ⟨w.heap.size, 1, none⟩) hzx).trans x1
          replace i2 := (hB4.cell (p := ⟨wr.heap.size, 2, none⟩) hz3).trans i2
          replace i3 := (hB4.cell (p := ⟨wr.heap.size, 3, none⟩) hz3).trans i3
          have hb4 := hb3.trans (hB4.mono hb3.size)
          have hg4 := hg3'.out.below hB4
          clear i0 i1 hb3 hB4
          have hg4' := Lib.hid hg4
          clear hg4
          go_wp2_with fail
          refine (e2'.out _).mono ?_
          rintro e w4 ⟨rfl, hB5⟩
          have hb5 := hb4.trans (hB5.mono hb4.size)
          have hg5 := hg4'.out.below hB5
          have hs5 := hb5.size
          clear hb4 hB5 i2 i3 x0 x1
          have hslk := hslk'.out
          go_wp2_with (at_builtin; refine wpList_append_int rfl _ _ rfl w2.heap.size u5 (st k) k _ rfl rfl hg5 (by omega) hs5 ?_)
          intro v' w' hown' hgrow
          go_wp2
          go_roundw
          case rel => exact ⟨k + 1, by omega, by go_num, by rw [hst1'.out]; exact hown', hg5.belowB hb5 (Nat.le_refl _) hs5 hgrow⟩
          case measure => simp [intOf]; omega
        · have hsb1 : sb k = false := hsb
          have hst1 := hstk'.out
          rw [hsb1, if_neg (by decide)] at hst1
          clear hsb hsb1
          have hst1' := Lib.hid hst1
          clear hst1
          go_wp2_with fail
          rw [hw1'.out]
          clear y0 y1
          go_wp2_with fail
          refine (e1'.out _).mono ?_
          rintro e w3 ⟨rfl, hB4⟩
          replace x0 := (hB4.cell (p := ⟨w.heap.size, 0, none⟩) hzx).trans x0
          replace x1 := (hB4.cell (p := ⟨w.heap.size, 1, none⟩) hzx).trans x1
          replace i2 := (hB4.cell (p := ⟨wr.heap.size, 2, none⟩) hz3).trans i2
          replace i3 := (hB4.cell (p := ⟨wr.heap.size, 3, none⟩) hz3).trans i3
          have hb4 := hb3.trans (hB4.mono hb3.size)
          have hg4 := hg3'.out.below hB4
          clear i0 i1 hb3 hB4
          have hg4' := Lib.hid hg4
          clear hg4
          go_wp2_with fail
          refine (e2'.out _).mono ?_
          rintro e w4 ⟨rfl, hB5⟩
          have hb5 := hb4.trans (hB5.mono hb4.size)
          have hg5 := hg4'.out.below hB5
          clear hb4 hB5 i2 i3 x0 x1
          go_wp2
          go_roundw
          case rel => exact ⟨k + 1, by omega, by go_num, by rw [hst1'.out]; exact hg5, hb5⟩
          case measure => simp [intOf]; omega
      · have hsb1 : sb k = false := hsb
        have hst1 := hstk'.out
        rw [hsb1, if_neg (by decide)] at hst1
        clear hsb hsb1
        have hst1' := Lib.hid hst1
        clear hst1
        go_wp2_with fail
        rw [hw1'.out]
        clear y0 y1
        go_wp2_with fail
        refine (e1'.out _).mono ?_
        rintro e w3 ⟨rfl, hB4⟩
        have hb4 := hb3.trans (hB4.mono hb3.size)
        have hg4 := hg3'.out.below hB4
        clear hb3 hB4 i0 i1 i2 i3 x0 x1
        go_wp2
        go_roundw
        case rel => exact ⟨k + 1, by omega, by go_num, by rw [hst1'.out]; exact hg4, hb4⟩
        case measure => simp [intOf]; omega
    · obtain rfl : k = n := by omega
      have ho := hg.own
      have hs3 := hB.size
      have hg' := Lib.hid hg
      have ho' := Lib.hid ho
      clear hg ho
      clear H'
      go_wp2
      go_ret
      exact ⟨_, rfl, ho'.out.mono (by omega) (Nat.le_refl _), hb1.trans (hB.mono (by omega))⟩

set_option linter.unusedSimpArgs false in
set_option maxHeartbeats 1600000 in
theorem mkStates_any (v : Value) (xs : List (Int × Int)) (x : Int × Int) (w : World) (hv : RatsV w v xs) (hm : szRatS xs ≤ 1099511627776) (hx : BdR x.1 x.2) (hb : ∀ i, i < xs.length → BdR (nthR xs i).1 (nthR xs i).2) :
    Calls Tryz.prog 119 #[v, .agg #[.int .i64 x.1, .int .i64 x.2]] w (RetO Own (stL xs x) w) := by
  replace hm : xs.length ≤ 1099511627776 := hm
  obtain ⟨ao, cap, rfl, _, _, H⟩ := hv.form
  unfold stL
  obtain ⟨n, hn⟩ : ∃ n, xs.length = n := ⟨_, rfl⟩
  rw [hn] at hb H hv hm ⊢
  have hst : ∀ k, stK xs x (k + 1) = if stB xs x k = true then stK xs x k ++ [(k : Int)] else stK xs x k := fun k => rfl
  have hsl : ∀ k, (stK xs x k).length ≤ k := stK_len xs x
  have h0' : stK xs x 0 = [] := rfl
  have hB' : ∀ k, stB xs x k = (!(ltB x.1 x.2 (nthR xs k).1 (nthR xs k).2) && !(ltB (nthR xs (k + 1)).1 (nthR xs (k + 1)).2 x.1 x.2)) := fun k => rfl
  generalize stK xs x = st at *
  generalize stB xs x = sb at *
  have cl1 := fun (w' : World) k (h : k + 1 < n) => raCmp_any (nthR xs k).1 (nthR xs k).2 x.1 x.2 w' (hb k (by omega)) hx
  have cl2 := fun (w' : World) k (h : k + 1 < n) => raCmp_any x.1 x.2 (nthR xs (k + 1)).1 (nthR xs (k + 1)).2 w' hx (hb (k + 1) (by omega))
  have ce1 := fun k => cmpN_le (nthR xs k).1 (nthR xs k).2 x.1 x.2
  have ce2 := fun k => cmpN_le x.1 x.2 (nthR xs (k + 1)).1 (nthR xs (k + 1)).2
  obtain ⟨p, q⟩ := x
  simp only at cl1 cl2 hB' ce1 ce2
  obtain ⟨w0, hw0⟩ : ∃ W, w.alloc (.cells #[.int .i64 p, .int .i64 q] 50) = W := ⟨_, rfl⟩
  have hB0 : Below w.heap.size w w0 := by rw [← hw0]; exact (Below.refl _ _).alloc (Nat.le_refl _) _
  have hz0 : w.heap.size < w0.heap.size := by rw [← hw0]; simp
  have hx0 : w0.cell? ⟨w.heap.size, 0, none⟩ = some (.int .i64 p) := by rw [← hw0]; simp [go_sem]
  have hx1 : w0.cell? ⟨w.heap.size, 1, none⟩ = some (.int .i64 q) := by rw [← hw0]; simp [go_sem]
  have hb' := Lib.hid hb
  have hst' := Lib.hid hst
  have hsl' := Lib.hid hsl
  have h0'' := Lib.hid h0'
  have hB'' := Lib.hid hB'
  have cl1' := Lib.hid cl1
  have cl2' := Lib.hid cl2
  have ce1' := Lib.hid ce1
  have ce2' := Lib.hid ce2
  have hw0' := Lib.hid hw0
  have hv' := Lib.hid hv
  have H' := Lib.hid H
  have hn' := Lib.hid hn
  clear hb hst hsl h0' hB' cl1 cl2 ce1 ce2 hw0 hv H hn
  clear hx
  show Calls _ _ #[_, .agg #[.int .i64 p, .int .i64 q]] w _
  go_enter Tryz.func119, Tryz.ntmps119
  go_wp2_with fail
  rw [hw0'.out]
  go_loopw [5, 6] (fun o i wr => ∃ k : Nat, (k + 1 ≤ n ∨ k = 0) ∧ i = .int .i64 ((k : Int) + 1) ∧ Grow wr w0.heap.size o (st k) ∧ Below w0.heap.size w0 wr) (fun _ i _ => n - (intOf i).toNat)
  case atStart => exact ⟨0, .inr rfl, rfl, by rw [h0''.out]; exact Grow.nil _ _, Below.refl _ _⟩
  case round =>
    obtain ⟨k, hk, rfl, hg, hB⟩ := hrel
    by_cases hlt : k + 1 < n
    · obtain ⟨b, off, rfl, d0, d1⟩ := H'.out k (by omega)
      obtain ⟨_, _, e', d2, d3⟩ := H'.out (k + 1) hlt
      cases e'
      have l1 := World.block_lt_of_cell? _ _ d0
      simp only at l1
      have hsb := hB''.out k
      have hstk := hst'.out k
      have hslk := hsl'.out k
      have e1 := fun w' => cl1'.out w' k hlt
      have e2 := fun w' => cl2'.out w' k hlt
      have f1 := ce1'.out k
      have f2 := ce2'.out k
      rw [← f1, ← f2] at hsb
      generalize cmpN (nthR xs k).1 (nthR xs k).2 p q = C1 at *
      generalize cmpN p q (nthR xs (k + 1)).1 (nthR xs (k + 1)).2 = C2 at *
      clear f1 f2
      generalize nthR xs k = r1 at *
      generalize nthR xs (k + 1) = r2 at *
      obtain ⟨a1, a2⟩ := r1
      obtain ⟨b1, b2⟩ := r2
      simp only at d0 d1 d2 d3 e1 e2
      obtain ⟨j, hj⟩ : ∃ j : Nat, j = k + 1 := ⟨_, rfl⟩
      rw [← hj] at d2 d3 hlt
      rw [show (k : Int) + 1 = (j : Int) by omega]
      rw [← hB0.cell l1] at d0 d1 d2 d3
      have l2 : b < w0.heap.size := by omega
      have at' : ∀ w', Below w0.heap.size w0 w' → (w'.cell? ⟨w.heap.size, 0, none⟩ = some (.int .i64 p) ∧ w'.cell? ⟨w.heap.size, 1, none⟩ = some (.int .i64 q)) ∧ (w'.cell? ⟨b, off + k * 2, none⟩ = some (.int .i64 a1) ∧ w'.cell? ⟨b, off + k * 2 + 1, none⟩ = some (.int .i64 a2)) ∧ w'.cell? ⟨b, off + j * 2, none⟩ = some (.int .i64 b1) ∧ w'.cell? ⟨b, off + j * 2 + 1, none⟩ = some (.int .i64 b2) :=
        fun w' h => ⟨⟨(h.cell (p := ⟨w.heap.size, 0, none⟩) hz0).trans hx0, (h.cell (p := ⟨w.heap.size, 1, none⟩) hz0).trans hx1⟩, ⟨(h.cell (p := ⟨b, off + k * 2, none⟩) l2).trans d0, (h.cell (p := ⟨b, off + k * 2 + 1, none⟩) l2).trans d1⟩, (h.cell (p := ⟨b, off + j * 2, none⟩) l2).trans d2, (h.cell (p := ⟨b, off + j * 2 + 1, none⟩) l2).trans d3⟩
      clear d0 d1 d2 d3 hx0 hx1
      have g1 : IntKind.i64.wrap ((j : Int) - 1) = (k : Int) := by rw [IntKind.wrap_i64]; omega
      have g2 : (0 : Int) ≤ (k : Int) := by omega
      have g3 : (k : Int) < (n : Int) := by omega
      have g4 : k < n := by omega
      have g5 : (0 : Int) ≤ (j : Int) := by omega
      have hb3 := hB.drew
      have hg3 : Grow wr.drew w0.heap.size u5 (st k) := hg
      have hstk' := Lib.hid hstk
      have hslk' := Lib.hid hslk
      have e1' := Lib.hid e1
      have e2' := Lib.hid e2
      have hg3' := Lib.hid hg3
      have at'' := Lib.hid at'
      have hj' := Lib.hid hj
      clear hstk hslk e1 e2 hg3 at' hj
      clear hg
      by_cases hC1 : C1 ≤ 0
      · by_cases hC2 : C2 ≤ 0
        · have hsb1 : sb k = true := by rw [hsb, decide_eq_true hC1, decide_eq_true hC2]; rfl
          have hst1 := hstk'.out
          rw [hsb1, if_pos rfl] at hst1
          clear hsb hsb1
          have hst1' := Lib.hid hst1
          clear hst1
          go_wp2_with fail
          refine wp_region_held_drew (S := (fun w' => (w'.cell? ⟨w.heap.size, 0, none⟩ = some (.int .i64 p) ∧ w'.cell? ⟨w.heap.size, 1, none⟩ = some (.int .i64 q)) ∧ (w'.cell? ⟨b, off + k * 2, none⟩ = some (.int .i64 a1) ∧ w'.cell? ⟨b, off + k * 2 + 1, none⟩ = some (.int .i64 a2)) ∧ w'.cell? ⟨b, off + j * 2, none⟩ = some (.int .i64 b1) ∧ w'.cell? ⟨b, off + j * 2 + 1, none⟩ = some (.int .i64 b2))) (by kernel_rfl) (by (try dsimp only); (first | exact at''.out _ hb3 | exact at''.out _ hb4 | exact at''.out _ hb5)) (fun hHeld => ?_)
          refine ly_q 0 (v := ?_) hHeld ?_
          try simp only [Act.put, lyA, lyB, lyC]
          refine ly_q 1 (v := ?_) hHeld ?_
          try simp only [Act.put, lyA, lyB, lyC]
          refine ly_q 2 (v := ?_) hHeld ?_
          try simp only [Act.put, lyA, lyB, lyC]
          refine ly_q 3 (v := ?_) hHeld ?_
          try simp only [Act.put, lyA, lyB, lyC]
          refine ly_q 4 (v := ?_) hHeld ?_
          try simp only [Act.put, lyA, lyB, lyC]
          refine ly_q 5 (v := ?_) hHeld ?_
          try simp only [Act.put, lyA, lyB, lyC]
          refine ly_a 6 (fun KK hKK => ?_)
          go_simp
          refine (e1'.out _).mono ?_
          rintro e w3 ⟨rfl, hB4⟩
          have hb4 := hb3.trans (hB4.mono hb3.size)
          try dsimp only
          refine hKK.out _ _ (by (try dsimp only); (first | exact at''.out _ hb3 | exact at''.out _ hb4 | exact at''.out _ hb5)) (fun hHeld => ?_)
          clear hKK KK
          try simp only [Act.put, lyA, lyB, lyC]
          refine ly_q 7 (v := .bool true) (hy := by intro wS hSw; (try dsimp only at hSw); go_simp; all_goals (simp [hC1])) hHeld ?_
          try simp only [Act.put, lyA, lyB, lyC]
          refine ly_q 8 (v := ?_) hHeld ?_
          try simp only [Act.put, lyA, lyB, lyC]
          refine ly_q 9 (v := ?_) hHeld ?_
          try simp only [Act.put, lyA, lyB, lyC]
          refine ly_q 10 (v := ?_) hHeld ?_
          try simp only [Act.put, lyA, lyB, lyC]
          refine ly_q 11 (v := ?_) hHeld ?_
          try simp only [Act.put, lyA, lyB, lyC]
          refine ly_q 12 (v := ?_) hHeld ?_
          try simp only [Act.put, lyA, lyB, lyC]
          refine ly_q 13 (v := ?_) hHeld ?_
          try simp only [Act.put, lyA, lyB, lyC]
          refine ly_a 14 (fun KK hKK => ?_)
          go_simp
          refine (e2'.out _).mono ?_
          rintro e w4 ⟨rfl, hB5⟩
          have hb5 := hb4.trans (hB5.mono hb4.size)
          try dsimp only
          refine hKK.out _ _ (by (try dsimp only); (first | exact at''.out _ hb3 | exact at''.out _ hb4 | exact at''.out _ hb5)) (fun hHeld => ?_)
          clear hKK KK
          try simp only [Act.put, lyA, lyB, lyC]
          refine ly_q 15 (v := .bool true) (hy := by intro wS hSw; (try dsimp only at hSw); go_simp; all_goals (simp [hC2])) hHeld ?_
          try simp only [Act.put, lyA, lyB, lyC]
          refine ly_q 16 (v := ?_) hHeld ?_
          try simp only [Act.put, lyA, lyB, lyC]
          refine wpAnyH_done (by kernel_rfl) ?_ _
          have hg5 := (hg3'.out.below (hB4.mono (Nat.le_refl _))).below hB5
          have hs5 := hb5.size
          have hslk := hslk'.out
          go_wp2_with (at_builtin; refine wpList_append_int rfl _ _ rfl w0.heap.size u5 (st k) k _ rfl rfl hg5 (by omega) hs5 ?_)
          intro v' w' hown' hgrow
          go_wp2
          go_roundw
          case rel =>
            have := hj'.out
            exact ⟨k + 1, .inl (by omega), by go_num, by rw [hst1'.out]; exact hown', hg5.belowB hb5 (Nat.le_refl _) hs5 hgrow⟩
          case measure => simp [intOf]; omega
        · have hsb1 : sb k = false := by rw [hsb, decide_eq_true hC1, decide_eq_false hC2]; rfl
          have hst1 := hstk'.out
          rw [hsb1, if_neg (by decide)] at hst1
          clear hsb hsb1
          have hst1' := Lib.hid hst1
          clear hst1
          go_wp2_with fail
          refine wp_region_held_drew (S := (fun w' => (w'.cell? ⟨w.heap.size, 0, none⟩ = some (.int .i64 p) ∧ w'.cell? ⟨w.heap.size, 1, none⟩ = some (.int .i64 q)) ∧ (w'.cell? ⟨b, off + k * 2, none⟩ = some (.int .i64 a1) ∧ w'.cell? ⟨b, off + k * 2 + 1, none⟩ = some (.int .i64 a2)) ∧ w'.cell? ⟨b, off + j * 2, none⟩ = some (.int .i64 b1) ∧ w'.cell? ⟨b, off + j * 2 + 1, none⟩ = some (.int .i64 b2))) (by kernel_rfl) (by (try dsimp only); (first | exact at''.out _ hb3 | exact at''.out _ hb4 | exact at''.out _ hb5)) (fun hHeld => ?_)
          refine ly_q 0 (v := ?_) hHeld ?_
          try simp only [Act.put, lyA, lyB, lyC]
          refine ly_q 1 (v := ?_) hHeld ?_
          try simp only [Act.put, lyA, lyB, lyC]
          refine ly_q 2 (v := ?_) hHeld ?_
          try simp only [Act.put, lyA, lyB, lyC]
          refine ly_q 3 (v := ?_) hHeld ?_
          try simp only [Act.put, lyA, lyB, lyC]
          refine ly_q 4 (v := ?_) hHeld ?_
          try simp only [Act.put, lyA, lyB, lyC]
          refine ly_q 5 (v := ?_) hHeld ?_
          try simp only [Act.put, lyA, lyB, lyC]
          refine ly_a 6 (fun KK hKK => ?_)
          go_simp
          refine (e1'.out _).mono ?_
          rintro e w3 ⟨rfl, hB4⟩
          have hb4 := hb3.trans (hB4.mono hb3.size)
          try dsimp only
          refine hKK.out _ _ (by (try dsimp only); (first | exact at''.out _ hb3 | exact at''.out _ hb4 | exact at''.out _ hb5)) (fun hHeld => ?_)
          clear hKK KK
          try simp only [Act.put, lyA, lyB, lyC]
          refine ly_q 7 (v := .bool true) (hy := by intro wS hSw; (try dsimp only at hSw); go_simp; all_goals (simp [hC1])) hHeld ?_
          try simp only [Act.put, lyA, lyB, lyC]
          refine ly_q 8 (v := ?_) hHeld ?_
          try simp only [Act.put, lyA, lyB, lyC]
          refine ly_q 9 (v := ?_) hHeld ?_
          try simp only [Act.put, lyA, lyB, lyC]
          refine ly_q 10 (v := ?_) hHeld ?_
          try simp only [Act.put, lyA, lyB, lyC]
          refine ly_q 11 (v := ?_) hHeld ?_
          try simp only [Act.put, lyA, lyB, lyC]
          refine ly_q 12 (v := ?_) hHeld ?_
          try simp only [Act.put, lyA, lyB, lyC]
          refine ly_q 13 (v := ?_) hHeld ?_
          try simp only [Act.put, lyA, lyB, lyC]
          refine ly_a 14 (fun KK hKK => ?_)
          go_simp
          refine (e2'.out _).mono ?_
          rintro e w4 ⟨rfl, hB5⟩
          have hb5 := hb4.trans (hB5.mono hb4.size)
          try dsimp only
          refine hKK.out _ _ (by (try dsimp only); (first | exact at''.out _ hb3 | exact at''.out _ hb4 | exact at''.out _ hb5)) (fun hHeld => ?_)
          clear hKK KK
          try simp only [Act.put, lyA, lyB, lyC]
          refine ly_q 15 (v := .bool false) (hy := by intro wS hSw; (try dsimp only at hSw); go_simp; all_goals (simp [hC2])) hHeld ?_
          try simp only [Act.put, lyA, lyB, lyC]
          refine ly_q 16 (v := ?_) hHeld ?_
          try simp only [Act.put, lyA, lyB, lyC]
          refine wpAnyH_done (by kernel_rfl) ?_ _
          have hg5 := (hg3'.out.below (hB4.mono (Nat.le_refl _))).below hB5
          go_wp2
          go_roundw
          case rel =>
            have := hj'.out
            exact ⟨k + 1, .inl (by omega), by go_num, by rw [hst1'.out]; exact hg5, hb5⟩
          case measure => simp [intOf]; omega
      · have hsb1 : sb k = false := by rw [hsb, decide_eq_false hC1]; rfl
        have hst1 := hstk'.out
        rw [hsb1, if_neg (by decide)] at hst1
        clear hsb hsb1
        have hst1' := Lib.hid hst1
        clear hst1
        go_wp2_with fail
        refine wp_region_held_drew (S := (fun w' => (w'.cell? ⟨w.heap.size, 0, none⟩ = some (.int .i64 p) ∧ w'.cell? ⟨w.heap.size, 1, none⟩ = some (.int .i64 q)) ∧ (w'.cell? ⟨b, off + k * 2, none⟩ = some (.int .i64 a1) ∧ w'.cell? ⟨b, off + k * 2 + 1, none⟩ = some (.int .i64 a2)) ∧ w'.cell? ⟨b, off + j * 2, none⟩ = some (.int .i64 b1) ∧ w'.cell? ⟨b, off + j * 2 + 1, none⟩ = some (.int .i64 b2))) (by kernel_rfl) (by (try dsimp only); (first | exact at''.out _ hb3 | exact at''.out _ hb4 | exact at''.out _ hb5)) (fun hHeld => ?_)
        refine ly_q 0 (v := ?_) hHeld ?_
        try simp only [Act.put, lyA, lyB, lyC]
        refine ly_q 1 (v := ?_) hHeld ?_
        try simp only [Act.put, lyA, lyB, lyC]
        refine ly_q 2 (v := ?_) hHeld ?_
        try simp only [Act.put, lyA, lyB, lyC]
        refine ly_q 3 (v := ?_) hHeld ?_
        try simp only [Act.put, lyA, lyB, lyC]
        refine ly_q 4 (v := ?_) hHeld ?_
        try simp only [Act.put, lyA, lyB, lyC]
        refine ly_q 5 (v := ?_) hHeld ?_
        try simp only [Act.put, lyA, lyB, lyC]
        refine ly_a 6 (fun KK hKK => ?_)
        go_simp
        refine (e1'.out _).mono ?_
        rintro e w3 ⟨rfl, hB4⟩
        have hb4 := hb3.trans (hB4.mono hb3.size)
        try dsimp only
        refine hKK.out _ _ (by (try dsimp only); (first | exact at''.out _ hb3 | exact at''.out _ hb4 | exact at''.out _ hb5)) (fun hHeld => ?_)
        clear hKK KK
        try simp only [Act.put, lyA, lyB, lyC]
        refine ly_q 7 (v := .bool false) (hy := by intro wS hSw; (try dsimp only at hSw); go_simp; all_goals (simp [hC1])) hHeld ?_
        try simp only [Act.put, lyA, lyB, lyC]
        refine ly_q 8 (v := ?_) hHeld ?_
        try simp only [Act.put, lyA, lyB, lyC]
        refine ly_off 9 hHeld ?_
        try simp only [Act.put, lyA, lyB, lyC]
        refine ly_off 10 hHeld ?_
        try simp only [Act.put, lyA, lyB, lyC]
        refine ly_off 11 hHeld ?_
        try simp only [Act.put, lyA, lyB, lyC]
        refine ly_off 12 hHeld ?_
        try simp only [Act.put, lyA, lyB, lyC]
        refine ly_off 13 hHeld ?_
        try simp only [Act.put, lyA, lyB, lyC]
        refine ly_off 14 hHeld ?_
        try simp only [Act.put, lyA, lyB, lyC]
        refine ly_off 15 hHeld ?_
        try simp only [Act.put, lyA, lyB, lyC]
        refine ly_q 16 (v := ?_) hHeld ?_
        try simp only [Act.put, lyA, lyB, lyC]
        refine wpAnyH_done (by kernel_rfl) ?_ _
        have hg4 := hg3'.out.below (hB4.mono (Nat.le_refl _))
        go_wp2
        go_roundw
        case rel =>
          have := hj'.out
          exact ⟨k + 1, .inl (by omega), by go_num, by rw [hst1'.out]; exact hg4, hb4⟩
        case measure => simp [intOf]; omega
    · have hke : st k = st (n - 1) := by rw [show n - 1 = k by omega]
      rw [hke] at hg
      have ho := hg.own
      have hke' := Lib.hid hke
      have hg' := Lib.hid hg
      have ho' := Lib.hid ho
      clear hke hg ho
      clear H'
      go_wp2
      go_ret
      exact ⟨_, rfl, ho'.out.mono (by omega) (Nat.le_refl _), hB0.trans (hB.mono (by omega))⟩

end Go.Proofs.YtnggopbehohjnaaGreat

namespace Go.Proofs.YtnggopbehohjnaaGreat
open Go.RowKit

def StatesOf_v (xs : List (Int × Int)) (x : Int × Int) : List Int × Bool := if (partB xs && unitR x.1 x.2) = true then (stL xs x, true) else ([], false)
theorem partB_len {xs : List (Int × Int)} (h : partB xs = true) : 2 ≤ xs.length ∧ xs.length ≤ 9 := by
  unfold partB at h
  rw [Bool.and_eq_true] at h
  have := inB_true.1 h.1
  omega
theorem partB_bd {xs : List (Int × Int)} (h : partB xs = true) : ∀ i, i < xs.length → BdR (nthR xs i).1 (nthR xs i).2 := by
  unfold partB at h
  rw [Bool.and_eq_true, Bool.and_eq_true] at h
  exact fun i hi => unitR_bd (unitsB_nth h.2.1 hi)
theorem StatesOf_len (xs : List (Int × Int)) (x : Int × Int) : szIntS (StatesOf_v xs x).1 ≤ 1099511627776 := by
  unfold StatesOf_v szIntS
  split
  · rename_i h
    rw [Bool.and_eq_true] at h
    have h1 := partB_len h.1
    have h2 : (stL xs x).length ≤ xs.length - 1 := stK_len xs x _
    show (stL xs x).length ≤ _
    omega
  · simp

set_option maxHeartbeats 800000 in
theorem specStatesOf_any (v : Value) (xs : List (Int × Int)) (x : Int × Int) (w : World) (hv : RatsV w v xs) (hm : szRatS xs ≤ 1099511627776) (_hi : I64R x) :
    Calls Tryz.prog 39 #[v, .agg #[.int .i64 x.1, .int .i64 x.2]] w (RetOB Own (StatesOf_v xs x) w) := by
  have c1 := fun w' (hB : Below w.heap.size w w') => mkGood_any v xs w' (hv.below hB) hm
  have c2 := fun w' => raUnit_any x.1 x.2 w'
  have c3 := fun w' (hB : Below w.heap.size w w') (hp : partB xs = true) (hu : unitR x.1 x.2 = true) => mkStates_any v xs x w' (hv.below hB) hm (unitR_bd hu) (partB_bd hp)
  have e1 : (partB xs && unitR x.1 x.2) = true → StatesOf_v xs x = (stL xs x, true) := fun h => if_pos h
  have e2 : ¬ (partB xs && unitR x.1 x.2) = true → StatesOf_v xs x = ([], false) := fun h => if_neg h
  generalize StatesOf_v xs x = R at *
  generalize stL xs x = L at *
  generalize partB xs = P at *
  generalize unitR x.1 x.2 = U at *
  obtain ⟨p, q⟩ := x
  simp only at c2 c3
  show Calls _ _ #[v, .agg #[.int .i64 p, .int .i64 q]] w _
  obtain ⟨w0, hw0⟩ : ∃ W, w.alloc (.cells #[.int .i64 p, .int .i64 q] 50) = W := ⟨_, rfl⟩
  have hB0 : Below w.heap.size w w0 := by rw [← hw0]; exact (Below.refl _ _).alloc (Nat.le_refl _) _
  have hz0 : w.heap.size < w0.heap.size := by rw [← hw0]; simp
  have hx0 : w0.cell? ⟨w.heap.size, 0, none⟩ = some (.int .i64 p) := by rw [← hw0]; simp [go_sem]
  have hx1 : w0.cell? ⟨w.heap.size, 1, none⟩ = some (.int .i64 q) := by rw [← hw0]; simp [go_sem]
  clear hv
  have c1' := Lib.hid c1
  have c2' := Lib.hid c2
  have c3' := Lib.hid c3
  have e1' := Lib.hid e1
  have e2' := Lib.hid e2
  have hw0' := Lib.hid hw0
  clear c1 c2 c3 e1 e2 hw0
  cases P
  · have hR : R = ([], false) := e2'.out (by simp)
    subst hR
    clear e1' e2' c3'
    go_enter Tryz.func39, Tryz.ntmps39
    go_wp2_with fail
    rw [hw0'.out]
    go_wp2_with fail
    refine (c1'.out _ hB0).mono ?_
    rintro e w1 ⟨rfl, hB1⟩
    have hb1 := hB0.trans (hB1.mono hB0.size)
    go_wp2
    go_ret2
    exact ⟨_, rfl, Own.nil _ _ _, hb1⟩
  · cases U
    · have hR : R = ([], false) := e2'.out (by simp)
      subst hR
      clear e1' e2' c3'
      go_enter Tryz.func39, Tryz.ntmps39
      go_wp2_with fail
      rw [hw0'.out]
      go_wp2_with fail
      refine (c1'.out _ hB0).mono ?_
      rintro e w1 ⟨rfl, hB1⟩
      have hb1 := hB0.trans (hB1.mono hB0.size)
      replace hx0 := (hB1.cell (p := ⟨w.heap.size, 0, none⟩) hz0).trans hx0
      replace hx1 := (hB1.cell (p := ⟨w.heap.size, 1, none⟩) hz0).trans hx1
      clear hB1
      go_wp2_with fail
      refine (c2'.out _).mono ?_
      rintro e w2 ⟨rfl, hB2⟩
      have hb2 := hb1.trans (hB2.mono hb1.size)
      go_wp2
      go_ret2
      exact ⟨_, rfl, Own.nil _ _ _, hb2⟩
    · have hR : R = (L, true) := e1'.out rfl
      subst hR
      have c4 := fun w' h => c3'.out w' h rfl rfl
      clear e1' e2' c3'
      have c4' := Lib.hid c4
      clear c4
      go_enter Tryz.func39, Tryz.ntmps39
      go_wp2_with fail
      rw [hw0'.out]
      go_wp2_with fail
      refine (c1'.out _ hB0).mono ?_
      rintro e w1 ⟨rfl, hB1⟩
      have hb1 := hB0.trans (hB1.mono hB0.size)
      replace hx0 := (hB1.cell (p := ⟨w.heap.size, 0, none⟩) hz0).trans hx0
      replace hx1 := (hB1.cell (p := ⟨w.heap.size, 1, none⟩) hz0).trans hx1
      have hz1 := Nat.lt_of_lt_of_le hz0 hB1.size
      clear hB1
      go_wp2_with fail
      refine (c2'.out _).mono ?_
      rintro e w2 ⟨rfl, hB2⟩
      have hb2 := hb1.trans (hB2.mono hb1.size)
      replace hx0 := (hB2.cell (p := ⟨w.heap.size, 0, none⟩) hz1).trans hx0
      replace hx1 := (hB2.cell (p := ⟨w.heap.size, 1, none⟩) hz1).trans hx1
      have hs2 := hb2.size
      clear hB2
      go_wp2_with fail
      refine (c4'.out _ hb2).mono ?_
      rintro e w3 ⟨u, rfl, hu, hB3⟩
      have hb3 := hb2.trans (hB3.mono hb2.size)
      have hu' := Lib.hid hu
      clear hu
      go_wp2
      go_ret2
      exact ⟨_, rfl, hu'.out.mono hs2 (Nat.le_refl _), hb3⟩
set_option maxHeartbeats 800000 in
theorem implStatesOf_any (v : Value) (xs : List (Int × Int)) (x : Int × Int) (w : World) (hv : RatsV w v xs) (hm : szRatS xs ≤ 1099511627776) (_hi : I64R x) :
    Calls Tryz.prog 38 #[v, .agg #[.int .i64 x.1, .int .i64 x.2]] w (RetOB Own (StatesOf_v xs x) w) := by
  have c1 := fun w' (hB : Below w.heap.size w w') => isPartition_any v xs w' (hv.below hB) hm
  have c2 := fun w' => isUnit_any x.1 x.2 w'
  have c3 := fun w' (hB : Below w.heap.size w w') (hp : partB xs = true) (hu : unitR x.1 x.2 = true) => statesOf_any v xs x w' (hv.below hB) hm (unitR_bd hu) (partB_bd hp)
  have e1 : (partB xs && unitR x.1 x.2) = true → StatesOf_v xs x = (stL xs x, true) := fun h => if_pos h
  have e2 : ¬ (partB xs && unitR x.1 x.2) = true → StatesOf_v xs x = ([], false) := fun h => if_neg h
  generalize StatesOf_v xs x = R at *
  generalize stL xs x = L at *
  generalize partB xs = P at *
  generalize unitR x.1 x.2 = U at *
  obtain ⟨p, q⟩ := x
  simp only at c2 c3
  show Calls _ _ #[v, .agg #[.int .i64 p, .int .i64 q]] w _
  obtain ⟨w0, hw0⟩ : ∃ W, w.alloc (.cells #[.int .i64 p, .int .i64 q] 50) = W := ⟨_, rfl⟩
  have hB0 : Below w.heap.size w w0 := by rw [← hw0]; exact (Below.refl _ _).alloc (Nat.le_refl _) _
  have hz0 : w.heap.size < w0.heap.size := by rw [← hw0]; simp
  have hx0 : w0.cell? ⟨w.heap.size, 0, none⟩ = some (.int .i64 p) := by rw [← hw0]; simp [go_sem]
  have hx1 : w0.cell? ⟨w.heap.size, 1, none⟩ = some (.int .i64 q) := by rw [← hw0]; simp [go_sem]
  clear hv
  have c1' := Lib.hid c1
  have c2' := Lib.hid c2
  have c3' := Lib.hid c3
  have e1' := Lib.hid e1
  have e2' := Lib.hid e2
  have hw0' := Lib.hid hw0
  clear c1 c2 c3 e1 e2 hw0
  cases P
  · have hR : R = ([], false) := e2'.out (by simp)
    subst hR
    clear e1' e2' c3'
    go_enter Tryz.func38, Tryz.ntmps38
    go_wp2_with fail
    rw [hw0'.out]
    go_wp2_with fail
    refine (c1'.out _ hB0).mono ?_
    rintro e w1 ⟨rfl, hB1⟩
    have hb1 := hB0.trans (hB1.mono hB0.size)
    go_wp2
    go_ret2
    exact ⟨_, rfl, Own.nil _ _ _, hb1⟩
  · cases U
    · have hR : R = ([], false) := e2'.out (by simp)
      subst hR
      clear e1' e2' c3'
      go_enter Tryz.func38, Tryz.ntmps38
      go_wp2_with fail
      rw [hw0'.out]
      go_wp2_with fail
      refine (c1'.out _ hB0).mono ?_
      rintro e w1 ⟨rfl, hB1⟩
      have hb1 := hB0.trans (hB1.mono hB0.size)
      replace hx0 := (hB1.cell (p := ⟨w.heap.size, 0, none⟩) hz0).trans hx0
      replace hx1 := (hB1.cell (p := ⟨w.heap.size, 1, none⟩) hz0).trans hx1
      clear hB1
      go_wp2_with fail
      refine (c2'.out _).mono ?_
      rintro e w2 ⟨rfl, hB2⟩
      have hb2 := hb1.trans (hB2.mono hb1.size)
      go_wp2
      go_ret2
      exact ⟨_, rfl, Own.nil _ _ _, hb2⟩
    · have hR : R = (L, true) := e1'.out rfl
      subst hR
      have c4 := fun w' h => c3'.out w' h rfl rfl
      clear e1' e2' c3'
      have c4' := Lib.hid c4
      clear c4
      go_enter Tryz.func38, Tryz.ntmps38
      go_wp2_with fail
      rw [hw0'.out]
      go_wp2_with fail
      refine (c1'.out _ hB0).mono ?_
      rintro e w1 ⟨rfl, hB1⟩
      have hb1 := hB0.trans (hB1.mono hB0.size)
      replace hx0 := (hB1.cell (p := ⟨w.heap.size, 0, none⟩) hz0).trans hx0
      replace hx1 := (hB1.cell (p := ⟨w.heap.size, 1, none⟩) hz0).trans hx1
      have hz1 := Nat.lt_of_lt_of_le hz0 hB1.size
      clear hB1
      go_wp2_with fail
      refine (c2'.out _).mono ?_
      rintro e w2 ⟨rfl, hB2⟩
      have hb2 := hb1.trans (hB2.mono hb1.size)
      replace hx0 := (hB2.cell (p := ⟨w.heap.size, 0, none⟩) hz1).trans hx0
      replace hx1 := (hB2.cell (p := ⟨w.heap.size, 1, none⟩) hz1).trans hx1
      have hs2 := hb2.size
      clear hB2
      go_wp2_with fail
      refine (c4'.out _ hb2).mono ?_
      rintro e w3 ⟨u, rfl, hu, hB3⟩
      have hb3 := hb2.trans (hB3.mono hb2.size)
      have hu' := Lib.hid hu
      clear hu
      go_wp2
      go_ret2
      exact ⟨_, rfl, hu'.out.mono hs2 (Nat.le_refl _), hb3⟩

end Go.Proofs.YtnggopbehohjnaaGreat

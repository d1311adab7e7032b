/- The program's runsThrough. No conditions but valid maps and lists. -/
import Derived.Test.YtfcanpebagpdbaaIsIn
import Derived.Test.YtfcanpebagpdbaaOrbit
import Derived.Deep.RegionHeld3
import Derived.BigQuiet
namespace Go.Proofs.Ytfcanpebagpdbaa
open Go.RowKit

set_option linter.unusedSimpArgs false in
set_option maxRecDepth 10000 in
set_option maxHeartbeats 4000000 in
theorem runsThrough_any (v u : Value) (f l : List Quad) (x : Int × Int) (w : World) (hv : QuadV w v f) (hu : QuadV w u l) (hf : MapP f) (hl : ivsB l = true) (hx : unitR x.1 x.2 = true) :
    Calls Try.prog 59 #[v, u, .agg #[.int .i64 x.1, .int .i64 x.2]] w (Ret (.tuple #[.bool (runs_v f l x).1, .bool (runs_v f l x).2]) w) := by
  obtain ⟨hl1, hl2⟩ := ivsB_true hl
  have c0 := fun w' (hB : Below w.heap.size w w') => orbit_any v f x l.length w' (hv.below hB) hf hx (by omega)
  have hNle := runN_le f x l.length
  have hpu := fun k (h : ∀ j, j < k → atOk f (pz f x j) = true) => pz_unit hf hx k h
  have hok := fun j (h : j < runN f x l.length) => runN_ok f x l.length j h
  have hLn := orbL_len f x l.length
  have hat : ∀ i, i ≤ runN f x l.length → nthR (orbL f x l.length) i = pz f x i := fun i hi => nthR_ptL hi
  have cI := fun (k : Nat) (w' : World) (h : k < l.length) (h2 : k < runN f x l.length) => isIn_any (nth4 l k) (pz f x k) w' (unit_bd (ivB_true (hl2 k h)).1) (unit_bd (ivB_true (hl2 k h)).2.1) (unit_bd (hpu k fun j hj => hok j (by omega)))
  have hst := allIn_step f l x
  have hfl := fun k (h : k < l.length) hb => allIn_false (f := f) (l := l) (x := x) h hb
  have h00 : allIn f l x 0 = true := rfl
  have hV : runs_v f l x = if runN f x l.length < l.length then (false, false) else if allIn f l x l.length = true then (decide (pz f x l.length = x), true) else (false, true) := rfl
  rw [hV]
  clear hV hpu hok hl hl2
  obtain ⟨n, hn⟩ : ∃ n, l.length = n := ⟨_, rfl⟩
  rw [hn] at c0 hNle hLn hat cI hfl hl1 ⊢
  generalize orbL f x n = OL at *
  generalize runN f x n = N at *
  generalize allIn f l x = AI at *
  generalize pz f x = pp at *
  obtain ⟨V, hV⟩ : ∃ V, (if N < n then (false, false) else if AI n = true then (decide (pp n = x), true) else (false, true)) = V := ⟨_, rfl⟩
  rw [hV]
  obtain ⟨x0, x1⟩ := x
  simp only at c0
  obtain ⟨w0, hw0⟩ : ∃ W, w.alloc (.cells #[.int .i64 x0, .int .i64 x1] 34) = W := ⟨_, rfl⟩
  have hB0 : Below w.heap.size w w0 := by rw [← hw0]; exact (Below.refl _ _).alloc (Nat.le_refl _) _
  have e0 : w0.cell? ⟨w.heap.size, 0, none⟩ = some (.int .i64 x0) := by rw [← hw0]; simp [go_sem]
  have e1 : w0.cell? ⟨w.heap.size, 1, none⟩ = some (.int .i64 x1) := by rw [← hw0]; simp [go_sem]
  obtain ⟨ao, cap, rfl, _, _, H⟩ := hu.form
  rw [hn] at H ⊢
  clear hu
  have c0' := Lib.hid c0
  have hLn' := Lib.hid hLn
  have hat' := Lib.hid hat
  have cI' := Lib.hid cI
  have hst' := Lib.hid hst
  have hfl' := Lib.hid hfl
  have h00' := Lib.hid h00
  have hV' := Lib.hid hV
  have hw0' := Lib.hid hw0
  have hn' := Lib.hid hn
  have H' := Lib.hid H
  clear c0 hLn hat cI hst hfl h00 hV hw0 hn H
  show Calls _ _ #[_, _, .agg #[.int .i64 x0, .int .i64 x1]] w _
  go_enter Try.func59, Try.ntmps59
  go_wp2_with fail
  rw [hw0'.out]
  go_wp2_with fail
  refine (c0'.out _ hB0).mono ?_
  rintro e w1 ⟨v1, rfl, hv1, hB1⟩
  have hb1 := hB0.trans (hB1.mono hB0.size)
  replace e0 := bkeep hB1 e0
  replace e1 := bkeep hB1 e1
  obtain ⟨ao1, cap1, rfl, _, _, H1⟩ := hv1.read.form
  rw [hLn'.out] at H1 ⊢
  clear hv1 hB1 hB0
  have H1' := Lib.hid H1
  clear H1
  have hV := hV'.out
  by_cases hN : N < n
  · rw [if_pos hN] at hV
    have hle : ((N + 1 : Nat) : Int) ≤ (n : Int) := by omega
    subst hV
    have hb1' := Lib.hid hb1
    clear hb1
    go_wp2
    go_ret2
    exact ⟨rfl, hb1'.out⟩
  · rw [if_neg hN] at hV
    obtain rfl : N = n := by omega
    obtain ⟨m, hm⟩ : ∃ m, N + 1 = m := ⟨_, rfl⟩
    rw [hm] at H1' ⊢
    have hle : decide (m ≤ N) = false := decide_eq_false (by omega)
    clear hV
    have hb1' := Lib.hid hb1
    clear hb1
    go_wp2
    go_loopw [23] (fun i wr => ∃ k : Nat, k ≤ N ∧ i = .int .i64 k ∧ AI k = true ∧ Below w1.heap.size w1 wr) (fun i _ => N - (intOf i).toNat)
    case atStart => exact ⟨0, Nat.zero_le _, rfl, h00'.out, Below.refl _ _⟩
    case round =>
      obtain ⟨k, hk, rfl, hai, hB⟩ := hrel
      by_cases hlt : k < N
      · obtain ⟨b, off, rfl, p0, p1, p2, p3⟩ := H'.out k hlt
        obtain ⟨b1, off1, rfl, q0, q1⟩ := H1'.out k (by omega)
        rw [hat'.out k (by omega)] at q0 q1
        replace p0 := bkeep hB (bkeep hb1'.out p0)
        replace p1 := bkeep hB (bkeep hb1'.out p1)
        replace p2 := bkeep hB (bkeep hb1'.out p2)
        replace p3 := bkeep hB (bkeep hb1'.out p3)
        replace q0 := bkeep hB q0
        replace q1 := bkeep hB q1
        have cI1 := fun w' => cI'.out k w' hlt hlt
        have hst1 := hst'.out k
        rw [hai, Bool.true_and] at hst1
        have hfl1 := hfl'.out k hlt
        generalize inI (nth4 l k) (pp k) = I at *
        generalize nth4 l k = r at *
        generalize pp k = y at *
        obtain ⟨⟨a0, a1⟩, ⟨a2, a3⟩⟩ := r
        obtain ⟨y0, y1⟩ := y
        simp only at p0 p1 p2 p3 q0 q1 cI1
        have hsr := hB.size
        obtain ⟨w4, hw4⟩ : ∃ W, wr.alloc (.cells #[.int .i64 a0, .int .i64 a1, .int .i64 a2, .int .i64 a3] 43) = W := ⟨_, rfl⟩
        have hB4 : Below wr.heap.size wr w4 := by rw [← hw4]; exact (Below.refl _ _).alloc (Nat.le_refl _) _
        have i0 : w4.cell? ⟨wr.heap.size, 0, none⟩ = some (.int .i64 a0) := by rw [← hw4]; simp [go_sem]
        have i1 : w4.cell? ⟨wr.heap.size, 1, none⟩ = some (.int .i64 a1) := by rw [← hw4]; simp [go_sem]
        have i2 : w4.cell? ⟨wr.heap.size, 2, none⟩ = some (.int .i64 a2) := by rw [← hw4]; simp [go_sem]
        have i3 : w4.cell? ⟨wr.heap.size, 3, none⟩ = some (.int .i64 a3) := by rw [← hw4]; simp [go_sem]
        replace q0 := bkeep hB4 q0
        replace q1 := bkeep hB4 q1
        have hd : Below w4.heap.size w4 w4.drew := (Below.refl _ _).drew
        have at' : ∀ w' : World, Below w4.heap.size w4 w' → ((w'.cell? ⟨wr.heap.size, 0, none⟩ = some (.int .i64 a0) ∧ w'.cell? ⟨wr.heap.size, 1, none⟩ = some (.int .i64 a1) ∧ w'.cell? ⟨wr.heap.size, 2, none⟩ = some (.int .i64 a2) ∧ w'.cell? ⟨wr.heap.size, 3, none⟩ = some (.int .i64 a3)) ∧ w'.cell? ⟨b1, off1 + k * 2, none⟩ = some (.int .i64 y0) ∧ w'.cell? ⟨b1, off1 + k * 2 + 1, none⟩ = some (.int .i64 y1)) :=
          fun w' h => ⟨⟨bkeep h i0, bkeep h i1, bkeep h i2, bkeep h i3⟩, bkeep h q0, bkeep h q1⟩
        have g1 : (0 : Int) ≤ (k : Int) := by omega
        have g2 : (k : Int) < (m : Int) := by omega
        have g3 : k < m := by omega
        have hb4 := hB.trans (hB4.mono hsr)
        clear i0 i1 i2 i3 q0 q1 hB4 hB
        have cI1' := Lib.hid cI1
        have hst1' := Lib.hid hst1
        have hfl1' := Lib.hid hfl1
        have hai' := Lib.hid hai
        have at'' := Lib.hid at'
        have hw4' := Lib.hid hw4
        have hb4' := Lib.hid hb4
        have hm' := Lib.hid hm
        clear cI1 hst1 hfl1 hai at' hw4 hb4 hm
        go_wp2_with fail
        rw [hw4'.out]
        go_wp2_with fail
        refine wp_region_held_drew (S := (fun w' => ((w'.cell? ⟨wr.heap.size, 0, none⟩ = some (.int .i64 a0) ∧ w'.cell? ⟨wr.heap.size, 1, none⟩ = some (.int .i64 a1) ∧ w'.cell? ⟨wr.heap.size, 2, none⟩ = some (.int .i64 a2) ∧ w'.cell? ⟨wr.heap.size, 3, none⟩ = some (.int .i64 a3)) ∧ w'.cell? ⟨b1, off1 + k * 2, none⟩ = some (.int .i64 y0) ∧ w'.cell? ⟨b1, off1 + k * 2 + 1, none⟩ = some (.int .i64 y1)))) (by kernel_rfl) (by (try dsimp only); (first | exact at''.out _ hd | exact at''.out _ hd5)) (fun hHeld => ?_)
        refine wpAnyH_take (i := 0) (oi := Oper.mk _ _ _ _ _ _) (v := ?_) rfl (by kernel_rfl) (by kernel_rfl) (by kernel_rfl) (fun _ _ _ h => h) (Or.inl ⟨by kernel_rfl, ?_⟩) hHeld ?_
        rotate_left
        · (intro wS hSw; (try dsimp only at hSw); go_simp; all_goals (with_reducible rfl))
        try simp only [Act.put, List.setIfInBounds_toArray, List.set_cons_zero, List.set_cons_succ]
        refine wpAnyH_take (i := 1) (oi := Oper.mk _ _ _ _ _ _) (v := ?_) rfl (by kernel_rfl) (by kernel_rfl) (by kernel_rfl) (fun _ _ _ h => h) (Or.inl ⟨by kernel_rfl, ?_⟩) hHeld ?_
        rotate_left
        · (intro wS hSw; (try dsimp only at hSw); go_simp; all_goals (with_reducible rfl))
        try simp only [Act.put, List.setIfInBounds_toArray, List.set_cons_zero, List.set_cons_succ]
        refine wpAnyH_take (i := 2) (oi := Oper.mk _ _ _ _ _ _) (v := ?_) rfl (by kernel_rfl) (by kernel_rfl) (by kernel_rfl) (fun _ _ _ h => h) (Or.inl ⟨by kernel_rfl, ?_⟩) hHeld ?_
        rotate_left
        · (intro wS hSw; (try dsimp only at hSw); go_simp; all_goals (with_reducible rfl))
        try simp only [Act.put, List.setIfInBounds_toArray, List.set_cons_zero, List.set_cons_succ]
        refine wpAnyH_take (i := 3) (oi := Oper.mk _ _ _ _ _ _) (v := ?_) rfl (by kernel_rfl) (by kernel_rfl) (by kernel_rfl) (fun _ _ _ h => h) (Or.inl ⟨by kernel_rfl, ?_⟩) hHeld ?_
        rotate_left
        · (intro wS hSw; (try dsimp only at hSw); go_simp; all_goals (with_reducible rfl))
        try simp only [Act.put, List.setIfInBounds_toArray, List.set_cons_zero, List.set_cons_succ]
        refine wpAnyH_take (i := 4) (oi := Oper.mk _ _ _ _ _ _) (v := ?_) rfl (by kernel_rfl) (by kernel_rfl) (by kernel_rfl) (fun _ _ _ h => h) (Or.inl ⟨by kernel_rfl, ?_⟩) hHeld ?_
        rotate_left
        · (intro wS hSw; (try dsimp only at hSw); go_simp; all_goals (with_reducible rfl))
        try simp only [Act.put, List.setIfInBounds_toArray, List.set_cons_zero, List.set_cons_succ]
        refine wpAnyH_ready (rs := [5]) (by kernel_rfl) (by simp) ?_
        refine AllReadyH.cons (o := Oper.mk _ _ _ _ _ _) rfl (fun KK hKK => ?_) AllReadyH.nil
        rw [if_pos (by kernel_rfl)]
        go_simp
        refine (cI1'.out _).mono ?_
        rintro e w5 ⟨rfl, hB5⟩
        have hd5 := hd.trans (hB5.mono hd.size)
        try dsimp only
        refine hKK.out _ _ (by (try dsimp only); (first | exact at''.out _ hd | exact at''.out _ hd5)) (fun hHeld => ?_)
        clear hKK KK
        try simp only [Act.put, List.setIfInBounds_toArray, List.set_cons_zero, List.set_cons_succ]
        refine wpAnyH_take (i := 6) (oi := Oper.mk _ _ _ _ _ _) (v := ?_) rfl (by kernel_rfl) (by kernel_rfl) (by kernel_rfl) (fun _ _ _ h => h) (Or.inl ⟨by kernel_rfl, ?_⟩) hHeld ?_
        rotate_left
        · (intro wS hSw; (try dsimp only at hSw); go_simp; all_goals (with_reducible rfl))
        try simp only [Act.put, List.setIfInBounds_toArray, List.set_cons_zero, List.set_cons_succ]
        refine wpAnyH_done (by kernel_rfl) ?_ _
        have hb5 := hb4'.out.trans (hd5.mono hb4'.out.size)
        clear hHeld hd hd5 hB5
        have hb5' := Lib.hid hb5
        clear hb5
        cases I
        · have hV2 := hV'.out
          rw [if_neg (by omega), if_neg (by rw [hfl1'.out (by first | rfl | trivial)]; decide)] at hV2
          subst hV2
          go_wp2
          go_ret2
          exact ⟨rfl, hb1'.out.trans (hb5'.out.mono hb1'.out.size)⟩
        · go_wp2
          go_roundw
          case rel =>
            exact ⟨k + 1, by omega, by go_num, hst1'.out, hb5'.out⟩
          case measure => simp [intOf]; omega
      · obtain rfl : k = N := by omega
        obtain ⟨b1, off1, rfl, q0, q1⟩ := H1'.out k (by omega)
        rw [hat'.out k (by omega)] at q0 q1
        replace q0 := bkeep hB q0
        replace q1 := bkeep hB q1
        replace e0 := bkeep hB e0
        replace e1 := bkeep hB e1
        have hV2 := hV'.out
        rw [if_neg (by omega), if_pos hai] at hV2
        have g1 : (0 : Int) ≤ (k : Int) := by omega
        have g2 : (k : Int) < (m : Int) := by omega
        have g3 : k < m := by omega
        have hbe := hb1'.out.trans (hB.mono hb1'.out.size)
        generalize pp k = y at *
        obtain ⟨y0, y1⟩ := y
        simp only at q0 q1
        clear hB hai
        by_cases h0 : y0 = x0
        · by_cases h1 : y1 = x1
          · subst h0 h1
            rw [decide_eq_true rfl] at hV2
            subst hV2
            have hbe' := Lib.hid hbe
            have hm' := Lib.hid hm
            clear hbe hm
            go_wp2_with fail
            go_region
            go_wp2
            go_ret2
            exact ⟨rfl, hbe'.out.drew⟩
          · rw [decide_eq_false (by simp [h1])] at hV2
            subst h0 hV2
            have hbe' := Lib.hid hbe
            have hm' := Lib.hid hm
            clear hbe hm
            go_wp2_with fail
            go_region
            go_wp2
            go_ret2
            exact ⟨rfl, hbe'.out.drew⟩
        · rw [decide_eq_false (by simp [h0])] at hV2
          subst hV2
          have hbe' := Lib.hid hbe
          have hm' := Lib.hid hm
          clear hbe hm
          go_wp2_with fail
          go_region
          go_wp2
          go_ret2
          exact ⟨rfl, hbe'.out.drew⟩

end Go.Proofs.Ytfcanpebagpdbaa

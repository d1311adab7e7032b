/- The program's StateWalk. No conditions. -/
import Derived.Test.YtfcanpebagpdbaaSwLaw
import Derived.Test.YtfcanpebagpdbaaOrbit
import Derived.Test.YtfcanpebagpdbaaIsMap
namespace Go.Proofs.Ytfcanpebagpdbaa
open Go.RowKit

set_option linter.unusedSimpArgs false in
set_option maxRecDepth 10000 in
set_option maxHeartbeats 4000000 in
/-- The walk once all is valid. -/
theorem stWalk_in (v u : Value) (f : List Quad) (xs : List (Int × Int)) (x : Int × Int) (n : Nat) (w : World) (hv : QuadV w v f) (hu : RatsV w u xs) (hf : MapP f) (hp : partB xs = true) (hx : unitR x.1 x.2 = true) (hn : n ≤ 40)
    (c1 : ∀ w', Below w.heap.size w w' → Calls Try.prog 71 #[v] w' (Ret (.bool true) w'))
    (c2 : ∀ w', Below w.heap.size w w' → Calls Try.prog 72 #[u] w' (Ret (.bool true) w'))
    (c3 : ∀ w', Calls Try.prog 58 #[.agg #[.int .i64 x.1, .int .i64 x.2]] w' (Ret (.bool true) w'))
    (c4 : ∀ w', Calls Try.prog 73 #[.int .i64 n, .int .i64 0, .int .i64 40] w' (Same (.bool true) w')) :
    Calls Try.prog 28 #[v, u, .agg #[.int .i64 x.1, .int .i64 x.2], .int .i64 n] w (RetOB Own (sw_v f xs x n) w) := by
  have c5 := fun w' (hB : Below w.heap.size w w') => orbit_any v f x n w' (hv.below hB) hf hx (by omega)
  have hNle := runN_le f x n
  have hpu := fun k (h : k ≤ runN f x n) => pz_unit hf hx k fun j hj => runN_ok f x n j (by omega)
  have hLn := orbL_len f x n
  have hat : ∀ i, i ≤ runN f x n → nthR (orbL f x n) i = pz f x i := fun i hi => nthR_ptL hi
  have hpl := partB_len hp
  have c6 := fun (k : Nat) (w' : World) (hB : Below w.heap.size w w') (h : k ≤ runN f x n) => statesOf_any u xs (pz f x k) w' (hu.below hB) (by unfold szRatS; omega) (unitR_bd (hpu k h)) (partB_bd hp)
  have hso := fun k (h : k ≤ runN f x n) => stL_some hp (hpu k h)
  have hst := swK_step f xs x
  have hsl := swK_len f xs x
  have h00 : swK f xs x 0 = [] := rfl
  have hV : sw_v f xs x n = if runN f x n < n then ([], false) else (swK f xs x (n + 1), true) := rfl
  rw [hV]
  clear hV hpu hv hu hf hp hpl
  generalize orbL f x n = OL at *
  generalize runN f x n = N at *
  generalize swK f xs x = SW at *
  generalize pz f x = pp at *
  obtain ⟨V, hV⟩ : ∃ V, (if N < n then ([], false) else (SW (n + 1), true)) = V := ⟨_, rfl⟩
  rw [hV]
  obtain ⟨x0, x1⟩ := x
  simp only at c3 c5
  obtain ⟨w0, hw0⟩ : ∃ W, w.alloc (.cells #[.int .i64 x0, .int .i64 x1] 34) = W := ⟨_, rfl⟩
  have hB0 : Below w.heap.size w w0 := by rw [← hw0]; exact (Below.refl _ _).alloc (Nat.le_refl _) _
  have e0 : w0.cell? ⟨w.heap.size, 0, none⟩ = some (.int .i64 x0) := by rw [← hw0]; simp [go_sem]
  have e1 : w0.cell? ⟨w.heap.size, 1, none⟩ = some (.int .i64 x1) := by rw [← hw0]; simp [go_sem]
  have c1' := Lib.hid c1
  have c2' := Lib.hid c2
  have c3' := Lib.hid c3
  have c4' := Lib.hid c4
  have c5' := Lib.hid c5
  have c6' := Lib.hid c6
  have hLn' := Lib.hid hLn
  have hat' := Lib.hid hat
  have hso' := Lib.hid hso
  have hst' := Lib.hid hst
  have hsl' := Lib.hid hsl
  have h00' := Lib.hid h00
  have hV' := Lib.hid hV
  have hw0' := Lib.hid hw0
  clear c1 c2 c3 c4 c5 c6 hLn hat hso hst hsl h00 hV hw0
  clear hx
  show Calls _ _ #[_, _, .agg #[.int .i64 x0, .int .i64 x1], _] w _
  go_enter Try.func28, Try.ntmps28
  go_wp2_with fail
  rw [hw0'.out]
  go_wp2_with fail
  refine (c1'.out _ hB0).mono ?_
  rintro e w1 ⟨rfl, hB1⟩
  have hb1 := hB0.trans (hB1.mono hB0.size)
  replace e0 := bkeep hB1 e0
  replace e1 := bkeep hB1 e1
  clear hB1 hB0
  go_wp2_with fail
  refine (c2'.out _ hb1).mono ?_
  rintro e w2 ⟨rfl, hB2⟩
  have hb2 := hb1.trans (hB2.mono hb1.size)
  replace e0 := bkeep hB2 e0
  replace e1 := bkeep hB2 e1
  clear hB2 hb1
  go_wp2_with fail
  refine (c3'.out _).mono ?_
  rintro e w3 ⟨rfl, hB3⟩
  have hb3 := hb2.trans (hB3.mono hb2.size)
  replace e0 := bkeep hB3 e0
  replace e1 := bkeep hB3 e1
  clear hB3 hb2
  go_wp2_with fail
  refine (c4'.out _).mono ?_
  rintro e w4 ⟨rfl, rfl⟩
  go_wp2_with fail
  refine (c5'.out _ hb3).mono ?_
  rintro e w5 ⟨v1, rfl, hv1, hB5⟩
  have hb5 := hb3.trans (hB5.mono hb3.size)
  obtain ⟨ao1, cap1, rfl, _, _, H1⟩ := hv1.read.form
  rw [hLn'.out] at H1 ⊢
  clear hv1 hB5 hb3 e0 e1
  have H1' := Lib.hid H1
  clear H1
  have hV := hV'.out
  by_cases hN : N < n
  · rw [if_pos hN] at hV
    have hle : ((N + 1 : Nat) : Int) ≤ (n : Int) := by omega
    subst hV
    have hb5' := Lib.hid hb5
    clear hb5
    go_wp2
    go_ret2
    exact ⟨_, rfl, Own.nil _ _ _, hb5'.out⟩
  · rw [if_neg hN] at hV
    obtain rfl : N = n := by omega
    obtain ⟨m, hm⟩ : ∃ m, N + 1 = m := ⟨_, rfl⟩
    rw [hm] at H1' ⊢
    rw [hm] at hV
    have hle : decide (m ≤ N) = false := decide_eq_false (by omega)
    have hs5 := hb5.size
    have hm9 : m ≤ 100 := by omega
    have hb5' := Lib.hid hb5
    have hV' := Lib.hid hV
    clear hb5 hV
    go_wp2
    go_loopw [11, 42] (fun o i wr => ∃ k : Nat, k ≤ m ∧ i = .int .i64 k ∧ Grow wr w5.heap.size o (SW k) ∧ Below w5.heap.size w5 wr) (fun _ i _ => m - (intOf i).toNat)
    case atStart => exact ⟨0, Nat.zero_le _, rfl, by rw [h00'.out]; exact Grow.nil _ _, Below.refl _ _⟩
    case round =>
      obtain ⟨k, hk, rfl, hg, hB⟩ := hrel
      by_cases hlt : k < m
      · obtain ⟨b1, off1, rfl, q0, q1⟩ := H1'.out k (by omega)
        rw [hat'.out k (by omega)] at q0 q1
        replace q0 := bkeep hB q0
        replace q1 := bkeep hB q1
        have cS := fun w' hB => c6'.out k w' hB (by omega)
        have hso1 := hso'.out k (by omega)
        have hst1 := hst'.out k
        have hsl1 := hsl'.out k
        generalize stL xs (pp k) = T at *
        generalize pp k = y at *
        obtain ⟨y0, y1⟩ := y
        simp only at q0 q1 cS
        have hsr := hB.size
        obtain ⟨w6, hw6⟩ : ∃ W, wr.alloc (.cells #[.int .i64 y0, .int .i64 y1] 34) = W := ⟨_, rfl⟩
        have hB6 : Below wr.heap.size wr w6 := by rw [← hw6]; exact (Below.refl _ _).alloc (Nat.le_refl _) _
        have hb6 := hB.trans (hB6.mono hsr)
        have hg6 := hg.below hB6
        have hbw := hb5'.out.trans (hb6.mono hs5)
        have i0 : w6.cell? ⟨wr.heap.size, 0, none⟩ = some (.int .i64 y0) := by rw [← hw6]; simp [go_sem]
        have i1 : w6.cell? ⟨wr.heap.size, 1, none⟩ = some (.int .i64 y1) := by rw [← hw6]; simp [go_sem]
        have g0 : (0 : Int) ≤ (k : Int) := by omega
        have g1 : (k : Int) < (m : Int) := by omega
        clear hB6 hB hg
        have cS' := Lib.hid cS
        have hst1' := Lib.hid hst1
        have hsl1' := Lib.hid hsl1
        have hw6' := Lib.hid hw6
        have hg6' := Lib.hid hg6
        have hm' := Lib.hid hm
        have hso1' := Lib.hid hso1
        clear cS hst1 hsl1 hw6 hg6 hm hso1
        go_wp2_with fail
        rw [hw6'.out]
        go_wp2_with fail
        refine (cS'.out _ hbw).mono ?_
        rintro e w7 ⟨v2, rfl, hv2, hB7⟩
        obtain ⟨ao2, cap2, rfl, _, _, H2⟩ := hv2.read
        obtain ⟨b2, off2, rfl, t0⟩ := H2 0 hso1'.out
        have hb7 := hb6.trans (hB7.mono hb6.size)
        have hg7 := hg6'.out.below hB7
        have hs7 := hb7.size
        obtain ⟨tl, htl⟩ : ∃ tl, T.length = tl := ⟨_, rfl⟩
        have g2 : (0 : Int) < (tl : Int) := by have := hso1'.out; omega
        have g3 : 0 < tl := by omega
        rw [htl]
        rw [Nat.add_zero] at t0
        generalize nth T 0 = z at *
        clear hv2 H2 hB7 hb6 i0 i1 q0 q1
        have htl' := Lib.hid htl
        clear htl
        go_wp2_with (at_builtin; refine wpList_append_int rfl _ _ rfl w5.heap.size u11 (SW k) z _ rfl rfl hg7 (by have := hm'.out; rw [hsl1'.out]; omega) hs7 ?_)
        intro v' w' hown' hgrow
        have hb8 := hg7.belowB hb7 (Nat.le_refl _) hs7 hgrow
        clear hgrow hb7 hg7
        have hb8' := Lib.hid hb8
        clear hb8
        go_wp2
        go_roundw
        case rel => exact ⟨k + 1, by omega, by go_num, by rw [hst1'.out]; exact hown', hb8'.out⟩
        case measure => simp [intOf]; omega
      · obtain rfl : k = m := by omega
        have ho := hg.own
        have hV2 := hV'.out
        have hbe := hb5'.out.trans (hB.mono hs5)
        have hlow := hb5'.out.size
        subst hV2
        clear hB hg
        have ho' := Lib.hid ho
        have hbe' := Lib.hid hbe
        clear ho hbe
        go_wp2
        go_ret2
        exact ⟨_, rfl, ho'.out.mono hlow (Nat.le_refl _), hbe'.out⟩

end Go.Proofs.Ytfcanpebagpdbaa

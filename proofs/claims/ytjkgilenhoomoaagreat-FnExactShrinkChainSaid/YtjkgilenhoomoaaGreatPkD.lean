/- Several texts in one: Calc Keep Csub Widths CalcAt Q. No conditions but those that each theorem states. -/
import Derived.Test.YtjkgilenhoomoaaGreatPkB
import Derived.Deep.RegionHeld3
import Derived.Test.YtjkgilenhoomoaaGreatPkC
import Derived.Deep.AppendLies

namespace Go.Proofs.YtjkgilenhoomoaaGreat
open Go.RowKit
set_option maxRecDepth 100000

theorem mkR_bd (x y : Int) (h : (mkR x y).2 = true) : BdR (mkR x y).1.1 (mkR x y).1.2 := by
  unfold mkR at h ⊢
  split
  · rename_i hg; exact goodR_bd hg
  · rename_i hg; rw [if_neg hg] at h; cases h
def subR (a b : Int × Int) : (Int × Int) × Bool := mkR (a.1 * b.2 - b.1 * a.2) (a.2 * b.2)
def addR (a b : Int × Int) : (Int × Int) × Bool := mkR (a.1 * b.2 + b.1 * a.2) (a.2 * b.2)
theorem BdR.den {n d n' d' : Int} (h : BdR n d) (h' : BdR n' d') : 1 ≤ d * d' ∧ d * d' ≤ 1000000000000000000 := by
  obtain ⟨⟨h1, h2⟩, _, _⟩ := h
  obtain ⟨⟨h3, h4⟩, _, _⟩ := h'
  have a1 : d * d' ≤ 1000000000 * d' := Int.mul_le_mul_of_nonneg_right h2 (by omega)
  have a2 : 1 * d' ≤ d * d' := Int.mul_le_mul_of_nonneg_right h1 (by omega)
  omega

set_option maxHeartbeats 800000 in
theorem raSub_any (a b : Int × Int) (w : World) (ha : BdR a.1 a.2) (hb : BdR b.1 b.2) :
    Calls Tryz.prog 59 #[.agg #[.int .i64 a.1, .int .i64 a.2], .agg #[.int .i64 b.1, .int .i64 b.2]] w (Ret (.tuple #[ratV (subR a b).1, .bool (subR a b).2]) w) := by
  obtain ⟨n, d⟩ := a
  obtain ⟨n', d'⟩ := b
  show Calls _ _ #[.agg #[.int .i64 n, .int .i64 d], .agg #[.int .i64 n', .int .i64 d']] w _
  have p1 : -1000000000000000000 ≤ n * d' ∧ n * d' ≤ 1000000000000000000 := ha.prod hb
  have p2 : -1000000000000000000 ≤ n' * d ∧ n' * d ≤ 1000000000000000000 := hb.prod ha
  have p3 : 1 ≤ d * d' ∧ d * d' ≤ 1000000000000000000 := ha.den hb
  have c1 := fun w (h : _) (h' : _) => raMake_any (n * d' - n' * d) (d * d') w h h' (by omega)
  unfold subR
  simp only
  obtain ⟨x, hx⟩ : ∃ x, n * d' = x := ⟨_, rfl⟩
  obtain ⟨y, hy⟩ : ∃ y, n' * d = y := ⟨_, rfl⟩
  obtain ⟨z, hz⟩ : ∃ z, d * d' = z := ⟨_, rfl⟩
  rw [hx] at p1 c1 ⊢
  rw [hy] at p2 c1 ⊢
  rw [hz] at p3 c1 ⊢
  replace c1 := fun w => c1 w (by omega) (by omega)
  generalize mkR (x - y) z = R at *
  obtain ⟨⟨r1, r2⟩, r3⟩ := R
  have hB : Below w.heap.size w (((w.alloc (.cells #[.int .i64 n, .int .i64 d] 42)).alloc (.cells #[.int .i64 n', .int .i64 d'] 42)).alloc (.cells #[.int .i64 0, .int .i64 0] 42)) :=
    (((Below.refl _ _).alloc (Nat.le_refl _) _).alloc (by simp) _).alloc (by simp; omega) _
  clear ha hb
  have c1' := Lib.hid c1
  clear c1
  go_enter Tryz.func59, Tryz.ntmps59
  go_wp2_with fail
  refine (c1'.out _).mono ?_
  rintro e w1 ⟨rfl, hB1⟩
  obtain ⟨hc1, hf1⟩ := bcell hB1
  have hz1 : w.heap.size + 1 + 1 < w1.heap.size := by have := hB1.size; simp at this; omega
  have hB2 := hB.trans (hB1.mono hB.size)
  have q0 : w1.cell? ⟨w.heap.size + 1 + 1, 0, none⟩ = some (.int .i64 0) := by rw [hc1 _ _ (by simp)]; simp [go_sem]
  have q1 : w1.cell? ⟨w.heap.size + 1 + 1, 1, none⟩ = some (.int .i64 0) := by rw [hc1 _ _ (by simp)]; simp [go_sem]
  have q2 : w1.frozen? ⟨w.heap.size + 1 + 1, 0, none⟩ = false := by rw [hf1 _ _ (by simp)]; simp [go_sem]
  have q3 : w1.frozen? ⟨w.heap.size + 1 + 1, 1, none⟩ = false := by rw [hf1 _ _ (by simp)]; simp [go_sem]
  clear hB hB1 hc1 hf1
  go_wp2
  refine bodyPost_ret (v := .tuple #[ratV (r1, r2), .bool r3]) (by simp [results, Tryz.results59, go_sem, q0, q1, ratV]) rfl ⟨rfl, ?_⟩
  exact (hB2.setCell (p := ⟨w.heap.size + 1 + 1, 0, none⟩) (by show w.heap.size ≤ w.heap.size + 1 + 1; omega) _).setCell (p := ⟨w.heap.size + 1 + 1, 1, none⟩) (by show w.heap.size ≤ w.heap.size + 1 + 1; omega) _
set_option maxHeartbeats 800000 in
theorem raAdd_any (a b : Int × Int) (w : World) (ha : BdR a.1 a.2) (hb : BdR b.1 b.2) :
    Calls Tryz.prog 62 #[.agg #[.int .i64 a.1, .int .i64 a.2], .agg #[.int .i64 b.1, .int .i64 b.2]] w (Ret (.tuple #[ratV (addR a b).1, .bool (addR a b).2]) w) := by
  obtain ⟨n, d⟩ := a
  obtain ⟨n', d'⟩ := b
  show Calls _ _ #[.agg #[.int .i64 n, .int .i64 d], .agg #[.int .i64 n', .int .i64 d']] w _
  have p1 : -1000000000000000000 ≤ n * d' ∧ n * d' ≤ 1000000000000000000 := ha.prod hb
  have p2 : -1000000000000000000 ≤ n' * d ∧ n' * d ≤ 1000000000000000000 := hb.prod ha
  have p3 : 1 ≤ d * d' ∧ d * d' ≤ 1000000000000000000 := ha.den hb
  have c1 := fun w (h : _) (h' : _) => raMake_any (n * d' + n' * d) (d * d') w h h' (by omega)
  unfold addR
  simp only
  obtain ⟨x, hx⟩ : ∃ x, n * d' = x := ⟨_, rfl⟩
  obtain ⟨y, hy⟩ : ∃ y, n' * d = y := ⟨_, rfl⟩
  obtain ⟨z, hz⟩ : ∃ z, d * d' = z := ⟨_, rfl⟩
  rw [hx] at p1 c1 ⊢
  rw [hy] at p2 c1 ⊢
  rw [hz] at p3 c1 ⊢
  replace c1 := fun w => c1 w (by omega) (by omega)
  generalize mkR (x + y) z = R at *
  obtain ⟨⟨r1, r2⟩, r3⟩ := R
  have hB : Below w.heap.size w (((w.alloc (.cells #[.int .i64 n, .int .i64 d] 42)).alloc (.cells #[.int .i64 n', .int .i64 d'] 42)).alloc (.cells #[.int .i64 0, .int .i64 0] 42)) :=
    (((Below.refl _ _).alloc (Nat.le_refl _) _).alloc (by simp) _).alloc (by simp; omega) _
  clear ha hb
  have c1' := Lib.hid c1
  clear c1
  go_enter Tryz.func62, Tryz.ntmps62
  go_wp2_with fail
  refine (c1'.out _).mono ?_
  rintro e w1 ⟨rfl, hB1⟩
  obtain ⟨hc1, hf1⟩ := bcell hB1
  have hz1 : w.heap.size + 1 + 1 < w1.heap.size := by have := hB1.size; simp at this; omega
  have hB2 := hB.trans (hB1.mono hB.size)
  have q0 : w1.cell? ⟨w.heap.size + 1 + 1, 0, none⟩ = some (.int .i64 0) := by rw [hc1 _ _ (by simp)]; simp [go_sem]
  have q1 : w1.cell? ⟨w.heap.size + 1 + 1, 1, none⟩ = some (.int .i64 0) := by rw [hc1 _ _ (by simp)]; simp [go_sem]
  have q2 : w1.frozen? ⟨w.heap.size + 1 + 1, 0, none⟩ = false := by rw [hf1 _ _ (by simp)]; simp [go_sem]
  have q3 : w1.frozen? ⟨w.heap.size + 1 + 1, 1, none⟩ = false := by rw [hf1 _ _ (by simp)]; simp [go_sem]
  clear hB hB1 hc1 hf1
  go_wp2
  refine bodyPost_ret (v := .tuple #[ratV (r1, r2), .bool r3]) (by simp [results, Tryz.results62, go_sem, q0, q1, ratV]) rfl ⟨rfl, ?_⟩
  exact (hB2.setCell (p := ⟨w.heap.size + 1 + 1, 0, none⟩) (by show w.heap.size ≤ w.heap.size + 1 + 1; omega) _).setCell (p := ⟨w.heap.size + 1 + 1, 1, none⟩) (by show w.heap.size ≤ w.heap.size + 1 + 1; omega) _

theorem areRats_true (v : Value) (xs : List (Int × Int)) (w : World) (hv : RatsV w v xs) (hm : xs.length ≤ 1099511627776) (hg : ∀ i, i < xs.length → goodR (nthR xs i).1 (nthR xs i).2 = true) :
    Calls Tryz.prog 111 #[v] w (Ret (.bool true) w) := by
  obtain ⟨ao, cap, rfl, _, _, H⟩ := hv.form
  obtain ⟨n, hn⟩ : ∃ n, xs.length = n := ⟨_, rfl⟩
  rw [hn] at hm H hv hg ⊢
  have hn' := Lib.hid hn
  have hv' := Lib.hid hv
  have hg' := Lib.hid hg
  have H' := Lib.hid H
  clear hn hv hg H
  go_enter Tryz.func111, Tryz.ntmps111
  go_wp2
  go_loopw [7] (fun i wr => ∃ k : Nat, k ≤ n ∧ i = .int .i64 k ∧ Below w.heap.size w wr) (fun i _ => n - (intOf i).toNat)
  case atStart => exact ⟨0, Nat.zero_le _, rfl, Below.refl _ _⟩
  case round =>
    obtain ⟨k, hk, rfl, hB⟩ := hrel
    by_cases hlt : k < n
    · obtain ⟨b, off, rfl, hc0, hc1⟩ := H'.out k hlt
      rw [← hB.cell (World.block_lt_of_cell? w _ hc0)] at hc0
      rw [← hB.cell (World.block_lt_of_cell? w _ hc1)] at hc1
      have c1 := fun w => isRat_any (nthR xs k).1 (nthR xs k).2 w
      rw [hg'.out k hlt] at c1
      generalize nthR xs k = r at *
      obtain ⟨p, q⟩ := r
      simp only at c1 hc0 hc1
      have hB1 : Below w.heap.size w (wr.alloc (.cells #[.int .i64 p, .int .i64 q] 42)) := hB.alloc hB.size _
      have c1' := Lib.hid c1
      clear c1
      go_wp2_with fail
      refine (c1'.out _).mono ?_
      rintro e w1 ⟨rfl, hB2⟩
      have hB3 := hB1.trans (hB2.mono hB1.size)
      go_wp2
      go_roundw
      case rel => exact ⟨k + 1, by omega, by go_num, hB3⟩
      case measure => simp [intOf]; omega
    · clear H'
      go_wp2
      go_ret
      exact ⟨rfl, hB⟩
theorem negated_any (n d : Int) (w : World) (h : -1000000000 ≤ n ∧ n ≤ 1000000000) : Calls Tryz.prog 113 #[.agg #[.int .i64 n, .int .i64 d]] w (Ret (ratV (-n, d)) w) := by
  have hB : Below w.heap.size w ((w.alloc (.cells #[.int .i64 n, .int .i64 d] 42)).alloc (.cells #[.int .i64 (-n), .int .i64 d] 42)) := ((Below.refl _ _).alloc (Nat.le_refl _) _).alloc (by simp) _
  go_enter Tryz.func113, Tryz.ntmps113
  go_wp2
  refine bodyPost_ret (v := ratV (-n, d)) (by simp [results, Tryz.results113, go_sem, ratV]) rfl ⟨rfl, ?_⟩
  exact hB

set_option maxHeartbeats 1600000 in
theorem AddRats_any (a b : Int × Int) (w : World) (ga : goodR a.1 a.2 = true) (gb : goodR b.1 b.2 = true) :
    Calls Tryz.prog 92 #[.agg #[.int .i64 a.1, .int .i64 a.2], .agg #[.int .i64 b.1, .int .i64 b.2]] w (Ret (.tuple #[ratV (addR a b).1, .bool (addR a b).2]) w) := by
  have ha : BdR a.1 a.2 := goodR_bd ga
  have hb : BdR b.1 b.2 := goodR_bd gb
  obtain ⟨n, d⟩ := a
  obtain ⟨n', d'⟩ := b
  show Calls _ _ #[.agg #[.int .i64 n, .int .i64 d], .agg #[.int .i64 n', .int .i64 d']] w _
  have p1 : -1000000000000000000 ≤ n * d' ∧ n * d' ≤ 1000000000000000000 := ha.prod hb
  have p2 : -1000000000000000000 ≤ n' * d ∧ n' * d ≤ 1000000000000000000 := hb.prod ha
  have p3 : 1 ≤ d * d' ∧ d * d' ≤ 1000000000000000000 := ha.den hb
  have c1 := fun w (h : _) (h' : _) => lowest_any (n * d' + n' * d) (d * d') w h h' (by omega)
  unfold addR
  simp only
  obtain ⟨x, hx⟩ : ∃ x, n * d' = x := ⟨_, rfl⟩
  obtain ⟨y, hy⟩ : ∃ y, n' * d = y := ⟨_, rfl⟩
  obtain ⟨z, hz⟩ : ∃ z, d * d' = z := ⟨_, rfl⟩
  rw [hx] at p1 c1 ⊢
  rw [hy] at p2 c1 ⊢
  rw [hz] at p3 c1 ⊢
  replace c1 := fun w => c1 w (by omega) (by omega)
  generalize mkR (x + y) z = R at *
  obtain ⟨⟨r1, r2⟩, r3⟩ := R
  obtain ⟨W, hW⟩ : ∃ W, ((((w.alloc (.cells #[.int .i64 n, .int .i64 d] 42)).alloc (.cells #[.int .i64 n', .int .i64 d'] 42)).alloc (.cells #[.int .i64 0, .int .i64 0] 42)).alloc (.cells #[.int .i64 n, .int .i64 d, .int .i64 n', .int .i64 d'] 42)) = W := ⟨_, rfl⟩
  have hB : Below w.heap.size w W := by rw [← hW]; exact ((((Below.refl _ _).alloc (Nat.le_refl _) _).alloc (by simp) _).alloc (by simp; omega) _).alloc (by simp; omega) _
  have hz : w.heap.size + 1 + 1 + 1 < W.heap.size := by rw [← hW]; simp
  have hv : RatsV W (.slice (some ⟨w.heap.size + 1 + 1 + 1, 0, none⟩) 2 2) [(n, d), (n', d')] := by
    refine RatsV.mk (xs := [(n, d), (n', d')]) ⟨Nat.le_refl _, fun e => by cases e⟩ (by unfold maxLen; simp) (fun i hi => ⟨_, 0, rfl, ?_⟩)
    rw [← hW]
    have : i = 0 ∨ i = 1 := by simp at hi; omega
    rcases this with rfl | rfl
    · exact ⟨by simp [go_sem, nthR], by simp [go_sem, nthR]⟩
    · exact ⟨by simp [go_sem, nthR], by simp [go_sem, nthR]⟩
  have c0 := areRats_true _ _ _ hv (by simp) (fun i hi => by
    have : i = 0 ∨ i = 1 := by simp at hi; omega
    rcases this with rfl | rfl
    · exact ga
    · exact gb)
  have k0 : W.cell? ⟨w.heap.size, 0, none⟩ = some (.int .i64 n) := by rw [← hW]; simp [go_sem]
  have k1 : W.cell? ⟨w.heap.size, 1, none⟩ = some (.int .i64 d) := by rw [← hW]; simp [go_sem]
  have k2 : W.cell? ⟨w.heap.size + 1, 0, none⟩ = some (.int .i64 n') := by rw [← hW]; simp [go_sem]
  have k3 : W.cell? ⟨w.heap.size + 1, 1, none⟩ = some (.int .i64 d') := by rw [← hW]; simp [go_sem]
  have k4 : W.cell? ⟨w.heap.size + 1 + 1, 0, none⟩ = some (.int .i64 0) := by rw [← hW]; simp [go_sem]
  have k5 : W.cell? ⟨w.heap.size + 1 + 1, 1, none⟩ = some (.int .i64 0) := by rw [← hW]; simp [go_sem]
  have k6 : W.frozen? ⟨w.heap.size + 1 + 1, 0, none⟩ = false := by rw [← hW]; simp [go_sem]
  have k7 : W.frozen? ⟨w.heap.size + 1 + 1, 1, none⟩ = false := by rw [← hW]; simp [go_sem]
  clear ha hb ga gb hv
  have c0' := Lib.hid c0
  have c1' := Lib.hid c1
  have hW' := Lib.hid hW
  clear c0 c1 hW
  go_enter Tryz.func92, Tryz.ntmps92
  go_wp2_with fail
  rw [hW'.out]
  go_wp2_with fail
  refine (c0'.out).mono ?_
  rintro e w1 ⟨rfl, hB1⟩
  obtain ⟨hc1, hf1⟩ := bcell hB1
  have hb1 := hB.trans (hB1.mono hB.size)
  have hz1 := Nat.lt_of_lt_of_le hz hB1.size
  rw [← hc1 _ _ (by omega)] at k0 k1 k2 k3 k4 k5
  rw [← hf1 _ _ (by omega)] at k6 k7
  clear hB hz hB1 hc1 hf1
  go_wp2_with fail
  refine (c1'.out _).mono ?_
  rintro e w2 ⟨rfl, hB2⟩
  obtain ⟨hc2, hf2⟩ := bcell hB2
  have hb2 := hb1.trans (hB2.mono hb1.size)
  have hz2 := Nat.lt_of_lt_of_le hz1 hB2.size
  rw [← hc2 _ _ (by omega)] at k4 k5
  rw [← hf2 _ _ (by omega)] at k6 k7
  clear k0 k1 k2 k3 hB2 hc2 hf2 hb1 hz1
  go_wp2
  refine bodyPost_ret (v := .tuple #[ratV (r1, r2), .bool r3]) (by simp [results, Tryz.results92, go_sem, k4, k5, ratV]) rfl ⟨rfl, ?_⟩
  exact (hb2.setCell (p := ⟨w.heap.size + 1 + 1, 0, none⟩) (by show w.heap.size ≤ w.heap.size + 1 + 1; omega) _).setCell (p := ⟨w.heap.size + 1 + 1, 1, none⟩) (by show w.heap.size ≤ w.heap.size + 1 + 1; omega) _

theorem goodR_neg (n d : Int) : goodR (-n) d = goodR n d := by
  have h1 : gcdI (-n) d = gcdI n d := by unfold gcdI; rw [Int.natAbs_neg]
  have h2 : inB (-n) (-1000000000) 1000000000 = inB n (-1000000000) 1000000000 := by
    cases h : inB n (-1000000000) 1000000000
    · cases h' : inB (-n) (-1000000000) 1000000000
      · rfl
      · rw [inB_true] at h'
        have : inB n (-1000000000) 1000000000 = true := inB_true.2 (by omega)
        rw [h] at this; cases this
    · rw [inB_true] at h
      exact inB_true.2 (by omega)
  unfold goodR
  rw [h1, h2]
theorem addR_neg (a b : Int × Int) : addR a (-b.1, b.2) = subR a b := by
  unfold addR subR
  simp only [Int.neg_mul, ← Int.sub_eq_add_neg]

set_option linter.unusedSimpArgs false in
set_option maxHeartbeats 1600000 in
theorem SubtractRats_any (a b : Int × Int) (w : World) (ga : goodR a.1 a.2 = true) (gb : goodR b.1 b.2 = true) :
    Calls Tryz.prog 94 #[.agg #[.int .i64 a.1, .int .i64 a.2], .agg #[.int .i64 b.1, .int .i64 b.2]] w (Ret (.tuple #[ratV (subR a b).1, .bool (subR a b).2]) w) := by
  have c2 := fun w => AddRats_any a (-b.1, b.2) w ga (by simp only; rw [goodR_neg]; exact gb)
  rw [addR_neg] at c2
  have c1 := fun w => negated_any b.1 b.2 w (goodR_bd gb).2
  generalize subR a b = R at *
  obtain ⟨n, d⟩ := a
  obtain ⟨n', d'⟩ := b
  show Calls _ _ #[.agg #[.int .i64 n, .int .i64 d], .agg #[.int .i64 n', .int .i64 d']] w _
  obtain ⟨⟨r1, r2⟩, r3⟩ := R
  simp only at c1 c2
  obtain ⟨W, hW⟩ : ∃ W, (((w.alloc (.cells #[.int .i64 n, .int .i64 d] 42)).alloc (.cells #[.int .i64 n', .int .i64 d'] 42)).alloc (.cells #[.int .i64 0, .int .i64 0] 42)) = W := ⟨_, rfl⟩
  have hB : Below w.heap.size w W := by rw [← hW]; exact (((Below.refl _ _).alloc (Nat.le_refl _) _).alloc (by simp) _).alloc (by simp; omega) _
  have hz : w.heap.size + 1 + 1 < W.heap.size := by rw [← hW]; simp
  have k0 : W.cell? ⟨w.heap.size, 0, none⟩ = some (.int .i64 n) := by rw [← hW]; simp [go_sem]
  have k1 : W.cell? ⟨w.heap.size, 1, none⟩ = some (.int .i64 d) := by rw [← hW]; simp [go_sem]
  have k2 : W.cell? ⟨w.heap.size + 1, 0, none⟩ = some (.int .i64 n') := by rw [← hW]; simp [go_sem]
  have k3 : W.cell? ⟨w.heap.size + 1, 1, none⟩ = some (.int .i64 d') := by rw [← hW]; simp [go_sem]
  have k4 : W.cell? ⟨w.heap.size + 1 + 1, 0, none⟩ = some (.int .i64 0) := by rw [← hW]; simp [go_sem]
  have k5 : W.cell? ⟨w.heap.size + 1 + 1, 1, none⟩ = some (.int .i64 0) := by rw [← hW]; simp [go_sem]
  have k6 : W.frozen? ⟨w.heap.size + 1 + 1, 0, none⟩ = false := by rw [← hW]; simp [go_sem]
  have k7 : W.frozen? ⟨w.heap.size + 1 + 1, 1, none⟩ = false := by rw [← hW]; simp [go_sem]
  clear ga gb
  have c1' := Lib.hid c1
  have c2' := Lib.hid c2
  have hW' := Lib.hid hW
  clear c1 c2 hW
  go_enter Tryz.func94, Tryz.ntmps94
  go_wp2_with fail
  rw [hW'.out]
  have hBd := hB.drew
  refine wp_region_held_drew (S := (fun w' => (w'.cell? ⟨w.heap.size, 0, none⟩ = some (.int .i64 n) ∧ w'.cell? ⟨w.heap.size, 1, none⟩ = some (.int .i64 d)) ∧ w'.cell? ⟨w.heap.size + 1, 0, none⟩ = some (.int .i64 n') ∧ w'.cell? ⟨w.heap.size + 1, 1, none⟩ = some (.int .i64 d'))) (by kernel_rfl) (by (try dsimp only); (first | exact ⟨⟨k0, k1⟩, k2, k3⟩ | exact ⟨⟨a0, a1⟩, a2, a3⟩ | exact ⟨⟨b0, b1⟩, b2, b3⟩ | exact ⟨⟨(hb3.cell (p := ⟨w.heap.size, 0, none⟩) (by show w.heap.size < w.heap.size + 1 + 1; omega)).trans b0, (hb3.cell (p := ⟨w.heap.size, 1, none⟩) (by show w.heap.size < w.heap.size + 1 + 1; omega)).trans b1⟩, (hb3.cell (p := ⟨w.heap.size + 1, 0, none⟩) (Nat.lt_succ_self _)).trans b2, (hb3.cell (p := ⟨w.heap.size + 1, 1, none⟩) (Nat.lt_succ_self _)).trans b3⟩)) (fun hHeld => ?_)
  refine ly_q 0 (v := ?_) hHeld ?_
  try simp only [Act.put, lyA, lyB, lyC]
  refine ly_q 1 (v := ?_) hHeld ?_
  try simp only [Act.put, lyA, lyB, lyC]
  refine ly_a 2 (fun KK hKK => ?_)
  go_simp
  refine (c1'.out _).mono ?_
  rintro e w1 ⟨rfl, hB1⟩
  obtain ⟨hc1, hf1⟩ := bcell hB1
  have hb1 := hBd.trans (hB1.mono hBd.size)
  have hz1 : w.heap.size + 1 + 1 < w1.heap.size := Nat.lt_of_lt_of_le hz hB1.size
  have a0 := (hc1 _ _ (show w.heap.size < W.heap.size by omega)).trans k0
  have a1 := (hc1 _ _ (show w.heap.size < W.heap.size by omega)).trans k1
  have a2 := (hc1 _ _ (show w.heap.size + 1 < W.heap.size by omega)).trans k2
  have a3 := (hc1 _ _ (show w.heap.size + 1 < W.heap.size by omega)).trans k3
  have a4 := (hc1 _ _ hz).trans k4
  have a5 := (hc1 _ _ hz).trans k5
  have a6 := (hf1 _ _ hz).trans k6
  have a7 := (hf1 _ _ hz).trans k7
  clear hc1 hf1
  try dsimp only
  refine hKK.out _ _ (by (try dsimp only); (first | exact ⟨⟨k0, k1⟩, k2, k3⟩ | exact ⟨⟨a0, a1⟩, a2, a3⟩ | exact ⟨⟨b0, b1⟩, b2, b3⟩ | exact ⟨⟨(hb3.cell (p := ⟨w.heap.size, 0, none⟩) (by show w.heap.size < w.heap.size + 1 + 1; omega)).trans b0, (hb3.cell (p := ⟨w.heap.size, 1, none⟩) (by show w.heap.size < w.heap.size + 1 + 1; omega)).trans b1⟩, (hb3.cell (p := ⟨w.heap.size + 1, 0, none⟩) (Nat.lt_succ_self _)).trans b2, (hb3.cell (p := ⟨w.heap.size + 1, 1, none⟩) (Nat.lt_succ_self _)).trans b3⟩)) (fun hHeld => ?_)
  clear hKK KK
  try simp only [Act.put, lyA, lyB, lyC]
  refine ly_a 3 (fun KK hKK => ?_)
  go_simp
  refine (c2'.out _).mono ?_
  rintro e w2 ⟨rfl, hB2⟩
  obtain ⟨hc2, hf2⟩ := bcell hB2
  have hb2 := hb1.trans (hB2.mono hb1.size)
  have hz2 : w.heap.size + 1 + 1 < w2.heap.size := Nat.lt_of_lt_of_le hz1 hB2.size
  have b0 := (hc2 _ _ (show w.heap.size < w1.heap.size by omega)).trans a0
  have b1 := (hc2 _ _ (show w.heap.size < w1.heap.size by omega)).trans a1
  have b2 := (hc2 _ _ (show w.heap.size + 1 < w1.heap.size by omega)).trans a2
  have b3 := (hc2 _ _ (show w.heap.size + 1 < w1.heap.size by omega)).trans a3
  have b4 := (hc2 _ _ hz1).trans a4
  have b5 := (hc2 _ _ hz1).trans a5
  have b6 := (hf2 _ _ hz1).trans a6
  have b7 := (hf2 _ _ hz1).trans a7
  clear hc2 hf2
  try dsimp only
  refine hKK.out _ _ (by (try dsimp only); (first | exact ⟨⟨k0, k1⟩, k2, k3⟩ | exact ⟨⟨a0, a1⟩, a2, a3⟩ | exact ⟨⟨b0, b1⟩, b2, b3⟩ | exact ⟨⟨(hb3.cell (p := ⟨w.heap.size, 0, none⟩) (by show w.heap.size < w.heap.size + 1 + 1; omega)).trans b0, (hb3.cell (p := ⟨w.heap.size, 1, none⟩) (by show w.heap.size < w.heap.size + 1 + 1; omega)).trans b1⟩, (hb3.cell (p := ⟨w.heap.size + 1, 0, none⟩) (Nat.lt_succ_self _)).trans b2, (hb3.cell (p := ⟨w.heap.size + 1, 1, none⟩) (Nat.lt_succ_self _)).trans b3⟩)) (fun hHeld => ?_)
  clear hKK KK
  try simp only [Act.put, lyA, lyB, lyC]
  refine ly_q 4 (v := ?_) hHeld ?_
  try simp only [Act.put, lyA, lyB, lyC]
  refine ly_q 5 (v := ?_) hHeld ?_
  try simp only [Act.put, lyA, lyB, lyC]
  refine ly_a 6 (fun KK hKK => ?_)
  go_simp
  have hb3 := ((Below.refl (w.heap.size + 1 + 1) w2).setCell (p := ⟨w.heap.size + 1 + 1, 0, none⟩) (Nat.le_refl _) (.int .i64 r1)).setCell (p := ⟨w.heap.size + 1 + 1, 1, none⟩) (Nat.le_refl _) (.int .i64 r2)
  try dsimp only
  refine hKK.out _ _ (by (try dsimp only); (first | exact ⟨⟨k0, k1⟩, k2, k3⟩ | exact ⟨⟨a0, a1⟩, a2, a3⟩ | exact ⟨⟨b0, b1⟩, b2, b3⟩ | exact ⟨⟨(hb3.cell (p := ⟨w.heap.size, 0, none⟩) (by show w.heap.size < w.heap.size + 1 + 1; omega)).trans b0, (hb3.cell (p := ⟨w.heap.size, 1, none⟩) (by show w.heap.size < w.heap.size + 1 + 1; omega)).trans b1⟩, (hb3.cell (p := ⟨w.heap.size + 1, 0, none⟩) (Nat.lt_succ_self _)).trans b2, (hb3.cell (p := ⟨w.heap.size + 1, 1, none⟩) (Nat.lt_succ_self _)).trans b3⟩)) (fun hHeld => ?_)
  clear hKK KK
  try simp only [Act.put, lyA, lyB, lyC]
  refine ly_q 7 (v := ?_) hHeld ?_
  try simp only [Act.put, lyA, lyB, lyC]
  refine wpAnyH_done (by kernel_rfl) ?_ _
  go_wp2
  refine bodyPost_ret (v := .tuple #[ratV (r1, r2), .bool r3]) (by simp [results, Tryz.results94, go_sem, b4, b5, ratV]) rfl ⟨rfl, ?_⟩
  exact hb2.trans (hb3.mono (by omega))

end Go.Proofs.YtjkgilenhoomoaaGreat

namespace Go.Proofs.YtjkgilenhoomoaaGreat
open Go.RowKit

theorem below_setCell_both {E : Nat} {w w1 : World} (h : Below E w w1) {p : Addr} (hp : p.block < E) (u : Value) : Below E (w.setCell p u) (w1.setCell p u) := by
  refine ⟨h.os, h.tape, h.output, by simpa [World.setCell] using h.size, fun k hk => ?_⟩
  have hb := h.block k hk
  by_cases e : k = p.block
  · subst e
    have hb' := h.block p.block hp
    simp only [World.setCell]
    rw [Array.getElem?_modify, Array.getElem?_modify, if_pos rfl, if_pos rfl, hb']
  · simp only [World.setCell]
    rw [Array.getElem?_modify, Array.getElem?_modify, if_neg (Ne.symm e), if_neg (Ne.symm e), hb]

theorem keep_ok (g : Nat) (n d : Int) (w : World) :
    Calls Tryz.prog 91 #[.pointer (some ⟨g, 0, none⟩), .agg #[.int .i64 n, .int .i64 d], .bool true] w (Ret (ratV (n, d)) w) := by
  have hB : Below w.heap.size w ((w.alloc (.cells #[.int .i64 n, .int .i64 d] 42)).alloc (.cells #[.int .i64 n, .int .i64 d] 42)) := ((Below.refl _ _).alloc (Nat.le_refl _) _).alloc (by simp) _
  go_enter Tryz.func91, Tryz.ntmps91
  go_wp2
  refine bodyPost_ret (v := ratV (n, d)) (by simp [results, Tryz.results91, go_sem, ratV]) rfl ⟨rfl, ?_⟩
  exact hB
set_option maxHeartbeats 800000 in
theorem keep_bad (g : Nat) (bd : Bool) (n d : Int) (w : World) (hc : w.cell? ⟨g, 0, none⟩ = some (.bool bd)) (hf : w.frozen? ⟨g, 0, none⟩ = false) :
    Calls Tryz.prog 91 #[.pointer (some ⟨g, 0, none⟩), .agg #[.int .i64 n, .int .i64 d], .bool false] w
      (fun e w' => e = .returned (ratV (0, 1)) ∧ Below w.heap.size (w.setCell ⟨g, 0, none⟩ (.bool true)) w') := by
  have hg := World.block_lt_of_cell? w _ hc
  simp only at hg
  obtain ⟨V, hV⟩ : ∃ V, w.setCell ⟨g, 0, none⟩ (.bool true) = V := ⟨_, rfl⟩
  have hs : w.heap.size = V.heap.size := by rw [← hV]; simp [World.setCell]
  have hB : Below V.heap.size V ((V.alloc (.cells #[.int .i64 n, .int .i64 d] 42)).alloc (.cells #[.int .i64 0, .int .i64 0] 42)) := ((Below.refl _ _).alloc (Nat.le_refl _) _).alloc (by simp) _
  rw [hV, hs]
  have hV' := Lib.hid hV
  have hs' := Lib.hid hs
  clear hV hs
  go_enter Tryz.func91, Tryz.ntmps91
  go_wp2_with fail
  rw [hV'.out, hs'.out]
  refine (zero_any _).mono ?_
  rintro e w1 ⟨rfl, hB1⟩
  obtain ⟨hc1, hf1⟩ := bcell hB1
  have hz1 : V.heap.size + 1 < w1.heap.size := by have := hB1.size; simp at this; omega
  have hB2 := hB.trans (hB1.mono hB.size)
  have q0 : w1.cell? ⟨V.heap.size + 1, 0, none⟩ = some (.int .i64 0) := by rw [hc1 _ _ (by simp)]; simp [go_sem]
  have q1 : w1.cell? ⟨V.heap.size + 1, 1, none⟩ = some (.int .i64 0) := by rw [hc1 _ _ (by simp)]; simp [go_sem]
  have q2 : w1.frozen? ⟨V.heap.size + 1, 0, none⟩ = false := by rw [hf1 _ _ (by simp)]; simp [go_sem]
  have q3 : w1.frozen? ⟨V.heap.size + 1, 1, none⟩ = false := by rw [hf1 _ _ (by simp)]; simp [go_sem]
  clear hB hB1 hc1 hf1 hc hf hg
  go_wp2
  refine bodyPost_ret (v := ratV (0, 1)) (by simp [results, Tryz.results91, go_sem, q0, q1, ratV]) rfl ⟨rfl, ?_⟩
  exact (hB2.setCell (p := ⟨V.heap.size + 1, 0, none⟩) (Nat.le_succ _) _).setCell (p := ⟨V.heap.size + 1, 1, none⟩) (Nat.le_succ _) _

end Go.Proofs.YtjkgilenhoomoaaGreat

namespace Go.Proofs.YtjkgilenhoomoaaGreat
open Go.RowKit

set_option maxHeartbeats 1600000 in
theorem csub_ok (g : Nat) (a b : Int × Int) (w : World) (ga : goodR a.1 a.2 = true) (gb : goodR b.1 b.2 = true) (hok : (subR a b).2 = true) :
    Calls Tryz.prog 69 #[.pointer (some ⟨g, 0, none⟩), .agg #[.int .i64 a.1, .int .i64 a.2], .agg #[.int .i64 b.1, .int .i64 b.2]] w (Ret (ratV (subR a b).1) w) := by
  have c1 := fun w => SubtractRats_any a b w ga gb
  generalize subR a b = R at *
  obtain ⟨n, d⟩ := a
  obtain ⟨n', d'⟩ := b
  show Calls _ _ #[_, .agg #[.int .i64 n, .int .i64 d], .agg #[.int .i64 n', .int .i64 d']] w _
  obtain ⟨⟨r1, r2⟩, r3⟩ := R
  simp only at c1 hok
  subst hok
  have c2 := fun w => keep_ok g r1 r2 w
  have hB : Below w.heap.size w (((w.alloc (.cells #[.int .i64 n, .int .i64 d] 42)).alloc (.cells #[.int .i64 n', .int .i64 d'] 42)).alloc (.cells #[.int .i64 0, .int .i64 0] 42)) :=
    (((Below.refl _ _).alloc (Nat.le_refl _) _).alloc (by simp) _).alloc (by simp; omega) _
  clear ga gb
  have c1' := Lib.hid c1
  have c2' := Lib.hid c2
  clear c1 c2
  go_enter Tryz.func69, Tryz.ntmps69
  go_wp2_with fail
  refine (c1'.out _).mono ?_
  rintro e w1 ⟨rfl, hB1⟩
  obtain ⟨hc1, hf1⟩ := bcell hB1
  have hz1 : w.heap.size + 1 + 1 < w1.heap.size := by have := hB1.size; simp at this; omega
  have hb1 := hB.trans (hB1.mono hB.size)
  have q0 : w1.cell? ⟨w.heap.size + 1 + 1, 0, none⟩ = some (.int .i64 0) := by rw [hc1 _ _ (by simp)]; simp [go_sem]
  have q1 : w1.cell? ⟨w.heap.size + 1 + 1, 1, none⟩ = some (.int .i64 0) := by rw [hc1 _ _ (by simp)]; simp [go_sem]
  have q2 : w1.frozen? ⟨w.heap.size + 1 + 1, 0, none⟩ = false := by rw [hf1 _ _ (by simp)]; simp [go_sem]
  have q3 : w1.frozen? ⟨w.heap.size + 1 + 1, 1, none⟩ = false := by rw [hf1 _ _ (by simp)]; simp [go_sem]
  clear hB hB1 hc1 hf1
  go_wp2_with fail
  refine (c2'.out _).mono ?_
  rintro e w2 ⟨rfl, hB2⟩
  obtain ⟨hc2, hf2⟩ := bcell hB2
  have hb2 := hb1.trans (hB2.mono hb1.size)
  rw [← hc2 _ _ hz1] at q0 q1
  rw [← hf2 _ _ hz1] at q2 q3
  have hz2 := Nat.lt_of_lt_of_le hz1 hB2.size
  clear hb1 hB2 hc2 hf2 hz1
  go_wp2
  refine bodyPost_ret (v := ratV (r1, r2)) (by simp [results, Tryz.results69, go_sem, q0, q1, ratV]) rfl ⟨rfl, ?_⟩
  exact (hb2.setCell (p := ⟨w.heap.size + 1 + 1, 0, none⟩) (by show w.heap.size ≤ w.heap.size + 1 + 1; omega) _).setCell (p := ⟨w.heap.size + 1 + 1, 1, none⟩) (by show w.heap.size ≤ w.heap.size + 1 + 1; omega) _

set_option maxHeartbeats 1600000 in
theorem csub_bad (g : Nat) (bd : Bool) (a b : Int × Int) (w : World) (ga : goodR a.1 a.2 = true) (gb : goodR b.1 b.2 = true) (hok : (subR a b).2 = false) (hc : w.cell? ⟨g, 0, none⟩ = some (.bool bd)) (hf : w.frozen? ⟨g, 0, none⟩ = false) :
    Calls Tryz.prog 69 #[.pointer (some ⟨g, 0, none⟩), .agg #[.int .i64 a.1, .int .i64 a.2], .agg #[.int .i64 b.1, .int .i64 b.2]] w
      (fun e w' => e = .returned (ratV (0, 1)) ∧ Below w.heap.size (w.setCell ⟨g, 0, none⟩ (.bool true)) w') := by
  have hg := World.block_lt_of_cell? w _ hc
  simp only at hg
  have c1 := fun w => SubtractRats_any a b w ga gb
  generalize subR a b = R at *
  obtain ⟨n, d⟩ := a
  obtain ⟨n', d'⟩ := b
  show Calls _ _ #[_, .agg #[.int .i64 n, .int .i64 d], .agg #[.int .i64 n', .int .i64 d']] w _
  obtain ⟨⟨r1, r2⟩, r3⟩ := R
  simp only at c1 hok
  subst hok
  have c2 := fun w h1 h2 => keep_bad g bd r1 r2 w h1 h2
  have hB : Below w.heap.size w (((w.alloc (.cells #[.int .i64 n, .int .i64 d] 42)).alloc (.cells #[.int .i64 n', .int .i64 d'] 42)).alloc (.cells #[.int .i64 0, .int .i64 0] 42)) :=
    (((Below.refl _ _).alloc (Nat.le_refl _) _).alloc (by simp) _).alloc (by simp; omega) _
  clear ga gb
  have c1' := Lib.hid c1
  have c2' := Lib.hid c2
  clear c1 c2
  go_enter Tryz.func69, Tryz.ntmps69
  go_wp2_with fail
  refine (c1'.out _).mono ?_
  rintro e w1 ⟨rfl, hB1⟩
  obtain ⟨hc1, hf1⟩ := bcell hB1
  have hz1 : w.heap.size + 1 + 1 < w1.heap.size := by have := hB1.size; simp at this; omega
  have hb1 := hB.trans (hB1.mono hB.size)
  have q0 : w1.cell? ⟨w.heap.size + 1 + 1, 0, none⟩ = some (.int .i64 0) := by rw [hc1 _ _ (by simp)]; simp [go_sem]
  have q1 : w1.cell? ⟨w.heap.size + 1 + 1, 1, none⟩ = some (.int .i64 0) := by rw [hc1 _ _ (by simp)]; simp [go_sem]
  have q2 : w1.frozen? ⟨w.heap.size + 1 + 1, 0, none⟩ = false := by rw [hf1 _ _ (by simp)]; simp [go_sem]
  have q3 : w1.frozen? ⟨w.heap.size + 1 + 1, 1, none⟩ = false := by rw [hf1 _ _ (by simp)]; simp [go_sem]
  clear hB hB1 hc1 hf1
  have x0 := (hb1.cell (p := ⟨g, 0, none⟩) hg).trans hc
  have x1 := (hb1.frozen (p := ⟨g, 0, none⟩) hg).trans hf
  have hb1' := below_setCell_both hb1 (p := ⟨g, 0, none⟩) hg (.bool true)
  go_wp2_with fail
  refine (c2'.out _ x0 x1).mono ?_
  rintro e w2 ⟨rfl, hB2⟩
  obtain ⟨V, hV⟩ : ∃ V, w1.setCell ⟨g, 0, none⟩ (.bool true) = V := ⟨_, rfl⟩
  have hT : ∀ b o, b ≠ g → V.cell? ⟨b, o, none⟩ = w1.cell? ⟨b, o, none⟩ ∧ V.frozen? ⟨b, o, none⟩ = w1.frozen? ⟨b, o, none⟩ := by
    intro b o hb
    have : (V.heap[b]? : Option Obj) = w1.heap[b]? := by
      rw [← hV]; simp only [World.setCell]; rw [Array.getElem?_modify, if_neg (Ne.symm hb)]
    unfold World.cell? World.frozen?
    simp only [this]
    exact ⟨trivial, trivial⟩
  have hzV : w1.heap.size = V.heap.size := by rw [← hV]; simp [World.setCell]
  rw [hV] at hb1' hB2
  have hb2 := hb1'.trans (hB2.mono (by omega))
  rw [hzV] at hB2 hz1
  obtain ⟨hc2, hf2⟩ := bcell hB2
  replace q0 := (hc2 _ _ hz1).trans ((hT (w.heap.size + 1 + 1) 0 (by omega)).1.trans q0)
  replace q1 := (hc2 _ _ hz1).trans ((hT (w.heap.size + 1 + 1) 1 (by omega)).1.trans q1)
  replace q2 := (hf2 _ _ hz1).trans ((hT (w.heap.size + 1 + 1) 0 (by omega)).2.trans q2)
  replace q3 := (hf2 _ _ hz1).trans ((hT (w.heap.size + 1 + 1) 1 (by omega)).2.trans q3)
  have hz2 := Nat.lt_of_lt_of_le hz1 hB2.size
  clear hb1 hb1' hB2 hc2 hf2 hz1 hT hV x0 x1 hc hf hzV
  go_wp2
  refine bodyPost_ret (v := ratV (0, 1)) (by simp [results, Tryz.results69, go_sem, q0, q1, ratV]) rfl ⟨rfl, ?_⟩
  exact (hb2.setCell (p := ⟨w.heap.size + 1 + 1, 0, none⟩) (by show w.heap.size ≤ w.heap.size + 1 + 1; omega) _).setCell (p := ⟨w.heap.size + 1 + 1, 1, none⟩) (by show w.heap.size ≤ w.heap.size + 1 + 1; omega) _

end Go.Proofs.YtjkgilenhoomoaaGreat

namespace Go.Proofs.YtjkgilenhoomoaaGreat
open Go.RowKit

theorem wpList_append_rat {ops : Array Oper} {rest : List Oper} {o : Oper} {a : Act} {w : World} {Q : Exit → Act → World → Prop} (hgd : o.guard = none) (s x : Operand)
    (ho : o.op = .call { callee := .builtin .append, args := #[s, x], argTypes := #[67, 67] }) (B : Nat) (v : Value) (xs : List (Int × Int)) (p q : Int) (c : Nat) (hs : a.eval s = v) (hx : a.eval x = .slice (some ⟨w.heap.size, 0, none⟩) 1 c)
    (hown : GrowR w B v xs) (hl : xs.length ≤ 1099511627776) (hB : B ≤ w.heap.size)
    (h : ∀ v' w', GrowR w' B v' (xs ++ [(p, q)]) → w.grownBy w' v.ownBlock → wpList Tryz.prog ops Q rest (a.put o.dst v') w') : wpList Tryz.prog ops Q (o :: rest) a (w.alloc (.cells #[.int .i64 p, .int .i64 q] 42)) :=
  wpList_plain hgd fun _ hK => wp_append_rat s x ho B v xs p q c hs hx hown hl hB fun v' w' h2 h3 => hK _ _ (h v' w' h2 h3)

/-- The width of state i. -/
def wdR (xs : List (Int × Int)) (i : Nat) : (Int × Int) × Bool := subR (nthR xs (i + 1)) (nthR xs i)
def wdK (xs : List (Int × Int)) (k : Nat) : List (Int × Int) := (List.range k).map fun i => (wdR xs i).1
def wdOk (xs : List (Int × Int)) (k : Nat) : Bool := (List.range k).all fun i => (wdR xs i).2
theorem wdK_len (xs : List (Int × Int)) (k : Nat) : (wdK xs k).length = k := by simp [wdK]
theorem wdK_step (xs : List (Int × Int)) (k : Nat) : wdK xs (k + 1) = wdK xs k ++ [(wdR xs k).1] := by simp [wdK, List.range_succ]
theorem wdOk_step (xs : List (Int × Int)) (k : Nat) : wdOk xs (k + 1) = (wdOk xs k && (wdR xs k).2) := by simp [wdOk, List.range_succ, List.all_append]
theorem wdOk_false {xs : List (Int × Int)} {k n : Nat} (h : k < n) (hb : (wdR xs k).2 = false) : wdOk xs n = false := by
  unfold wdOk
  rw [List.all_eq_false]
  exact ⟨k, List.mem_range.2 h, by rw [hb]; simp⟩
def WidthsOf_v (xs : List (Int × Int)) : List (Int × Int) × Bool := if (partB xs && wdOk xs (xs.length - 1)) = true then (wdK xs (xs.length - 1), true) else ([], false)
theorem WidthsOf_len (xs : List (Int × Int)) : szRatS (WidthsOf_v xs).1 ≤ 1099511627776 := by
  unfold WidthsOf_v
  split
  · rename_i h
    rw [Bool.and_eq_true] at h
    have h1 := partB_len h.1
    show (wdK xs (xs.length - 1)).length ≤ _
    rw [wdK_len]; omega
  · simp
theorem partB_good {xs : List (Int × Int)} (h : partB xs = true) : ∀ i, i < xs.length → goodR (nthR xs i).1 (nthR xs i).2 = true := by
  unfold partB at h
  rw [Bool.and_eq_true, Bool.and_eq_true] at h
  intro i hi
  have := unitsB_nth h.2.1 hi
  unfold unitR at this
  rw [Bool.and_eq_true] at this
  exact this.1

end Go.Proofs.YtjkgilenhoomoaaGreat

namespace Go.Proofs.YtjkgilenhoomoaaGreat
open Go.RowKit

theorem bkeep {w w' : World} (h : Below w.heap.size w w') {a : Addr} {v : Value} (hc : w.cell? a = some v) : w'.cell? a = some v :=
  (h.cell (World.block_lt_of_cell? _ _ hc)).trans hc
theorem bgrow {w w' : World} (h : Below w.heap.size w w') (r : Option Nat) : w.grownBy w' r := ⟨h.os, h.tape, h.output, h.size, fun k hk _ => h.block k hk⟩
theorem grownBy_setCell_some (w : World) (g o : Nat) (u : Value) : w.grownBy (w.setCell ⟨g, o, none⟩ u) (some g) :=
  ⟨rfl, rfl, rfl, by simp [World.setCell], fun k _ hk => Below.heap_setCell _ _ _ _ (fun e => hk (by rw [e]))⟩

/-- The calculator's cell: has a result been too large? -/
def CalcAt (w : World) (g : Nat) (bd : Bool) : Prop := w.cell? ⟨g, 0, none⟩ = some (.bool bd) ∧ w.frozen? ⟨g, 0, none⟩ = false
theorem CalcAt.lt {w : World} {g : Nat} {bd : Bool} (h : CalcAt w g bd) : g < w.heap.size := by
  have := World.block_lt_of_cell? w _ h.1
  exact this
theorem CalcAt.grown {w w' : World} {g : Nat} {bd : Bool} {r : Option Nat} (h : CalcAt w g bd) (hg : w.grownBy w' r) (hr : r ≠ some g) : CalcAt w' g bd :=
  ⟨(hg.cell_far ⟨g, 0, none⟩ h.lt (fun e => hr e.symm)).trans h.1, (hg.frozen_far ⟨g, 0, none⟩ h.lt (fun e => hr e.symm)).trans h.2⟩
theorem CalcAt.below {w w' : World} {g : Nat} {bd : Bool} (h : CalcAt w g bd) (hB : Below w.heap.size w w') : CalcAt w' g bd := h.grown (bgrow hB none) (by simp)
theorem CalcAt.drew {w : World} {g : Nat} {bd : Bool} (h : CalcAt w g bd) : CalcAt w.drew g bd := h
theorem CalcAt.cell {w : World} {g : Nat} {bd : Bool} (h : CalcAt w g bd) : w.cell? ⟨g, 0, none⟩ = some (.bool bd) := h.1

/-- It returns v; the calculator's cell alone may have turned. -/
def RetC (g : Nat) (bd : Bool) (v : Value) (w : World) (e : Ending) (w' : World) : Prop := e = .returned v ∧ w.grownBy w' (some g) ∧ CalcAt w' g bd
theorem RetC.ok {g : Nat} {bd : Bool} {v : Value} {w : World} (h : CalcAt w g bd) {e : Ending} {w' : World} (hr : Ret v w e w') : RetC g bd v w e w' := ⟨hr.1, bgrow hr.2 _, h.below hr.2⟩
theorem RetC.bad {g : Nat} {bd : Bool} {v : Value} {w : World} (h : CalcAt w g bd) {e : Ending} {w' : World} (hr : e = .returned v ∧ Below w.heap.size (w.setCell ⟨g, 0, none⟩ (.bool true)) w') : RetC g true v w e w' := by
  have hs : w.heap.size = (w.setCell ⟨g, 0, none⟩ (.bool true)).heap.size := by simp [World.setCell]
  have hB := hr.2
  rw [hs] at hB
  refine ⟨hr.1, (grownBy_setCell_some w g 0 (.bool true)).trans (bgrow hB _), ?_⟩
  refine CalcAt.below ⟨?_, ?_⟩ hB
  · simp [go_sem, h.1]
  · simp [go_sem, h.2]

/-- A fraction or, where it is too large, 0. -/
def orZ (r : (Int × Int) × Bool) : Int × Int := if r.2 = true then r.1 else (0, 1)

theorem csub_any (g : Nat) (bd : Bool) (a b : Int × Int) (w : World) (ga : goodR a.1 a.2 = true) (gb : goodR b.1 b.2 = true) (hc : CalcAt w g bd) :
    Calls Tryz.prog 69 #[.pointer (some ⟨g, 0, none⟩), .agg #[.int .i64 a.1, .int .i64 a.2], .agg #[.int .i64 b.1, .int .i64 b.2]] w (RetC g (bd || !(subR a b).2) (ratV (orZ (subR a b))) w) := by
  cases h : (subR a b).2
  · refine (csub_bad g bd a b w ga gb h hc.1 hc.2).mono ?_
    intro e w' hr
    have := RetC.bad hc hr
    unfold orZ
    rw [h]
    cases bd <;> exact this
  · refine (csub_ok g a b w ga gb h).mono ?_
    intro e w' hr
    have := RetC.ok hc hr
    unfold orZ
    rw [h]
    cases bd <;> exact this

theorem GrowR.kept {w w' : World} {B g : Nat} {v : Value} {xs : List (Int × Int)} (h : GrowR w B v xs) (hg : w.grownBy w' (some g)) (hgB : g < B) : GrowR w' B v xs :=
  World.ownsRow.kept h hg (.inr (fun e => by have := (World.ownsRow.lt h g e).1; omega))

end Go.Proofs.YtjkgilenhoomoaaGreat

namespace Go.Proofs.YtjkgilenhoomoaaGreat
open Go.RowKit

/-- The number that a fraction is. -/
def qv (r : Int × Int) : Rat := (r.1 : Rat) / (r.2 : Rat)
theorem ratC_pos {d : Int} (h : 1 ≤ d) : (0 : Rat) < (d : Rat) := by
  have : (0 : Int) < d := by omega
  exact_mod_cast this
theorem ratC_ne {d : Int} (h : d ≠ 0) : (d : Rat) ≠ 0 := by exact_mod_cast h
theorem rat_div_le {a b c : Rat} (hb : 0 < b) : a / b ≤ c ↔ a ≤ c * b := by rw [← Rat.not_lt, ← Rat.not_lt, Rat.lt_div_iff hb]
theorem rat_le_div {a b c : Rat} (hb : 0 < b) : a ≤ c / b ↔ a * b ≤ c := by rw [← Rat.not_lt, ← Rat.not_lt, Rat.div_lt_iff hb]
theorem goodR_all {n d : Int} (h : goodR n d = true) : (1 ≤ d ∧ d ≤ 1000000000) ∧ (-1000000000 ≤ n ∧ n ≤ 1000000000) ∧ Nat.gcd n.natAbs d.natAbs = 1 := by
  have h1 := goodR_bd h
  unfold goodR gcdI at h
  simp only [Bool.and_eq_true, decide_eq_true_iff] at h
  exact ⟨h1.1, h1.2, by have := h.2; omega⟩
theorem goodR_of {n d : Int} (h1 : 1 ≤ d ∧ d ≤ 1000000000) (h2 : -1000000000 ≤ n ∧ n ≤ 1000000000) (h3 : Nat.gcd n.natAbs d.natAbs = 1) : goodR n d = true := by
  unfold goodR gcdI
  simp only [Bool.and_eq_true, decide_eq_true_iff, inB_true]
  exact ⟨⟨h1, h2⟩, by rw [h3]; rfl⟩
theorem ltB_qv {a b : Int × Int} (ha : goodR a.1 a.2 = true) (hb : goodR b.1 b.2 = true) : ltB a.1 a.2 b.1 b.2 = true ↔ qv a < qv b := by
  obtain ⟨⟨h1, _⟩, _⟩ := goodR_all ha
  obtain ⟨⟨h2, _⟩, _⟩ := goodR_all hb
  unfold ltB qv
  have e : (b.1 : Rat) / b.2 * a.2 = b.1 * a.2 / b.2 := by rw [Rat.div_def, Rat.div_def]; grind
  rw [decide_eq_true_iff, Rat.div_lt_iff (ratC_pos h1), e, Rat.lt_div_iff (ratC_pos h2)]
  norm_cast
theorem ltB_qvf {a b : Int × Int} (ha : goodR a.1 a.2 = true) (hb : goodR b.1 b.2 = true) : ltB a.1 a.2 b.1 b.2 = false ↔ qv b ≤ qv a := by
  rw [← Bool.not_eq_true, ltB_qv ha hb, Rat.not_lt]
theorem qv_inj {a b : Int × Int} (ha : goodR a.1 a.2 = true) (hb : goodR b.1 b.2 = true) (h : qv a = qv b) : a = b := by
  obtain ⟨⟨h1, _⟩, _, h3⟩ := goodR_all ha
  obtain ⟨⟨h2, _⟩, _, h4⟩ := goodR_all hb
  obtain ⟨n, d⟩ := a
  obtain ⟨m, e⟩ := b
  simp only at h1 h2 h3 h4
  unfold qv at h
  simp only at h
  have hx : n * e = m * d := by
    have h5 : (n : Rat) * e = m * d := by
      have := ratC_ne (d := d) (by omega)
      have := ratC_ne (d := e) (by omega)
      grind
    exact_mod_cast h5
  have hd : d.natAbs ∣ e.natAbs := by
    have h6 : d ∣ n * e := ⟨m, by rw [hx, Int.mul_comm]⟩
    have h7 : d.natAbs ∣ n.natAbs * e.natAbs := by rw [← Int.natAbs_mul]; exact Int.natAbs_dvd_natAbs.2 h6
    exact (Nat.Coprime.symm h3).dvd_of_dvd_mul_left h7
  have he : e.natAbs ∣ d.natAbs := by
    have h6 : e ∣ m * d := ⟨n, by rw [← hx, Int.mul_comm]⟩
    have h7 : e.natAbs ∣ m.natAbs * d.natAbs := by rw [← Int.natAbs_mul]; exact Int.natAbs_dvd_natAbs.2 h6
    exact (Nat.Coprime.symm h4).dvd_of_dvd_mul_left h7
  have hde : d = e := by have := Nat.dvd_antisymm hd he; omega
  subst hde
  have : n = m := Int.eq_of_mul_eq_mul_right (by omega) hx
  rw [this]
/-- What 'lowest terms' does: the number stays. -/
theorem low_spec {x y : Int} (h : y ≠ 0) : 1 ≤ lowD x y ∧ lowN x y * y = x * lowD x y ∧ Nat.gcd (lowN x y).natAbs (lowD x y).natAbs = 1 ∧ (lowN x y).natAbs ≤ x.natAbs ∧ (lowD x y).natAbs ≤ y.natAbs := by
  have hg : 0 < Nat.gcd x.natAbs y.natAbs := Nat.gcd_pos_of_pos_right _ (by omega)
  obtain ⟨g, hgg⟩ : ∃ g, Nat.gcd x.natAbs y.natAbs = g := ⟨_, rfl⟩
  rw [hgg] at hg
  have hgx : (g : Int) ∣ x := Int.ofNat_dvd_left.2 (by rw [← hgg]; exact Nat.gcd_dvd_left _ _)
  have hgy : (g : Int) ∣ y := Int.ofNat_dvd_left.2 (by rw [← hgg]; exact Nat.gcd_dvd_right _ _)
  obtain ⟨a, ha⟩ := hgx
  obtain ⟨b, hb⟩ := hgy
  have hg0 : (g : Int) ≠ 0 := by omega
  have hga : Nat.gcd a.natAbs b.natAbs = 1 := by
    have h1 : Nat.gcd (g * a.natAbs) (g * b.natAbs) = g := by
      have e1 : x.natAbs = g * a.natAbs := by rw [ha, Int.natAbs_mul]; simp
      have e2 : y.natAbs = g * b.natAbs := by rw [hb, Int.natAbs_mul]; simp
      rw [← e1, ← e2]; exact hgg
    rw [Nat.gcd_mul_left] at h1
    exact Nat.eq_of_mul_eq_mul_left hg (by rw [h1, Nat.mul_one])
  have ex : x.natAbs = g * a.natAbs := by rw [ha, Int.natAbs_mul]; simp
  have ey : y.natAbs = g * b.natAbs := by rw [hb, Int.natAbs_mul]; simp
  have lx : a.natAbs ≤ x.natAbs := by rw [ex]; exact Nat.le_mul_of_pos_left _ hg
  have ly : b.natAbs ≤ y.natAbs := by rw [ey]; exact Nat.le_mul_of_pos_left _ hg
  have hb0 : b ≠ 0 := fun e => h (by rw [hb, e, Int.mul_zero])
  have ta : x.tdiv g = a := by rw [ha]; exact Int.mul_tdiv_cancel_left _ hg0
  have tb : y.tdiv g = b := by rw [hb]; exact Int.mul_tdiv_cancel_left _ hg0
  unfold lowN lowD gcdI
  rw [hgg]
  by_cases q : y < 0
  · rw [if_pos q, if_pos q, Int.tdiv_neg, Int.tdiv_neg, ta, tb]
    have hbn : b < 0 := by
      apply Decidable.byContradiction
      intro r
      have : 0 ≤ (g : Int) * b := Int.mul_nonneg (by omega) (by omega)
      omega
    refine ⟨by omega, by rw [ha, hb]; grind, by rw [Int.natAbs_neg, Int.natAbs_neg]; exact hga, by rw [Int.natAbs_neg]; exact lx, by rw [Int.natAbs_neg]; exact ly⟩
  · rw [if_neg q, if_neg q, ta, tb]
    have hbn : 0 < b := by
      apply Decidable.byContradiction
      intro r
      have : 0 ≤ (g : Int) * (-b) := Int.mul_nonneg (by omega) (by omega)
      have : (g : Int) * (-b) = -(g * b) := by grind
      omega
    exact ⟨by omega, by rw [ha, hb]; grind, hga, lx, ly⟩
theorem mkR_good {x y : Int} (h : (mkR x y).2 = true) : goodR (mkR x y).1.1 (mkR x y).1.2 = true := by
  unfold mkR at h ⊢
  split
  · rename_i hg; exact hg
  · rename_i hg; rw [if_neg hg] at h; cases h
theorem mkR_qv {x y : Int} (h0 : y ≠ 0) (h : (mkR x y).2 = true) : qv (mkR x y).1 = (x : Rat) / (y : Rat) := by
  obtain ⟨h1, h2, _⟩ := low_spec (x := x) h0
  unfold mkR at h ⊢
  split
  · rename_i hg
    show (lowN x y : Rat) / (lowD x y : Rat) = _
    have h3 : (lowN x y : Rat) * y = x * lowD x y := by exact_mod_cast h2
    have := ratC_ne (d := lowD x y) (by omega)
    have := ratC_ne h0
    grind
  · rename_i hg; rw [if_neg hg] at h; cases h
theorem mkR_ok {x y : Int} (h0 : y ≠ 0) (hx : -1000000000 ≤ x ∧ x ≤ 1000000000) (hy : -1000000000 ≤ y ∧ y ≤ 1000000000) : (mkR x y).2 = true := by
  obtain ⟨h1, _, h3, h4, h5⟩ := low_spec (x := x) h0
  unfold mkR
  rw [if_pos (goodR_of (by omega) (by omega) h3)]
/-- Each fraction in lowest terms of small size is told. -/
theorem mkR_is {x y : Int} {r : Int × Int} (h0 : y ≠ 0) (hr : goodR r.1 r.2 = true) (h : qv r = (x : Rat) / (y : Rat)) : mkR x y = (r, true) := by
  obtain ⟨h1, h2, h3, _⟩ := low_spec (x := x) h0
  obtain ⟨⟨h5, h6⟩, h7, h8⟩ := goodR_all hr
  obtain ⟨n, d⟩ := r
  simp only at h5 h6 h7 h8
  have hx : lowN x y * d = n * lowD x y := by
    have e1 : (lowN x y : Rat) * y = x * lowD x y := by exact_mod_cast h2
    have e2 : (n : Rat) / d = (x : Rat) / (y : Rat) := h
    have e3 : (lowN x y : Rat) * d = n * lowD x y := by
      have := ratC_ne (d := d) (by omega)
      have := ratC_ne h0
      grind
    exact_mod_cast e3
  have hd : (lowD x y).natAbs ∣ d.natAbs := by
    have h9 : lowD x y ∣ lowN x y * d := ⟨n, by rw [hx, Int.mul_comm]⟩
    have h10 : (lowD x y).natAbs ∣ (lowN x y).natAbs * d.natAbs := by rw [← Int.natAbs_mul]; exact Int.natAbs_dvd_natAbs.2 h9
    exact (Nat.Coprime.symm h3).dvd_of_dvd_mul_left h10
  have he : d.natAbs ∣ (lowD x y).natAbs := by
    have h9 : d ∣ n * lowD x y := ⟨lowN x y, by rw [← hx, Int.mul_comm]⟩
    have h10 : d.natAbs ∣ n.natAbs * (lowD x y).natAbs := by rw [← Int.natAbs_mul]; exact Int.natAbs_dvd_natAbs.2 h9
    exact (Nat.Coprime.symm h8).dvd_of_dvd_mul_left h10
  have e1 : lowD x y = d := by have := Nat.dvd_antisymm hd he; omega
  have e2 : lowN x y = n := by rw [e1] at hx; exact Int.eq_of_mul_eq_mul_right (by omega) hx
  unfold mkR
  rw [e1, e2, if_pos (by exact hr)]

def mulR (a b : Int × Int) : (Int × Int) × Bool := mkR (a.1 * b.1) (a.2 * b.2)
def divR (a b : Int × Int) : (Int × Int) × Bool := if b.1 = 0 then ((0, 0), false) else mkR (a.1 * b.2) (a.2 * b.1)
theorem mulR_comm (a b : Int × Int) : mulR a b = mulR b a := by
  unfold mulR
  rw [Int.mul_comm a.1, Int.mul_comm a.2]
theorem good_den {r : Int × Int} (h : goodR r.1 r.2 = true) : 1 ≤ r.2 := (goodR_all h).1.1
theorem den_ne {a b : Int × Int} (ha : goodR a.1 a.2 = true) (hb : goodR b.1 b.2 = true) : a.2 * b.2 ≠ 0 := by
  have h1 := good_den ha
  have h2 := good_den hb
  exact Int.mul_ne_zero (by omega) (by omega)
theorem addR_qv {a b : Int × Int} (ha : goodR a.1 a.2 = true) (hb : goodR b.1 b.2 = true) (h : (addR a b).2 = true) : goodR (addR a b).1.1 (addR a b).1.2 = true ∧ qv (addR a b).1 = qv a + qv b := by
  refine ⟨mkR_good h, ?_⟩
  show qv (mkR _ _).1 = _
  rw [mkR_qv (den_ne ha hb) h]
  have := ratC_ne (d := a.2) (by have := good_den ha; omega)
  have := ratC_ne (d := b.2) (by have := good_den hb; omega)
  unfold qv
  push_cast
  grind
theorem subR_qv {a b : Int × Int} (ha : goodR a.1 a.2 = true) (hb : goodR b.1 b.2 = true) (h : (subR a b).2 = true) : goodR (subR a b).1.1 (subR a b).1.2 = true ∧ qv (subR a b).1 = qv a - qv b := by
  refine ⟨mkR_good h, ?_⟩
  show qv (mkR _ _).1 = _
  rw [mkR_qv (den_ne ha hb) h]
  have := ratC_ne (d := a.2) (by have := good_den ha; omega)
  have := ratC_ne (d := b.2) (by have := good_den hb; omega)
  unfold qv
  push_cast
  grind
theorem mulR_qv {a b : Int × Int} (ha : goodR a.1 a.2 = true) (hb : goodR b.1 b.2 = true) (h : (mulR a b).2 = true) : goodR (mulR a b).1.1 (mulR a b).1.2 = true ∧ qv (mulR a b).1 = qv a * qv b := by
  refine ⟨mkR_good h, ?_⟩
  show qv (mkR _ _).1 = _
  rw [mkR_qv (den_ne ha hb) h]
  have := ratC_ne (d := a.2) (by have := good_den ha; omega)
  have := ratC_ne (d := b.2) (by have := good_den hb; omega)
  unfold qv
  push_cast
  grind
theorem divR_qv {a b : Int × Int} (ha : goodR a.1 a.2 = true) (hb : goodR b.1 b.2 = true) (h : (divR a b).2 = true) : goodR (divR a b).1.1 (divR a b).1.2 = true ∧ qv (divR a b).1 = qv a / qv b ∧ b.1 ≠ 0 := by
  unfold divR at h ⊢
  by_cases q : b.1 = 0
  · rw [if_pos q] at h; cases h
  · rw [if_neg q] at h ⊢
    have h1 := good_den ha
    refine ⟨mkR_good h, ?_, q⟩
    rw [mkR_qv (Int.mul_ne_zero (by omega) q) h]
    have := ratC_ne (d := a.2) (by omega)
    have := ratC_ne (d := b.2) (by have := good_den hb; omega)
    have := ratC_ne q
    unfold qv
    push_cast
    grind
theorem unitR_qv {r : Int × Int} : unitR r.1 r.2 = true ↔ goodR r.1 r.2 = true ∧ 0 ≤ qv r ∧ qv r ≤ 1 := by
  unfold unitR
  rw [Bool.and_eq_true, inB_true]
  constructor
  · rintro ⟨h1, h2, h3⟩
    have hp := ratC_pos (good_den h1)
    refine ⟨h1, ?_, ?_⟩
    · unfold qv; rw [rat_le_div hp]
      rw [Rat.zero_mul]; exact_mod_cast h2
    · unfold qv; rw [rat_div_le hp]
      rw [Rat.one_mul]; exact_mod_cast h3
  · rintro ⟨h1, h2, h3⟩
    have hp := ratC_pos (good_den h1)
    unfold qv at h2 h3
    rw [rat_le_div hp, Rat.zero_mul] at h2
    rw [rat_div_le hp, Rat.one_mul] at h3
    exact ⟨h1, by exact_mod_cast h2, by exact_mod_cast h3⟩

end Go.Proofs.YtjkgilenhoomoaaGreat

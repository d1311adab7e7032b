/- Sums and differences of fractions. No conditions but bounds. -/
import Derived.Test.YtfcanpebagpdbaaMake
import Derived.Test.YtfcanpebagpdbaaFlat
import Derived.Deep.RegionHeld3
namespace Go.Proofs.Ytfcanpebagpdbaa
open Go.RowKit

theorem mkR_bd (x y : Int) (h : (mkR x y).2 = true) : BdR (mkR x y).1.1 (mkR x y).1.2 := by
  unfold mkR at h ⊢
  split
  · rename_i hg; exact goodR_bd hg
  · rename_i hg; rw [if_neg hg] at h; cases h
def subR (a b : Int × Int) : (Int × Int) × Bool := mkR (a.1 * b.2 - b.1 * a.2) (a.2 * b.2)
def addR (a b : Int × Int) : (Int × Int) × Bool := mkR (a.1 * b.2 + b.1 * a.2) (a.2 * b.2)
theorem BdR.den {n d n' d' : Int} (h : BdR n d) (h' : BdR n' d') : 1 ≤ d * d' ∧ d * d' ≤ 1000000000000000000 := by
  obtain ⟨⟨h1, h2⟩, _, _⟩ := h
  obtain ⟨⟨h3, h4⟩, _, _⟩ := h'
  have a1 : d * d' ≤ 1000000000 * d' := Int.mul_le_mul_of_nonneg_right h2 (by omega)
  have a2 : 1 * d' ≤ d * d' := Int.mul_le_mul_of_nonneg_right h1 (by omega)
  omega

set_option maxHeartbeats 800000 in
theorem raSub_any (a b : Int × Int) (w : World) (ha : BdR a.1 a.2) (hb : BdR b.1 b.2) :
    Calls Try.prog 133 #[.agg #[.int .i64 a.1, .int .i64 a.2], .agg #[.int .i64 b.1, .int .i64 b.2]] w (Ret (.tuple #[ratV (subR a b).1, .bool (subR a b).2]) w) := by
  obtain ⟨n, d⟩ := a
  obtain ⟨n', d'⟩ := b
  show Calls _ _ #[.agg #[.int .i64 n, .int .i64 d], .agg #[.int .i64 n', .int .i64 d']] w _
  have p1 : -1000000000000000000 ≤ n * d' ∧ n * d' ≤ 1000000000000000000 := ha.prod hb
  have p2 : -1000000000000000000 ≤ n' * d ∧ n' * d ≤ 1000000000000000000 := hb.prod ha
  have p3 : 1 ≤ d * d' ∧ d * d' ≤ 1000000000000000000 := ha.den hb
  have c1 := fun w (h : _) (h' : _) => raMake_any (n * d' - n' * d) (d * d') w h h' (by omega)
  unfold subR
  simp only
  obtain ⟨x, hx⟩ : ∃ x, n * d' = x := ⟨_, rfl⟩
  obtain ⟨y, hy⟩ : ∃ y, n' * d = y := ⟨_, rfl⟩
  obtain ⟨z, hz⟩ : ∃ z, d * d' = z := ⟨_, rfl⟩
  rw [hx] at p1 c1 ⊢
  rw [hy] at p2 c1 ⊢
  rw [hz] at p3 c1 ⊢
  replace c1 := fun w => c1 w (by omega) (by omega)
  generalize mkR (x - y) z = R at *
  obtain ⟨⟨r1, r2⟩, r3⟩ := R
  have hB : Below w.heap.size w (((w.alloc (.cells #[.int .i64 n, .int .i64 d] 34)).alloc (.cells #[.int .i64 n', .int .i64 d'] 34)).alloc (.cells #[.int .i64 0, .int .i64 0] 34)) :=
    (((Below.refl _ _).alloc (Nat.le_refl _) _).alloc (by simp) _).alloc (by simp; omega) _
  clear ha hb
  have c1' := Lib.hid c1
  clear c1
  go_enter Try.func133, Try.ntmps133
  go_wp2_with fail
  refine (c1'.out _).mono ?_
  rintro e w1 ⟨rfl, hB1⟩
  obtain ⟨hc1, hf1⟩ := bcell hB1
  have hz1 : w.heap.size + 1 + 1 < w1.heap.size := by have := hB1.size; simp at this; omega
  have hB2 := hB.trans (hB1.mono hB.size)
  have q0 : w1.cell? ⟨w.heap.size + 1 + 1, 0, none⟩ = some (.int .i64 0) := by rw [hc1 _ _ (by simp)]; simp [go_sem]
  have q1 : w1.cell? ⟨w.heap.size + 1 + 1, 1, none⟩ = some (.int .i64 0) := by rw [hc1 _ _ (by simp)]; simp [go_sem]
  have q2 : w1.frozen? ⟨w.heap.size + 1 + 1, 0, none⟩ = false := by rw [hf1 _ _ (by simp)]; simp [go_sem]
  have q3 : w1.frozen? ⟨w.heap.size + 1 + 1, 1, none⟩ = false := by rw [hf1 _ _ (by simp)]; simp [go_sem]
  clear hB hB1 hc1 hf1
  go_wp2
  refine bodyPost_ret (v := .tuple #[ratV (r1, r2), .bool r3]) (by simp [results, Try.results133, go_sem, q0, q1, ratV]) rfl ⟨rfl, ?_⟩
  exact (hB2.setCell (p := ⟨w.heap.size + 1 + 1, 0, none⟩) (by show w.heap.size ≤ w.heap.size + 1 + 1; omega) _).setCell (p := ⟨w.heap.size + 1 + 1, 1, none⟩) (by show w.heap.size ≤ w.heap.size + 1 + 1; omega) _
set_option maxHeartbeats 800000 in
theorem raAdd_any (a b : Int × Int) (w : World) (ha : BdR a.1 a.2) (hb : BdR b.1 b.2) :
    Calls Try.prog 136 #[.agg #[.int .i64 a.1, .int .i64 a.2], .agg #[.int .i64 b.1, .int .i64 b.2]] w (Ret (.tuple #[ratV (addR a b).1, .bool (addR a b).2]) w) := by
  obtain ⟨n, d⟩ := a
  obtain ⟨n', d'⟩ := b
  show Calls _ _ #[.agg #[.int .i64 n, .int .i64 d], .agg #[.int .i64 n', .int .i64 d']] w _
  have p1 : -1000000000000000000 ≤ n * d' ∧ n * d' ≤ 1000000000000000000 := ha.prod hb
  have p2 : -1000000000000000000 ≤ n' * d ∧ n' * d ≤ 1000000000000000000 := hb.prod ha
  have p3 : 1 ≤ d * d' ∧ d * d' ≤ 1000000000000000000 := ha.den hb
  have c1 := fun w (h : _) (h' : _) => raMake_any (n * d' + n' * d) (d * d') w h h' (by omega)
  unfold addR
  simp only
  obtain ⟨x, hx⟩ : ∃ x, n * d' = x := ⟨_, rfl⟩
  obtain ⟨y, hy⟩ : ∃ y, n' * d = y := ⟨_, rfl⟩
  obtain ⟨z, hz⟩ : ∃ z, d * d' = z := ⟨_, rfl⟩
  rw [hx] at p1 c1 ⊢
  rw [hy] at p2 c1 ⊢
  rw [hz] at p3 c1 ⊢
  replace c1 := fun w => c1 w (by omega) (by omega)
  generalize mkR (x + y) z = R at *
  obtain ⟨⟨r1, r2⟩, r3⟩ := R
  have hB : Below w.heap.size w (((w.alloc (.cells #[.int .i64 n, .int .i64 d] 34)).alloc (.cells #[.int .i64 n', .int .i64 d'] 34)).alloc (.cells #[.int .i64 0, .int .i64 0] 34)) :=
    (((Below.refl _ _).alloc (Nat.le_refl _) _).alloc (by simp) _).alloc (by simp; omega) _
  clear ha hb
  have c1' := Lib.hid c1
  clear c1
  go_enter Try.func136, Try.ntmps136
  go_wp2_with fail
  refine (c1'.out _).mono ?_
  rintro e w1 ⟨rfl, hB1⟩
  obtain ⟨hc1, hf1⟩ := bcell hB1
  have hz1 : w.heap.size + 1 + 1 < w1.heap.size := by have := hB1.size; simp at this; omega
  have hB2 := hB.trans (hB1.mono hB.size)
  have q0 : w1.cell? ⟨w.heap.size + 1 + 1, 0, none⟩ = some (.int .i64 0) := by rw [hc1 _ _ (by simp)]; simp [go_sem]
  have q1 : w1.cell? ⟨w.heap.size + 1 + 1, 1, none⟩ = some (.int .i64 0) := by rw [hc1 _ _ (by simp)]; simp [go_sem]
  have q2 : w1.frozen? ⟨w.heap.size + 1 + 1, 0, none⟩ = false := by rw [hf1 _ _ (by simp)]; simp [go_sem]
  have q3 : w1.frozen? ⟨w.heap.size + 1 + 1, 1, none⟩ = false := by rw [hf1 _ _ (by simp)]; simp [go_sem]
  clear hB hB1 hc1 hf1
  go_wp2
  refine bodyPost_ret (v := .tuple #[ratV (r1, r2), .bool r3]) (by simp [results, Try.results136, go_sem, q0, q1, ratV]) rfl ⟨rfl, ?_⟩
  exact (hB2.setCell (p := ⟨w.heap.size + 1 + 1, 0, none⟩) (by show w.heap.size ≤ w.heap.size + 1 + 1; omega) _).setCell (p := ⟨w.heap.size + 1 + 1, 1, none⟩) (by show w.heap.size ≤ w.heap.size + 1 + 1; omega) _

theorem areRats_true (v : Value) (xs : List (Int × Int)) (w : World) (hv : RatsV w v xs) (hm : xs.length ≤ 1099511627776) (hg : ∀ i, i < xs.length → goodR (nthR xs i).1 (nthR xs i).2 = true) :
    Calls Try.prog 167 #[v] w (Ret (.bool true) w) := by
  obtain ⟨ao, cap, rfl, _, _, H⟩ := hv.form
  obtain ⟨n, hn⟩ : ∃ n, xs.length = n := ⟨_, rfl⟩
  rw [hn] at hm H hv hg ⊢
  have hn' := Lib.hid hn
  have hv' := Lib.hid hv
  have hg' := Lib.hid hg
  have H' := Lib.hid H
  clear hn hv hg H
  go_enter Try.func167, Try.ntmps167
  go_wp2
  go_loopw [7] (fun i wr => ∃ k : Nat, k ≤ n ∧ i = .int .i64 k ∧ Below w.heap.size w wr) (fun i _ => n - (intOf i).toNat)
  case atStart => exact ⟨0, Nat.zero_le _, rfl, Below.refl _ _⟩
  case round =>
    obtain ⟨k, hk, rfl, hB⟩ := hrel
    by_cases hlt : k < n
    · obtain ⟨b, off, rfl, hc0, hc1⟩ := H'.out k hlt
      rw [← hB.cell (World.block_lt_of_cell? w _ hc0)] at hc0
      rw [← hB.cell (World.block_lt_of_cell? w _ hc1)] at hc1
      have c1 := fun w => isRat_any (nthR xs k).1 (nthR xs k).2 w
      rw [hg'.out k hlt] at c1
      generalize nthR xs k = r at *
      obtain ⟨p, q⟩ := r
      simp only at c1 hc0 hc1
      have hB1 : Below w.heap.size w (wr.alloc (.cells #[.int .i64 p, .int .i64 q] 34)) := hB.alloc hB.size _
      have c1' := Lib.hid c1
      clear c1
      go_wp2_with fail
      refine (c1'.out _).mono ?_
      rintro e w1 ⟨rfl, hB2⟩
      have hB3 := hB1.trans (hB2.mono hB1.size)
      go_wp2
      go_roundw
      case rel => exact ⟨k + 1, by omega, by go_num, hB3⟩
      case measure => simp [intOf]; omega
    · clear H'
      go_wp2
      go_ret
      exact ⟨rfl, hB⟩
theorem negated_any (n d : Int) (w : World) (h : -1000000000 ≤ n ∧ n ≤ 1000000000) : Calls Try.prog 169 #[.agg #[.int .i64 n, .int .i64 d]] w (Ret (ratV (-n, d)) w) := by
  have hB : Below w.heap.size w ((w.alloc (.cells #[.int .i64 n, .int .i64 d] 34)).alloc (.cells #[.int .i64 (-n), .int .i64 d] 34)) := ((Below.refl _ _).alloc (Nat.le_refl _) _).alloc (by simp) _
  go_enter Try.func169, Try.ntmps169
  go_wp2
  refine bodyPost_ret (v := ratV (-n, d)) (by simp [results, Try.results169, go_sem, ratV]) rfl ⟨rfl, ?_⟩
  exact hB

set_option maxHeartbeats 1600000 in
theorem AddRats_any (a b : Int × Int) (w : World) (ga : goodR a.1 a.2 = true) (gb : goodR b.1 b.2 = true) :
    Calls Try.prog 162 #[.agg #[.int .i64 a.1, .int .i64 a.2], .agg #[.int .i64 b.1, .int .i64 b.2]] w (Ret (.tuple #[ratV (addR a b).1, .bool (addR a b).2]) w) := by
  have ha : BdR a.1 a.2 := goodR_bd ga
  have hb : BdR b.1 b.2 := goodR_bd gb
  obtain ⟨n, d⟩ := a
  obtain ⟨n', d'⟩ := b
  show Calls _ _ #[.agg #[.int .i64 n, .int .i64 d], .agg #[.int .i64 n', .int .i64 d']] w _
  have p1 : -1000000000000000000 ≤ n * d' ∧ n * d' ≤ 1000000000000000000 := ha.prod hb
  have p2 : -1000000000000000000 ≤ n' * d ∧ n' * d ≤ 1000000000000000000 := hb.prod ha
  have p3 : 1 ≤ d * d' ∧ d * d' ≤ 1000000000000000000 := ha.den hb
  have c1 := fun w (h : _) (h' : _) => lowest_any (n * d' + n' * d) (d * d') w h h' (by omega)
  unfold addR
  simp only
  obtain ⟨x, hx⟩ : ∃ x, n * d' = x := ⟨_, rfl⟩
  obtain ⟨y, hy⟩ : ∃ y, n' * d = y := ⟨_, rfl⟩
  obtain ⟨z, hz⟩ : ∃ z, d * d' = z := ⟨_, rfl⟩
  rw [hx] at p1 c1 ⊢
  rw [hy] at p2 c1 ⊢
  rw [hz] at p3 c1 ⊢
  replace c1 := fun w => c1 w (by omega) (by omega)
  generalize mkR (x + y) z = R at *
  obtain ⟨⟨r1, r2⟩, r3⟩ := R
  obtain ⟨W, hW⟩ : ∃ W, ((((w.alloc (.cells #[.int .i64 n, .int .i64 d] 34)).alloc (.cells #[.int .i64 n', .int .i64 d'] 34)).alloc (.cells #[.int .i64 0, .int .i64 0] 34)).alloc (.cells #[.int .i64 n, .int .i64 d, .int .i64 n', .int .i64 d'] 34)) = W := ⟨_, rfl⟩
  have hB : Below w.heap.size w W := by rw [← hW]; exact ((((Below.refl _ _).alloc (Nat.le_refl _) _).alloc (by simp) _).alloc (by simp; omega) _).alloc (by simp; omega) _
  have hz : w.heap.size + 1 + 1 + 1 < W.heap.size := by rw [← hW]; simp
  have hv : RatsV W (.slice (some ⟨w.heap.size + 1 + 1 + 1, 0, none⟩) 2 2) [(n, d), (n', d')] := by
    refine RatsV.mk (xs := [(n, d), (n', d')]) ⟨Nat.le_refl _, fun e => by cases e⟩ (by unfold maxLen; simp) (fun i hi => ⟨_, 0, rfl, ?_⟩)
    rw [← hW]
    have : i = 0 ∨ i = 1 := by simp at hi; omega
    rcases this with rfl | rfl
    · exact ⟨by simp [go_sem, nthR], by simp [go_sem, nthR]⟩
    · exact ⟨by simp [go_sem, nthR], by simp [go_sem, nthR]⟩
  have c0 := areRats_true _ _ _ hv (by simp) (fun i hi => by
    have : i = 0 ∨ i = 1 := by simp at hi; omega
    rcases this with rfl | rfl
    · exact ga
    · exact gb)
  have k0 : W.cell? ⟨w.heap.size, 0, none⟩ = some (.int .i64 n) := by rw [← hW]; simp [go_sem]
  have k1 : W.cell? ⟨w.heap.size, 1, none⟩ = some (.int .i64 d) := by rw [← hW]; simp [go_sem]
  have k2 : W.cell? ⟨w.heap.size + 1, 0, none⟩ = some (.int .i64 n') := by rw [← hW]; simp [go_sem]
  have k3 : W.cell? ⟨w.heap.size + 1, 1, none⟩ = some (.int .i64 d') := by rw [← hW]; simp [go_sem]
  have k4 : W.cell? ⟨w.heap.size + 1 + 1, 0, none⟩ = some (.int .i64 0) := by rw [← hW]; simp [go_sem]
  have k5 : W.cell? ⟨w.heap.size + 1 + 1, 1, none⟩ = some (.int .i64 0) := by rw [← hW]; simp [go_sem]
  have k6 : W.frozen? ⟨w.heap.size + 1 + 1, 0, none⟩ = false := by rw [← hW]; simp [go_sem]
  have k7 : W.frozen? ⟨w.heap.size + 1 + 1, 1, none⟩ = false := by rw [← hW]; simp [go_sem]
  clear ha hb ga gb hv
  have c0' := Lib.hid c0
  have c1' := Lib.hid c1
  have hW' := Lib.hid hW
  clear c0 c1 hW
  go_enter Try.func162, Try.ntmps162
  go_wp2_with fail
  rw [hW'.out]
  go_wp2_with fail
  refine (c0'.out).mono ?_
  rintro e w1 ⟨rfl, hB1⟩
  obtain ⟨hc1, hf1⟩ := bcell hB1
  have hb1 := hB.trans (hB1.mono hB.size)
  have hz1 := Nat.lt_of_lt_of_le hz hB1.size
  rw [← hc1 _ _ (by omega)] at k0 k1 k2 k3 k4 k5
  rw [← hf1 _ _ (by omega)] at k6 k7
  clear hB hz hB1 hc1 hf1
  go_wp2_with fail
  refine (c1'.out _).mono ?_
  rintro e w2 ⟨rfl, hB2⟩
  obtain ⟨hc2, hf2⟩ := bcell hB2
  have hb2 := hb1.trans (hB2.mono hb1.size)
  have hz2 := Nat.lt_of_lt_of_le hz1 hB2.size
  rw [← hc2 _ _ (by omega)] at k4 k5
  rw [← hf2 _ _ (by omega)] at k6 k7
  clear k0 k1 k2 k3 hB2 hc2 hf2 hb1 hz1
  go_wp2
  refine bodyPost_ret (v := .tuple #[ratV (r1, r2), .bool r3]) (by simp [results, Try.results162, go_sem, k4, k5, ratV]) rfl ⟨rfl, ?_⟩
  exact (hb2.setCell (p := ⟨w.heap.size + 1 + 1, 0, none⟩) (by show w.heap.size ≤ w.heap.size + 1 + 1; omega) _).setCell (p := ⟨w.heap.size + 1 + 1, 1, none⟩) (by show w.heap.size ≤ w.heap.size + 1 + 1; omega) _

theorem goodR_neg (n d : Int) : goodR (-n) d = goodR n d := by
  have h1 : gcdI (-n) d = gcdI n d := by unfold gcdI; rw [Int.natAbs_neg]
  have h2 : inB (-n) (-1000000000) 1000000000 = inB n (-1000000000) 1000000000 := by
    cases h : inB n (-1000000000) 1000000000
    · cases h' : inB (-n) (-1000000000) 1000000000
      · rfl
      · rw [inB_true] at h'
        have : inB n (-1000000000) 1000000000 = true := inB_true.2 (by omega)
        rw [h] at this; cases this
    · rw [inB_true] at h
      exact inB_true.2 (by omega)
  unfold goodR
  rw [h1, h2]
theorem addR_neg (a b : Int × Int) : addR a (-b.1, b.2) = subR a b := by
  unfold addR subR
  simp only [Int.neg_mul, ← Int.sub_eq_add_neg]

set_option linter.unusedSimpArgs false in
set_option maxHeartbeats 1600000 in
theorem SubtractRats_any (a b : Int × Int) (w : World) (ga : goodR a.1 a.2 = true) (gb : goodR b.1 b.2 = true) :
    Calls Try.prog 164 #[.agg #[.int .i64 a.1, .int .i64 a.2], .agg #[.int .i64 b.1, .int .i64 b.2]] w (Ret (.tuple #[ratV (subR a b).1, .bool (subR a b).2]) w) := by
  have c2 := fun w => AddRats_any a (-b.1, b.2) w ga (by simp only; rw [goodR_neg]; exact gb)
  rw [addR_neg] at c2
  have c1 := fun w => negated_any b.1 b.2 w (goodR_bd gb).2
  generalize subR a b = R at *
  obtain ⟨n, d⟩ := a
  obtain ⟨n', d'⟩ := b
  show Calls _ _ #[.agg #[.int .i64 n, .int .i64 d], .agg #[.int .i64 n', .int .i64 d']] w _
  obtain ⟨⟨r1, r2⟩, r3⟩ := R
  simp only at c1 c2
  obtain ⟨W, hW⟩ : ∃ W, (((w.alloc (.cells #[.int .i64 n, .int .i64 d] 34)).alloc (.cells #[.int .i64 n', .int .i64 d'] 34)).alloc (.cells #[.int .i64 0, .int .i64 0] 34)) = W := ⟨_, rfl⟩
  have hB : Below w.heap.size w W := by rw [← hW]; exact (((Below.refl _ _).alloc (Nat.le_refl _) _).alloc (by simp) _).alloc (by simp; omega) _
  have hz : w.heap.size + 1 + 1 < W.heap.size := by rw [← hW]; simp
  have k0 : W.cell? ⟨w.heap.size, 0, none⟩ = some (.int .i64 n) := by rw [← hW]; simp [go_sem]
  have k1 : W.cell? ⟨w.heap.size, 1, none⟩ = some (.int .i64 d) := by rw [← hW]; simp [go_sem]
  have k2 : W.cell? ⟨w.heap.size + 1, 0, none⟩ = some (.int .i64 n') := by rw [← hW]; simp [go_sem]
  have k3 : W.cell? ⟨w.heap.size + 1, 1, none⟩ = some (.int .i64 d') := by rw [← hW]; simp [go_sem]
  have k4 : W.cell? ⟨w.heap.size + 1 + 1, 0, none⟩ = some (.int .i64 0) := by rw [← hW]; simp [go_sem]
  have k5 : W.cell? ⟨w.heap.size + 1 + 1, 1, none⟩ = some (.int .i64 0) := by rw [← hW]; simp [go_sem]
  have k6 : W.frozen? ⟨w.heap.size + 1 + 1, 0, none⟩ = false := by rw [← hW]; simp [go_sem]
  have k7 : W.frozen? ⟨w.heap.size + 1 + 1, 1, none⟩ = false := by rw [← hW]; simp [go_sem]
  clear ga gb
  have c1' := Lib.hid c1
  have c2' := Lib.hid c2
  have hW' := Lib.hid hW
  clear c1 c2 hW
  go_enter Try.func164, Try.ntmps164
  go_wp2_with fail
  rw [hW'.out]
  have hBd := hB.drew
  refine wp_region_held_drew (S := (fun w' => (w'.cell? ⟨w.heap.size, 0, none⟩ = some (.int .i64 n) ∧ w'.cell? ⟨w.heap.size, 1, none⟩ = some (.int .i64 d)) ∧ w'.cell? ⟨w.heap.size + 1, 0, none⟩ = some (.int .i64 n') ∧ w'.cell? ⟨w.heap.size + 1, 1, none⟩ = some (.int .i64 d'))) (by kernel_rfl) (by (try dsimp only); (first | exact ⟨⟨k0, k1⟩, k2, k3⟩ | exact ⟨⟨a0, a1⟩, a2, a3⟩ | exact ⟨⟨b0, b1⟩, b2, b3⟩ | exact ⟨⟨(hb3.cell (p := ⟨w.heap.size, 0, none⟩) (by show w.heap.size < w.heap.size + 1 + 1; omega)).trans b0, (hb3.cell (p := ⟨w.heap.size, 1, none⟩) (by show w.heap.size < w.heap.size + 1 + 1; omega)).trans b1⟩, (hb3.cell (p := ⟨w.heap.size + 1, 0, none⟩) (Nat.lt_succ_self _)).trans b2, (hb3.cell (p := ⟨w.heap.size + 1, 1, none⟩) (Nat.lt_succ_self _)).trans b3⟩)) (fun hHeld => ?_)
  refine wpAnyH_take (i := 0) (oi := Oper.mk _ _ _ _ _ _) (v := ?_) rfl (by kernel_rfl) (by kernel_rfl) (by kernel_rfl) (fun _ _ _ h => h) (Or.inl ⟨by kernel_rfl, ?_⟩) hHeld ?_
  rotate_left
  · (intro wS hSw; (try dsimp only at hSw); go_simp; all_goals (with_reducible rfl))
  try simp only [Act.put, List.setIfInBounds_toArray, List.set_cons_zero, List.set_cons_succ]
  refine wpAnyH_take (i := 1) (oi := Oper.mk _ _ _ _ _ _) (v := ?_) rfl (by kernel_rfl) (by kernel_rfl) (by kernel_rfl) (fun _ _ _ h => h) (Or.inl ⟨by kernel_rfl, ?_⟩) hHeld ?_
  rotate_left
  · (intro wS hSw; (try dsimp only at hSw); go_simp; all_goals (with_reducible rfl))
  try simp only [Act.put, List.setIfInBounds_toArray, List.set_cons_zero, List.set_cons_succ]
  refine wpAnyH_ready (rs := [2]) (by kernel_rfl) (by simp) ?_
  refine AllReadyH.cons (o := Oper.mk _ _ _ _ _ _) rfl (fun KK hKK => ?_) AllReadyH.nil
  rw [if_pos (by kernel_rfl)]
  go_simp
  refine (c1'.out _).mono ?_
  rintro e w1 ⟨rfl, hB1⟩
  obtain ⟨hc1, hf1⟩ := bcell hB1
  have hb1 := hBd.trans (hB1.mono hBd.size)
  have hz1 : w.heap.size + 1 + 1 < w1.heap.size := Nat.lt_of_lt_of_le hz hB1.size
  have a0 := (hc1 _ _ (show w.heap.size < W.heap.size by omega)).trans k0
  have a1 := (hc1 _ _ (show w.heap.size < W.heap.size by omega)).trans k1
  have a2 := (hc1 _ _ (show w.heap.size + 1 < W.heap.size by omega)).trans k2
  have a3 := (hc1 _ _ (show w.heap.size + 1 < W.heap.size by omega)).trans k3
  have a4 := (hc1 _ _ hz).trans k4
  have a5 := (hc1 _ _ hz).trans k5
  have a6 := (hf1 _ _ hz).trans k6
  have a7 := (hf1 _ _ hz).trans k7
  clear hc1 hf1
  try dsimp only
  refine hKK.out _ _ (by (try dsimp only); (first | exact ⟨⟨k0, k1⟩, k2, k3⟩ | exact ⟨⟨a0, a1⟩, a2, a3⟩ | exact ⟨⟨b0, b1⟩, b2, b3⟩ | exact ⟨⟨(hb3.cell (p := ⟨w.heap.size, 0, none⟩) (by show w.heap.size < w.heap.size + 1 + 1; omega)).trans b0, (hb3.cell (p := ⟨w.heap.size, 1, none⟩) (by show w.heap.size < w.heap.size + 1 + 1; omega)).trans b1⟩, (hb3.cell (p := ⟨w.heap.size + 1, 0, none⟩) (Nat.lt_succ_self _)).trans b2, (hb3.cell (p := ⟨w.heap.size + 1, 1, none⟩) (Nat.lt_succ_self _)).trans b3⟩)) (fun hHeld => ?_)
  clear hKK KK
  try simp only [Act.put, List.setIfInBounds_toArray, List.set_cons_zero, List.set_cons_succ]
  refine wpAnyH_ready (rs := [3]) (by kernel_rfl) (by simp) ?_
  refine AllReadyH.cons (o := Oper.mk _ _ _ _ _ _) rfl (fun KK hKK => ?_) AllReadyH.nil
  rw [if_pos (by kernel_rfl)]
  go_simp
  refine (c2'.out _).mono ?_
  rintro e w2 ⟨rfl, hB2⟩
  obtain ⟨hc2, hf2⟩ := bcell hB2
  have hb2 := hb1.trans (hB2.mono hb1.size)
  have hz2 : w.heap.size + 1 + 1 < w2.heap.size := Nat.lt_of_lt_of_le hz1 hB2.size
  have b0 := (hc2 _ _ (show w.heap.size < w1.heap.size by omega)).trans a0
  have b1 := (hc2 _ _ (show w.heap.size < w1.heap.size by omega)).trans a1
  have b2 := (hc2 _ _ (show w.heap.size + 1 < w1.heap.size by omega)).trans a2
  have b3 := (hc2 _ _ (show w.heap.size + 1 < w1.heap.size by omega)).trans a3
  have b4 := (hc2 _ _ hz1).trans a4
  have b5 := (hc2 _ _ hz1).trans a5
  have b6 := (hf2 _ _ hz1).trans a6
  have b7 := (hf2 _ _ hz1).trans a7
  clear hc2 hf2
  try dsimp only
  refine hKK.out _ _ (by (try dsimp only); (first | exact ⟨⟨k0, k1⟩, k2, k3⟩ | exact ⟨⟨a0, a1⟩, a2, a3⟩ | exact ⟨⟨b0, b1⟩, b2, b3⟩ | exact ⟨⟨(hb3.cell (p := ⟨w.heap.size, 0, none⟩) (by show w.heap.size < w.heap.size + 1 + 1; omega)).trans b0, (hb3.cell (p := ⟨w.heap.size, 1, none⟩) (by show w.heap.size < w.heap.size + 1 + 1; omega)).trans b1⟩, (hb3.cell (p := ⟨w.heap.size + 1, 0, none⟩) (Nat.lt_succ_self _)).trans b2, (hb3.cell (p := ⟨w.heap.size + 1, 1, none⟩) (Nat.lt_succ_self _)).trans b3⟩)) (fun hHeld => ?_)
  clear hKK KK
  try simp only [Act.put, List.setIfInBounds_toArray, List.set_cons_zero, List.set_cons_succ]
  refine wpAnyH_take (i := 4) (oi := Oper.mk _ _ _ _ _ _) (v := ?_) rfl (by kernel_rfl) (by kernel_rfl) (by kernel_rfl) (fun _ _ _ h => h) (Or.inl ⟨by kernel_rfl, ?_⟩) hHeld ?_
  rotate_left
  · (intro wS hSw; (try dsimp only at hSw); go_simp; all_goals (with_reducible rfl))
  try simp only [Act.put, List.setIfInBounds_toArray, List.set_cons_zero, List.set_cons_succ]
  refine wpAnyH_take (i := 5) (oi := Oper.mk _ _ _ _ _ _) (v := ?_) rfl (by kernel_rfl) (by kernel_rfl) (by kernel_rfl) (fun _ _ _ h => h) (Or.inl ⟨by kernel_rfl, ?_⟩) hHeld ?_
  rotate_left
  · (intro wS hSw; (try dsimp only at hSw); go_simp; all_goals (with_reducible rfl))
  try simp only [Act.put, List.setIfInBounds_toArray, List.set_cons_zero, List.set_cons_succ]
  refine wpAnyH_ready (rs := [6]) (by kernel_rfl) (by simp) ?_
  refine AllReadyH.cons (o := Oper.mk _ _ _ _ _ _) rfl (fun KK hKK => ?_) AllReadyH.nil
  rw [if_pos (by kernel_rfl)]
  go_simp
  have hb3 := ((Below.refl (w.heap.size + 1 + 1) w2).setCell (p := ⟨w.heap.size + 1 + 1, 0, none⟩) (Nat.le_refl _) (.int .i64 r1)).setCell (p := ⟨w.heap.size + 1 + 1, 1, none⟩) (Nat.le_refl _) (.int .i64 r2)
  try dsimp only
  refine hKK.out _ _ (by (try dsimp only); (first | exact ⟨⟨k0, k1⟩, k2, k3⟩ | exact ⟨⟨a0, a1⟩, a2, a3⟩ | exact ⟨⟨b0, b1⟩, b2, b3⟩ | exact ⟨⟨(hb3.cell (p := ⟨w.heap.size, 0, none⟩) (by show w.heap.size < w.heap.size + 1 + 1; omega)).trans b0, (hb3.cell (p := ⟨w.heap.size, 1, none⟩) (by show w.heap.size < w.heap.size + 1 + 1; omega)).trans b1⟩, (hb3.cell (p := ⟨w.heap.size + 1, 0, none⟩) (Nat.lt_succ_self _)).trans b2, (hb3.cell (p := ⟨w.heap.size + 1, 1, none⟩) (Nat.lt_succ_self _)).trans b3⟩)) (fun hHeld => ?_)
  clear hKK KK
  try simp only [Act.put, List.setIfInBounds_toArray, List.set_cons_zero, List.set_cons_succ]
  refine wpAnyH_take (i := 7) (oi := Oper.mk _ _ _ _ _ _) (v := ?_) rfl (by kernel_rfl) (by kernel_rfl) (by kernel_rfl) (fun _ _ _ h => h) (Or.inl ⟨by kernel_rfl, ?_⟩) hHeld ?_
  rotate_left
  · (intro wS hSw; (try dsimp only at hSw); go_simp; all_goals (with_reducible rfl))
  try simp only [Act.put, List.setIfInBounds_toArray, List.set_cons_zero, List.set_cons_succ]
  refine wpAnyH_done (by kernel_rfl) ?_ _
  go_wp2
  refine bodyPost_ret (v := .tuple #[ratV (r1, r2), .bool r3]) (by simp [results, Try.results164, go_sem, b4, b5, ratV]) rfl ⟨rfl, ?_⟩
  exact hb2.trans (hb3.mono (by omega))

end Go.Proofs.Ytfcanpebagpdbaa

/- The calculator's difference. No conditions but bounds. -/
import Derived.Test.YtfcanpebagpdbaaKeep
namespace Go.Proofs.Ytfcanpebagpdbaa
open Go.RowKit

set_option maxHeartbeats 1600000 in
theorem csub_ok (g : Nat) (a b : Int × Int) (w : World) (ga : goodR a.1 a.2 = true) (gb : goodR b.1 b.2 = true) (hok : (subR a b).2 = true) :
    Calls Try.prog 158 #[.pointer (some ⟨g, 0, none⟩), .agg #[.int .i64 a.1, .int .i64 a.2], .agg #[.int .i64 b.1, .int .i64 b.2]] w (Ret (ratV (subR a b).1) w) := by
  have c1 := fun w => SubtractRats_any a b w ga gb
  generalize subR a b = R at *
  obtain ⟨n, d⟩ := a
  obtain ⟨n', d'⟩ := b
  show Calls _ _ #[_, .agg #[.int .i64 n, .int .i64 d], .agg #[.int .i64 n', .int .i64 d']] w _
  obtain ⟨⟨r1, r2⟩, r3⟩ := R
  simp only at c1 hok
  subst hok
  have c2 := fun w => keep_ok g r1 r2 w
  have hB : Below w.heap.size w (((w.alloc (.cells #[.int .i64 n, .int .i64 d] 34)).alloc (.cells #[.int .i64 n', .int .i64 d'] 34)).alloc (.cells #[.int .i64 0, .int .i64 0] 34)) :=
    (((Below.refl _ _).alloc (Nat.le_refl _) _).alloc (by simp) _).alloc (by simp; omega) _
  clear ga gb
  have c1' := Lib.hid c1
  have c2' := Lib.hid c2
  clear c1 c2
  go_enter Try.func158, Try.ntmps158
  go_wp2_with fail
  refine (c1'.out _).mono ?_
  rintro e w1 ⟨rfl, hB1⟩
  obtain ⟨hc1, hf1⟩ := bcell hB1
  have hz1 : w.heap.size + 1 + 1 < w1.heap.size := by have := hB1.size; simp at this; omega
  have hb1 := hB.trans (hB1.mono hB.size)
  have q0 : w1.cell? ⟨w.heap.size + 1 + 1, 0, none⟩ = some (.int .i64 0) := by rw [hc1 _ _ (by simp)]; simp [go_sem]
  have q1 : w1.cell? ⟨w.heap.size + 1 + 1, 1, none⟩ = some (.int .i64 0) := by rw [hc1 _ _ (by simp)]; simp [go_sem]
  have q2 : w1.frozen? ⟨w.heap.size + 1 + 1, 0, none⟩ = false := by rw [hf1 _ _ (by simp)]; simp [go_sem]
  have q3 : w1.frozen? ⟨w.heap.size + 1 + 1, 1, none⟩ = false := by rw [hf1 _ _ (by simp)]; simp [go_sem]
  clear hB hB1 hc1 hf1
  go_wp2_with fail
  refine (c2'.out _).mono ?_
  rintro e w2 ⟨rfl, hB2⟩
  obtain ⟨hc2, hf2⟩ := bcell hB2
  have hb2 := hb1.trans (hB2.mono hb1.size)
  rw [← hc2 _ _ hz1] at q0 q1
  rw [← hf2 _ _ hz1] at q2 q3
  have hz2 := Nat.lt_of_lt_of_le hz1 hB2.size
  clear hb1 hB2 hc2 hf2 hz1
  go_wp2
  refine bodyPost_ret (v := ratV (r1, r2)) (by simp [results, Try.results158, go_sem, q0, q1, ratV]) rfl ⟨rfl, ?_⟩
  exact (hb2.setCell (p := ⟨w.heap.size + 1 + 1, 0, none⟩) (by show w.heap.size ≤ w.heap.size + 1 + 1; omega) _).setCell (p := ⟨w.heap.size + 1 + 1, 1, none⟩) (by show w.heap.size ≤ w.heap.size + 1 + 1; omega) _

set_option maxHeartbeats 1600000 in
theorem csub_bad (g : Nat) (bd : Bool) (a b : Int × Int) (w : World) (ga : goodR a.1 a.2 = true) (gb : goodR b.1 b.2 = true) (hok : (subR a b).2 = false) (hc : w.cell? ⟨g, 0, none⟩ = some (.bool bd)) (hf : w.frozen? ⟨g, 0, none⟩ = false) :
    Calls Try.prog 158 #[.pointer (some ⟨g, 0, none⟩), .agg #[.int .i64 a.1, .int .i64 a.2], .agg #[.int .i64 b.1, .int .i64 b.2]] w
      (fun e w' => e = .returned (ratV (0, 1)) ∧ Below w.heap.size (w.setCell ⟨g, 0, none⟩ (.bool true)) w') := by
  have hg := World.block_lt_of_cell? w _ hc
  simp only at hg
  have c1 := fun w => SubtractRats_any a b w ga gb
  generalize subR a b = R at *
  obtain ⟨n, d⟩ := a
  obtain ⟨n', d'⟩ := b
  show Calls _ _ #[_, .agg #[.int .i64 n, .int .i64 d], .agg #[.int .i64 n', .int .i64 d']] w _
  obtain ⟨⟨r1, r2⟩, r3⟩ := R
  simp only at c1 hok
  subst hok
  have c2 := fun w h1 h2 => keep_bad g bd r1 r2 w h1 h2
  have hB : Below w.heap.size w (((w.alloc (.cells #[.int .i64 n, .int .i64 d] 34)).alloc (.cells #[.int .i64 n', .int .i64 d'] 34)).alloc (.cells #[.int .i64 0, .int .i64 0] 34)) :=
    (((Below.refl _ _).alloc (Nat.le_refl _) _).alloc (by simp) _).alloc (by simp; omega) _
  clear ga gb
  have c1' := Lib.hid c1
  have c2' := Lib.hid c2
  clear c1 c2
  go_enter Try.func158, Try.ntmps158
  go_wp2_with fail
  refine (c1'.out _).mono ?_
  rintro e w1 ⟨rfl, hB1⟩
  obtain ⟨hc1, hf1⟩ := bcell hB1
  have hz1 : w.heap.size + 1 + 1 < w1.heap.size := by have := hB1.size; simp at this; omega
  have hb1 := hB.trans (hB1.mono hB.size)
  have q0 : w1.cell? ⟨w.heap.size + 1 + 1, 0, none⟩ = some (.int .i64 0) := by rw [hc1 _ _ (by simp)]; simp [go_sem]
  have q1 : w1.cell? ⟨w.heap.size + 1 + 1, 1, none⟩ = some (.int .i64 0) := by rw [hc1 _ _ (by simp)]; simp [go_sem]
  have q2 : w1.frozen? ⟨w.heap.size + 1 + 1, 0, none⟩ = false := by rw [hf1 _ _ (by simp)]; simp [go_sem]
  have q3 : w1.frozen? ⟨w.heap.size + 1 + 1, 1, none⟩ = false := by rw [hf1 _ _ (by simp)]; simp [go_sem]
  clear hB hB1 hc1 hf1
  have x0 := (hb1.cell (p := ⟨g, 0, none⟩) hg).trans hc
  have x1 := (hb1.frozen (p := ⟨g, 0, none⟩) hg).trans hf
  have hb1' := below_setCell_both hb1 (p := ⟨g, 0, none⟩) hg (.bool true)
  go_wp2_with fail
  refine (c2'.out _ x0 x1).mono ?_
  rintro e w2 ⟨rfl, hB2⟩
  obtain ⟨V, hV⟩ : ∃ V, w1.setCell ⟨g, 0, none⟩ (.bool true) = V := ⟨_, rfl⟩
  have hT : ∀ b o, b ≠ g → V.cell? ⟨b, o, none⟩ = w1.cell? ⟨b, o, none⟩ ∧ V.frozen? ⟨b, o, none⟩ = w1.frozen? ⟨b, o, none⟩ := by
    intro b o hb
    have : (V.heap[b]? : Option Obj) = w1.heap[b]? := by
      rw [← hV]; simp only [World.setCell]; rw [Array.getElem?_modify, if_neg (Ne.symm hb)]
    unfold World.cell? World.frozen?
    simp only [this]
    exact ⟨trivial, trivial⟩
  have hzV : w1.heap.size = V.heap.size := by rw [← hV]; simp [World.setCell]
  rw [hV] at hb1' hB2
  have hb2 := hb1'.trans (hB2.mono (by omega))
  rw [hzV] at hB2 hz1
  obtain ⟨hc2, hf2⟩ := bcell hB2
  replace q0 := (hc2 _ _ hz1).trans ((hT (w.heap.size + 1 + 1) 0 (by omega)).1.trans q0)
  replace q1 := (hc2 _ _ hz1).trans ((hT (w.heap.size + 1 + 1) 1 (by omega)).1.trans q1)
  replace q2 := (hf2 _ _ hz1).trans ((hT (w.heap.size + 1 + 1) 0 (by omega)).2.trans q2)
  replace q3 := (hf2 _ _ hz1).trans ((hT (w.heap.size + 1 + 1) 1 (by omega)).2.trans q3)
  have hz2 := Nat.lt_of_lt_of_le hz1 hB2.size
  clear hb1 hb1' hB2 hc2 hf2 hz1 hT hV x0 x1 hc hf hzV
  go_wp2
  refine bodyPost_ret (v := ratV (0, 1)) (by simp [results, Try.results158, go_sem, q0, q1, ratV]) rfl ⟨rfl, ?_⟩
  exact (hb2.setCell (p := ⟨w.heap.size + 1 + 1, 0, none⟩) (by show w.heap.size ≤ w.heap.size + 1 + 1; omega) _).setCell (p := ⟨w.heap.size + 1 + 1, 1, none⟩) (by show w.heap.size ≤ w.heap.size + 1 + 1; omega) _

end Go.Proofs.Ytfcanpebagpdbaa

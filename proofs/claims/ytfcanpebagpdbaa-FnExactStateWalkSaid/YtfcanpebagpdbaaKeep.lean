/- The program's calculator: it remembers whether a result was too large. No conditions but bounds. -/
import Derived.Test.YtfcanpebagpdbaaCalc
import Derived.Test.YtfcanpebagpdbaaUnits
namespace Go.Proofs.Ytfcanpebagpdbaa
open Go.RowKit

theorem below_setCell_both {E : Nat} {w w1 : World} (h : Below E w w1) {p : Addr} (hp : p.block < E) (u : Value) : Below E (w.setCell p u) (w1.setCell p u) := by
  refine ⟨h.os, h.tape, h.output, by simpa [World.setCell] using h.size, fun k hk => ?_⟩
  have hb := h.block k hk
  by_cases e : k = p.block
  · subst e
    have hb' := h.block p.block hp
    simp only [World.setCell]
    rw [Array.getElem?_modify, Array.getElem?_modify, if_pos rfl, if_pos rfl, hb']
  · simp only [World.setCell]
    rw [Array.getElem?_modify, Array.getElem?_modify, if_neg (Ne.symm e), if_neg (Ne.symm e), hb]

theorem keep_ok (g : Nat) (n d : Int) (w : World) :
    Calls Try.prog 161 #[.pointer (some ⟨g, 0, none⟩), .agg #[.int .i64 n, .int .i64 d], .bool true] w (Ret (ratV (n, d)) w) := by
  have hB : Below w.heap.size w ((w.alloc (.cells #[.int .i64 n, .int .i64 d] 34)).alloc (.cells #[.int .i64 n, .int .i64 d] 34)) := ((Below.refl _ _).alloc (Nat.le_refl _) _).alloc (by simp) _
  go_enter Try.func161, Try.ntmps161
  go_wp2
  refine bodyPost_ret (v := ratV (n, d)) (by simp [results, Try.results161, go_sem, ratV]) rfl ⟨rfl, ?_⟩
  exact hB
set_option maxHeartbeats 800000 in
theorem keep_bad (g : Nat) (bd : Bool) (n d : Int) (w : World) (hc : w.cell? ⟨g, 0, none⟩ = some (.bool bd)) (hf : w.frozen? ⟨g, 0, none⟩ = false) :
    Calls Try.prog 161 #[.pointer (some ⟨g, 0, none⟩), .agg #[.int .i64 n, .int .i64 d], .bool false] w
      (fun e w' => e = .returned (ratV (0, 1)) ∧ Below w.heap.size (w.setCell ⟨g, 0, none⟩ (.bool true)) w') := by
  have hg := World.block_lt_of_cell? w _ hc
  simp only at hg
  obtain ⟨V, hV⟩ : ∃ V, w.setCell ⟨g, 0, none⟩ (.bool true) = V := ⟨_, rfl⟩
  have hs : w.heap.size = V.heap.size := by rw [← hV]; simp [World.setCell]
  have hB : Below V.heap.size V ((V.alloc (.cells #[.int .i64 n, .int .i64 d] 34)).alloc (.cells #[.int .i64 0, .int .i64 0] 34)) := ((Below.refl _ _).alloc (Nat.le_refl _) _).alloc (by simp) _
  rw [hV, hs]
  have hV' := Lib.hid hV
  have hs' := Lib.hid hs
  clear hV hs
  go_enter Try.func161, Try.ntmps161
  go_wp2_with fail
  rw [hV'.out, hs'.out]
  refine (zero_any _).mono ?_
  rintro e w1 ⟨rfl, hB1⟩
  obtain ⟨hc1, hf1⟩ := bcell hB1
  have hz1 : V.heap.size + 1 < w1.heap.size := by have := hB1.size; simp at this; omega
  have hB2 := hB.trans (hB1.mono hB.size)
  have q0 : w1.cell? ⟨V.heap.size + 1, 0, none⟩ = some (.int .i64 0) := by rw [hc1 _ _ (by simp)]; simp [go_sem]
  have q1 : w1.cell? ⟨V.heap.size + 1, 1, none⟩ = some (.int .i64 0) := by rw [hc1 _ _ (by simp)]; simp [go_sem]
  have q2 : w1.frozen? ⟨V.heap.size + 1, 0, none⟩ = false := by rw [hf1 _ _ (by simp)]; simp [go_sem]
  have q3 : w1.frozen? ⟨V.heap.size + 1, 1, none⟩ = false := by rw [hf1 _ _ (by simp)]; simp [go_sem]
  clear hB hB1 hc1 hf1 hc hf hg
  go_wp2
  refine bodyPost_ret (v := ratV (0, 1)) (by simp [results, Try.results161, go_sem, q0, q1, ratV]) rfl ⟨rfl, ?_⟩
  exact (hB2.setCell (p := ⟨V.heap.size + 1, 0, none⟩) (Nat.le_succ _) _).setCell (p := ⟨V.heap.size + 1, 1, none⟩) (Nat.le_succ _) _

end Go.Proofs.Ytfcanpebagpdbaa

/- A drawn map with two intervals, or with a list of intervals, told loosely. No conditions but small sizes. -/
import Derived.Test.YtfhhofecfllbfaaGreatDrawI4
namespace Go.Proofs.YtfhhofecfllbfaaGreat
open Go.RowKit

set_option linter.unusedSimpArgs false in
set_option maxHeartbeats 1600000 in
theorem DrawShrinkTo_any (v : Value) (n : Nat) (w : World) (h : CodeV w v n) : Calls Tryz.prog 19 #[v] w (DrawFIK w) := by
  obtain ⟨w0, hw0⟩ : ∃ W, (w.alloc (.cells #[.int .i64 0, .int .i64 0, .int .i64 0, .int .i64 0] 44)).alloc (.cells #[.int .i64 0, .int .i64 0, .int .i64 0, .int .i64 0] 44) = W := ⟨_, rfl⟩
  have hB0 : Below w.heap.size w w0 := by rw [← hw0]; exact ((Below.refl _ _).alloc (Nat.le_refl _) _).alloc (by simp) _
  have x3 : BoxW w0 w.heap.size ((0, 0), (0, 0)) := by rw [← hw0]; refine ⟨⟨?_, ?_, ?_, ?_⟩, ?_, ?_, ?_, ?_⟩ <;> simp [go_sem]
  have x4 : BoxW w0 (w.heap.size + 1) ((0, 0), (0, 0)) := by rw [← hw0]; refine ⟨⟨?_, ?_, ?_, ?_⟩, ?_, ?_, ?_, ?_⟩ <;> simp [go_sem]
  have hs0 : w0.heap.size = w.heap.size + 1 + 1 := by rw [← hw0]; simp
  have c1 := DrawCoversInterval_any v n w0 (h.below hB0)
  obtain ⟨ao, cap, rfl, -, -⟩ := h
  have c1' := Lib.hid c1
  have hw0' := Lib.hid hw0
  have x3' := Lib.hid x3
  have x4' := Lib.hid x4
  have hs0' := Lib.hid hs0
  clear c1 hw0 x3 x4 hs0
  go_enter Tryz.func19, Tryz.ntmps19
  go_wp2_with fail
  rw [hw0'.out]
  go_wp2_with fail
  refine (c1'.out).mono ?_
  rintro e w1 ⟨v1, f, ⟨⟨i0, i1⟩, ⟨i2, i3⟩⟩, ⟨⟨k0, k1⟩, ⟨k2, k3⟩⟩, rfl, ⟨hq1, hl1⟩, hnb, hB1⟩
  have hb1 : Below w.heap.size w w1 := hB0.trans (hB1.mono hB0.size)
  have x3x := x3'.out.below hB1
  have x4x := x4'.out.below hB1
  have hnb2 : NewB (w.heap.size + 1 + 1) v1 := fun b off k cap e => by have h1 := hnb b off k cap e; have := hs0'.out; omega
  obtain ⟨ao1, cap1, rfl, -⟩ := hq1.form
  have hnbw : NewB w.heap.size (.slice ao1 f.length cap1) := fun b off k cap e => by have := hnb2 b off k cap e; omega
  have h2 := hq1.cellOff (hnb2.off (by omega)) (grow_self4 w1 w.heap.size ((i0, i1), (i2, i3)))
  have h3 := h2.cellOff (hnb2.off (by omega)) (grow_self4 _ (w.heap.size + 1) ((k0, k1), (k2, k3)))
  have hbF := below_set4 (below_set4 hb1 (Nat.le_refl _) ((i0, i1), (i2, i3))) (Nat.le_succ _) ((k0, k1), (k2, k3))
  obtain ⟨⟨n0, n1, n2, n3⟩, f0, f1, f2, f3⟩ := id x3x
  obtain ⟨⟨n4, n5, n6, n7⟩, f4, f5, f6, f7⟩ := id x4x
  simp only at n0 n1 n2 n3 n4 n5 n6 n7
  have hl3 := x3x.lt
  have hl4 := x4x.lt
  clear hq1 hnb hnb2 h2 hB1 hb1 x3x x4x x3' x4' c1' hw0' hs0' hB0
  have h3' := Lib.hid h3
  have hbF' := Lib.hid hbF
  have hnbw' := Lib.hid hnbw
  clear h3 hbF hnbw
  go_wp2
  exact bodyPost_ret (v := .tuple #[.slice ao1 f.length cap1, quadV ((i0, i1), (i2, i3)), quadV ((k0, k1), (k2, k3))]) (by simp [results, Tryz.results19, go_sem, n0, n1, n2, n3, n4, n5, n6, n7, hl3, hl4, quadV]) rfl ⟨_, f, _, _, rfl, ⟨h3'.out, hl1⟩, hnbw'.out, hbF'.out⟩
set_option linter.unusedSimpArgs false in
set_option maxHeartbeats 1600000 in
theorem DrawCoverGraph_any (v : Value) (n : Nat) (w : World) (h : CodeV w v n) : Calls Tryz.prog 28 #[v] w (DrawFL w) := by
  have c1 := anyIm_any w.heap.size 0 _ (CurAt.start h) (by omega)
  obtain ⟨ao, cap, rfl, -, -⟩ := h
  have c1' := Lib.hid c1
  clear c1
  go_enter Tryz.func28, Tryz.ntmps28
  go_wp2_with fail
  refine (c1'.out).mono ?_
  rintro e w1 ⟨v1, f, rfl, hq1, ho, hl1, hI1, hc1, hg1⟩
  have c2 := intervals_any w.heap.size _ v1 f w1 hc1 (by omega) hq1 ho hI1 (by omega)
  have hq := fun w' (hg : w1.grownBy w' (some w.heap.size)) => hq1.cellOff ho hg
  obtain ⟨ao1, cap1, rfl, -⟩ := hq1.form
  clear hc1 hq1 ho hI1 c1'
  have c2' := Lib.hid c2
  have hq' := Lib.hid hq
  have hg1' := Lib.hid hg1
  clear c2 hq hg1
  go_wp2_with fail
  refine (c2'.out).mono ?_
  rintro e w2 ⟨u, l, rfl, hu, hlu, hc2, hg2⟩
  have hB := start_below (hg1'.out.trans hg2)
  have hq2 := hq'.out w2 hg2
  obtain ⟨ao2, cap2, rfl, -⟩ := hu.form
  clear hc2 hg2 hg1' c2' hq'
  have hB' := Lib.hid hB
  have hq2' := Lib.hid hq2
  have hu' := Lib.hid hu
  clear hB hq2 hu
  go_wp2
  go_ret2
  exact ⟨_, f, _, l, rfl, ⟨hq2'.out, hl1⟩, ⟨hu'.out, hlu⟩, hB'.out⟩
end Go.Proofs.YtfhhofecfllbfaaGreat

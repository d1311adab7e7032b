/- What the laws ask beside: sizes, equal lists of fractions and numbers, a fraction within an interval. No conditions but small sizes. -/
import Derived.Test.YtfhhofecfllbfaaGreatDrawSt
import Derived.Test.YtfhhofecfllbfaaGreatPkC
namespace Go.Proofs.YtfhhofecfllbfaaGreat
open Go.RowKit
theorem big_no (ao0 : Option Addr) (n0 cap0 : Nat) (ao1 : Option Addr) (n1 cap1 : Nat) (w : World) (hl : n0 + n1 ≤ 1048576) :
  Calls Tryz.prog 36 #[.slice ao0 n0 cap0, .slice ao1 n1 cap1] w (Same (.bool false) w) := by
 have h0 : ¬ (n0 : Int) > 1048576 := by omega
 have h1 : ¬ (n1 : Int) > 1048576 - (n0 : Int) := by omega
 go_enter Tryz.func36, Tryz.ntmps36
 go_wp2
 go_ret
 first | exact ⟨rfl, rfl⟩ | (refine ⟨?_, rfl⟩; simp [h0, h1])
theorem big_yes (ao0 : Option Addr) (n0 cap0 : Nat) (ao1 : Option Addr) (n1 cap1 : Nat) (w : World) (hn0 : n0 ≤ 140737488355328) (_hn1 : n1 ≤ 140737488355328) (hl : ¬ n0 + n1 ≤ 1048576) :
  Calls Tryz.prog 36 #[.slice ao0 n0 cap0, .slice ao1 n1 cap1] w (Same (.bool true) w) := by
 by_cases h0 : (n0 : Int) > 1048576
 ·go_enter Tryz.func36, Tryz.ntmps36
  go_wp2
  go_ret
  first | exact ⟨rfl, rfl⟩ | (refine ⟨?_, rfl⟩; simp [h0])
 ·have h1 : (n1 : Int) > 1048576 - (n0 : Int) := by omega
  go_enter Tryz.func36, Tryz.ntmps36
  go_wp2
  go_ret
  first | exact ⟨rfl, rfl⟩ | (refine ⟨?_, rfl⟩; simp [h0, h1])
theorem pSameRats_same (v u : Value) (xs : List (Int × Int)) (w : World) (hv : RatsV w v xs) (hu : RatsV w u xs) (hm : xs.length ≤ 1099511627776) :
  Calls Tryz.prog 38 #[v, u] w (Ret (.bool true) w) := by
 obtain ⟨ao, cap, rfl, _, _, H⟩ := hv.form
 obtain ⟨bo, bcap, rfl, _, _, H'⟩ := hu.form
 obtain ⟨n, hn⟩ : ∃ n, xs.length = n := ⟨_, rfl⟩
 rw [hn] at hm H H' ⊢
 clear hv hu
 go_enter Tryz.func38, Tryz.ntmps38
 go_wp2
 go_loopw [13] (fun i wr => ∃ k : Nat, k ≤ n ∧ i = .int .i64 k ∧ ∃ q, wr = w.drewN q) (fun i _ => n - (intOf i).toNat)
 case atStart => exact ⟨0, Nat.zero_le _, rfl, 0, rfl⟩
 case round =>
  obtain ⟨k, hk, rfl, q, rfl⟩ := hrel
  by_cases hlt : k < n
  ·obtain ⟨b, off, rfl, c0, c1⟩ := H k hlt
   obtain ⟨b', off', rfl, d0, d1⟩ := H' k hlt
   generalize nthR xs k = X at *
   obtain ⟨x0, x1⟩ := X
   simp only at c0 c1 d0 d1
   clear H H' hn
   go_wp2_with fail
   go_quiet (fail)
   go_wp2
   go_roundw
   case rel => exact ⟨k + 1, by omega, by go_num, _, rfl⟩
   case measure => simp [intOf]; omega
  ·clear H H'
   go_wp2
   go_ret
   exact ⟨rfl, below_drewN (Below.refl _ _) _⟩
theorem pLess_no (a b : Int × Int) (w : World) (ha : BdR a.1 a.2) (hb : BdR b.1 b.2) (h : ltB a.1 a.2 b.1 b.2 = false) :
  Calls Tryz.prog 107 #[.agg #[.int .i64 a.1, .int .i64 a.2], .agg #[.int .i64 b.1, .int .i64 b.2]] w (Ret (.bool false) w) := by
 obtain ⟨n, d⟩ := a
 obtain ⟨n', d'⟩ := b
 have h1 : ¬ n * d' < n' * d := by unfold ltB at h; simpa using h
 have p1 : -1000000000000000000 ≤ n * d' ∧ n * d' ≤ 1000000000000000000 := prodNN ha.2 ⟨by have := hb.1; omega, by have := hb.1; omega⟩
 have p2 : -1000000000000000000 ≤ n' * d ∧ n' * d ≤ 1000000000000000000 := prodNN hb.2 ⟨by have := ha.1; omega, by have := ha.1; omega⟩
 clear h ha hb
 go_enter Tryz.func107, Tryz.ntmps107
 go_wp2
 go_ret
 refine ⟨?_, ((Below.refl _ _).alloc (Nat.le_refl _) _).alloc (by simp) _⟩
 first | rfl | (simp [h1]; done)
set_option maxHeartbeats 800000 in
theorem pWithin_yes (i : Quad) (x : Int × Int) (w : World) (h1 : BdR i.1.1 i.1.2) (h2 : BdR i.2.1 i.2.2) (hx : BdR x.1 x.2) (a1 : ltB x.1 x.2 i.1.1 i.1.2 = false) (a2 : ltB i.2.1 i.2.2 x.1 x.2 = false) :
  Calls Tryz.prog 48 #[quadV i, .agg #[.int .i64 x.1, .int .i64 x.2]] w (Ret (.bool true) w) := by
 have c1 := fun w => pLess_no x i.1 w hx h1 a1
 have c2 := fun w => pLess_no i.2 x w h2 hx a2
 clear h1 h2 hx a1 a2
 obtain ⟨⟨x0, y⟩, ⟨z, t⟩⟩ := i
 obtain ⟨p, q⟩ := x
 show Calls _ _ #[.agg #[.int .i64 x0, .int .i64 y, .int .i64 z, .int .i64 t], .agg #[.int .i64 p, .int .i64 q]] w _
 simp only at c1 c2
 obtain ⟨w0, hw0⟩ : ∃ W, (w.alloc (.cells #[.int .i64 x0, .int .i64 y, .int .i64 z, .int .i64 t] 44)).alloc (.cells #[.int .i64 p, .int .i64 q] 42) = W := ⟨_, rfl⟩
 have hB : Below w.heap.size w w0 := by rw [← hw0]; exact ((Below.refl _ _).alloc (Nat.le_refl _) _).alloc (by simp) _
 have a0 : w0.cell? ⟨w.heap.size, 0, none⟩ = some (.int .i64 x0) := by rw [← hw0]; simp [go_sem]
 have a1 : w0.cell? ⟨w.heap.size, 1, none⟩ = some (.int .i64 y) := by rw [← hw0]; simp [go_sem]
 have a2 : w0.cell? ⟨w.heap.size, 2, none⟩ = some (.int .i64 z) := by rw [← hw0]; simp [go_sem]
 have a3 : w0.cell? ⟨w.heap.size, 3, none⟩ = some (.int .i64 t) := by rw [← hw0]; simp [go_sem]
 have b0 : w0.cell? ⟨w.heap.size + 1, 0, none⟩ = some (.int .i64 p) := by rw [← hw0]; simp [go_sem]
 have b1 : w0.cell? ⟨w.heap.size + 1, 1, none⟩ = some (.int .i64 q) := by rw [← hw0]; simp [go_sem]
 have c1' := Lib.hid c1; have c2' := Lib.hid c2; have hw0' := Lib.hid hw0; clear c1 c2 hw0
 go_enter Tryz.func48, Tryz.ntmps48
 go_wp2_with fail
 rw [hw0'.out]
 go_wp2_with fail
 refine (c1'.out _).mono ?_
 rintro e w1 ⟨rfl, hB1⟩
 have hb1 := hB.trans (hB1.mono hB.size)
 replace a2 := bkeep hB1 a2
 replace a3 := bkeep hB1 a3
 replace b0 := bkeep hB1 b0
 replace b1 := bkeep hB1 b1
 clear hB1 a0 a1
 have hb1' := Lib.hid hb1; clear hb1
 go_wp2_with fail
 refine (c2'.out _).mono ?_
 rintro e w2 ⟨rfl, hB2⟩
 have hb2 := hb1'.out.trans (hB2.mono hb1'.out.size)
 clear hB2
 go_wp2
 go_ret
 exact ⟨rfl, hb2⟩
end Go.Proofs.YtfhhofecfllbfaaGreat

/- FnExactIsHorseshoe: for every input the law returns true, and the arguments read as before. No conditions. -/
import Derived.Test.YtfcanpebagpdbaaHorseS
import Derived.Test.YtfcanpebagpdbaaPkH
import Derived.Test.YtfcanpebagpdbaaPkB
import Derived.Test.YtfcanpebagpdbaaPkA
import Derived.Deep.RegionHeld3
namespace Go.Proofs.Ytfcanpebagpdbaa
open Go.RowKit

set_option maxHeartbeats 400000 in
theorem lawIsHorseshoe_over0 (a0 : Value) (x0 : List ((Int × Int) × (Int × Int))) (x1 : (Int × Int) × (Int × Int)) (x2 : (Int × Int) × (Int × Int)) (w : World) (hv0 : Hid (QuadV w a0 x0)) (hl0 : ¬ szPointS x0 ≤ 1048576) :
    Calls Try.prog 4 #[a0, .agg #[.int .i64 x1.1.1, .int .i64 x1.1.2, .int .i64 x1.2.1, .int .i64 x1.2.2], .agg #[.int .i64 x2.1.1, .int .i64 x2.1.2, .int .i64 x2.2.1, .int .i64 x2.2.2]] w (Ret (.bool true) w) := by
  obtain ⟨w0, hw0⟩ : ∃ W, ((w.alloc (.cells #[.int .i64 x1.1.1, .int .i64 x1.1.2, .int .i64 x1.2.1, .int .i64 x1.2.2] 40)).alloc (.cells #[.int .i64 x2.1.1, .int .i64 x2.1.2, .int .i64 x2.2.1, .int .i64 x2.2.2] 40)) = W := ⟨_, rfl⟩
  have hb0 : Below w.heap.size w w0 := by rw [← hw0]; exact ((Below.refl _ _).alloc (Nat.le_refl _) _).alloc (by simp) _
  have hz0 : w.heap.size + 2 ≤ w0.heap.size := by rw [← hw0]; simp
  have hx1_0 : w0.cell? ⟨w.heap.size, 0, none⟩ = some (.int .i64 x1.1.1) := by rw [← hw0]; simp [go_sem]
  have hx1_1 : w0.cell? ⟨w.heap.size, 1, none⟩ = some (.int .i64 x1.1.2) := by rw [← hw0]; simp [go_sem]
  have hx1_2 : w0.cell? ⟨w.heap.size, 2, none⟩ = some (.int .i64 x1.2.1) := by rw [← hw0]; simp [go_sem]
  have hx1_3 : w0.cell? ⟨w.heap.size, 3, none⟩ = some (.int .i64 x1.2.2) := by rw [← hw0]; simp [go_sem]
  have hx2_0 : w0.cell? ⟨w.heap.size + 1, 0, none⟩ = some (.int .i64 x2.1.1) := by rw [← hw0]; simp [go_sem]
  have hx2_1 : w0.cell? ⟨w.heap.size + 1, 1, none⟩ = some (.int .i64 x2.1.2) := by rw [← hw0]; simp [go_sem]
  have hx2_2 : w0.cell? ⟨w.heap.size + 1, 2, none⟩ = some (.int .i64 x2.2.1) := by rw [← hw0]; simp [go_sem]
  have hx2_3 : w0.cell? ⟨w.heap.size + 1, 3, none⟩ = some (.int .i64 x2.2.2) := by rw [← hw0]; simp [go_sem]
  have hw0' := Lib.hid hw0
  clear hw0
  go_enter Try.func4, Try.ntmps4
  go_wp2_with fail
  rw [hw0'.out]
  clear hw0'
  refine (szPointS_over a0 x0 (1048576) _ (hv0.out.below hb0) (by omega) (by omega)).mono ?_
  rintro e w_ ⟨rfl, rfl⟩
  go_wp2
  go_ret
  exact ⟨rfl, hb0⟩

set_option maxHeartbeats 1600000 in
theorem lawIsHorseshoe_main (a0 : Value) (x0 : List ((Int × Int) × (Int × Int))) (x1 : (Int × Int) × (Int × Int)) (x2 : (Int × Int) × (Int × Int)) (w : World) (hv0 : Hid (QuadV w a0 x0)) (hi1 : I64I x1) (hi2 : I64I x2) (hl0 : szPointS x0 ≤ 1048576) :
    Calls Try.prog 4 #[a0, .agg #[.int .i64 x1.1.1, .int .i64 x1.1.2, .int .i64 x1.2.1, .int .i64 x1.2.2], .agg #[.int .i64 x2.1.1, .int .i64 x2.1.2, .int .i64 x2.2.1, .int .i64 x2.2.2]] w (Ret (.bool true) w) := by
  have hm0 : szPointS x0 ≤ 1099511627776 := by omega
  have hk0 := cntPointS_le x0
  obtain ⟨r, hr⟩ : ∃ r, IsHorseshoe_v x0 x1 x2 = r := ⟨_, rfl⟩
  have hr := Lib.hid hr
  obtain ⟨w0, hw0⟩ : ∃ W, ((w.alloc (.cells #[.int .i64 x1.1.1, .int .i64 x1.1.2, .int .i64 x1.2.1, .int .i64 x1.2.2] 40)).alloc (.cells #[.int .i64 x2.1.1, .int .i64 x2.1.2, .int .i64 x2.2.1, .int .i64 x2.2.2] 40)) = W := ⟨_, rfl⟩
  have hb0 : Below w.heap.size w w0 := by rw [← hw0]; exact ((Below.refl _ _).alloc (Nat.le_refl _) _).alloc (by simp) _
  have hz0 : w.heap.size + 2 ≤ w0.heap.size := by rw [← hw0]; simp
  have hx1_0 : w0.cell? ⟨w.heap.size, 0, none⟩ = some (.int .i64 x1.1.1) := by rw [← hw0]; simp [go_sem]
  have hx1_1 : w0.cell? ⟨w.heap.size, 1, none⟩ = some (.int .i64 x1.1.2) := by rw [← hw0]; simp [go_sem]
  have hx1_2 : w0.cell? ⟨w.heap.size, 2, none⟩ = some (.int .i64 x1.2.1) := by rw [← hw0]; simp [go_sem]
  have hx1_3 : w0.cell? ⟨w.heap.size, 3, none⟩ = some (.int .i64 x1.2.2) := by rw [← hw0]; simp [go_sem]
  have hx2_0 : w0.cell? ⟨w.heap.size + 1, 0, none⟩ = some (.int .i64 x2.1.1) := by rw [← hw0]; simp [go_sem]
  have hx2_1 : w0.cell? ⟨w.heap.size + 1, 1, none⟩ = some (.int .i64 x2.1.2) := by rw [← hw0]; simp [go_sem]
  have hx2_2 : w0.cell? ⟨w.heap.size + 1, 2, none⟩ = some (.int .i64 x2.2.1) := by rw [← hw0]; simp [go_sem]
  have hx2_3 : w0.cell? ⟨w.heap.size + 1, 3, none⟩ = some (.int .i64 x2.2.2) := by rw [← hw0]; simp [go_sem]
  have at' : ∀ w', Below w0.heap.size w0 w' → (w'.cell? ⟨w.heap.size, 0, none⟩ = some (.int .i64 x1.1.1) ∧ w'.cell? ⟨w.heap.size, 1, none⟩ = some (.int .i64 x1.1.2) ∧ w'.cell? ⟨w.heap.size, 2, none⟩ = some (.int .i64 x1.2.1) ∧ w'.cell? ⟨w.heap.size, 3, none⟩ = some (.int .i64 x1.2.2)) ∧ w'.cell? ⟨w.heap.size + 1, 0, none⟩ = some (.int .i64 x2.1.1) ∧ w'.cell? ⟨w.heap.size + 1, 1, none⟩ = some (.int .i64 x2.1.2) ∧ w'.cell? ⟨w.heap.size + 1, 2, none⟩ = some (.int .i64 x2.2.1) ∧ w'.cell? ⟨w.heap.size + 1, 3, none⟩ = some (.int .i64 x2.2.2) :=
    fun w' h => ⟨⟨bkeep h hx1_0, bkeep h hx1_1, bkeep h hx1_2, bkeep h hx1_3⟩, bkeep h hx2_0, bkeep h hx2_1, bkeep h hx2_2, bkeep h hx2_3⟩
  have hd0 : Below w0.heap.size w0 w0.drew := (Below.refl _ _).drew
  have hb0d : Below w.heap.size w w0.drew := hb0.drew
  clear hx1_0 hx1_1 hx1_2 hx1_3 hx2_0 hx2_1 hx2_2 hx2_3
  have at'' := Lib.hid at'
  have hw0' := Lib.hid hw0
  clear at' hw0
  go_enter Try.func4, Try.ntmps4
  go_wp2_with fail
  rw [hw0'.out]
  refine (szPointS_fits a0 x0 (1048576) _ (hv0.out.below hb0) (by omega) (by omega)).mono ?_
  rintro e w_ ⟨rfl, rfl⟩
  go_wp2_with fail
  refine wp_region_held_drew (S := (fun w' => (w'.cell? ⟨w.heap.size, 0, none⟩ = some (.int .i64 x1.1.1) ∧ w'.cell? ⟨w.heap.size, 1, none⟩ = some (.int .i64 x1.1.2) ∧ w'.cell? ⟨w.heap.size, 2, none⟩ = some (.int .i64 x1.2.1) ∧ w'.cell? ⟨w.heap.size, 3, none⟩ = some (.int .i64 x1.2.2)) ∧ w'.cell? ⟨w.heap.size + 1, 0, none⟩ = some (.int .i64 x2.1.1) ∧ w'.cell? ⟨w.heap.size + 1, 1, none⟩ = some (.int .i64 x2.1.2) ∧ w'.cell? ⟨w.heap.size + 1, 2, none⟩ = some (.int .i64 x2.2.1) ∧ w'.cell? ⟨w.heap.size + 1, 3, none⟩ = some (.int .i64 x2.2.2))) (by kernel_rfl) (by (try dsimp only); (first | exact at''.out _ hd0 | exact at''.out _ hd1 | exact at''.out _ hd2 | exact at''.out _ hd3 | exact at''.out _ hd4)) (fun hHeld => ?_)
  refine wpAnyH_take (i := 0) (oi := Oper.mk _ _ _ _ _ _) (v := ?_) rfl (by kernel_rfl) (by kernel_rfl) (by kernel_rfl) (fun _ _ _ h => h) (Or.inl ⟨by kernel_rfl, ?_⟩) hHeld ?_
  rotate_left
  · (intro wS hSw; (try dsimp only at hSw); go_simp; all_goals (with_reducible rfl))
  try simp only [Act.put, List.setIfInBounds_toArray, List.set_cons_zero, List.set_cons_succ]
  refine wpAnyH_take (i := 2) (oi := Oper.mk _ _ _ _ _ _) (v := ?_) rfl (by kernel_rfl) (by kernel_rfl) (by kernel_rfl) (fun _ _ _ h => h) (Or.inl ⟨by kernel_rfl, ?_⟩) hHeld ?_
  rotate_left
  · (intro wS hSw; (try dsimp only at hSw); go_simp; all_goals (with_reducible rfl))
  try simp only [Act.put, List.setIfInBounds_toArray, List.set_cons_zero, List.set_cons_succ]
  refine wpAnyH_take (i := 4) (oi := Oper.mk _ _ _ _ _ _) (v := ?_) rfl (by kernel_rfl) (by kernel_rfl) (by kernel_rfl) (fun _ _ _ h => h) (Or.inl ⟨by kernel_rfl, ?_⟩) hHeld ?_
  rotate_left
  · (intro wS hSw; (try dsimp only at hSw); go_simp; all_goals (with_reducible rfl))
  try simp only [Act.put, List.setIfInBounds_toArray, List.set_cons_zero, List.set_cons_succ]
  refine wpAnyH_ready (rs := [1]) (by kernel_rfl) (by simp) ?_
  refine AllReadyH.cons (o := Oper.mk _ _ _ _ _ _) rfl (fun KK hKK => ?_) AllReadyH.nil
  rw [if_pos (by kernel_rfl)]
  go_simp
  refine (toPointS_any _ x0 _ (hv0.out.below hb0d) hm0).mono ?_
  rintro e w1 ⟨c1, rfl, hc1, hB1⟩
  have hd1 := hd0.trans (hB1.mono hd0.size)
  try dsimp only
  refine hKK.out _ _ (by (try dsimp only); (first | exact at''.out _ hd0 | exact at''.out _ hd1 | exact at''.out _ hd2 | exact at''.out _ hd3 | exact at''.out _ hd4)) (fun hHeld => ?_)
  clear hKK KK
  try simp only [Act.put, List.setIfInBounds_toArray, List.set_cons_zero, List.set_cons_succ]
  refine wpAnyH_ready (rs := [3]) (by kernel_rfl) (by simp) ?_
  refine AllReadyH.cons (o := Oper.mk _ _ _ _ _ _) rfl (fun KK hKK => ?_) AllReadyH.nil
  rw [if_pos (by kernel_rfl)]
  go_simp
  refine (toInterval_any x1 _).mono ?_
  rintro e w2 ⟨rfl, hB2⟩
  have hd2 := hd1.trans (hB2.mono hd1.size)
  have hc2 := (hc1.below hB2 (Nat.le_refl _)).mono (Nat.le_refl _) hB2.size
  try dsimp only
  refine hKK.out _ _ (by (try dsimp only); (first | exact at''.out _ hd0 | exact at''.out _ hd1 | exact at''.out _ hd2 | exact at''.out _ hd3 | exact at''.out _ hd4)) (fun hHeld => ?_)
  clear hKK KK
  try simp only [Act.put, List.setIfInBounds_toArray, List.set_cons_zero, List.set_cons_succ]
  refine wpAnyH_ready (rs := [5]) (by kernel_rfl) (by simp) ?_
  refine AllReadyH.cons (o := Oper.mk _ _ _ _ _ _) rfl (fun KK hKK => ?_) AllReadyH.nil
  rw [if_pos (by kernel_rfl)]
  go_simp
  refine (toInterval_any x2 _).mono ?_
  rintro e w3 ⟨rfl, hB3⟩
  have hd3 := hd2.trans (hB3.mono hd2.size)
  have hc3 := (hc2.below hB3 (Nat.le_refl _)).mono (Nat.le_refl _) hB3.size
  try dsimp only
  refine hKK.out _ _ (by (try dsimp only); (first | exact at''.out _ hd0 | exact at''.out _ hd1 | exact at''.out _ hd2 | exact at''.out _ hd3 | exact at''.out _ hd4)) (fun hHeld => ?_)
  clear hKK KK
  try simp only [Act.put, List.setIfInBounds_toArray, List.set_cons_zero, List.set_cons_succ]
  refine wpAnyH_ready (rs := [6]) (by kernel_rfl) (by simp) ?_
  refine AllReadyH.cons (o := Oper.mk _ _ _ _ _ _) rfl (fun KK hKK => ?_) AllReadyH.nil
  rw [if_pos (by kernel_rfl)]
  go_simp
  refine (specIsHorseshoe_any c1 x0 x1 x2 _ hc3.read hm0 hi1 hi2).mono ?_
  rw [hr.out]
  rintro e w4 ⟨rfl, hB4⟩
  have hd4 := hd3.trans (hB4.mono hd3.size)
  try dsimp only
  refine hKK.out _ _ (by (try dsimp only); (first | exact at''.out _ hd0 | exact at''.out _ hd1 | exact at''.out _ hd2 | exact at''.out _ hd3 | exact at''.out _ hd4)) (fun hHeld => ?_)
  clear hKK KK
  try simp only [Act.put, List.setIfInBounds_toArray, List.set_cons_zero, List.set_cons_succ]
  refine wpAnyH_take (i := 7) (oi := Oper.mk _ _ _ _ _ _) (v := ?_) rfl (by kernel_rfl) (by kernel_rfl) (by kernel_rfl) (fun _ _ _ h => h) (Or.inl ⟨by kernel_rfl, ?_⟩) hHeld ?_
  rotate_left
  · (intro wS hSw; (try dsimp only at hSw); go_simp; all_goals (with_reducible rfl))
  try simp only [Act.put, List.setIfInBounds_toArray, List.set_cons_zero, List.set_cons_succ]
  refine wpAnyH_take (i := 8) (oi := Oper.mk _ _ _ _ _ _) (v := ?_) rfl (by kernel_rfl) (by kernel_rfl) (by kernel_rfl) (fun _ _ _ h => h) (Or.inl ⟨by kernel_rfl, ?_⟩) hHeld ?_
  rotate_left
  · (intro wS hSw; (try dsimp only at hSw); go_simp; all_goals (with_reducible rfl))
  try simp only [Act.put, List.setIfInBounds_toArray, List.set_cons_zero, List.set_cons_succ]
  refine wpAnyH_take (i := 9) (oi := Oper.mk _ _ _ _ _ _) (v := ?_) rfl (by kernel_rfl) (by kernel_rfl) (by kernel_rfl) (fun _ _ _ h => h) (Or.inl ⟨by kernel_rfl, ?_⟩) hHeld ?_
  rotate_left
  · (intro wS hSw; (try dsimp only at hSw); go_simp; all_goals (with_reducible rfl))
  try simp only [Act.put, List.setIfInBounds_toArray, List.set_cons_zero, List.set_cons_succ]
  refine wpAnyH_take (i := 10) (oi := Oper.mk _ _ _ _ _ _) (v := ?_) rfl (by kernel_rfl) (by kernel_rfl) (by kernel_rfl) (fun _ _ _ h => h) (Or.inl ⟨by kernel_rfl, ?_⟩) hHeld ?_
  rotate_left
  · (intro wS hSw; (try dsimp only at hSw); go_simp; all_goals (with_reducible rfl))
  try simp only [Act.put, List.setIfInBounds_toArray, List.set_cons_zero, List.set_cons_succ]
  refine wpAnyH_take (i := 11) (oi := Oper.mk _ _ _ _ _ _) (v := ?_) rfl (by kernel_rfl) (by kernel_rfl) (by kernel_rfl) (fun _ _ _ h => h) (Or.inl ⟨by kernel_rfl, ?_⟩) hHeld ?_
  rotate_left
  · (intro wS hSw; (try dsimp only at hSw); go_simp; all_goals (with_reducible rfl))
  try simp only [Act.put, List.setIfInBounds_toArray, List.set_cons_zero, List.set_cons_succ]
  refine wpAnyH_done (by kernel_rfl) ?_ _
  have hb4 := hb0.trans (hd4.mono hb0.size)
  clear hHeld hc1 hc2 hc3 hB1 hB2 hB3 hB4 hd0 hd1 hd2 hd3 hb0d
  go_wp2_with fail
  refine (toPointS_any _ x0 _ (hv0.out.below hb4) hm0).mono ?_
  rintro e w5 ⟨c5, rfl, hc5, hB5⟩
  have hd5 := (hd4.trans (hB5.mono hd4.size)).drew
  clear hd4 hb4 hB5
  go_wp2_with fail
  refine wp_region_held_drew (S := (fun w' => (w'.cell? ⟨w.heap.size, 0, none⟩ = some (.int .i64 x1.1.1) ∧ w'.cell? ⟨w.heap.size, 1, none⟩ = some (.int .i64 x1.1.2) ∧ w'.cell? ⟨w.heap.size, 2, none⟩ = some (.int .i64 x1.2.1) ∧ w'.cell? ⟨w.heap.size, 3, none⟩ = some (.int .i64 x1.2.2)) ∧ w'.cell? ⟨w.heap.size + 1, 0, none⟩ = some (.int .i64 x2.1.1) ∧ w'.cell? ⟨w.heap.size + 1, 1, none⟩ = some (.int .i64 x2.1.2) ∧ w'.cell? ⟨w.heap.size + 1, 2, none⟩ = some (.int .i64 x2.2.1) ∧ w'.cell? ⟨w.heap.size + 1, 3, none⟩ = some (.int .i64 x2.2.2))) (by kernel_rfl) (by (try dsimp only); (first | exact at''.out _ hd5 | exact at''.out _ hd6 | exact at''.out _ hd7 | exact at''.out _ hd8)) (fun hHeld => ?_)
  refine wpAnyH_take (i := 0) (oi := Oper.mk _ _ _ _ _ _) (v := ?_) rfl (by kernel_rfl) (by kernel_rfl) (by kernel_rfl) (fun _ _ _ h => h) (Or.inl ⟨by kernel_rfl, ?_⟩) hHeld ?_
  rotate_left
  · (intro wS hSw; (try dsimp only at hSw); go_simp; all_goals (with_reducible rfl))
  try simp only [Act.put, List.setIfInBounds_toArray, List.set_cons_zero, List.set_cons_succ]
  refine wpAnyH_take (i := 1) (oi := Oper.mk _ _ _ _ _ _) (v := ?_) rfl (by kernel_rfl) (by kernel_rfl) (by kernel_rfl) (fun _ _ _ h => h) (Or.inl ⟨by kernel_rfl, ?_⟩) hHeld ?_
  rotate_left
  · (intro wS hSw; (try dsimp only at hSw); go_simp; all_goals (with_reducible rfl))
  try simp only [Act.put, List.setIfInBounds_toArray, List.set_cons_zero, List.set_cons_succ]
  refine wpAnyH_take (i := 3) (oi := Oper.mk _ _ _ _ _ _) (v := ?_) rfl (by kernel_rfl) (by kernel_rfl) (by kernel_rfl) (fun _ _ _ h => h) (Or.inl ⟨by kernel_rfl, ?_⟩) hHeld ?_
  rotate_left
  · (intro wS hSw; (try dsimp only at hSw); go_simp; all_goals (with_reducible rfl))
  try simp only [Act.put, List.setIfInBounds_toArray, List.set_cons_zero, List.set_cons_succ]
  refine wpAnyH_ready (rs := [2]) (by kernel_rfl) (by simp) ?_
  refine AllReadyH.cons (o := Oper.mk _ _ _ _ _ _) rfl (fun KK hKK => ?_) AllReadyH.nil
  rw [if_pos (by kernel_rfl)]
  go_simp
  refine (toInterval_any x1 _).mono ?_
  rintro e w6 ⟨rfl, hB6⟩
  have hd6 := hd5.trans (hB6.mono hd5.size)
  have hc6 := (hc5.below ⟨hB6.os, hB6.tape, hB6.output, hB6.size, hB6.block⟩ (Nat.le_refl _)).mono (Nat.le_refl _) (show w5.heap.size ≤ w6.heap.size from hB6.size)
  try dsimp only
  refine hKK.out _ _ (by (try dsimp only); (first | exact at''.out _ hd5 | exact at''.out _ hd6 | exact at''.out _ hd7 | exact at''.out _ hd8)) (fun hHeld => ?_)
  clear hKK KK
  try simp only [Act.put, List.setIfInBounds_toArray, List.set_cons_zero, List.set_cons_succ]
  refine wpAnyH_ready (rs := [4]) (by kernel_rfl) (by simp) ?_
  refine AllReadyH.cons (o := Oper.mk _ _ _ _ _ _) rfl (fun KK hKK => ?_) AllReadyH.nil
  rw [if_pos (by kernel_rfl)]
  go_simp
  refine (toInterval_any x2 _).mono ?_
  rintro e w7 ⟨rfl, hB7⟩
  have hd7 := hd6.trans (hB7.mono hd6.size)
  have hc7 := (hc6.below hB7 (Nat.le_refl _)).mono (Nat.le_refl _) hB7.size
  try dsimp only
  refine hKK.out _ _ (by (try dsimp only); (first | exact at''.out _ hd5 | exact at''.out _ hd6 | exact at''.out _ hd7 | exact at''.out _ hd8)) (fun hHeld => ?_)
  clear hKK KK
  try simp only [Act.put, List.setIfInBounds_toArray, List.set_cons_zero, List.set_cons_succ]
  refine wpAnyH_ready (rs := [5]) (by kernel_rfl) (by simp) ?_
  refine AllReadyH.cons (o := Oper.mk _ _ _ _ _ _) rfl (fun KK hKK => ?_) AllReadyH.nil
  rw [if_pos (by kernel_rfl)]
  go_simp
  refine (implIsHorseshoe_any c5 x0 x1 x2 _ hc7.read hm0 hi1 hi2).mono ?_
  rw [hr.out]
  rintro e w8 ⟨rfl, hB8⟩
  have hd8 := hd7.trans (hB8.mono hd7.size)
  have hc8 := (hc7.below hB8 (Nat.le_refl _)).mono (Nat.le_refl _) hB8.size
  try dsimp only
  refine hKK.out _ _ (by (try dsimp only); (first | exact at''.out _ hd5 | exact at''.out _ hd6 | exact at''.out _ hd7 | exact at''.out _ hd8)) (fun hHeld => ?_)
  clear hKK KK
  try simp only [Act.put, List.setIfInBounds_toArray, List.set_cons_zero, List.set_cons_succ]
  refine wpAnyH_take (i := 6) (oi := Oper.mk _ _ _ _ _ _) (v := ?_) rfl (by kernel_rfl) (by kernel_rfl) (by kernel_rfl) (fun _ _ _ h => h) (Or.inl ⟨by kernel_rfl, ?_⟩) hHeld ?_
  rotate_left
  · (intro wS hSw; (try dsimp only at hSw); go_simp; all_goals (with_reducible rfl))
  try simp only [Act.put, List.setIfInBounds_toArray, List.set_cons_zero, List.set_cons_succ]
  refine wpAnyH_take (i := 7) (oi := Oper.mk _ _ _ _ _ _) (v := ?_) rfl (by kernel_rfl) (by kernel_rfl) (by kernel_rfl) (fun _ _ _ h => h) (Or.inl ⟨by kernel_rfl, ?_⟩) hHeld ?_
  rotate_left
  · (intro wS hSw; (try dsimp only at hSw); go_simp; all_goals (with_reducible rfl))
  try simp only [Act.put, List.setIfInBounds_toArray, List.set_cons_zero, List.set_cons_succ]
  refine wpAnyH_take (i := 8) (oi := Oper.mk _ _ _ _ _ _) (v := ?_) rfl (by kernel_rfl) (by kernel_rfl) (by kernel_rfl) (fun _ _ _ h => h) (Or.inl ⟨by kernel_rfl, ?_⟩) hHeld ?_
  rotate_left
  · (intro wS hSw; (try dsimp only at hSw); go_simp; all_goals (with_reducible rfl))
  try simp only [Act.put, List.setIfInBounds_toArray, List.set_cons_zero, List.set_cons_succ]
  refine wpAnyH_take (i := 9) (oi := Oper.mk _ _ _ _ _ _) (v := ?_) rfl (by kernel_rfl) (by kernel_rfl) (by kernel_rfl) (fun _ _ _ h => h) (Or.inl ⟨by kernel_rfl, ?_⟩) hHeld ?_
  rotate_left
  · (intro wS hSw; (try dsimp only at hSw); go_simp; all_goals (with_reducible rfl))
  try simp only [Act.put, List.setIfInBounds_toArray, List.set_cons_zero, List.set_cons_succ]
  refine wpAnyH_take (i := 10) (oi := Oper.mk _ _ _ _ _ _) (v := ?_) rfl (by kernel_rfl) (by kernel_rfl) (by kernel_rfl) (fun _ _ _ h => h) (Or.inl ⟨by kernel_rfl, ?_⟩) hHeld ?_
  rotate_left
  · (intro wS hSw; (try dsimp only at hSw); go_simp; all_goals (with_reducible rfl))
  try simp only [Act.put, List.setIfInBounds_toArray, List.set_cons_zero, List.set_cons_succ]
  refine wpAnyH_done (by kernel_rfl) ?_ _
  have hb8 := hb0.trans (hd8.mono hb0.size)
  clear hHeld hc5 hc6 hc7 hB6 hB7 hB8 hd5 hd6 hd7 hd8
  go_wp2_with fail
  refine (toPointS_any _ x0 _ (hv0.out.below hb8) hm0).mono ?_
  rintro e w9 ⟨c9, rfl, hc9, hB9⟩
  have hb9 := hb8.trans (hB9.mono hb8.size)
  have hc10 := hc8.below hB9 (Nat.le_refl _)
  go_wp2_with fail
  refine (eqPointS_same _ _ x0 _ hc10.read hc9.read hm0).mono ?_
  rintro e w10 ⟨rfl, hB10⟩
  have hb10 := hb9.trans (hB10.mono hb9.size)
  clear hc9 hc10 hc8 hB9 hB10 hb8 hb9
  go_wp2
  go_ret
  exact ⟨rfl, hb10⟩

theorem lawIsHorseshoe_any (a0 : Value) (x0 : List ((Int × Int) × (Int × Int))) (x1 : (Int × Int) × (Int × Int)) (x2 : (Int × Int) × (Int × Int)) (w : World) (hv0 : QuadV w a0 x0) (hi1 : I64I x1) (hi2 : I64I x2) :
    Calls Try.prog 4 #[a0, .agg #[.int .i64 x1.1.1, .int .i64 x1.1.2, .int .i64 x1.2.1, .int .i64 x1.2.2], .agg #[.int .i64 x2.1.1, .int .i64 x2.1.2, .int .i64 x2.2.1, .int .i64 x2.2.2]] w (Ret (.bool true) w) := by
  by_cases hl0 : szPointS x0 ≤ 1048576
  rotate_left
  · exact lawIsHorseshoe_over0 _ x0 x1 x2 w (Lib.hid hv0) hl0
  exact lawIsHorseshoe_main _ x0 x1 x2 w (Lib.hid hv0) hi1 hi2 hl0

open Go.ChangeShapes Go.WideShapes Go.ChangeAt in
set_option maxRecDepth 100000 in
theorem lawIsHorseshoe_lifted (os : Os) (started : os.Started) (H : Type) (enc : TypeId × Value → H) :
    ReturnsInHanded {} Try.checked os 4 .any (Rows.fnExactIsHorseshoeSpec.pre6 enc Try.prog Try.f4 Rows.fnExactIsHorseshoeRow.domain false) (Rows.fnExactIsHorseshoeSpec.post enc Try.prog Try.f4 false true false false) := by
  refine returnsInHanded_of_change (C := Try.checked) Try.own started (by kernel_rfl) Try.func4
    (ChangeSpec.witness6 (enc := enc) (C := Try.checked) false ⟨#[], #[.slice none 0 0, .agg #[.int .i64 0, .int .i64 0, .int .i64 0, .int .i64 0], .agg #[.int .i64 0, .int .i64 0, .int .i64 0, .int .i64 0]], []⟩ 8 (by kernel_rfl) (by kernel_rfl) (by kernel_rfl) (by kernel_rfl)) ?_
  intro W base args ds gs before hval0 hW _ _
  have hval : ∀ (j : Nat) t v, Try.f4.params[j]? = some t → args[j]? = some v → Value.okWide Try.prog W .any base t v := hval0
  have hW' := hW
  obtain ⟨p, q, hA0, hV, rfl, _, _⟩ := hW
  have hA : DataW.TrodAll enc Try.prog W 0 (fun _ => true) true Try.f4.params.toList args.toList ds p := hA0
  have hA' := hA
  rw [Try.params4] at hA hval
  obtain ⟨v0, v1, v2, d0, d1, d2, p0, p1, p2, rfl, rfl, rfl, h0, h1, h2⟩ := trodAll_three hA
  obtain ⟨rfl, rfl⟩ := trodVars_none hV
  obtain ⟨x0, hx0⟩ := open_ptsV (hval 0 22 v0 rfl rfl) h0
  obtain ⟨x1, rfl, hx1⟩ := open_ivX (hval 1 40 v1 rfl rfl) h1
  obtain ⟨x2, rfl, hx2⟩ := open_ivX (hval 2 40 v2 rfl rfl) h2
  refine (lawIsHorseshoe_any v0 x0 x1 x2 W hx0 hx1 hx2).mono fun e W' ⟨he, hB⟩ => ?_
  subst he
  exact law_post hW' rfl hA' (by rw [Try.params4]; decide +kernel) rfl rfl rfl rfl hB

theorem fnExactIsHorseshoe_holds : Rows.FnExactIsHorseshoeSaid :=
  OpenClaim.holds_of_wide 4 Try.f4 rfl rfl rfl rfl rfl rfl rfl ⟨rfl, rfl, rfl, rfl, rfl⟩ rfl rfl rfl rfl rfl (by kernel_rfl) Try.func4 (by kernel_rfl)
    (of_decide_eq_true (by kernel_rfl)) (by unfold Func.isWrapper; rw [if_neg (of_decide_eq_false (by kernel_rfl))]; exact ⟨rfl, rfl⟩)
    (fun os started H enc _ => lawIsHorseshoe_lifted os started H enc)

#print axioms fnExactIsHorseshoe_holds
end Go.Proofs.Ytfcanpebagpdbaa

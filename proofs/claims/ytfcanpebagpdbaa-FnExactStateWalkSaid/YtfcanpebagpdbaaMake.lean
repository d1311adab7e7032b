/- The reference's fractions in lowest terms; small fractions. No conditions but bounds. -/
import Derived.Test.YtfcanpebagpdbaaRats
namespace Go.Proofs.Ytfcanpebagpdbaa
open Go.RowKit

set_option maxHeartbeats 1600000 in
theorem raMake_core (x y g p q : Int) (w : World) (hx : -4000000000000000000 ≤ x ∧ x ≤ 4000000000000000000) (hy : -4000000000000000000 ≤ y ∧ y ≤ 4000000000000000000) (h0 : y ≠ 0) (hp : x.tdiv g = p) (hq : y.tdiv g = q)
    (hg : g = if y < 0 then -gcdI x y else gcdI x y) : Calls Try.prog 153 #[.int .i64 x, .int .i64 y] w (Ret (.tuple #[if goodR p q = true then ratV (p, q) else ratV (0, 0), .bool (goodR p q)]) w) := by
  have hB : Below w.heap.size w (w.alloc (.cells #[.int .i64 0, .int .i64 0] 34)) := (Below.refl _ _).alloc (Nat.le_refl _) _
  have g1 := gcdI_pos (x := x) h0
  have g2 := gcdI_le (x := x) h0
  have b1 := tdiv_bd x g
  have b2 := tdiv_bd y g
  rw [hp] at b1
  rw [hq] at b2
  have bx : -9223372036854775807 ≤ x ∧ x ≤ 9223372036854775807 := by omega
  have by' : -9223372036854775807 ≤ y ∧ y ≤ 9223372036854775807 := by omega
  have ba : (0 : Int) ≤ (x.natAbs : Int) ∧ (x.natAbs : Int) ≤ 9223372036854775807 := by omega
  have bb : (0 : Int) ≤ (y.natAbs : Int) ∧ (y.natAbs : Int) ≤ 9223372036854775807 := by omega
  have eG : gcdI (x.natAbs : Int) (y.natAbs : Int) = gcdI x y := by unfold gcdI; simp
  have y0 : (y == 0) = false := by rw [beq_eq_false_iff_ne]; exact h0
  generalize gcdI x y = G at *
  have g3 : G ≤ 4000000000000000000 := by omega
  have p1 : -4000000000000000000 ≤ p ∧ p ≤ 4000000000000000000 := by omega
  have p2 : -4000000000000000000 ≤ q ∧ q ≤ 4000000000000000000 := by omega
  have cr := fun w => raGood_any p q w
  have g0 : (g == 0) = false := by rw [beq_eq_false_iff_ne]; subst hg; split <;> omega
  have g4 : g ≠ 0 := by subst hg; split <;> omega
  have cr' := Lib.hid cr
  have hg' := Lib.hid hg
  clear cr hg
  clear g2 b1 b2
  by_cases hneg : y < 0
  · have e : -G = g := by rw [hg'.out, if_pos hneg]
    cases hr : goodR p q
    · rw [hr] at cr'
      rw [if_neg (by simp)]
      clear hr
      go_enter Try.func153, Try.ntmps153
      go_wp2_with fail
      refine (l1Abs_any _ _ bx).mono ?_
      rintro e w_ ⟨rfl, rfl⟩
      go_wp2_with fail
      refine (l1Abs_any _ _ by').mono ?_
      rintro e w_ ⟨rfl, rfl⟩
      go_wp2_with fail
      refine (raCommon_is _ _ _ ba bb).mono ?_
      rintro e w_ ⟨rfl, rfl⟩
      go_wp2_with fail
      go_region
      all_goals go_wp2_with fail
      refine (cr'.out _).mono ?_
      rintro e w3 ⟨rfl, hB3⟩
      obtain ⟨hc, hf⟩ := bcell hB3
      have hz : w.heap.size + 1 < w3.heap.size := by have := hB3.size; simp at this; omega
      have hBz : Below w.heap.size w w3 := ((below_drewN hB _).alloc (by simp) _).trans (hB3.mono (by simp; omega))
      have q0 : w3.cell? ⟨w.heap.size, 0, none⟩ = some (.int .i64 0) := by rw [hc _ _ (by simp; omega)]; simp [go_sem]
      have q1 : w3.cell? ⟨w.heap.size, 1, none⟩ = some (.int .i64 0) := by rw [hc _ _ (by simp; omega)]; simp [go_sem]
      go_wp2
      refine bodyPost_ret (v := .tuple #[ratV (0, 0), .bool false]) (by simp [results, Try.results153, go_sem, q0, q1, ratV]) rfl ⟨rfl, ?_⟩
      exact (hBz.setCell (p := ⟨w.heap.size, 0, none⟩) (Nat.le_refl _) _).setCell (p := ⟨w.heap.size, 1, none⟩) (Nat.le_refl _) _
    · rw [hr] at cr'
      rw [if_pos rfl]
      clear hr
      go_enter Try.func153, Try.ntmps153
      go_wp2_with fail
      refine (l1Abs_any _ _ bx).mono ?_
      rintro e w_ ⟨rfl, rfl⟩
      go_wp2_with fail
      refine (l1Abs_any _ _ by').mono ?_
      rintro e w_ ⟨rfl, rfl⟩
      go_wp2_with fail
      refine (raCommon_is _ _ _ ba bb).mono ?_
      rintro e w_ ⟨rfl, rfl⟩
      go_wp2_with fail
      go_region
      all_goals go_wp2_with fail
      refine (cr'.out _).mono ?_
      rintro e w3 ⟨rfl, hB3⟩
      obtain ⟨hc, hf⟩ := bcell hB3
      have hz : w.heap.size + 1 < w3.heap.size := by have := hB3.size; simp at this; omega
      have hBz : Below w.heap.size w w3 := ((below_drewN hB _).alloc (by simp) _).trans (hB3.mono (by simp; omega))
      have q0 : w3.cell? ⟨w.heap.size, 0, none⟩ = some (.int .i64 0) := by rw [hc _ _ (by simp; omega)]; simp [go_sem]
      have q1 : w3.cell? ⟨w.heap.size, 1, none⟩ = some (.int .i64 0) := by rw [hc _ _ (by simp; omega)]; simp [go_sem]
      go_wp2
      refine bodyPost_ret (v := .tuple #[ratV (p, q), .bool true]) (by simp [results, Try.results153, go_sem, q0, q1, ratV]) rfl ⟨rfl, ?_⟩
      exact (hBz.setCell (p := ⟨w.heap.size, 0, none⟩) (Nat.le_refl _) _).setCell (p := ⟨w.heap.size, 1, none⟩) (Nat.le_refl _) _
  · have e : G = g := by rw [hg'.out, if_neg hneg]
    cases hr : goodR p q
    · rw [hr] at cr'
      rw [if_neg (by simp)]
      clear hr
      go_enter Try.func153, Try.ntmps153
      go_wp2_with fail
      refine (l1Abs_any _ _ bx).mono ?_
      rintro e w_ ⟨rfl, rfl⟩
      go_wp2_with fail
      refine (l1Abs_any _ _ by').mono ?_
      rintro e w_ ⟨rfl, rfl⟩
      go_wp2_with fail
      refine (raCommon_is _ _ _ ba bb).mono ?_
      rintro e w_ ⟨rfl, rfl⟩
      go_wp2_with fail
      go_region
      all_goals go_wp2_with fail
      refine (cr'.out _).mono ?_
      rintro e w3 ⟨rfl, hB3⟩
      obtain ⟨hc, hf⟩ := bcell hB3
      have hz : w.heap.size + 1 < w3.heap.size := by have := hB3.size; simp at this; omega
      have hBz : Below w.heap.size w w3 := ((below_drewN hB _).alloc (by simp) _).trans (hB3.mono (by simp; omega))
      have q0 : w3.cell? ⟨w.heap.size, 0, none⟩ = some (.int .i64 0) := by rw [hc _ _ (by simp; omega)]; simp [go_sem]
      have q1 : w3.cell? ⟨w.heap.size, 1, none⟩ = some (.int .i64 0) := by rw [hc _ _ (by simp; omega)]; simp [go_sem]
      go_wp2
      refine bodyPost_ret (v := .tuple #[ratV (0, 0), .bool false]) (by simp [results, Try.results153, go_sem, q0, q1, ratV]) rfl ⟨rfl, ?_⟩
      exact (hBz.setCell (p := ⟨w.heap.size, 0, none⟩) (Nat.le_refl _) _).setCell (p := ⟨w.heap.size, 1, none⟩) (Nat.le_refl _) _
    · rw [hr] at cr'
      rw [if_pos rfl]
      clear hr
      go_enter Try.func153, Try.ntmps153
      go_wp2_with fail
      refine (l1Abs_any _ _ bx).mono ?_
      rintro e w_ ⟨rfl, rfl⟩
      go_wp2_with fail
      refine (l1Abs_any _ _ by').mono ?_
      rintro e w_ ⟨rfl, rfl⟩
      go_wp2_with fail
      refine (raCommon_is _ _ _ ba bb).mono ?_
      rintro e w_ ⟨rfl, rfl⟩
      go_wp2_with fail
      go_region
      all_goals go_wp2_with fail
      refine (cr'.out _).mono ?_
      rintro e w3 ⟨rfl, hB3⟩
      obtain ⟨hc, hf⟩ := bcell hB3
      have hz : w.heap.size + 1 < w3.heap.size := by have := hB3.size; simp at this; omega
      have hBz : Below w.heap.size w w3 := ((below_drewN hB _).alloc (by simp) _).trans (hB3.mono (by simp; omega))
      have q0 : w3.cell? ⟨w.heap.size, 0, none⟩ = some (.int .i64 0) := by rw [hc _ _ (by simp; omega)]; simp [go_sem]
      have q1 : w3.cell? ⟨w.heap.size, 1, none⟩ = some (.int .i64 0) := by rw [hc _ _ (by simp; omega)]; simp [go_sem]
      go_wp2
      refine bodyPost_ret (v := .tuple #[ratV (p, q), .bool true]) (by simp [results, Try.results153, go_sem, q0, q1, ratV]) rfl ⟨rfl, ?_⟩
      exact (hBz.setCell (p := ⟨w.heap.size, 0, none⟩) (Nat.le_refl _) _).setCell (p := ⟨w.heap.size, 1, none⟩) (Nat.le_refl _) _
theorem raMake_any (x y : Int) (w : World) (hx : -4000000000000000000 ≤ x ∧ x ≤ 4000000000000000000) (hy : -4000000000000000000 ≤ y ∧ y ≤ 4000000000000000000) (h0 : y ≠ 0) :
    Calls Try.prog 153 #[.int .i64 x, .int .i64 y] w (Ret (.tuple #[ratV (mkR x y).1, .bool (mkR x y).2]) w) := by
  have h := raMake_core x y (if y < 0 then -gcdI x y else gcdI x y) (lowN x y) (lowD x y) w hx hy h0 (by unfold lowN; split <;> rfl) (by unfold lowD; split <;> rfl) rfl
  cases hr : goodR (lowN x y) (lowD x y)
  · rw [mkR_no hr]; rw [hr, if_neg (by simp)] at h; exact h
  · rw [mkR_yes hr]; rw [hr, if_pos rfl] at h; exact h

end Go.Proofs.Ytfcanpebagpdbaa

/- Whether points are a map: the reference's imGood. No conditions. -/
import Derived.Test.YtgpabfbnbmbmeaaGreatDoorMapLaw
import Derived.Deep.RegionHeld3
namespace Go.Proofs.YtgpabfbnbmbmeaaGreatDoor
open Go.RowKit
set_option maxRecDepth 100000

/-- A point as a value. -/
abbrev ptV (p : Quad) : Value := .agg #[.int .i64 p.1.1, .int .i64 p.1.2, .int .i64 p.2.1, .int .i64 p.2.2]


theorem mapB_no_len {f : List Quad} (h : inB f.length 2 12 = false) : mapB f = false := by simp [mapB, h]
theorem mapB_no_coord {f : List Quad} {k : Nat} (hk : k < f.length) (h : coordP (nth4 f k) = false) : mapB f = false := by
  have : f.all coordP = false := by
    rw [List.all_eq_false]
    exact ⟨nth4 f k, by rw [nth4_eq hk]; exact List.getElem_mem hk, by rw [h]; simp⟩
  unfold mapB
  rw [this]; simp
theorem mapB_no_rise {f : List Quad} (h : riseK (xsL f) f.length = false) : mapB f = false := by simp [mapB, h]
theorem mapB_fin {f : List Quad} (h0 : inB f.length 2 12 = true) (h1 : ∀ i, i < f.length → coordP (nth4 f i) = true) (h2 : riseK (xsL f) f.length = true) : mapB f = (decide ((nth4 f 0).1 = (0, 1)) && decide ((nth4 f (f.length - 1)).1 = (1, 1))) := by
  have : f.all coordP = true := by
    rw [List.all_eq_true]
    intro x hx
    obtain ⟨i, hi, rfl⟩ := List.getElem_of_mem hx
    have := h1 i hi
    rw [nth4_eq hi] at this; exact this
  unfold mapB
  rw [h0, this, h2, Bool.true_and, Bool.true_and, Bool.true_and]
theorem sgn_zero (z : Int) : sgn z = 0 ↔ z = 0 := by unfold sgn; split <;> (try split) <;> omega
theorem cmp_zero {r : Int × Int} (h : goodR r.1 r.2 = true) : (cmpN r.1 r.2 0 1 == 0) = decide (r = (0, 1)) := by
  obtain ⟨⟨h1, _⟩, _, h3⟩ := goodR_all h
  obtain ⟨n, d⟩ := r
  simp only at h1 h3
  unfold cmpN
  rw [Bool.eq_iff_iff, beq_iff_eq, sgn_zero, decide_eq_true_iff, Prod.mk.injEq]
  constructor
  · intro e
    have e0 : n = 0 := by omega
    rw [e0] at h3
    simp at h3
    omega
  · rintro ⟨rfl, rfl⟩; rfl
theorem cmp_one {r : Int × Int} (h : goodR r.1 r.2 = true) : (cmpN r.1 r.2 1 1 == 0) = decide (r = (1, 1)) := by
  obtain ⟨⟨h1, _⟩, _, h3⟩ := goodR_all h
  obtain ⟨n, d⟩ := r
  simp only at h1 h3
  unfold cmpN
  rw [Bool.eq_iff_iff, beq_iff_eq, sgn_zero, decide_eq_true_iff, Prod.mk.injEq]
  constructor
  · intro e
    have e0 : n = d := by omega
    rw [e0] at h3
    simp at h3
    omega
  · rintro ⟨rfl, rfl⟩; rfl
theorem bd_zero : BdR 0 1 := ⟨⟨by omega, by omega⟩, by omega, by omega⟩
theorem bd_one : BdR 1 1 := ⟨⟨by omega, by omega⟩, by omega, by omega⟩
theorem good_bd {r : Int × Int} (h : goodR r.1 r.2 = true) : BdR r.1 r.2 := ⟨(goodR_all h).1, (goodR_all h).2.1⟩
theorem cmp_ge (a b : Int × Int) : decide (cmpN a.1 a.2 b.1 b.2 ≥ 0) = !ltB a.1 a.2 b.1 b.2 := by
  rw [← cmpN_lt, ← decide_not]
  congr 1
  apply propext
  omega


end Go.Proofs.YtgpabfbnbmbmeaaGreatDoor

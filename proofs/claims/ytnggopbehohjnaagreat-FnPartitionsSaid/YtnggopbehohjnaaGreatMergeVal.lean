/- The union of two partitions is a partition, if it has not too many cuts. Plain laws, no program in sight. -/
import Derived.Test.YtnggopbehohjnaaGreatMergeLaw
import Derived.Test.YtnggopbehohjnaaGreatPkC
import Derived.Test.YtnggopbehohjnaaGreatPkD
namespace Go.Proofs.YtnggopbehohjnaaGreat
open Go.RowKit

theorem pt_unit {xs : List (Int × Int)} (h : partB xs = true) : ∀ x, x ∈ xs → unitR x.1 x.2 = true := by
  unfold partB at h
  rw [Bool.and_eq_true, Bool.and_eq_true] at h
  intro x hx
  obtain ⟨i, hi, rfl⟩ := List.getElem_of_mem hx
  rw [← nthR_eq hi]
  exact unitsB_nth h.2.1 hi
theorem pt_good {xs : List (Int × Int)} (h : partB xs = true) : ∀ x, x ∈ xs → goodR x.1 x.2 = true := fun x hx => (unitR_qv.1 (pt_unit h x hx)).1
theorem pt_ends {xs : List (Int × Int)} (h : partB xs = true) : nthR xs 0 = (0, 1) ∧ nthR xs (xs.length - 1) = (1, 1) := by
  unfold partB at h
  simp only [Bool.and_eq_true, decide_eq_true_iff] at h
  exact h.2.2.2
theorem pt_rise {xs : List (Int × Int)} (h : partB xs = true) : RiseL xs := by
  have hg := pt_good h
  have h1 : ∀ i, i + 1 < xs.length → ltB (nthR xs i).1 (nthR xs i).2 (nthR xs (i + 1)).1 (nthR xs (i + 1)).2 = true := by
    unfold partB at h
    simp only [Bool.and_eq_true] at h
    have h3 := h.2.2.1
    intro i hi
    unfold riseK at h3
    rw [List.all_eq_true] at h3
    exact h3 i (List.mem_range.2 (by omega))
  have hgn : ∀ i, i < xs.length → goodR (nthR xs i).1 (nthR xs i).2 = true := fun i hi => hg _ (by rw [nthR_eq hi]; exact List.getElem_mem hi)
  have h2 : ∀ j i, i < j → j < xs.length → qv (nthR xs i) < qv (nthR xs j) := by
    intro j
    induction j with
    | zero => intro i h; omega
    | succ j ih =>
      intro i q hj
      have h2 := (ltB_qv (hgn j (by omega)) (hgn (j + 1) hj)).1 (h1 j hj)
      by_cases e : i = j
      · rw [e]; exact h2
      · have := ih i (by omega) (by omega)
        grind
  refine List.pairwise_iff_getElem.2 fun i j hi hj hij => ?_
  rw [← nthR_eq hi, ← nthR_eq hj]
  exact h2 j i hij hj
theorem qv01 : qv (0, 1) = 0 := by unfold qv; first | rfl | decide | (simp; grind)
theorem qv11 : qv (1, 1) = 1 := by unfold qv; first | rfl | decide | (simp; grind)
theorem pt_of {M : List (Int × Int)} (h9 : M.length ≤ 9) (hu : ∀ x, x ∈ M → unitR x.1 x.2 = true) (hr : RiseL M) (m0 : (0, 1) ∈ M) (m1 : (1, 1) ∈ M) : partB M = true := by
  have hq := List.pairwise_iff_getElem.1 hr
  obtain ⟨i, hi, ei⟩ := List.getElem_of_mem m0
  obtain ⟨j, hj, ej⟩ := List.getElem_of_mem m1
  have hi0 : i = 0 := by
    apply Nat.eq_zero_of_not_pos
    intro q
    have h1 := hq 0 i (by omega) hi q
    rw [ei, qv01] at h1
    have := (unitR_qv.1 (hu _ (List.getElem_mem (show 0 < M.length by omega)))).2.1
    grind
  have hj1 : j = M.length - 1 := by
    apply Classical.byContradiction
    intro q
    have h1 := hq j (M.length - 1) hj (by omega) (by omega)
    rw [ej, qv11] at h1
    have := (unitR_qv.1 (hu _ (List.getElem_mem (show M.length - 1 < M.length by omega)))).2.2
    grind
  have hij : i ≠ j := fun e => by
    subst e
    rw [ei] at ej
    simp at ej
  have hl : 2 ≤ M.length := by omega
  unfold partB
  simp only [Bool.and_eq_true, decide_eq_true_iff]
  refine ⟨inB_true.2 ⟨by omega, by omega⟩, ?_, ?_, ?_, ?_⟩
  · unfold unitsB
    rw [Bool.not_eq_true', List.any_eq_false]
    intro x hx
    simp [hu x hx]
  · unfold riseK
    rw [List.all_eq_true]
    intro k hk
    have hk' := List.mem_range.1 hk
    have a1 : k < M.length := by omega
    have a2 : k + 1 < M.length := by omega
    rw [nthR_eq a1, nthR_eq a2]
    exact (ltB_qv (unitR_qv.1 (hu _ (List.getElem_mem a1))).1 (unitR_qv.1 (hu _ (List.getElem_mem a2))).1).2 (hq k (k + 1) a1 a2 (by omega))
  · rw [nthR_eq (show 0 < M.length by omega), ← ei]; simp only [hi0]
  · rw [nthR_eq (show M.length - 1 < M.length by omega), ← ej]; simp only [hj1]
theorem merge_part {xs ys : List (Int × Int)} (hx : partB xs = true) (hy : partB ys = true) : partB (mergeL xs ys) = decide ((mergeL xs ys).length ≤ 9) := by
  obtain ⟨h1, h2⟩ := merge_rise ys (pt_rise hx) (pt_good hx) (pt_good hy)
  have hl := partB_len hx
  have e := pt_ends hx
  by_cases h9 : (mergeL xs ys).length ≤ 9
  · rw [decide_eq_true h9]
    refine pt_of h9 (fun x hm => ?_) h1 ((h2 _).2 (.inl ?_)) ((h2 _).2 (.inl ?_))
    · rcases (h2 x).1 hm with q | q
      · exact pt_unit hx x q
      · exact pt_unit hy x q
    · rw [← e.1, nthR_eq (by omega)]; exact List.getElem_mem _
    · rw [← e.2, nthR_eq (by omega)]; exact List.getElem_mem _
  · rw [decide_eq_false h9]
    cases h : partB (mergeL xs ys)
    · rfl
    · exact absurd (partB_len h).2 h9
theorem putR_len (l : List (Int × Int)) (x : Int × Int) : l.length ≤ (putR l x).length ∧ (putR l x).length ≤ l.length + 1 := by
  have h := putN_le l x
  unfold putR
  split
  · omega
  · rw [List.length_append, List.length_cons, List.length_take, List.length_drop]; omega
theorem mergeL_len (ys : List (Int × Int)) : ∀ xs : List (Int × Int), xs.length ≤ (mergeL xs ys).length ∧ (mergeL xs ys).length ≤ xs.length + ys.length := by
  induction ys with
  | nil => intro xs; exact ⟨Nat.le_refl _, Nat.le_refl _⟩
  | cons y t ih =>
    intro xs
    have h1 := putR_len xs y
    have h2 := ih (putR xs y)
    have e : mergeL xs (y :: t) = mergeL (putR xs y) t := rfl
    rw [e, List.length_cons]
    omega
theorem mergeL_take {xs ys : List (Int × Int)} {k : Nat} (h : k < ys.length) : mergeL xs (ys.take (k + 1)) = putR (mergeL xs (ys.take k)) (nthR ys k) := by
  rw [take_nthR h]; unfold mergeL; rw [List.foldl_append]; rfl

/-- What both return. -/
def MergePartitions_v (xs ys : List (Int × Int)) : List (Int × Int) × Bool := if partB xs = true ∧ partB ys = true ∧ (mergeL xs ys).length ≤ 9 then (mergeL xs ys, true) else ([], false)
theorem MergePartitions_len (xs ys : List (Int × Int)) : (MergePartitions_v xs ys).1.length ≤ 1099511627776 := by
  unfold MergePartitions_v
  split
  · rename_i h; show (mergeL xs ys).length ≤ _; omega
  · exact Nat.zero_le _
end Go.Proofs.YtnggopbehohjnaaGreat

/- Partitions: widths add up, merged ones have all cuts, states have their fractions. Plain laws, no program in sight. -/
import Derived.Test.YtnggopbehohjnaaGreatMergeVal
import Derived.Test.YtnggopbehohjnaaGreatMarkov
namespace Go.Proofs.YtnggopbehohjnaaGreat
open Go.RowKit

theorem widths_ok {xs : List (Int × Int)} {l : List (Int × Int)} (h : WidthsOf_v xs = (l, true)) : partB xs = true ∧ l.length = xs.length - 1 ∧
    ∀ i, i < xs.length - 1 → addR (nthR xs i) (nthR l i) = (nthR xs (i + 1), true) ∧ goodR (nthR l i).1 (nthR l i).2 = true := by
  unfold WidthsOf_v at h
  split at h
  · rename_i hc
    rw [Bool.and_eq_true] at hc
    obtain ⟨hp, ho⟩ := hc
    have e : wdK xs (xs.length - 1) = l := congrArg Prod.fst h
    refine ⟨hp, by rw [← e, wdK_len], fun i hi => ?_⟩
    have hg := partB_good hp
    have g1 := hg i (by omega)
    have g2 := hg (i + 1) (by omega)
    have hi2 : (wdR xs i).2 = true := by
      unfold wdOk at ho
      rw [List.all_eq_true] at ho
      exact ho i (List.mem_range.2 hi)
    obtain ⟨g3, q⟩ := subR_qv g2 g1 hi2
    have el : nthR l i = (wdR xs i).1 := by
      rw [← e, nthR_eq (by rw [wdK_len]; exact hi)]
      simp [wdK]
    have g4 : goodR (nthR l i).1 (nthR l i).2 = true := by rw [el]; exact g3
    refine ⟨?_, g4⟩
    have hd := den_ne g1 g4
    refine mkR_is hd g2 ?_
    have q2 : qv (nthR l i) = qv (nthR xs (i + 1)) - qv (nthR xs i) := by rw [el]; exact q
    have q3 : qv (nthR xs (i + 1)) = qv (nthR xs i) + qv (nthR l i) := by rw [q2]; grind
    rw [q3]
    have d1 := ratC_ne (show (nthR xs i).2 ≠ 0 by have := good_den g1; omega)
    have d2 := ratC_ne (show (nthR l i).2 ≠ 0 by have := good_den g4; omega)
    unfold qv
    rw [Rat.intCast_add, Rat.intCast_mul, Rat.intCast_mul, Rat.intCast_mul]
    grind
  · cases h

theorem merge_comm {xs ys : List (Int × Int)} (hx : partB xs = true) (hy : partB ys = true) : mergeL xs ys = mergeL ys xs := by
  obtain ⟨h1, h2⟩ := merge_rise ys (pt_rise hx) (pt_good hx) (pt_good hy)
  obtain ⟨h3, h4⟩ := merge_rise xs (pt_rise hy) (pt_good hy) (pt_good hx)
  refine rise_ext h1 h3 fun y => ?_
  rw [h2 y, h4 y]
  exact Or.comm
theorem Merge_comm (xs ys : List (Int × Int)) : MergePartitions_v xs ys = MergePartitions_v ys xs := by
  unfold MergePartitions_v
  by_cases h : partB xs = true ∧ partB ys = true
  · rw [merge_comm h.1 h.2]
    simp only [h.1, h.2]
  · rw [if_neg (fun q => h ⟨q.1, q.2.1⟩), if_neg (fun q => h ⟨q.2.1, q.1⟩)]
theorem merge_has {xs ys l : List (Int × Int)} (h : MergePartitions_v xs ys = (l, true)) : ∀ x, x ∈ xs ++ ys → x ∈ l := by
  unfold MergePartitions_v at h
  split at h
  · rename_i hc
    have e : mergeL xs ys = l := congrArg Prod.fst h
    obtain ⟨_, h2⟩ := merge_rise ys (pt_rise hc.1) (pt_good hc.1) (pt_good hc.2.1)
    intro x hx
    rw [← e, h2 x]
    exact List.mem_append.1 hx
  · cases h
theorem merge_part_ok {xs ys l : List (Int × Int)} (h : MergePartitions_v xs ys = (l, true)) : partB xs = true ∧ partB ys = true ∧ l.length ≤ 9 := by
  unfold MergePartitions_v at h
  split at h
  · rename_i hc
    have e : mergeL xs ys = l := congrArg Prod.fst h
    exact ⟨hc.1, hc.2.1, by rw [← e]; exact hc.2.2⟩
  · cases h

/-- The states that a fraction belongs to are one, or two neighbours. -/
theorem st_form {xs : List (Int × Int)} {x : Int × Int} (hp : partB xs = true) (hx : unitR x.1 x.2 = true) : ∀ k, k ≤ xs.length - 1 →
    (stK xs x k = [] ∧ (0 < k → qv (nthR xs k) < qv x)) ∨ (∃ i : Nat, i < k ∧ stK xs x k = [(i : Int)] ∧ stB xs x i = true) ∨ ∃ i : Nat, i + 1 < k ∧ stK xs x k = [(i : Int), ((i + 1 : Nat) : Int)] ∧ stB xs x i = true ∧ stB xs x (i + 1) = true := by
  have hg := partB_good hp
  have hr := List.pairwise_iff_getElem.1 (pt_rise hp)
  have hgx := (unitR_qv.1 hx).1
  have hx0 := (unitR_qv.1 hx).2.1
  have hlen := partB_len hp
  have e0 := (pt_ends hp).1
  have rise : ∀ i j, i < j → j < xs.length → qv (nthR xs i) < qv (nthR xs j) := fun i j h1 h2 => by
    rw [nthR_eq (by omega), nthR_eq h2]; exact hr i j (by omega) h2 h1
  have hB : ∀ i, i + 1 < xs.length → (stB xs x i = true ↔ qv (nthR xs i) ≤ qv x ∧ qv x ≤ qv (nthR xs (i + 1))) := fun i hi => by
    unfold stB
    rw [Bool.and_eq_true, Bool.not_eq_true', Bool.not_eq_true', ltB_qvf hgx (hg i (by omega)), ltB_qvf (hg (i + 1) hi) hgx]
  intro k
  induction k with
  | zero => exact fun _ => .inl ⟨rfl, fun h => absurd h (Nat.lt_irrefl 0)⟩
  | succ k ih =>
    intro hk
    have hb := hB k (by omega)
    have h2 := ih (by omega)
    rw [stK]
    by_cases hs : stB xs x k = true
    · rw [if_pos hs]
      have hs2 := hb.1 hs
      rcases h2 with ⟨e, -⟩ | ⟨i, hi, e, hsi⟩ | ⟨i, hi, e, hsi, hsj⟩
      · exact .inr (.inl ⟨k, by omega, by rw [e]; rfl, hs⟩)
      · have hki : k = i + 1 := by
          apply Classical.byContradiction
          intro hne
          have h5 := ((hB i (by omega)).1 hsi).2
          have h6 := rise (i + 1) k (by omega) (by omega)
          grind
        subst hki
        exact .inr (.inr ⟨i, by omega, by rw [e]; rfl, hsi, hs⟩)
      · exfalso
        have h5 := ((hB i (by omega)).1 hsi).2
        have h6 := rise (i + 1) k (by omega) (by omega)
        grind
    · rw [if_neg hs]
      rcases h2 with ⟨e, hlt⟩ | ⟨i, hi, e, hsi⟩ | ⟨i, hi, e, hsi, hsj⟩
      · refine .inl ⟨e, fun _ => ?_⟩
        have h0 : qv (nthR xs k) ≤ qv x := by
          by_cases k0 : 0 < k
          · have := hlt k0; grind
          · obtain rfl : k = 0 := by omega
            rw [e0, qv01]; exact hx0
        apply Classical.byContradiction
        intro hn
        exact hs (hb.2 ⟨h0, by grind⟩)
      · exact .inr (.inl ⟨i, by omega, e, hsi⟩)
      · exact .inr (.inr ⟨i, by omega, e, hsi, hsj⟩)
theorem states_are {xs : List (Int × Int)} {x : Int × Int} {l : List Int} (h : StatesOf_v xs x = (l, true)) :
    partB xs = true ∧ unitR x.1 x.2 = true ∧ 1 ≤ l.length ∧ l.length ≤ 2 ∧ ∀ j, j < l.length → ∃ i : Nat, nth l j = (i : Int) ∧ i + 1 < xs.length ∧ stB xs x i = true := by
  unfold StatesOf_v at h
  split at h
  · rename_i hc
    rw [Bool.and_eq_true] at hc
    have e : stL xs x = l := congrArg Prod.fst h
    have hlen := partB_len hc.1
    have e1 := (pt_ends hc.1).2
    have hx1 := (unitR_qv.1 hc.2).2.2
    refine ⟨hc.1, hc.2, ?_⟩
    have hf := st_form hc.1 hc.2 (xs.length - 1) (Nat.le_refl _)
    have e' : stK xs x (xs.length - 1) = l := e
    rw [e'] at hf
    rcases hf with ⟨_, h1⟩ | ⟨i, hi, rfl, hs⟩ | ⟨i, hi, rfl, hs, hs2⟩
    · exfalso
      have := h1 (by omega)
      rw [e1, qv11] at this
      grind
    · refine ⟨by simp, by simp, fun j hj => ?_⟩
      obtain rfl : j = 0 := by simpa using hj
      exact ⟨i, rfl, by omega, hs⟩
    · refine ⟨by simp, by simp, fun j hj => ?_⟩
      have hj' : j < 2 := hj
      by_cases j0 : j = 0
      · subst j0; exact ⟨i, rfl, by omega, hs⟩
      · obtain rfl : j = 1 := by omega
        exact ⟨i + 1, rfl, by omega, hs2⟩
  · cases h

/-- A linear Markov partition is Markov. -/
theorem linear_markov {f : List Quad} {xs : List (Int × Int)} {b : Bool} (h : IsLinearMarkov_v f xs = (true, b)) : (IsMarkov_v f xs).1 = true := by
  unfold IsLinearMarkov_v at h
  have h1 : ((KeepsCuts_v f xs).1 && (xsL (smL f)).all (hasR xs)) = true := congrArg Prod.fst h
  rw [Bool.and_eq_true] at h1
  show ((KeepsCuts_v f xs).1 && (tuL f).all (hasR xs)) = true
  rw [h1.1, tu_all h1.2]; rfl
end Go.Proofs.YtnggopbehohjnaaGreat

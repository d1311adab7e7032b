/- The graph of a Markov partition: coverings are the cuts between values. Plain laws, no program in sight. -/
import Derived.Test.YtfcanpebagpdbaaGreatMonoLaw
import Derived.Test.YtfcanpebagpdbaaGreatCovGraphS
import Derived.Test.YtfcanpebagpdbaaGreatPkC
namespace Go.Proofs.YtfcanpebagpdbaaGreat
open Go.RowKit

/-- The place of the value at cut i. -/
def uI (f : List Quad) (xs : List (Int × Int)) (i : Nat) : Nat := (plcR xs (atZ f (nthR xs i))).toNat
def mgN (f : List Quad) (xs : List (Int × Int)) (i j : Nat) : Int := if min (uI f xs i) (uI f xs (i + 1)) ≤ j ∧ j < max (uI f xs i) (uI f xs (i + 1)) then 1 else 0
open Classical in
noncomputable def MarkovGraph_v (f : List Quad) (xs : List (Int × Int)) : List (List Int) × Bool :=
  if mapB f = true ∧ partB xs = true ∧ mm_v f xs false = (true, true) then (tab (xs.length - 1) (xs.length - 1) (mgN f xs), true) else ([], false)
theorem MarkovGraph_len (f : List Quad) (xs : List (Int × Int)) : szIntSS (MarkovGraph_v f xs).1 ≤ 1099511627776 := by
  unfold MarkovGraph_v
  split
  · rename_i h
    have hl := partB_len h.2.1
    show szIntSS (tab _ _ _) ≤ _
    rw [sz_tab]
    have : (xs.length - 1) * (xs.length - 1) ≤ 8 * 8 := Nat.mul_le_mul (by omega) (by omega)
    omega
  · exact Nat.zero_le _

theorem cuts_good {xs : List (Int × Int)} (h : partB xs = true) : ∀ i, i < xs.length → goodR (nthR xs i).1 (nthR xs i).2 = true := fun i hi => unitR_good (cuts_unit h i hi)
theorem cuts_rise1 {xs : List (Int × Int)} (h : partB xs = true) : ∀ i, i + 1 < xs.length → ltB (nthR xs i).1 (nthR xs i).2 (nthR xs (i + 1)).1 (nthR xs (i + 1)).2 = true := by
  unfold partB at h
  simp only [Bool.and_eq_true] at h
  have h3 := h.2.2.1
  intro i hi
  unfold riseK at h3
  rw [List.all_eq_true] at h3
  exact h3 i (List.mem_range.2 (by omega))
theorem cuts_rise {xs : List (Int × Int)} (h : partB xs = true) : ∀ j i, i < j → j < xs.length → qv (nthR xs i) < qv (nthR xs j) := by
  intro j
  induction j with
  | zero => intro i h; omega
  | succ j ih =>
    intro i h1 hj
    have h2 := (ltB_qv (cuts_good h j (by omega)) (cuts_good h (j + 1) hj)).1 (cuts_rise1 h j hj)
    by_cases e : i = j
    · rw [e]; exact h2
    · have := ih i (by omega) (by omega)
      grind
theorem cuts_lt {xs : List (Int × Int)} (h : partB xs = true) {i j : Nat} (hi : i < xs.length) (hj : j < xs.length) : ltB (nthR xs i).1 (nthR xs i).2 (nthR xs j).1 (nthR xs j).2 = decide (i < j) := by
  by_cases q : i < j
  · rw [decide_eq_true q]
    exact (ltB_qv (cuts_good h i hi) (cuts_good h j hj)).2 (cuts_rise h j i q hj)
  · rw [decide_eq_false q]
    refine (ltB_qvf (cuts_good h i hi) (cuts_good h j hj)).2 ?_
    by_cases e : i = j
    · rw [e]; exact Rat.le_refl
    · exact Rat.le_of_lt (cuts_rise h i j (by omega) hi)
theorem has_idx {xs : List (Int × Int)} {y : Int × Int} (h : hasR xs y = true) : ∃ u : Nat, u < xs.length ∧ plcR xs y = u ∧ nthR xs u = y := by
  have e : decide (plcR xs y ≥ 0) = hasR xs y := idxQ_geq _ _
  rw [h] at e
  have h2 := of_decide_eq_true e
  unfold plcR idxQ at h2 ⊢
  cases h3 : xs.findIdx? (fun y' => decide (y' = y)) with
  | none => rw [h3] at h2; simp at h2
  | some k =>
    rw [List.findIdx?_eq_some_iff_getElem] at h3
    obtain ⟨hk, hp, _⟩ := h3
    exact ⟨k, hk, rfl, by rw [nthR_eq hk]; exact of_decide_eq_true hp⟩
theorem hasR_mem {xs : List (Int × Int)} {y : Int × Int} (h : hasR xs y = true) : ∃ q, q < xs.length ∧ nthR xs q = y := by
  obtain ⟨u, h1, _, h2⟩ := has_idx h
  exact ⟨u, h1, h2⟩

theorem ivs_betw {xs : List (Int × Int)} (h : partB xs = true) : ivsB (betwL xs) = true := by
  have hl := partB_len h
  have hlen : (betwL xs).length = xs.length - 1 := betwK_len _ _
  unfold ivsB
  rw [Bool.and_eq_true, List.all_eq_true]
  constructor
  · intro q hq
    obtain ⟨i, hi, rfl⟩ := List.getElem_of_mem hq
    rw [hlen] at hi
    rw [← nth4_eq (by rw [hlen]; exact hi)]
    unfold betwL
    rw [nth4_betwK xs hi]
    unfold ivB
    simp only
    rw [cuts_unit h i (by omega), cuts_unit h (i + 1) (by omega), cuts_rise1 h i (by omega)]; rfl
  · rw [hlen]
    exact inB_true.2 (by omega)

theorem mark_covers {f : List Quad} {xs : List (Int × Int)} (hf : MapP f) (hp : partB xs = true) (hm : mm_v f xs false = (true, true)) :
    ckK f (betwL xs) (xs.length - 1) = true ∧ ∀ i j, i < xs.length - 1 → j < xs.length - 1 → cvN f (betwL xs) i j = mgN f xs i j := by
  have hl := partB_len hp
  have hvo : voK f xs xs.length = true := by
    unfold mm_v at hm
    split at hm
    · assumption
    · cases hm
  have htv : (tuL f).all (hasR xs) = true ∧ (vsL f xs).all (hasR xs) = true := by
    rw [mm_eq] at hm
    have h1 := (Prod.mk.inj hm).1
    rw [Bool.and_eq_true] at h1
    unfold kc_v at h1
    rw [if_pos hvo] at h1
    exact ⟨h1.2, h1.1⟩
  have hok : ∀ i, i < xs.length → atOk f (nthR xs i) = true := fun i hi => voK_true hvo hi
  have hva : ∀ i, i < xs.length → hasR xs (atZ f (nthR xs i)) = true := fun i hi => by
    have h1 := htv.2
    rw [List.all_eq_true] at h1
    refine h1 _ ?_
    unfold vsL vsK
    exact List.mem_map.2 ⟨i, List.mem_range.2 hi, rfl⟩
  have hbt : ∀ i, i < xs.length - 1 → nth4 (betwL xs) i = (nthR xs i, nthR xs (i + 1)) := fun i hi => nth4_betwK xs hi
  constructor
  · unfold ckK
    rw [List.all_eq_true]
    intro i hi
    rw [List.mem_range] at hi
    rw [hbt i hi]
    unfold imgOk
    simp only
    rw [hok i (by omega), hok (i + 1) (by omega)]; rfl
  · intro i j hi hj
    have hno : ∀ k, 0 < k → k < f.length - 1 → qv (nthR xs i) < qv (nth4 f k).1 → qv (nth4 f k).1 < qv (nthR xs (i + 1)) → sgS f (k - 1) = sgS f k := by
      intro k hk hk2 h1 h2
      apply Classical.byContradiction
      intro hne
      have h3 : (nth4 f k).1 ∈ tuL f := mem_tuL.2 ⟨k, hk, hk2, hne, rfl⟩
      have h4 := htv.1
      rw [List.all_eq_true] at h4
      obtain ⟨q, hq, e⟩ := hasR_mem (h4 _ h3)
      rw [← e] at h1 h2
      have q1 : i < q := by
        apply Nat.lt_of_not_le
        intro h5
        rcases Nat.lt_or_eq_of_le h5 with h6 | h6
        · have := cuts_rise hp i q h6 (by omega); grind
        · rw [h6] at h1; grind
      have q2 : q < i + 1 := by
        apply Nat.lt_of_not_le
        intro h5
        rcases Nat.lt_or_eq_of_le h5 with h6 | h6
        · have := cuts_rise hp q (i + 1) h6 hq; grind
        · rw [h6] at h2; grind
      omega
    obtain ⟨u, hu, eu, hu2⟩ := has_idx (hva i (by omega))
    obtain ⟨v, hv, ev, hv2⟩ := has_idx (hva (i + 1) (by omega))
    have hmono := imS_mono hf (cuts_unit hp i (by omega)) (cuts_unit hp (i + 1) (by omega)) (hok i (by omega)) (hok (i + 1) (by omega)) hno f.length (Nat.le_refl _)
    unfold cvN mgN uI
    rw [hbt i hi, hbt j hj, eu, ev, Int.toNat_natCast, Int.toNat_natCast]
    unfold covB
    simp only
    rw [hmono, ← hu2, ← hv2]
    have elo : lessR (nthR xs u) (nthR xs v) = nthR xs (min u v) := by
      unfold lessR
      rw [cuts_lt hp hv hu]
      by_cases h : v < u
      · rw [decide_eq_true h, if_pos rfl, Nat.min_eq_right (by omega)]
      · rw [decide_eq_false h, if_neg (by decide), Nat.min_eq_left (by omega)]
    have ehi : greatR (nthR xs u) (nthR xs v) = nthR xs (max u v) := by
      unfold greatR
      rw [cuts_lt hp hu hv]
      by_cases h : u < v
      · rw [decide_eq_true h, if_pos rfl, Nat.max_eq_right (by omega)]
      · rw [decide_eq_false h, if_neg (by decide), Nat.max_eq_left (by omega)]
    simp only
    rw [elo, ehi, cuts_lt hp (by omega) (by omega), cuts_lt hp (by omega) (by omega)]
    by_cases h : min u v ≤ j ∧ j < max u v
    · rw [if_pos h, decide_eq_false (by omega), decide_eq_false (by omega)]; rfl
    · rw [if_neg h, if_neg]
      intro h2
      rw [Bool.and_eq_true, Bool.not_eq_true', Bool.not_eq_true', decide_eq_false_iff_not, decide_eq_false_iff_not] at h2
      exact h (by omega)
/-- The coverings of the states of a Markov partition. -/
theorem mark_graph {f : List Quad} {xs : List (Int × Int)} (h1 : mapB f = true) (hp : partB xs = true) (hm : mm_v f xs false = (true, true)) : CoverGraph_v f (betwL xs) = MarkovGraph_v f xs := by
  have hl := partB_len hp
  obtain ⟨h3, h4⟩ := mark_covers (mapB_true h1) hp hm
  have hlen : (betwL xs).length = xs.length - 1 := betwK_len _ _
  rw [CoverGraph_yes ⟨h1, ivs_betw hp⟩]
  unfold cg_v MarkovGraph_v
  rw [hlen, if_pos h3, if_pos ⟨h1, hp, hm⟩, tab_congr h4]

end Go.Proofs.YtfcanpebagpdbaaGreat

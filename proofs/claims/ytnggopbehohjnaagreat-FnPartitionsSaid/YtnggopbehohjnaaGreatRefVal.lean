/- RefineToMarkov: the value that both return. Plain laws, no program in sight. -/
import Derived.Test.YtnggopbehohjnaaGreatRefLaw
import Derived.Test.YtnggopbehohjnaaGreatMergeVal
import Derived.Test.YtnggopbehohjnaaGreatMarkov
namespace Go.Proofs.YtnggopbehohjnaaGreat
open Go.RowKit

theorem smK_mem {f : List Quad} : ∀ (k : Nat) (y : Quad), y ∈ smK f k → ∃ i, i ≤ k ∧ y = nth4 f i := by
  intro k
  induction k with
  | zero => intro y hy; exact ⟨0, Nat.le_refl _, by simpa [smK] using hy⟩
  | succ k ih =>
    intro y hy
    by_cases h : srF f k = srF f (k + 1)
    · rw [smK_same h] at hy
      obtain ⟨i, hi, e⟩ := ih y hy
      exact ⟨i, by omega, e⟩
    · rw [smK_new h] at hy
      rcases List.mem_append.1 hy with q | q
      · obtain ⟨i, hi, e⟩ := ih y q
        exact ⟨i, by omega, e⟩
      · exact ⟨k + 1, Nat.le_refl _, by simpa using q⟩
theorem smK_head {f : List Quad} : ∀ k : Nat, nth4 f 0 ∈ smK f k := by
  intro k
  induction k with
  | zero => simp [smK]
  | succ k ih =>
    by_cases h : srF f k = srF f (k + 1)
    · rw [smK_same h]; exact ih
    · rw [smK_new h]; exact List.mem_append_left _ ih
theorem start_unit {f : List Quad} (hf : MapP f) (lin : Bool) : ∀ x, x ∈ startL f lin → unitR x.1 x.2 = true := by
  have hl := hf.len
  have h1 : ∀ x, x ∈ xsL (smL f) → unitR x.1 x.2 = true := fun x hx => by
    unfold xsL at hx
    obtain ⟨y, hy, rfl⟩ := List.mem_map.1 hx
    unfold smL at hy
    have : ∃ i, i < f.length ∧ y = nth4 f i := by
      rcases List.mem_append.1 hy with q | q
      · obtain ⟨i, hi, e⟩ := smK_mem _ _ q
        exact ⟨i, by omega, e⟩
      · exact ⟨f.length - 1, by omega, by simpa using q⟩
    obtain ⟨i, hi, rfl⟩ := this
    exact coordR_unit (hf.coord i hi).1
  cases lin
  · exact fun x hx => h1 x (tu_sub hx)
  · exact h1
/-- The simple map has both ends. -/
theorem simple_ends {f : List Quad} (hf : MapP f) : (0, 1) ∈ startL f true ∧ (1, 1) ∈ startL f true := by
  refine ⟨?_, ?_⟩
  · rw [← hf.first]
    exact List.mem_map.2 ⟨_, List.mem_append_left _ (smK_head _), rfl⟩
  · rw [← hf.last]
    exact List.mem_map.2 ⟨_, List.mem_append_right _ (List.mem_singleton.2 rfl), rfl⟩

/-- What every partition that is Markov for the map must hold. -/
def refS (f : List Quad) (lin : Bool) : List (Int × Int) := (0, 1) :: (1, 1) :: startL f lin
/-- The reference's first list. -/
def ref0 (f : List Quad) (lin : Bool) : List (Int × Int) := mergeL [(0, 1)] ((1, 1) :: startL f lin)
def RefineToMarkov_v (f : List Quad) (lin : Bool) : List (Int × Int) × Bool := if mapB f = true then refN (atOk f) (atZ f) 11 (ref0 f lin) else ([], false)
theorem ref0_inv {f : List Quad} {lin : Bool} (hu : ∀ x, x ∈ startL f lin → unitR x.1 x.2 = true) : InvD (atOk f) (atZ f) (refS f lin) (ref0 f lin) ∧ ∀ y, y ∈ ref0 f lin → unitR y.1 y.2 = true := by
  have hg : ∀ y, y ∈ (1, 1) :: startL f lin → goodR y.1 y.2 = true := fun y hy => by
    rcases List.mem_cons.1 hy with e | e
    · subst e; decide
    · exact (unitR_qv.1 (hu y e)).1
  obtain ⟨h1, h2⟩ := merge_rise ((1, 1) :: startL f lin) (xs := [(0, 1)]) (List.pairwise_singleton _ _) (fun y hy => by
    obtain rfl : y = (0, 1) := by simpa using hy
    decide) hg
  have hm : ∀ y, y ∈ ref0 f lin ↔ y ∈ refS f lin := fun y => by
    rw [ref0, h2 y, refS]; simp
  refine ⟨⟨h1, fun x hx => (hm x).2 hx, fun D hD x hx => hD.1 x ((hm x).1 hx)⟩, fun y hy => ?_⟩
  have hy2 := (hm y).1 hy
  rcases List.mem_cons.1 hy2 with e | hy2
  · subst e; decide
  · rcases List.mem_cons.1 hy2 with e | hy2
    · subst e; decide
    · exact hu y hy2
theorem ref_end {f : List Quad} {lin : Bool} (hf : mapB f = true) (hu : ∀ x, x ∈ startL f lin → unitR x.1 x.2 = true) : EndD (atOk f) (atZ f) (refS f lin) (RefineToMarkov_v f lin) := by
  obtain ⟨h1, h2⟩ := ref0_inv hu
  unfold RefineToMarkov_v
  rw [if_pos hf]
  refine refN_end 11 _ h1 (fun y hy => (unitR_qv.1 (h2 y hy)).1) (fun x _ _ => atZ_good f x) ?_
  have : 0 < (ref0 f lin).length := List.length_pos_of_mem (h1.2.1 (0, 1) (List.mem_cons_self ..))
  omega
theorem vsL_mem {f : List Quad} {xs : List (Int × Int)} (y : Int × Int) : y ∈ vsL f xs ↔ ∃ x, x ∈ xs ∧ atZ f x = y := by
  unfold vsL vsK
  rw [List.mem_map]
  constructor
  · rintro ⟨i, hi, rfl⟩
    have hi' := List.mem_range.1 hi
    exact ⟨nthR xs i, by rw [nthR_eq hi']; exact List.getElem_mem hi', rfl⟩
  · rintro ⟨x, hx, rfl⟩
    obtain ⟨i, hi, rfl⟩ := List.getElem_of_mem hx
    exact ⟨i, List.mem_range.2 hi, by rw [nthR_eq hi]⟩
theorem vo_bad {f : List Quad} {xs : List (Int × Int)} (h : voK f xs xs.length = false) : ∃ x, x ∈ xs ∧ atOk f x = false := by
  unfold voK at h
  rw [List.all_eq_false] at h
  obtain ⟨i, hi, hb⟩ := h
  have hi' := List.mem_range.1 hi
  exact ⟨nthR xs i, by rw [nthR_eq hi']; exact List.getElem_mem hi', by simpa using hb⟩
theorem vo_good {f : List Quad} {xs : List (Int × Int)} (h : voK f xs xs.length = true) : ∀ x, x ∈ xs → atOk f x = true := fun x hx => by
  obtain ⟨i, hi, rfl⟩ := List.getElem_of_mem hx
  rw [← nthR_eq hi]
  exact voK_true h hi
theorem refN_len (ok : Int × Int → Bool) (F : Int × Int → Int × Int) : ∀ (n : Nat) (X : List (Int × Int)), (refN ok F n X).1.length ≤ 9 := by
  intro n
  induction n with
  | zero => intro X; exact Nat.zero_le _
  | succ n ih =>
    intro X
    unfold refN
    by_cases h9 : 9 < X.length
    · rw [if_pos h9]; exact Nat.zero_le _
    · rw [if_neg h9]
      cases X.find? fun x => !(ok x) || !(X.contains (F x)) with
      | none => show X.length ≤ 9; omega
      | some x =>
        by_cases ho : ok x = true
        · simp only [ho, if_true]; exact ih _
        · simp only [ho]; exact Nat.zero_le _
theorem RefineToMarkov_len (f : List Quad) (lin : Bool) : (RefineToMarkov_v f lin).1.length ≤ 1099511627776 := by
  unfold RefineToMarkov_v
  split
  · have := refN_len (atOk f) (atZ f) 11 (ref0 f lin); omega
  · exact Nat.zero_le _

/-- What the search keeps: a rising list that every solution holds, of fractions of 0 .. 1. -/
def InvX (f : List Quad) (lin : Bool) (X : List (Int × Int)) : Prop := InvD (atOk f) (atZ f) (refS f lin) X ∧ (∀ y, y ∈ X → unitR y.1 y.2 = true) ∧ X.length ≤ 1048600
def EndX (f : List Quad) (lin : Bool) (r : List (Int × Int) × Bool) : Prop := EndD (atOk f) (atZ f) (refS f lin) r
theorem hasR_iff {X : List (Int × Int)} {y : Int × Int} : hasR X y = true ↔ y ∈ X := by
  unfold hasR
  rw [List.any_eq_true]
  constructor
  · rintro ⟨z, hz, e⟩
    rw [← of_decide_eq_true e]; exact hz
  · intro h; exact ⟨y, h, by simp⟩
theorem nthR_in {X : List (Int × Int)} {i : Nat} (h : i < X.length) : nthR X i ∈ X := by rw [nthR_eq h]; exact List.getElem_mem h
theorem InvX.start {f : List Quad} (hf : MapP f) (lin : Bool) : InvX f lin (ref0 f lin) := by
  obtain ⟨h1, h2⟩ := ref0_inv (start_unit hf lin)
  refine ⟨h1, h2, ?_⟩
  have h3 := (mergeL_len ((1, 1) :: startL f lin) [(0, 1)]).2
  have h4 := startL_len hf lin
  unfold ref0
  simp only [List.length_cons, List.length_nil] at h3
  omega
theorem InvX.parts {f : List Quad} {lin : Bool} {X : List (Int × Int)} (h : InvX f lin X) : 0 < X.length ∧ X.length ≤ 1048600 ∧ ∀ i, i < X.length → unitR (nthR X i).1 (nthR X i).2 = true :=
  ⟨List.length_pos_of_mem (h.1.2.1 (0, 1) (List.mem_cons_self ..)), h.2.2, fun _ hi => h.2.1 _ (nthR_in hi)⟩
theorem InvX.step {f : List Quad} {lin : Bool} {X : List (Int × Int)} (hf : MapP f) (h : InvX f lin X) {i : Nat} (hi : i < X.length) (h9 : X.length ≤ 9) (ho : atOk f (nthR X i) = true) (hn : hasR X (atZ f (nthR X i)) = false) :
    InvX f lin (putR X (atZ f (nthR X i))) ∧ (putR X (atZ f (nthR X i))).length = X.length + 1 := by
  have hg : ∀ y, y ∈ X → goodR y.1 y.2 = true := fun y hy => (unitR_qv.1 (h.2.1 y hy)).1
  have hl : (putR X (atZ f (nthR X i))).length = X.length + 1 := putR_more (fun q => by rw [hasR_iff.2 q] at hn; cases hn)
  refine ⟨⟨inv_put h.1 hg (nthR_in hi) (atZ_good f _), fun y hy => ?_, by omega⟩, hl⟩
  rcases ((putR_rise h.1.1 hg (atZ_good f _)).2 y).1 hy with e | e
  · exact h.2.1 y e
  · rw [e]; exact at_unit hf (h.2.1 _ (nthR_in hi)) ho
theorem InvX.bad {f : List Quad} {lin : Bool} {X : List (Int × Int)} (h : InvX f lin X) {i : Nat} (hi : i < X.length) (ho : atOk f (nthR X i) = false) : EndX f lin ([], false) := .inl ⟨rfl, inv_bad h.1 (nthR_in hi) ho⟩
theorem InvX.big {f : List Quad} {lin : Bool} {X : List (Int × Int)} (h : InvX f lin X) (h9 : 9 < X.length) : EndX f lin ([], false) := .inl ⟨rfl, inv_big h.1 h9⟩
theorem InvX.done {f : List Quad} {lin : Bool} {X : List (Int × Int)} (h : InvX f lin X) (h9 : X.length ≤ 9) (ha : ∀ i, i < X.length → atOk f (nthR X i) = true ∧ hasR X (atZ f (nthR X i)) = true) : EndX f lin (X, true) := by
  refine .inr ⟨rfl, h.1, h9, fun x hx => ?_⟩
  obtain ⟨i, hi, rfl⟩ := List.getElem_of_mem hx
  rw [← nthR_eq hi]
  exact ⟨(ha i hi).1, hasR_iff.1 (ha i hi).2⟩
theorem EndX.is {f : List Quad} {lin : Bool} {r : List (Int × Int) × Bool} (hf : mapB f = true) (h : EndX f lin r) : r = RefineToMarkov_v f lin := end_unique h (ref_end hf (start_unit (mapB_true hf) lin))
/-- The reference's first list, step by step. -/
theorem ref0_steps {f : List Quad} (hf : MapP f) (lin : Bool) : ∃ G : Nat → List (Int × Int), G 0 = putR [(0, 1)] (1, 1) ∧ (∀ k, k < (startL f lin).length → G (k + 1) = putR (G k) (nthR (startL f lin) k)) ∧ G (startL f lin).length = ref0 f lin ∧
    (∀ k, 0 < (G k).length ∧ (G k).length ≤ 1048600 ∧ ∀ i, i < (G k).length → BdR (nthR (G k) i).1 (nthR (G k) i).2) ∧ ∀ k, k < (startL f lin).length → BdR (nthR (startL f lin) k).1 (nthR (startL f lin) k).2 := by
  have hu := start_unit hf lin
  have hl := startL_len hf lin
  refine ⟨fun k => mergeL (putR [(0, 1)] (1, 1)) ((startL f lin).take k), rfl, fun k hk => mergeL_take hk, ?_, fun k => ?_, fun k hk => unitR_bd (hu _ (nthR_in hk))⟩
  · show mergeL (putR [(0, 1)] (1, 1)) ((startL f lin).take (startL f lin).length) = ref0 f lin
    rw [List.take_length]; rfl
  · have hg : ∀ y, y ∈ (1, 1) :: (startL f lin).take k → goodR y.1 y.2 = true := fun y hy => by
      rcases List.mem_cons.1 hy with e | e
      · subst e; decide
      · exact (unitR_qv.1 (hu y (List.mem_of_mem_take e))).1
    obtain ⟨h1, h2⟩ := merge_rise ((1, 1) :: (startL f lin).take k) (xs := [(0, 1)]) (List.pairwise_singleton _ _) (fun y hy => by
      obtain rfl : y = (0, 1) := by simpa using hy
      decide) hg
    have e : mergeL [(0, 1)] ((1, 1) :: (startL f lin).take k) = mergeL (putR [(0, 1)] (1, 1)) ((startL f lin).take k) := rfl
    rw [e] at h1 h2
    have h3 := (mergeL_len ((1, 1) :: (startL f lin).take k) [(0, 1)]).2
    rw [e] at h3
    simp only [List.length_cons, List.length_nil] at h3
    have h4 := List.length_take_le k (startL f lin)
    have h5 : (List.take k (startL f lin)).length ≤ (startL f lin).length := by rw [List.length_take]; omega
    refine ⟨List.length_pos_of_mem ((h2 (0, 1)).2 (.inl (by simp))), by show (mergeL (putR [(0, 1)] (1, 1)) ((startL f lin).take k)).length ≤ _; omega, fun i hi => ?_⟩
    have hm := nthR_in hi
    have hgd : goodR (nthR (mergeL (putR [(0, 1)] (1, 1)) ((startL f lin).take k)) i).1 (nthR (mergeL (putR [(0, 1)] (1, 1)) ((startL f lin).take k)) i).2 = true := by
      rcases (h2 _).1 hm with q | q
      · obtain e3 := List.mem_singleton.1 q
        rw [e3]; decide
      · exact hg _ q
    exact ⟨(goodR_all hgd).1, (goodR_all hgd).2.1⟩
end Go.Proofs.YtnggopbehohjnaaGreat

/- Lists of fractions that rise strictly: two with the same members are one. Putting a fraction in its place. Plain laws, no program in sight. -/
import Derived.Test.YtnggopbehohjnaaGreatPkD
import Derived.Test.YtnggopbehohjnaaGreatPkB
namespace Go.Proofs.YtnggopbehohjnaaGreat
open Go.RowKit

/-- It rises strictly. -/
def RiseL (l : List (Int × Int)) : Prop := l.Pairwise fun a b => qv a < qv b
theorem rise_ext : ∀ {l l' : List (Int × Int)}, RiseL l → RiseL l' → (∀ x, x ∈ l ↔ x ∈ l') → l = l' := by
  intro l
  induction l with
  | nil =>
    intro l' _ _ h
    cases l' with
    | nil => rfl
    | cons b t => exact absurd ((h b).2 (List.mem_cons_self ..)) (by simp)
  | cons a t ih =>
    intro l' h1 h2 h
    cases l' with
    | nil => exact absurd ((h a).1 (List.mem_cons_self ..)) (by simp)
    | cons b s =>
      obtain ⟨ha, ht⟩ := List.pairwise_cons.1 h1
      obtain ⟨hb, hs⟩ := List.pairwise_cons.1 h2
      have e : a = b := by
        rcases List.mem_cons.1 ((h a).1 (List.mem_cons_self ..)) with e | e
        · exact e
        · rcases List.mem_cons.1 ((h b).2 (List.mem_cons_self ..)) with e2 | e2
          · exact e2.symm
          · have := hb a e
            have := ha b e2
            grind
      subst e
      congr 1
      refine ih ht hs fun x => ⟨fun hx => ?_, fun hx => ?_⟩
      · rcases List.mem_cons.1 ((h x).1 (List.mem_cons_of_mem _ hx)) with e | e
        · subst e; have := ha x hx; grind
        · exact e
      · rcases List.mem_cons.1 ((h x).2 (List.mem_cons_of_mem _ hx)) with e | e
        · subst e; have := hb x hx; grind
        · exact e

/-- The first place at which the list is not below x. -/
def putN (l : List (Int × Int)) (x : Int × Int) : Nat := (l.takeWhile fun y => ltB y.1 y.2 x.1 x.2).length
def putR (l : List (Int × Int)) (x : Int × Int) : List (Int × Int) := if nthR l (putN l x) = x ∧ putN l x < l.length then l else l.take (putN l x) ++ x :: l.drop (putN l x)
theorem putN_le (l : List (Int × Int)) (x : Int × Int) : putN l x ≤ l.length := by
  unfold putN
  induction l with
  | nil => simp
  | cons a t ih =>
    rw [List.takeWhile_cons]
    split
    · simp only [List.length_cons]; omega
    · simp
theorem putN_below {l : List (Int × Int)} {x : Int × Int} : ∀ y, y ∈ l.take (putN l x) → ltB y.1 y.2 x.1 x.2 = true := by
  unfold putN
  induction l with
  | nil => intro y hy; simp at hy
  | cons a t ih =>
    intro y hy
    rw [List.takeWhile_cons] at hy
    split at hy
    · rename_i h
      rw [List.length_cons, List.take_succ_cons] at hy
      rcases List.mem_cons.1 hy with e | e
      · rw [e]; exact h
      · exact ih y e
    · simp at hy
theorem putN_at {l : List (Int × Int)} {x : Int × Int} (h : putN l x < l.length) : ltB (nthR l (putN l x)).1 (nthR l (putN l x)).2 x.1 x.2 = false := by
  unfold putN at *
  induction l with
  | nil => simp at h
  | cons a t ih =>
    rw [List.takeWhile_cons] at h ⊢
    split
    · rename_i q
      rw [if_pos q, List.length_cons, List.length_cons] at h
      have := ih (by omega)
      rw [List.length_cons]
      simpa [nthR] using this
    · rename_i q
      simpa [nthR] using q
/-- Put in its place, once: it still rises, and holds x. -/
theorem putR_rise {l : List (Int × Int)} {x : Int × Int} (hl : RiseL l) (hg : ∀ y ∈ l, goodR y.1 y.2 = true) (hx : goodR x.1 x.2 = true) : RiseL (putR l x) ∧ ∀ y, y ∈ putR l x ↔ y ∈ l ∨ y = x := by
  unfold putR
  by_cases h : nthR l (putN l x) = x ∧ putN l x < l.length
  · rw [if_pos h]
    refine ⟨hl, fun y => ⟨.inl, fun q => ?_⟩⟩
    rcases q with q | q
    · exact q
    · subst q
      have e : nthR l (putN l y) ∈ l := by rw [nthR_eq h.2]; exact List.getElem_mem _
      rw [h.1] at e
      exact e
  · rw [if_neg h]
    have hsplit : l = l.take (putN l x) ++ l.drop (putN l x) := (List.take_append_drop _ _).symm
    have hbel : ∀ y ∈ l.take (putN l x), qv y < qv x := fun y hy => (ltB_qv (hg y (List.mem_of_mem_take hy)) hx).1 (putN_below y hy)
    have habv : ∀ y ∈ l.drop (putN l x), qv x < qv y := by
      intro y hy
      have hlt : putN l x < l.length := by
        apply Nat.lt_of_not_le
        intro q
        rw [List.drop_eq_nil_of_le q] at hy
        simp at hy
      have h1 := putN_at hlt
      have hm : nthR l (putN l x) ∈ l := by rw [nthR_eq hlt]; exact List.getElem_mem _
      have h2 := (ltB_qvf (hg _ hm) hx).1 h1
      have h3 : qv x < qv (nthR l (putN l x)) := by
        rcases Rat.le_iff_lt_or_eq.1 h2 with q | q
        · exact q
        · exact absurd ⟨(qv_inj hx (hg _ hm) q).symm, hlt⟩ h
      rw [List.drop_eq_getElem_cons hlt, ← nthR_eq hlt] at hy
      rcases List.mem_cons.1 hy with e | e
      · rw [e]; exact h3
      · have h4 : RiseL (l.drop (putN l x)) := List.Pairwise.sublist (List.drop_sublist _ _) hl
        unfold RiseL at h4
        rw [List.drop_eq_getElem_cons hlt, ← nthR_eq hlt] at h4
        have := (List.pairwise_cons.1 h4).1 y e
        grind
    refine ⟨?_, fun y => ?_⟩
    · unfold RiseL
      rw [List.pairwise_append]
      refine ⟨List.Pairwise.sublist (List.take_sublist _ _) hl, List.pairwise_cons.2 ⟨habv, List.Pairwise.sublist (List.drop_sublist _ _) hl⟩, fun a ha b hb => ?_⟩
      rcases List.mem_cons.1 hb with e | e
      · rw [e]; exact hbel a ha
      · have := hbel a ha
        have := habv b e
        grind
    · rw [List.mem_append, List.mem_cons]
      constructor
      · rintro (q | q | q)
        · exact .inl (List.mem_of_mem_take q)
        · exact .inr q
        · exact .inl (List.mem_of_mem_drop q)
      · rintro (q | q)
        · rw [hsplit] at q
          rcases List.mem_append.1 q with q | q
          · exact .inl q
          · exact .inr (.inr q)
        · exact .inr (.inl q)

end Go.Proofs.YtnggopbehohjnaaGreat

/- Several texts in one: Rise MergeLaw MergeVal Back BefVal BefSp AtLaw. No conditions but those that each theorem states. -/
import Derived.Test.YtjkgilenhoomoaaGreatPkD
import Derived.Test.YtjkgilenhoomoaaGreatPkB
import Derived.Test.YtjkgilenhoomoaaGreatPkC
import Derived.Test.YtjkgilenhoomoaaGreatPkF
import Derived.Test.YtjkgilenhoomoaaGreatPkG
import Derived.Test.YtjkgilenhoomoaaGreatPkE

namespace Go.Proofs.YtjkgilenhoomoaaGreat
open Go.RowKit

/-- It rises strictly. -/
def RiseL (l : List (Int × Int)) : Prop := l.Pairwise fun a b => qv a < qv b
theorem rise_ext : ∀ {l l' : List (Int × Int)}, RiseL l → RiseL l' → (∀ x, x ∈ l ↔ x ∈ l') → l = l' := by
  intro l
  induction l with
  | nil =>
    intro l' _ _ h
    cases l' with
    | nil => rfl
    | cons b t => exact absurd ((h b).2 (List.mem_cons_self ..)) (by simp)
  | cons a t ih =>
    intro l' h1 h2 h
    cases l' with
    | nil => exact absurd ((h a).1 (List.mem_cons_self ..)) (by simp)
    | cons b s =>
      obtain ⟨ha, ht⟩ := List.pairwise_cons.1 h1
      obtain ⟨hb, hs⟩ := List.pairwise_cons.1 h2
      have e : a = b := by
        rcases List.mem_cons.1 ((h a).1 (List.mem_cons_self ..)) with e | e
        · exact e
        · rcases List.mem_cons.1 ((h b).2 (List.mem_cons_self ..)) with e2 | e2
          · exact e2.symm
          · have := hb a e
            have := ha b e2
            grind
      subst e
      congr 1
      refine ih ht hs fun x => ⟨fun hx => ?_, fun hx => ?_⟩
      · rcases List.mem_cons.1 ((h x).1 (List.mem_cons_of_mem _ hx)) with e | e
        · subst e; have := ha x hx; grind
        · exact e
      · rcases List.mem_cons.1 ((h x).2 (List.mem_cons_of_mem _ hx)) with e | e
        · subst e; have := hb x hx; grind
        · exact e

/-- The first place at which the list is not below x. -/
def putN (l : List (Int × Int)) (x : Int × Int) : Nat := (l.takeWhile fun y => ltB y.1 y.2 x.1 x.2).length
def putR (l : List (Int × Int)) (x : Int × Int) : List (Int × Int) := if nthR l (putN l x) = x ∧ putN l x < l.length then l else l.take (putN l x) ++ x :: l.drop (putN l x)
theorem putN_le (l : List (Int × Int)) (x : Int × Int) : putN l x ≤ l.length := by
  unfold putN
  induction l with
  | nil => simp
  | cons a t ih =>
    rw [List.takeWhile_cons]
    split
    · simp only [List.length_cons]; omega
    · simp
theorem putN_below {l : List (Int × Int)} {x : Int × Int} : ∀ y, y ∈ l.take (putN l x) → ltB y.1 y.2 x.1 x.2 = true := by
  unfold putN
  induction l with
  | nil => intro y hy; simp at hy
  | cons a t ih =>
    intro y hy
    rw [List.takeWhile_cons] at hy
    split at hy
    · rename_i h
      rw [List.length_cons, List.take_succ_cons] at hy
      rcases List.mem_cons.1 hy with e | e
      · rw [e]; exact h
      · exact ih y e
    · simp at hy
theorem putN_at {l : List (Int × Int)} {x : Int × Int} (h : putN l x < l.length) : ltB (nthR l (putN l x)).1 (nthR l (putN l x)).2 x.1 x.2 = false := by
  unfold putN at *
  induction l with
  | nil => simp at h
  | cons a t ih =>
    rw [List.takeWhile_cons] at h ⊢
    split
    · rename_i q
      rw [if_pos q, List.length_cons, List.length_cons] at h
      have := ih (by omega)
      rw [List.length_cons]
      simpa [nthR] using this
    · rename_i q
      simpa [nthR] using q
/-- Put in its place, once: it still rises, and holds x. -/
theorem putR_rise {l : List (Int × Int)} {x : Int × Int} (hl : RiseL l) (hg : ∀ y ∈ l, goodR y.1 y.2 = true) (hx : goodR x.1 x.2 = true) : RiseL (putR l x) ∧ ∀ y, y ∈ putR l x ↔ y ∈ l ∨ y = x := by
  unfold putR
  by_cases h : nthR l (putN l x) = x ∧ putN l x < l.length
  · rw [if_pos h]
    refine ⟨hl, fun y => ⟨.inl, fun q => ?_⟩⟩
    rcases q with q | q
    · exact q
    · subst q
      have e : nthR l (putN l y) ∈ l := by rw [nthR_eq h.2]; exact List.getElem_mem _
      rw [h.1] at e
      exact e
  · rw [if_neg h]
    have hsplit : l = l.take (putN l x) ++ l.drop (putN l x) := (List.take_append_drop _ _).symm
    have hbel : ∀ y ∈ l.take (putN l x), qv y < qv x := fun y hy => (ltB_qv (hg y (List.mem_of_mem_take hy)) hx).1 (putN_below y hy)
    have habv : ∀ y ∈ l.drop (putN l x), qv x < qv y := by
      intro y hy
      have hlt : putN l x < l.length := by
        apply Nat.lt_of_not_le
        intro q
        rw [List.drop_eq_nil_of_le q] at hy
        simp at hy
      have h1 := putN_at hlt
      have hm : nthR l (putN l x) ∈ l := by rw [nthR_eq hlt]; exact List.getElem_mem _
      have h2 := (ltB_qvf (hg _ hm) hx).1 h1
      have h3 : qv x < qv (nthR l (putN l x)) := by
        rcases Rat.le_iff_lt_or_eq.1 h2 with q | q
        · exact q
        · exact absurd ⟨(qv_inj hx (hg _ hm) q).symm, hlt⟩ h
      rw [List.drop_eq_getElem_cons hlt, ← nthR_eq hlt] at hy
      rcases List.mem_cons.1 hy with e | e
      · rw [e]; exact h3
      · have h4 : RiseL (l.drop (putN l x)) := List.Pairwise.sublist (List.drop_sublist _ _) hl
        unfold RiseL at h4
        rw [List.drop_eq_getElem_cons hlt, ← nthR_eq hlt] at h4
        have := (List.pairwise_cons.1 h4).1 y e
        grind
    refine ⟨?_, fun y => ?_⟩
    · unfold RiseL
      rw [List.pairwise_append]
      refine ⟨List.Pairwise.sublist (List.take_sublist _ _) hl, List.pairwise_cons.2 ⟨habv, List.Pairwise.sublist (List.drop_sublist _ _) hl⟩, fun a ha b hb => ?_⟩
      rcases List.mem_cons.1 hb with e | e
      · rw [e]; exact hbel a ha
      · have := hbel a ha
        have := habv b e
        grind
    · rw [List.mem_append, List.mem_cons]
      constructor
      · rintro (q | q | q)
        · exact .inl (List.mem_of_mem_take q)
        · exact .inr q
        · exact .inl (List.mem_of_mem_drop q)
      · rintro (q | q)
        · rw [hsplit] at q
          rcases List.mem_append.1 q with q | q
          · exact .inl q
          · exact .inr (.inr q)
        · exact .inr (.inl q)

end Go.Proofs.YtjkgilenhoomoaaGreat

namespace Go.Proofs.YtjkgilenhoomoaaGreat
open Go.RowKit

/-- Put one after the other. -/
def mergeL (xs ys : List (Int × Int)) : List (Int × Int) := ys.foldl putR xs
theorem merge_rise : ∀ (ys : List (Int × Int)) {xs : List (Int × Int)}, RiseL xs → (∀ y ∈ xs, goodR y.1 y.2 = true) → (∀ y ∈ ys, goodR y.1 y.2 = true) →
    RiseL (mergeL xs ys) ∧ ∀ y, y ∈ mergeL xs ys ↔ y ∈ xs ∨ y ∈ ys := by
  intro ys
  induction ys with
  | nil => intro xs h _ _; exact ⟨h, fun y => by simp [mergeL]⟩
  | cons a t ih =>
    intro xs h hg hy
    have ha := hy a (List.mem_cons_self ..)
    obtain ⟨h1, h2⟩ := putR_rise h hg ha
    have h3 : ∀ y ∈ putR xs a, goodR y.1 y.2 = true := fun y q => by
      rcases (h2 y).1 q with e | e
      · exact hg y e
      · rw [e]; exact ha
    obtain ⟨h4, h5⟩ := ih h1 h3 (fun y q => hy y (List.mem_cons_of_mem _ q))
    refine ⟨h4, fun y => ?_⟩
    have e : mergeL xs (a :: t) = mergeL (putR xs a) t := rfl
    rw [e, h5 y, h2 y, List.mem_cons, or_assoc]
/-- Equal neighbours struck. -/
def cmpL : List (Int × Int) → List (Int × Int)
  | [] => []
  | a :: t => match t with
    | [] => [a]
    | b :: _ => if a = b then cmpL t else a :: cmpL t
theorem cmpL_one (a : Int × Int) : cmpL [a] = [a] := by unfold cmpL; rfl
theorem cmpL_same (a : Int × Int) (t : List (Int × Int)) : cmpL (a :: a :: t) = cmpL (a :: t) := by
  conv => lhs; unfold cmpL
  simp
theorem cmpL_new {a b : Int × Int} (h : a ≠ b) (t : List (Int × Int)) : cmpL (a :: b :: t) = a :: cmpL (b :: t) := by
  conv => lhs; unfold cmpL
  simp [h]
theorem cmpL_mem : ∀ (l : List (Int × Int)) (y : Int × Int), y ∈ cmpL l ↔ y ∈ l := by
  intro l
  induction l with
  | nil => intro y; unfold cmpL; exact Iff.rfl
  | cons a t ih =>
    intro y
    cases t with
    | nil => rw [cmpL_one]
    | cons b s =>
      by_cases h : a = b
      · subst h
        rw [cmpL_same, ih y]
        simp
      · rw [cmpL_new h, List.mem_cons, ih y, List.mem_cons (a := y) (b := a)]
theorem cmpL_rise : ∀ {l : List (Int × Int)}, (l.Pairwise fun a b => qv a ≤ qv b) → (∀ y ∈ l, goodR y.1 y.2 = true) → RiseL (cmpL l) := by
  intro l
  induction l with
  | nil => intro _ _; unfold cmpL; exact List.Pairwise.nil
  | cons a t ih =>
    intro h hg
    obtain ⟨h1, h2⟩ := List.pairwise_cons.1 h
    have hi := ih h2 (fun y q => hg y (List.mem_cons_of_mem _ q))
    cases t with
    | nil => rw [cmpL_one]; exact List.pairwise_singleton _ _
    | cons b s =>
      by_cases e : a = b
      · subst e
        rw [cmpL_same]; exact hi
      · rw [cmpL_new e]
        refine List.pairwise_cons.2 ⟨fun y hy => ?_, hi⟩
        have hy2 := (cmpL_mem _ y).1 hy
        have hab : qv a < qv b := by
          rcases Rat.le_iff_lt_or_eq.1 (h1 b (List.mem_cons_self ..)) with q | q
          · exact q
          · exact absurd (qv_inj (hg a (List.mem_cons_self ..)) (hg b (List.mem_cons_of_mem _ (List.mem_cons_self ..))) q) e
        rcases List.mem_cons.1 hy2 with q | q
        · rw [q]; exact hab
        · have := (List.pairwise_cons.1 h2).1 y q
          grind
/-- Both ways give one list. -/
theorem sort_merge {l xs ys : List (Int × Int)} (hs : l.Pairwise fun a b => qv a ≤ qv b) (hm : ∀ y, y ∈ l ↔ y ∈ xs ∨ y ∈ ys) (hx : RiseL xs) (gx : ∀ y ∈ xs, goodR y.1 y.2 = true) (gy : ∀ y ∈ ys, goodR y.1 y.2 = true) : cmpL l = mergeL xs ys := by
  obtain ⟨h1, h2⟩ := merge_rise ys hx gx gy
  refine rise_ext (cmpL_rise hs fun y q => ?_) h1 fun y => by rw [cmpL_mem, hm, h2]
  rcases (hm y).1 q with e | e
  · exact gx y e
  · exact gy y e

end Go.Proofs.YtjkgilenhoomoaaGreat

namespace Go.Proofs.YtjkgilenhoomoaaGreat
open Go.RowKit

theorem pt_unit {xs : List (Int × Int)} (h : partB xs = true) : ∀ x, x ∈ xs → unitR x.1 x.2 = true := by
  unfold partB at h
  rw [Bool.and_eq_true, Bool.and_eq_true] at h
  intro x hx
  obtain ⟨i, hi, rfl⟩ := List.getElem_of_mem hx
  rw [← nthR_eq hi]
  exact unitsB_nth h.2.1 hi
theorem pt_good {xs : List (Int × Int)} (h : partB xs = true) : ∀ x, x ∈ xs → goodR x.1 x.2 = true := fun x hx => (unitR_qv.1 (pt_unit h x hx)).1
theorem pt_ends {xs : List (Int × Int)} (h : partB xs = true) : nthR xs 0 = (0, 1) ∧ nthR xs (xs.length - 1) = (1, 1) := by
  unfold partB at h
  simp only [Bool.and_eq_true, decide_eq_true_iff] at h
  exact h.2.2.2
theorem pt_rise {xs : List (Int × Int)} (h : partB xs = true) : RiseL xs := by
  have hg := pt_good h
  have h1 : ∀ i, i + 1 < xs.length → ltB (nthR xs i).1 (nthR xs i).2 (nthR xs (i + 1)).1 (nthR xs (i + 1)).2 = true := by
    unfold partB at h
    simp only [Bool.and_eq_true] at h
    have h3 := h.2.2.1
    intro i hi
    unfold riseK at h3
    rw [List.all_eq_true] at h3
    exact h3 i (List.mem_range.2 (by omega))
  have hgn : ∀ i, i < xs.length → goodR (nthR xs i).1 (nthR xs i).2 = true := fun i hi => hg _ (by rw [nthR_eq hi]; exact List.getElem_mem hi)
  have h2 : ∀ j i, i < j → j < xs.length → qv (nthR xs i) < qv (nthR xs j) := by
    intro j
    induction j with
    | zero => intro i h; omega
    | succ j ih =>
      intro i q hj
      have h2 := (ltB_qv (hgn j (by omega)) (hgn (j + 1) hj)).1 (h1 j hj)
      by_cases e : i = j
      · rw [e]; exact h2
      · have := ih i (by omega) (by omega)
        grind
  refine List.pairwise_iff_getElem.2 fun i j hi hj hij => ?_
  rw [← nthR_eq hi, ← nthR_eq hj]
  exact h2 j i hij hj
theorem qv01 : qv (0, 1) = 0 := by unfold qv; first | rfl | decide | (simp; grind)
theorem qv11 : qv (1, 1) = 1 := by unfold qv; first | rfl | decide | (simp; grind)
theorem pt_of {M : List (Int × Int)} (h9 : M.length ≤ 9) (hu : ∀ x, x ∈ M → unitR x.1 x.2 = true) (hr : RiseL M) (m0 : (0, 1) ∈ M) (m1 : (1, 1) ∈ M) : partB M = true := by
  have hq := List.pairwise_iff_getElem.1 hr
  obtain ⟨i, hi, ei⟩ := List.getElem_of_mem m0
  obtain ⟨j, hj, ej⟩ := List.getElem_of_mem m1
  have hi0 : i = 0 := by
    apply Nat.eq_zero_of_not_pos
    intro q
    have h1 := hq 0 i (by omega) hi q
    rw [ei, qv01] at h1
    have := (unitR_qv.1 (hu _ (List.getElem_mem (show 0 < M.length by omega)))).2.1
    grind
  have hj1 : j = M.length - 1 := by
    apply Classical.byContradiction
    intro q
    have h1 := hq j (M.length - 1) hj (by omega) (by omega)
    rw [ej, qv11] at h1
    have := (unitR_qv.1 (hu _ (List.getElem_mem (show M.length - 1 < M.length by omega)))).2.2
    grind
  have hij : i ≠ j := fun e => by
    subst e
    rw [ei] at ej
    simp at ej
  have hl : 2 ≤ M.length := by omega
  unfold partB
  simp only [Bool.and_eq_true, decide_eq_true_iff]
  refine ⟨inB_true.2 ⟨by omega, by omega⟩, ?_, ?_, ?_, ?_⟩
  · unfold unitsB
    rw [Bool.not_eq_true', List.any_eq_false]
    intro x hx
    simp [hu x hx]
  · unfold riseK
    rw [List.all_eq_true]
    intro k hk
    have hk' := List.mem_range.1 hk
    have a1 : k < M.length := by omega
    have a2 : k + 1 < M.length := by omega
    rw [nthR_eq a1, nthR_eq a2]
    exact (ltB_qv (unitR_qv.1 (hu _ (List.getElem_mem a1))).1 (unitR_qv.1 (hu _ (List.getElem_mem a2))).1).2 (hq k (k + 1) a1 a2 (by omega))
  · rw [nthR_eq (show 0 < M.length by omega), ← ei]; simp only [hi0]
  · rw [nthR_eq (show M.length - 1 < M.length by omega), ← ej]; simp only [hj1]
theorem merge_part {xs ys : List (Int × Int)} (hx : partB xs = true) (hy : partB ys = true) : partB (mergeL xs ys) = decide ((mergeL xs ys).length ≤ 9) := by
  obtain ⟨h1, h2⟩ := merge_rise ys (pt_rise hx) (pt_good hx) (pt_good hy)
  have hl := partB_len hx
  have e := pt_ends hx
  by_cases h9 : (mergeL xs ys).length ≤ 9
  · rw [decide_eq_true h9]
    refine pt_of h9 (fun x hm => ?_) h1 ((h2 _).2 (.inl ?_)) ((h2 _).2 (.inl ?_))
    · rcases (h2 x).1 hm with q | q
      · exact pt_unit hx x q
      · exact pt_unit hy x q
    · rw [← e.1, nthR_eq (by omega)]; exact List.getElem_mem _
    · rw [← e.2, nthR_eq (by omega)]; exact List.getElem_mem _
  · rw [decide_eq_false h9]
    cases h : partB (mergeL xs ys)
    · rfl
    · exact absurd (partB_len h).2 h9
theorem putR_len (l : List (Int × Int)) (x : Int × Int) : l.length ≤ (putR l x).length ∧ (putR l x).length ≤ l.length + 1 := by
  have h := putN_le l x
  unfold putR
  split
  · omega
  · rw [List.length_append, List.length_cons, List.length_take, List.length_drop]; omega
theorem mergeL_len (ys : List (Int × Int)) : ∀ xs : List (Int × Int), xs.length ≤ (mergeL xs ys).length ∧ (mergeL xs ys).length ≤ xs.length + ys.length := by
  induction ys with
  | nil => intro xs; exact ⟨Nat.le_refl _, Nat.le_refl _⟩
  | cons y t ih =>
    intro xs
    have h1 := putR_len xs y
    have h2 := ih (putR xs y)
    have e : mergeL xs (y :: t) = mergeL (putR xs y) t := rfl
    rw [e, List.length_cons]
    omega
theorem mergeL_take {xs ys : List (Int × Int)} {k : Nat} (h : k < ys.length) : mergeL xs (ys.take (k + 1)) = putR (mergeL xs (ys.take k)) (nthR ys k) := by
  rw [take_nthR h]; unfold mergeL; rw [List.foldl_append]; rfl

/-- What both return. -/
def MergePartitions_v (xs ys : List (Int × Int)) : List (Int × Int) × Bool := if partB xs = true ∧ partB ys = true ∧ (mergeL xs ys).length ≤ 9 then (mergeL xs ys, true) else ([], false)
theorem MergePartitions_len (xs ys : List (Int × Int)) : (MergePartitions_v xs ys).1.length ≤ 1099511627776 := by
  unfold MergePartitions_v
  split
  · rename_i h; show (mergeL xs ys).length ≤ _; omega
  · exact Nat.zero_le _
end Go.Proofs.YtjkgilenhoomoaaGreat

namespace Go.Proofs.YtjkgilenhoomoaaGreat
open Go.RowKit
set_option maxRecDepth 100000

/-- X + (y - Y) / s, 0 where a part is too large; and whether none is. -/
def backZ (p q : Quad) (y : Int × Int) : Int × Int := orZ (addR p.1 (orZ (divR (orZ (subR y p.2)) (slopeR p q))))
def backOk (p q : Quad) (y : Int × Int) : Bool := (subR y p.2).2 && ((divR (orZ (subR y p.2)) (slopeR p q)).2 && (addR p.1 (orZ (divR (orZ (subR y p.2)) (slopeR p q)))).2)
theorem backZ_good (p q : Quad) (y : Int × Int) : goodR (backZ p q y).1 (backZ p q y).2 = true := addR_good _ _

set_option linter.unusedSimpArgs false in
set_option maxHeartbeats 4000000 in
theorem cback_any (g : Nat) (bd : Bool) (p q : Quad) (y : Int × Int) (w : World) (h1 : coordR p.1 = true) (h2 : coordR p.2 = true) (h3 : coordR q.1 = true) (h4 : coordR q.2 = true) (hl : ltB p.1.1 p.1.2 q.1.1 q.1.2 = true) (hy : goodR y.1 y.2 = true) (hs0 : (slopeR p q).1 ≠ 0) (hc : CalcAt w g bd) :
    Calls Tryz.prog 52 #[.pointer (some ⟨g, 0, none⟩), quadV p, quadV q, .agg #[.int .i64 y.1, .int .i64 y.2]] w (RetC g (bd || !backOk p q y) (ratV (backZ p q y)) w) := by
  have gs := (slope_ok h1 h2 h3 h4 hl).2.1
  have c1 := fun w (hc : CalcAt w g bd) => csub_any g bd y p.2 w hy (unitR_good (coordR_unit h2)) hc
  have c2 := fun w hc => cslope_any g (bd || !(subR y p.2).2) p q w h1 h2 h3 h4 hl hc
  have c3 := fun w hc => cdiv_any g (bd || !(subR y p.2).2) (orZ (subR y p.2)) (slopeR p q) w (subR_good _ _) gs hs0 hc
  have c4 := fun w hc => cadd_any g (bd || !(subR y p.2).2 || !(divR (orZ (subR y p.2)) (slopeR p q)).2) p.1 (orZ (divR (orZ (subR y p.2)) (slopeR p q))) w (unitR_good (coordR_unit h1)) (divR_good _ _) hc
  have hfl : (bd || !(subR y p.2).2 || !(divR (orZ (subR y p.2)) (slopeR p q)).2 || !(addR p.1 (orZ (divR (orZ (subR y p.2)) (slopeR p q)))).2) = (bd || !backOk p q y) := by
    unfold backOk
    simp only [Bool.not_and, Bool.or_assoc]
  have hval : orZ (addR p.1 (orZ (divR (orZ (subR y p.2)) (slopeR p q)))) = backZ p q y := rfl
  rw [hfl, hval] at c4
  generalize (bd || !backOk p q y) = b3 at *
  generalize (bd || !(subR y p.2).2 || !(divR (orZ (subR y p.2)) (slopeR p q)).2) = b2 at *
  generalize (bd || !(subR y p.2).2) = b1 at *
  generalize backZ p q y = L at *
  generalize orZ (divR (orZ (subR y p.2)) (slopeR p q)) = M at *
  generalize orZ (subR y p.2) = D at *
  generalize slopeR p q = S at *
  clear hfl hval h1 h2 h3 h4 gs hs0 hl hy
  obtain ⟨⟨a0, a1⟩, ⟨a2, a3⟩⟩ := p
  obtain ⟨⟨b0', b1'⟩, ⟨b2', b3'⟩⟩ := q
  obtain ⟨x1, x2⟩ := y
  obtain ⟨l1, l2⟩ := L
  obtain ⟨m1, m2⟩ := M
  obtain ⟨d1, d2⟩ := D
  obtain ⟨s1, s2⟩ := S
  show Calls _ _ #[_, .agg #[.int .i64 a0, .int .i64 a1, .int .i64 a2, .int .i64 a3], .agg #[.int .i64 b0', .int .i64 b1', .int .i64 b2', .int .i64 b3'], .agg #[.int .i64 x1, .int .i64 x2]] w _
  simp only at c1 c2 c3 c4
  have hgl := hc.lt
  obtain ⟨w1, hw1⟩ : ∃ W, (((w.alloc (.cells #[.int .i64 a0, .int .i64 a1, .int .i64 a2, .int .i64 a3] 48)).alloc (.cells #[.int .i64 b0', .int .i64 b1', .int .i64 b2', .int .i64 b3'] 48)).alloc (.cells #[.int .i64 x1, .int .i64 x2] 42)).alloc (.cells #[.int .i64 0, .int .i64 0] 42) = W := ⟨_, rfl⟩
  have hB : Below w.heap.size w w1 := by rw [← hw1]; exact ((((Below.refl _ _).alloc (Nat.le_refl _) _).alloc (by simp) _).alloc (by simp; omega) _).alloc (by simp; omega) _
  have hz : w.heap.size + 4 = w1.heap.size := by rw [← hw1]; simp
  have u1 : w1.cell? ⟨w.heap.size, 0, none⟩ = some (.int .i64 a0) ∧ w1.cell? ⟨w.heap.size, 1, none⟩ = some (.int .i64 a1) ∧ w1.cell? ⟨w.heap.size, 2, none⟩ = some (.int .i64 a2) ∧ w1.cell? ⟨w.heap.size, 3, none⟩ = some (.int .i64 a3) := by rw [← hw1]; simp [go_sem]
  have u3 : w1.cell? ⟨w.heap.size + 1, 0, none⟩ = some (.int .i64 b0') ∧ w1.cell? ⟨w.heap.size + 1, 1, none⟩ = some (.int .i64 b1') ∧ w1.cell? ⟨w.heap.size + 1, 2, none⟩ = some (.int .i64 b2') ∧ w1.cell? ⟨w.heap.size + 1, 3, none⟩ = some (.int .i64 b3') := by rw [← hw1]; simp [go_sem]
  have u2 : w1.cell? ⟨w.heap.size + 1 + 1, 0, none⟩ = some (.int .i64 x1) ∧ w1.cell? ⟨w.heap.size + 1 + 1, 1, none⟩ = some (.int .i64 x2) := by rw [← hw1]; simp [go_sem]
  have y0 : w1.cell? ⟨w.heap.size + 1 + 1 + 1, 0, none⟩ = some (.int .i64 0) := by rw [← hw1]; simp [go_sem]
  have y1 : w1.cell? ⟨w.heap.size + 1 + 1 + 1, 1, none⟩ = some (.int .i64 0) := by rw [← hw1]; simp [go_sem]
  have y2 : w1.frozen? ⟨w.heap.size + 1 + 1 + 1, 0, none⟩ = false := by rw [← hw1]; simp [go_sem]
  have y3 : w1.frozen? ⟨w.heap.size + 1 + 1 + 1, 1, none⟩ = false := by rw [← hw1]; simp [go_sem]
  have at' : ∀ w', SameBut g (w.heap.size + 3) w1 w' → (w'.cell? ⟨w.heap.size, 0, none⟩ = some (.int .i64 a0) ∧ w'.cell? ⟨w.heap.size, 1, none⟩ = some (.int .i64 a1) ∧ w'.cell? ⟨w.heap.size, 2, none⟩ = some (.int .i64 a2) ∧ w'.cell? ⟨w.heap.size, 3, none⟩ = some (.int .i64 a3)) ∧ (w'.cell? ⟨w.heap.size + 1, 0, none⟩ = some (.int .i64 b0') ∧ w'.cell? ⟨w.heap.size + 1, 1, none⟩ = some (.int .i64 b1') ∧ w'.cell? ⟨w.heap.size + 1, 2, none⟩ = some (.int .i64 b2') ∧ w'.cell? ⟨w.heap.size + 1, 3, none⟩ = some (.int .i64 b3')) ∧ w'.cell? ⟨w.heap.size + 1 + 1, 0, none⟩ = some (.int .i64 x1) ∧ w'.cell? ⟨w.heap.size + 1 + 1, 1, none⟩ = some (.int .i64 x2) :=
    fun w' h => ⟨⟨h.keep u1.1 (by omega) (by omega), h.keep u1.2.1 (by omega) (by omega), h.keep u1.2.2.1 (by omega) (by omega), h.keep u1.2.2.2 (by omega) (by omega)⟩, ⟨h.keep u3.1 (by omega) (by omega), h.keep u3.2.1 (by omega) (by omega), h.keep u3.2.2.1 (by omega) (by omega), h.keep u3.2.2.2 (by omega) (by omega)⟩, h.keep u2.1 (by omega) (by omega), h.keep u2.2 (by omega) (by omega)⟩
  have hk1 : w1.grownBy w1.drew (some g) := gdrew (World.grownBy.refl _ _)
  have hcd : CalcAt w1.drew g bd := (hc.grown ⟨hB.os, hB.tape, hB.output, hB.size, fun k hk _ => hB.block k hk⟩ (r := none) (by simp)).drew
  have hg1 : w.grownBy w1 (some g) := ⟨hB.os, hB.tape, hB.output, hB.size, fun k hk _ => hB.block k hk⟩
  have hrg : (some g : Option Nat) ≠ some (w.heap.size + 1 + 1 + 1) := fun e => by have := Option.some.inj e; omega
  have hE : w.heap.size + 3 ≤ w1.heap.size := by omega
  clear u1 u2 u3 hc
  have c1' := Lib.hid c1
  have c2' := Lib.hid c2
  have c3' := Lib.hid c3
  have c4' := Lib.hid c4
  have hw1' := Lib.hid hw1
  have at'' := Lib.hid at'
  have hz' := Lib.hid hz
  clear c1 c2 c3 c4 hw1 at' hz
  go_enter Tryz.func52, Tryz.ntmps52
  go_wp2_with fail
  rw [hw1'.out]
  refine wp_region_held_drew (S := (fun w' => (w'.cell? ⟨w.heap.size, 0, none⟩ = some (.int .i64 a0) ∧ w'.cell? ⟨w.heap.size, 1, none⟩ = some (.int .i64 a1) ∧ w'.cell? ⟨w.heap.size, 2, none⟩ = some (.int .i64 a2) ∧ w'.cell? ⟨w.heap.size, 3, none⟩ = some (.int .i64 a3)) ∧ (w'.cell? ⟨w.heap.size + 1, 0, none⟩ = some (.int .i64 b0') ∧ w'.cell? ⟨w.heap.size + 1, 1, none⟩ = some (.int .i64 b1') ∧ w'.cell? ⟨w.heap.size + 1, 2, none⟩ = some (.int .i64 b2') ∧ w'.cell? ⟨w.heap.size + 1, 3, none⟩ = some (.int .i64 b3')) ∧ w'.cell? ⟨w.heap.size + 1 + 1, 0, none⟩ = some (.int .i64 x1) ∧ w'.cell? ⟨w.heap.size + 1 + 1, 1, none⟩ = some (.int .i64 x2))) (by kernel_rfl) (by (try dsimp only); (first | exact at''.out _ (SameBut.grown hk1 hE) | exact at''.out _ (SameBut.grown hk2 hE) | exact at''.out _ (SameBut.grown hk3 hE) | exact at''.out _ (SameBut.grown hk4 hE) | exact at''.out _ (SameBut.grown hk6 hE) | exact at''.out _ hk5)) (fun hHeld => ?_)
  refine ly_q 0 (v := ?_) hHeld ?_
  try simp only [Act.put, lyA, lyB, lyC]
  refine ly_q 1 (v := ?_) hHeld ?_
  try simp only [Act.put, lyA, lyB, lyC]
  refine ly_q 2 (v := ?_) hHeld ?_
  try simp only [Act.put, lyA, lyB, lyC]
  refine ly_q 3 (v := ?_) hHeld ?_
  try simp only [Act.put, lyA, lyB, lyC]
  refine ly_q 4 (v := ?_) hHeld ?_
  try simp only [Act.put, lyA, lyB, lyC]
  refine ly_q 5 (v := ?_) hHeld ?_
  try simp only [Act.put, lyA, lyB, lyC]
  refine ly_q 6 (v := ?_) hHeld ?_
  try simp only [Act.put, lyA, lyB, lyC]
  refine ly_q 7 (v := ?_) hHeld ?_
  try simp only [Act.put, lyA, lyB, lyC]
  refine ly_q 9 (v := ?_) hHeld ?_
  try simp only [Act.put, lyA, lyB, lyC]
  refine ly_q 10 (v := ?_) hHeld ?_
  try simp only [Act.put, lyA, lyB, lyC]
  refine ly_q 11 (v := ?_) hHeld ?_
  try simp only [Act.put, lyA, lyB, lyC]
  refine ly_a 8 (fun KK hKK => ?_)
  go_simp
  refine (c1'.out _ hcd).mono ?_
  rintro e w2 ⟨rfl, hg2, hc2⟩
  have hk2 := hk1.trans hg2
  try dsimp only
  refine hKK.out _ _ (by (try dsimp only); (first | exact at''.out _ (SameBut.grown hk1 hE) | exact at''.out _ (SameBut.grown hk2 hE) | exact at''.out _ (SameBut.grown hk3 hE) | exact at''.out _ (SameBut.grown hk4 hE) | exact at''.out _ (SameBut.grown hk6 hE) | exact at''.out _ hk5)) (fun hHeld => ?_)
  clear hKK KK
  try simp only [Act.put, lyA, lyB, lyC]
  refine ly_a 12 (fun KK hKK => ?_)
  go_simp
  refine (c2'.out _ hc2).mono ?_
  rintro e w3 ⟨rfl, hg3, hc3⟩
  have hk3 := hk2.trans hg3
  try dsimp only
  refine hKK.out _ _ (by (try dsimp only); (first | exact at''.out _ (SameBut.grown hk1 hE) | exact at''.out _ (SameBut.grown hk2 hE) | exact at''.out _ (SameBut.grown hk3 hE) | exact at''.out _ (SameBut.grown hk4 hE) | exact at''.out _ (SameBut.grown hk6 hE) | exact at''.out _ hk5)) (fun hHeld => ?_)
  clear hKK KK
  try simp only [Act.put, lyA, lyB, lyC]
  refine ly_a 13 (fun KK hKK => ?_)
  go_simp
  refine (c3'.out _ hc3).mono ?_
  rintro e w5 ⟨rfl, hg5, hc5⟩
  have hk6 := hk3.trans hg5
  try dsimp only
  refine hKK.out _ _ (by (try dsimp only); (first | exact at''.out _ (SameBut.grown hk1 hE) | exact at''.out _ (SameBut.grown hk2 hE) | exact at''.out _ (SameBut.grown hk3 hE) | exact at''.out _ (SameBut.grown hk4 hE) | exact at''.out _ (SameBut.grown hk6 hE) | exact at''.out _ hk5)) (fun hHeld => ?_)
  clear hKK KK
  try simp only [Act.put, lyA, lyB, lyC]
  refine ly_a 14 (fun KK hKK => ?_)
  go_simp
  refine (c4'.out _ hc5).mono ?_
  rintro e w4 ⟨rfl, hg4, hc4⟩
  have hk4 := hk6.trans hg4
  have q0 := gcell hk4 y0 hrg
  have q1 := gcell hk4 y1 hrg
  have q2 := gfrozen hk4 y0 y2 hrg
  have q3 := gfrozen hk4 y1 y3 hrg
  try dsimp only
  refine hKK.out _ _ (by (try dsimp only); (first | exact at''.out _ (SameBut.grown hk1 hE) | exact at''.out _ (SameBut.grown hk2 hE) | exact at''.out _ (SameBut.grown hk3 hE) | exact at''.out _ (SameBut.grown hk4 hE) | exact at''.out _ (SameBut.grown hk6 hE) | exact at''.out _ hk5)) (fun hHeld => ?_)
  clear hKK KK
  try simp only [Act.put, lyA, lyB, lyC]
  refine ly_a 15 (fun KK hKK => ?_)
  go_simp
  have hk5 := ((SameBut.grown hk4 hE).set (b := w.heap.size + 1 + 1 + 1) (o := 0) (Nat.le_refl _) (.int .i64 l1)).set (b := w.heap.size + 1 + 1 + 1) (o := 1) (Nat.le_refl _) (.int .i64 l2)
  try dsimp only
  refine hKK.out _ _ (by (try dsimp only); (first | exact at''.out _ (SameBut.grown hk1 hE) | exact at''.out _ (SameBut.grown hk2 hE) | exact at''.out _ (SameBut.grown hk3 hE) | exact at''.out _ (SameBut.grown hk4 hE) | exact at''.out _ (SameBut.grown hk6 hE) | exact at''.out _ hk5)) (fun hHeld => ?_)
  clear hKK KK
  try simp only [Act.put, lyA, lyB, lyC]
  refine wpAnyH_done (by kernel_rfl) ?_ _
  have hgf := grow_set (grow_set (hg1.trans hk4) (b := w.heap.size + 1 + 1 + 1) (o := 0) (by omega) (.int .i64 l1)) (b := w.heap.size + 1 + 1 + 1) (o := 1) (by omega) (.int .i64 l2)
  have hcf := (hc4.set (b := w.heap.size + 1 + 1 + 1) (o := 0) (by omega) (.int .i64 l1)).set (b := w.heap.size + 1 + 1 + 1) (o := 1) (by omega) (.int .i64 l2)
  clear hHeld hk6 hk5 hk4 hk3 hk2 hk1
  go_wp2
  exact bodyPost_ret (v := ratV (l1, l2)) (by simp [results, Tryz.results52, go_sem, q0, q1, ratV]) rfl ⟨rfl, hgf, hcf⟩

/-- What the reference returns. -/
def backR (p q : Quad) (y : Int × Int) : (Int × Int) × Bool := if (subR y p.2).2 = true then (if (divR (subR y p.2).1 (slopeR p q)).2 = true then addR p.1 (divR (subR y p.2).1 (slopeR p q)).1 else ((0, 0), false)) else ((0, 0), false)
theorem backR_ok (p q : Quad) (y : Int × Int) : (backR p q y).2 = backOk p q y := by
  unfold backR backOk
  split
  · rename_i h
    rw [orZ_ok h]
    split
    · rename_i h2
      rw [orZ_ok h2, h, h2]; simp
    · rename_i h2
      rw [Bool.not_eq_true] at h2
      rw [h2]; simp
  · rename_i h
    rw [Bool.not_eq_true] at h
    rw [h]; simp
theorem backR_val {p q : Quad} {y : Int × Int} (h : backOk p q y = true) : (backR p q y).1 = backZ p q y := by
  unfold backOk at h
  simp only [Bool.and_eq_true] at h
  obtain ⟨h1, h2, h3⟩ := h
  unfold backR backZ
  rw [if_pos h1]
  rw [orZ_ok h3]
  rw [orZ_ok h1] at h2 ⊢
  rw [if_pos h2, orZ_ok h2]

set_option linter.unusedVariables false in
set_option maxHeartbeats 4000000 in
theorem imBack_coreA (a0 a1 a2 a3 b0 b1 b2 b3 x0 x1 f0 f1 : Int) (w : World)
    (c1 : ∀ w, Calls Tryz.prog 59 #[.agg #[.int .i64 x0, .int .i64 x1], .agg #[.int .i64 a2, .int .i64 a3]] w (Ret (.tuple #[ratV (f0, f1), .bool false]) w)) :
    Calls Tryz.prog 45 #[.agg #[.int .i64 a0, .int .i64 a1, .int .i64 a2, .int .i64 a3], .agg #[.int .i64 b0, .int .i64 b1, .int .i64 b2, .int .i64 b3], .agg #[.int .i64 x0, .int .i64 x1]] w (Ret (.tuple #[ratV (0, 0), .bool false]) w) := by
  obtain ⟨w1, hw1⟩ : ∃ W, (((w.alloc (.cells #[.int .i64 a0, .int .i64 a1, .int .i64 a2, .int .i64 a3] 48)).alloc (.cells #[.int .i64 b0, .int .i64 b1, .int .i64 b2, .int .i64 b3] 48)).alloc (.cells #[.int .i64 x0, .int .i64 x1] 42)).alloc (.cells #[.int .i64 0, .int .i64 0] 42) = W := ⟨_, rfl⟩
  have hB : Below w.heap.size w w1 := by rw [← hw1]; exact ((((Below.refl _ _).alloc (Nat.le_refl _) _).alloc (by simp) _).alloc (by simp; omega) _).alloc (by simp; omega) _
  have hz : w.heap.size + 1 + 1 + 1 < w1.heap.size := by rw [← hw1]; simp
  have e0 : w1.cell? ⟨w.heap.size, 2, none⟩ = some (.int .i64 a2) := by rw [← hw1]; simp [go_sem]
  have e1 : w1.cell? ⟨w.heap.size, 3, none⟩ = some (.int .i64 a3) := by rw [← hw1]; simp [go_sem]
  have t0 : w1.cell? ⟨w.heap.size + 1 + 1, 0, none⟩ = some (.int .i64 x0) := by rw [← hw1]; simp [go_sem]
  have t1 : w1.cell? ⟨w.heap.size + 1 + 1, 1, none⟩ = some (.int .i64 x1) := by rw [← hw1]; simp [go_sem]
  have y0 : w1.cell? ⟨w.heap.size + 1 + 1 + 1, 0, none⟩ = some (.int .i64 0) := by rw [← hw1]; simp [go_sem]
  have y1 : w1.cell? ⟨w.heap.size + 1 + 1 + 1, 1, none⟩ = some (.int .i64 0) := by rw [← hw1]; simp [go_sem]
  have y2 : w1.frozen? ⟨w.heap.size + 1 + 1 + 1, 0, none⟩ = false := by rw [← hw1]; simp [go_sem]
  have y3 : w1.frozen? ⟨w.heap.size + 1 + 1 + 1, 1, none⟩ = false := by rw [← hw1]; simp [go_sem]
  have c1' := Lib.hid c1
  have hw1' := Lib.hid hw1
  clear c1 hw1
  go_enter Tryz.func45, Tryz.ntmps45
  go_wp2_with fail
  rw [hw1'.out]
  go_wp2_with fail
  refine (c1'.out _).mono ?_
  rintro e w2 ⟨rfl, hB2⟩
  have hz2 := Nat.lt_of_lt_of_le hz hB2.size
  have hb2 := hB.trans (hB2.mono hB.size)
  have q0 := bkeep hB2 y0
  have q1 := bkeep hB2 y1
  have q2 := gfrozen (bgrow hB2 none) y0 y2 (by simp)
  have q3 := gfrozen (bgrow hB2 none) y1 y3 (by simp)
  obtain ⟨u, hu⟩ : ∃ W, (w2.setCell ⟨w.heap.size + 1 + 1 + 1, 0, none⟩ (.int .i64 0)).setCell ⟨w.heap.size + 1 + 1 + 1, 1, none⟩ (.int .i64 0) = W := ⟨_, rfl⟩
  have hbu : Below w.heap.size w u := by rw [← hu]; exact (hb2.setCell (p := ⟨w.heap.size + 1 + 1 + 1, 0, none⟩) (by show w.heap.size ≤ w.heap.size + 1 + 1 + 1; omega) _).setCell (p := ⟨w.heap.size + 1 + 1 + 1, 1, none⟩) (by show w.heap.size ≤ w.heap.size + 1 + 1 + 1; omega) _
  have r0 : u.cell? ⟨w.heap.size + 1 + 1 + 1, 0, none⟩ = some (.int .i64 0) := by rw [← hu]; simp [go_sem, q0]
  have r1 : u.cell? ⟨w.heap.size + 1 + 1 + 1, 1, none⟩ = some (.int .i64 0) := by rw [← hu]; simp [go_sem, q1]
  obtain ⟨v2, hv2⟩ : ∃ W, u.alloc (.cells #[.int .i64 f0, .int .i64 f1] 42) = W := ⟨_, rfl⟩
  have hbv : Below w.heap.size w v2 := by rw [← hv2]; exact hbu.alloc hbu.size _
  have hku : Below u.heap.size u v2 := by rw [← hv2]; exact (Below.refl _ _).alloc (Nat.le_refl _) _
  have z0 := bkeep hku r0
  have z1 := bkeep hku r1
  clear e0 e1 t0 t1 y0 y1 y2 y3 hB2 r0 r1 hbu hku
  have hu' := Lib.hid hu
  have hv2' := Lib.hid hv2
  clear hu hv2
  go_wp2
  rw [hu'.out, hv2'.out]
  exact bodyPost_ret (v := .tuple #[ratV (0, 0), .bool false]) (by simp [results, Tryz.results45, go_sem, z0, z1, ratV]) rfl ⟨rfl, hbv⟩

set_option linter.unusedSimpArgs false in
set_option linter.unusedVariables false in
set_option maxHeartbeats 4000000 in
theorem imBack_coreB (a0 a1 a2 a3 b0 b1 b2 b3 x0 x1 f0 f1 s0 s1 m0 m1 r0 r1 : Int) (r2 : Bool) (w : World)
    (c1 : ∀ w, Calls Tryz.prog 59 #[.agg #[.int .i64 x0, .int .i64 x1], .agg #[.int .i64 a2, .int .i64 a3]] w (Ret (.tuple #[ratV (f0, f1), .bool true]) w))
    (c2 : ∀ w, Calls Tryz.prog 61 #[.agg #[.int .i64 a0, .int .i64 a1, .int .i64 a2, .int .i64 a3], .agg #[.int .i64 b0, .int .i64 b1, .int .i64 b2, .int .i64 b3]] w (Ret (ratV (s0, s1)) w))
    (c3 : ∀ w, Calls Tryz.prog 60 #[.agg #[.int .i64 f0, .int .i64 f1], .agg #[.int .i64 s0, .int .i64 s1]] w (Ret (.tuple #[ratV (m0, m1), .bool false]) w))
    (c4 : false = true → ∀ w, Calls Tryz.prog 62 #[.agg #[.int .i64 a0, .int .i64 a1], .agg #[.int .i64 m0, .int .i64 m1]] w (Ret (.tuple #[ratV (r0, r1), .bool r2]) w))
    (hr : false = false → r0 = 0 ∧ r1 = 0 ∧ r2 = false) :
    Calls Tryz.prog 45 #[.agg #[.int .i64 a0, .int .i64 a1, .int .i64 a2, .int .i64 a3], .agg #[.int .i64 b0, .int .i64 b1, .int .i64 b2, .int .i64 b3], .agg #[.int .i64 x0, .int .i64 x1]] w (Ret (.tuple #[ratV (r0, r1), .bool r2]) w) := by
  obtain ⟨w1, hw1⟩ : ∃ W, (((w.alloc (.cells #[.int .i64 a0, .int .i64 a1, .int .i64 a2, .int .i64 a3] 48)).alloc (.cells #[.int .i64 b0, .int .i64 b1, .int .i64 b2, .int .i64 b3] 48)).alloc (.cells #[.int .i64 x0, .int .i64 x1] 42)).alloc (.cells #[.int .i64 0, .int .i64 0] 42) = W := ⟨_, rfl⟩
  have hB : Below w.heap.size w w1 := by rw [← hw1]; exact ((((Below.refl _ _).alloc (Nat.le_refl _) _).alloc (by simp) _).alloc (by simp; omega) _).alloc (by simp; omega) _
  have u1 : w1.cell? ⟨w.heap.size, 0, none⟩ = some (.int .i64 a0) ∧ w1.cell? ⟨w.heap.size, 1, none⟩ = some (.int .i64 a1) ∧ w1.cell? ⟨w.heap.size, 2, none⟩ = some (.int .i64 a2) ∧ w1.cell? ⟨w.heap.size, 3, none⟩ = some (.int .i64 a3) := by rw [← hw1]; simp [go_sem]
  have u2 : w1.cell? ⟨w.heap.size + 1, 0, none⟩ = some (.int .i64 b0) ∧ w1.cell? ⟨w.heap.size + 1, 1, none⟩ = some (.int .i64 b1) ∧ w1.cell? ⟨w.heap.size + 1, 2, none⟩ = some (.int .i64 b2) ∧ w1.cell? ⟨w.heap.size + 1, 3, none⟩ = some (.int .i64 b3) := by rw [← hw1]; simp [go_sem]
  have t0 : w1.cell? ⟨w.heap.size + 1 + 1, 0, none⟩ = some (.int .i64 x0) := by rw [← hw1]; simp [go_sem]
  have t1 : w1.cell? ⟨w.heap.size + 1 + 1, 1, none⟩ = some (.int .i64 x1) := by rw [← hw1]; simp [go_sem]
  have y0 : w1.cell? ⟨w.heap.size + 1 + 1 + 1, 0, none⟩ = some (.int .i64 0) := by rw [← hw1]; simp [go_sem]
  have y1 : w1.cell? ⟨w.heap.size + 1 + 1 + 1, 1, none⟩ = some (.int .i64 0) := by rw [← hw1]; simp [go_sem]
  have y2 : w1.frozen? ⟨w.heap.size + 1 + 1 + 1, 0, none⟩ = false := by rw [← hw1]; simp [go_sem]
  have y3 : w1.frozen? ⟨w.heap.size + 1 + 1 + 1, 1, none⟩ = false := by rw [← hw1]; simp [go_sem]
  have e0 := u1.2.2.1
  have e1 := u1.2.2.2
  have c1' := Lib.hid c1
  have c2' := Lib.hid c2
  have c3' := Lib.hid c3
  have c4' := Lib.hid c4
  have hw1' := Lib.hid hw1
  have u1' := Lib.hid u1
  have u2' := Lib.hid u2
  have hr' := Lib.hid hr
  clear c1 c2 c3 c4 hw1 u1 u2 hr
  go_enter Tryz.func45, Tryz.ntmps45
  go_wp2_with fail
  rw [hw1'.out]
  go_wp2_with fail
  refine (c1'.out _).mono ?_
  rintro e w2 ⟨rfl, hB2⟩
  obtain ⟨v2, hv2⟩ : ∃ W, w2.alloc (.cells #[.int .i64 f0, .int .i64 f1] 42) = W := ⟨_, rfl⟩
  have hk2 : Below w1.heap.size w1 v2 := by rw [← hv2]; exact hB2.alloc hB2.size _
  have g0 : v2.cell? ⟨w2.heap.size, 0, none⟩ = some (.int .i64 f0) := by rw [← hv2]; simp [go_sem]
  have g1 : v2.cell? ⟨w2.heap.size, 1, none⟩ = some (.int .i64 f1) := by rw [← hv2]; simp [go_sem]
  have at' : ∀ w', Below v2.heap.size v2 w' → ((w'.cell? ⟨w.heap.size, 0, none⟩ = some (.int .i64 a0) ∧ w'.cell? ⟨w.heap.size, 1, none⟩ = some (.int .i64 a1) ∧ w'.cell? ⟨w.heap.size, 2, none⟩ = some (.int .i64 a2) ∧ w'.cell? ⟨w.heap.size, 3, none⟩ = some (.int .i64 a3)) ∧ w'.cell? ⟨w.heap.size + 1, 0, none⟩ = some (.int .i64 b0) ∧ w'.cell? ⟨w.heap.size + 1, 1, none⟩ = some (.int .i64 b1) ∧ w'.cell? ⟨w.heap.size + 1, 2, none⟩ = some (.int .i64 b2) ∧ w'.cell? ⟨w.heap.size + 1, 3, none⟩ = some (.int .i64 b3)) ∧ w'.cell? ⟨w2.heap.size, 0, none⟩ = some (.int .i64 f0) ∧ w'.cell? ⟨w2.heap.size, 1, none⟩ = some (.int .i64 f1) :=
    fun w' h => by
      have hk := hk2.trans (h.mono hk2.size)
      exact ⟨⟨⟨bkeep hk u1'.out.1, bkeep hk u1'.out.2.1, bkeep hk u1'.out.2.2.1, bkeep hk u1'.out.2.2.2⟩, bkeep hk u2'.out.1, bkeep hk u2'.out.2.1, bkeep hk u2'.out.2.2.1, bkeep hk u2'.out.2.2.2⟩, bkeep h g0, bkeep h g1⟩
  have hd := (Below.refl v2.heap.size v2).drew
  clear e0 e1 t0 t1 g0 g1 hB2
  have hv2' := Lib.hid hv2
  have at'' := Lib.hid at'
  clear hv2 at'
  go_wp2_with fail
  rw [hv2'.out]
  refine wp_region_held_drew (S := (fun w' => Below v2.heap.size v2 w' ∧ ((w'.cell? ⟨w.heap.size, 0, none⟩ = some (.int .i64 a0) ∧ w'.cell? ⟨w.heap.size, 1, none⟩ = some (.int .i64 a1) ∧ w'.cell? ⟨w.heap.size, 2, none⟩ = some (.int .i64 a2) ∧ w'.cell? ⟨w.heap.size, 3, none⟩ = some (.int .i64 a3)) ∧ w'.cell? ⟨w.heap.size + 1, 0, none⟩ = some (.int .i64 b0) ∧ w'.cell? ⟨w.heap.size + 1, 1, none⟩ = some (.int .i64 b1) ∧ w'.cell? ⟨w.heap.size + 1, 2, none⟩ = some (.int .i64 b2) ∧ w'.cell? ⟨w.heap.size + 1, 3, none⟩ = some (.int .i64 b3)) ∧ w'.cell? ⟨w2.heap.size, 0, none⟩ = some (.int .i64 f0) ∧ w'.cell? ⟨w2.heap.size, 1, none⟩ = some (.int .i64 f1))) (by kernel_rfl) (by (try dsimp only); (first | exact ⟨hd, at''.out _ hd⟩ | exact ⟨hdp.alloc hdp.size _, at''.out _ (hdp.alloc hdp.size _)⟩ | exact ⟨(hd.setCell (p := ⟨_, 0, none⟩) hlow _).setCell (p := ⟨_, 1, none⟩) hlow _, at''.out _ ((hd.setCell (p := ⟨_, 0, none⟩) hlow _).setCell (p := ⟨_, 1, none⟩) hlow _)⟩)) (fun hHeld => ?_)
  refine ly_q 0 (v := ?_) hHeld ?_
  try simp only [Act.put, lyA, lyB, lyC]
  refine ly_q 1 (v := ?_) hHeld ?_
  try simp only [Act.put, lyA, lyB, lyC]
  refine ly_q 2 (v := ?_) hHeld ?_
  try simp only [Act.put, lyA, lyB, lyC]
  refine wpAnyH_ready (rs := [3, 8]) (by kernel_rfl) (by simp) ?_
  refine AllReadyH.cons (o := Oper.mk _ _ _ _ _ _) rfl (fun KK hKK => ?_) (AllReadyH.cons (o := Oper.mk _ _ _ _ _ _) rfl (fun KK hKK => ?_) (AllReadyH.nil))
  · rw [if_pos (by kernel_rfl)]
    go_simp
    refine (c2'.out _).mono ?_
    rintro e w3 ⟨rfl, hB3⟩
    replace hd := hd.trans (hB3.mono hd.size)
    (try replace n2 := gfrozen (bgrow hB3 none) n0 n2 (by simp))
    (try replace n3 := gfrozen (bgrow hB3 none) n1 n3 (by simp))
    (try replace n0 := bkeep hB3 n0)
    (try replace n1 := bkeep hB3 n1)
    try dsimp only
    refine hKK.out _ _ (by (try dsimp only); (first | exact ⟨hd, at''.out _ hd⟩ | exact ⟨hdp.alloc hdp.size _, at''.out _ (hdp.alloc hdp.size _)⟩ | exact ⟨(hd.setCell (p := ⟨_, 0, none⟩) hlow _).setCell (p := ⟨_, 1, none⟩) hlow _, at''.out _ ((hd.setCell (p := ⟨_, 0, none⟩) hlow _).setCell (p := ⟨_, 1, none⟩) hlow _)⟩)) (fun hHeld => ?_)
    clear hKK KK
    try simp only [Act.put, lyA, lyB, lyC]
    refine wpAnyH_ready (rs := [4, 8]) (by kernel_rfl) (by simp) ?_
    refine AllReadyH.cons (o := Oper.mk _ _ _ _ _ _) rfl (fun KK hKK => ?_) (AllReadyH.cons (o := Oper.mk _ _ _ _ _ _) rfl (fun KK hKK => ?_) (AllReadyH.nil))
    · rw [if_pos (by kernel_rfl)]
      go_simp
      refine (c3'.out _).mono ?_
      rintro e w4 ⟨rfl, hB4⟩
      replace hd := hd.trans (hB4.mono hd.size)
      (try replace n2 := gfrozen (bgrow hB4 none) n0 n2 (by simp))
      (try replace n3 := gfrozen (bgrow hB4 none) n1 n3 (by simp))
      (try replace n0 := bkeep hB4 n0)
      (try replace n1 := bkeep hB4 n1)
      try dsimp only
      refine hKK.out _ _ (by (try dsimp only); (first | exact ⟨hd, at''.out _ hd⟩ | exact ⟨hdp.alloc hdp.size _, at''.out _ (hdp.alloc hdp.size _)⟩ | exact ⟨(hd.setCell (p := ⟨_, 0, none⟩) hlow _).setCell (p := ⟨_, 1, none⟩) hlow _, at''.out _ ((hd.setCell (p := ⟨_, 0, none⟩) hlow _).setCell (p := ⟨_, 1, none⟩) hlow _)⟩)) (fun hHeld => ?_)
      clear hKK KK
      try simp only [Act.put, lyA, lyB, lyC]
      refine ly_q 5 (v := ?_) hHeld ?_
      try simp only [Act.put, lyA, lyB, lyC]
      refine ly_q 6 (v := ?_) hHeld ?_
      try simp only [Act.put, lyA, lyB, lyC]
      refine ly_q 7 (v := ?_) hHeld ?_
      try simp only [Act.put, lyA, lyB, lyC]
      refine ly_a 8 (fun KK hKK => ?_)
      go_simp
      have hdp := hd
      have hlow := hd.size
      replace hd := hd.alloc hd.size (.cells #[.int .i64 0, .int .i64 0] 42)
      obtain ⟨n0, n1, n2, n3⟩ := new_cells hd
      (try change World.cell? _ ⟨v2.heap.size, 0, none⟩ = _ at n0)
      (try change World.cell? _ ⟨v2.heap.size, 1, none⟩ = _ at n1)
      (try change World.frozen? _ ⟨v2.heap.size, 0, none⟩ = _ at n2)
      (try change World.frozen? _ ⟨v2.heap.size, 1, none⟩ = _ at n3)
      try dsimp only
      refine hKK.out _ _ (by (try dsimp only); (first | exact ⟨hd, at''.out _ hd⟩ | exact ⟨hdp.alloc hdp.size _, at''.out _ (hdp.alloc hdp.size _)⟩ | exact ⟨(hd.setCell (p := ⟨_, 0, none⟩) hlow _).setCell (p := ⟨_, 1, none⟩) hlow _, at''.out _ ((hd.setCell (p := ⟨_, 0, none⟩) hlow _).setCell (p := ⟨_, 1, none⟩) hlow _)⟩)) (fun hHeld => ?_)
      clear hKK KK
      try simp only [Act.put, lyA, lyB, lyC]
      refine ly_a 9 (fun KK hKK => ?_)
      go_simp
      skip
      try dsimp only
      refine hKK.out _ _ (by (try dsimp only); (first | exact ⟨hd, at''.out _ hd⟩ | exact ⟨hdp.alloc hdp.size _, at''.out _ (hdp.alloc hdp.size _)⟩ | exact ⟨(hd.setCell (p := ⟨_, 0, none⟩) hlow _).setCell (p := ⟨_, 1, none⟩) hlow _, at''.out _ ((hd.setCell (p := ⟨_, 0, none⟩) hlow _).setCell (p := ⟨_, 1, none⟩) hlow _)⟩)) (fun hHeld => ?_)
      clear hKK KK
      try simp only [Act.put, lyA, lyB, lyC]
      refine ly_q 10 (v := ?_) hHeld ?_
      try simp only [Act.put, lyA, lyB, lyC]
      refine wpAnyH_done (by kernel_rfl) ?_ _
      obtain ⟨hdV, _⟩ := hHeld
      have hk5 := hk2.trans (hdV.mono hk2.size)
      have hb5 := hB.trans (hk5.mono hB.size)
      have p2 := bkeep hk5 u1'.out.1
      have p3 := bkeep hk5 u1'.out.2.1
      have q0 := bkeep hk5 y0
      have q1 := bkeep hk5 y1
      have q2 := gfrozen (bgrow hk5 none) y0 y2 (by simp)
      have q3 := gfrozen (bgrow hk5 none) y1 y3 (by simp)
      clear y0 y1 y2 y3 hk2 hk5 hdV
      have hset : ∀ (W : World), Below w.heap.size w W → ∀ z0 z1, Below w.heap.size w ((W.setCell ⟨w.heap.size + 1 + 1 + 1, 0, none⟩ z0).setCell ⟨w.heap.size + 1 + 1 + 1, 1, none⟩ z1) := fun W h z0 z1 =>
        (h.setCell (p := ⟨w.heap.size + 1 + 1 + 1, 0, none⟩) (by show w.heap.size ≤ w.heap.size + 1 + 1 + 1; omega) _).setCell (p := ⟨w.heap.size + 1 + 1 + 1, 1, none⟩) (by show w.heap.size ≤ w.heap.size + 1 + 1 + 1; omega) _
      have hset' := Lib.hid hset
      clear hset
      first
        | (obtain ⟨rfl, rfl, rfl⟩ := hr'.out (by simp)
           go_wp2
           exact bodyPost_ret (v := .tuple #[ratV (0, 0), .bool false]) (by simp [results, Tryz.results45, go_sem, q0, q1, ratV]) rfl ⟨rfl, hset'.out _ hb5 _ _⟩)
        | (have c5 := c4'.out (by simp)
           clear c4'
           have c5' := Lib.hid c5
           clear c5
           go_wp2_with fail
           refine (c5'.out _).mono ?_
           rintro e w6 ⟨rfl, hB6⟩
           have hb6 := hb5.trans (hB6.mono hb5.size)
           have h0 := bkeep hB6 q0
           have h1 := bkeep hB6 q1
           have h2 := gfrozen (bgrow hB6 none) q0 q2 (by simp)
           have h3 := gfrozen (bgrow hB6 none) q1 q3 (by simp)
           clear q0 q1 q2 q3 p2 p3 hB6
           go_wp2
           exact bodyPost_ret (v := .tuple #[ratV (r0, r1), .bool r2]) (by simp [results, Tryz.results45, go_sem, h0, h1, ratV]) rfl ⟨rfl, hset'.out _ hb6 _ _⟩)
    · rw [if_pos (by kernel_rfl)]
      go_simp
      have hdp := hd
      have hlow := hd.size
      replace hd := hd.alloc hd.size (.cells #[.int .i64 0, .int .i64 0] 42)
      obtain ⟨n0, n1, n2, n3⟩ := new_cells hd
      (try change World.cell? _ ⟨v2.heap.size, 0, none⟩ = _ at n0)
      (try change World.cell? _ ⟨v2.heap.size, 1, none⟩ = _ at n1)
      (try change World.frozen? _ ⟨v2.heap.size, 0, none⟩ = _ at n2)
      (try change World.frozen? _ ⟨v2.heap.size, 1, none⟩ = _ at n3)
      try dsimp only
      refine hKK.out _ _ (by (try dsimp only); (first | exact ⟨hd, at''.out _ hd⟩ | exact ⟨hdp.alloc hdp.size _, at''.out _ (hdp.alloc hdp.size _)⟩ | exact ⟨(hd.setCell (p := ⟨_, 0, none⟩) hlow _).setCell (p := ⟨_, 1, none⟩) hlow _, at''.out _ ((hd.setCell (p := ⟨_, 0, none⟩) hlow _).setCell (p := ⟨_, 1, none⟩) hlow _)⟩)) (fun hHeld => ?_)
      clear hKK KK
      try simp only [Act.put, lyA, lyB, lyC]
      refine ly_a 4 (fun KK hKK => ?_)
      go_simp
      refine (c3'.out _).mono ?_
      rintro e w4 ⟨rfl, hB4⟩
      replace hd := hd.trans (hB4.mono hd.size)
      (try replace n2 := gfrozen (bgrow hB4 none) n0 n2 (by simp))
      (try replace n3 := gfrozen (bgrow hB4 none) n1 n3 (by simp))
      (try replace n0 := bkeep hB4 n0)
      (try replace n1 := bkeep hB4 n1)
      try dsimp only
      refine hKK.out _ _ (by (try dsimp only); (first | exact ⟨hd, at''.out _ hd⟩ | exact ⟨hdp.alloc hdp.size _, at''.out _ (hdp.alloc hdp.size _)⟩ | exact ⟨(hd.setCell (p := ⟨_, 0, none⟩) hlow _).setCell (p := ⟨_, 1, none⟩) hlow _, at''.out _ ((hd.setCell (p := ⟨_, 0, none⟩) hlow _).setCell (p := ⟨_, 1, none⟩) hlow _)⟩)) (fun hHeld => ?_)
      clear hKK KK
      try simp only [Act.put, lyA, lyB, lyC]
      refine ly_q 5 (v := ?_) hHeld ?_
      try simp only [Act.put, lyA, lyB, lyC]
      refine ly_q 6 (v := ?_) hHeld ?_
      try simp only [Act.put, lyA, lyB, lyC]
      refine ly_q 7 (v := ?_) hHeld ?_
      try simp only [Act.put, lyA, lyB, lyC]
      refine ly_a 9 (fun KK hKK => ?_)
      go_simp
      skip
      try dsimp only
      refine hKK.out _ _ (by (try dsimp only); (first | exact ⟨hd, at''.out _ hd⟩ | exact ⟨hdp.alloc hdp.size _, at''.out _ (hdp.alloc hdp.size _)⟩ | exact ⟨(hd.setCell (p := ⟨_, 0, none⟩) hlow _).setCell (p := ⟨_, 1, none⟩) hlow _, at''.out _ ((hd.setCell (p := ⟨_, 0, none⟩) hlow _).setCell (p := ⟨_, 1, none⟩) hlow _)⟩)) (fun hHeld => ?_)
      clear hKK KK
      try simp only [Act.put, lyA, lyB, lyC]
      refine ly_q 10 (v := ?_) hHeld ?_
      try simp only [Act.put, lyA, lyB, lyC]
      refine wpAnyH_done (by kernel_rfl) ?_ _
      obtain ⟨hdV, _⟩ := hHeld
      have hk5 := hk2.trans (hdV.mono hk2.size)
      have hb5 := hB.trans (hk5.mono hB.size)
      have p2 := bkeep hk5 u1'.out.1
      have p3 := bkeep hk5 u1'.out.2.1
      have q0 := bkeep hk5 y0
      have q1 := bkeep hk5 y1
      have q2 := gfrozen (bgrow hk5 none) y0 y2 (by simp)
      have q3 := gfrozen (bgrow hk5 none) y1 y3 (by simp)
      clear y0 y1 y2 y3 hk2 hk5 hdV
      have hset : ∀ (W : World), Below w.heap.size w W → ∀ z0 z1, Below w.heap.size w ((W.setCell ⟨w.heap.size + 1 + 1 + 1, 0, none⟩ z0).setCell ⟨w.heap.size + 1 + 1 + 1, 1, none⟩ z1) := fun W h z0 z1 =>
        (h.setCell (p := ⟨w.heap.size + 1 + 1 + 1, 0, none⟩) (by show w.heap.size ≤ w.heap.size + 1 + 1 + 1; omega) _).setCell (p := ⟨w.heap.size + 1 + 1 + 1, 1, none⟩) (by show w.heap.size ≤ w.heap.size + 1 + 1 + 1; omega) _
      have hset' := Lib.hid hset
      clear hset
      first
        | (obtain ⟨rfl, rfl, rfl⟩ := hr'.out (by simp)
           go_wp2
           exact bodyPost_ret (v := .tuple #[ratV (0, 0), .bool false]) (by simp [results, Tryz.results45, go_sem, q0, q1, ratV]) rfl ⟨rfl, hset'.out _ hb5 _ _⟩)
        | (have c5 := c4'.out (by simp)
           clear c4'
           have c5' := Lib.hid c5
           clear c5
           go_wp2_with fail
           refine (c5'.out _).mono ?_
           rintro e w6 ⟨rfl, hB6⟩
           have hb6 := hb5.trans (hB6.mono hb5.size)
           have h0 := bkeep hB6 q0
           have h1 := bkeep hB6 q1
           have h2 := gfrozen (bgrow hB6 none) q0 q2 (by simp)
           have h3 := gfrozen (bgrow hB6 none) q1 q3 (by simp)
           clear q0 q1 q2 q3 p2 p3 hB6
           go_wp2
           exact bodyPost_ret (v := .tuple #[ratV (r0, r1), .bool r2]) (by simp [results, Tryz.results45, go_sem, h0, h1, ratV]) rfl ⟨rfl, hset'.out _ hb6 _ _⟩)
  · rw [if_pos (by kernel_rfl)]
    go_simp
    have hdp := hd
    have hlow := hd.size
    replace hd := hd.alloc hd.size (.cells #[.int .i64 0, .int .i64 0] 42)
    obtain ⟨n0, n1, n2, n3⟩ := new_cells hd
    (try change World.cell? _ ⟨v2.heap.size, 0, none⟩ = _ at n0)
    (try change World.cell? _ ⟨v2.heap.size, 1, none⟩ = _ at n1)
    (try change World.frozen? _ ⟨v2.heap.size, 0, none⟩ = _ at n2)
    (try change World.frozen? _ ⟨v2.heap.size, 1, none⟩ = _ at n3)
    try dsimp only
    refine hKK.out _ _ (by (try dsimp only); (first | exact ⟨hd, at''.out _ hd⟩ | exact ⟨hdp.alloc hdp.size _, at''.out _ (hdp.alloc hdp.size _)⟩ | exact ⟨(hd.setCell (p := ⟨_, 0, none⟩) hlow _).setCell (p := ⟨_, 1, none⟩) hlow _, at''.out _ ((hd.setCell (p := ⟨_, 0, none⟩) hlow _).setCell (p := ⟨_, 1, none⟩) hlow _)⟩)) (fun hHeld => ?_)
    clear hKK KK
    try simp only [Act.put, lyA, lyB, lyC]
    refine ly_a 3 (fun KK hKK => ?_)
    go_simp
    refine (c2'.out _).mono ?_
    rintro e w3 ⟨rfl, hB3⟩
    replace hd := hd.trans (hB3.mono hd.size)
    (try replace n2 := gfrozen (bgrow hB3 none) n0 n2 (by simp))
    (try replace n3 := gfrozen (bgrow hB3 none) n1 n3 (by simp))
    (try replace n0 := bkeep hB3 n0)
    (try replace n1 := bkeep hB3 n1)
    try dsimp only
    refine hKK.out _ _ (by (try dsimp only); (first | exact ⟨hd, at''.out _ hd⟩ | exact ⟨hdp.alloc hdp.size _, at''.out _ (hdp.alloc hdp.size _)⟩ | exact ⟨(hd.setCell (p := ⟨_, 0, none⟩) hlow _).setCell (p := ⟨_, 1, none⟩) hlow _, at''.out _ ((hd.setCell (p := ⟨_, 0, none⟩) hlow _).setCell (p := ⟨_, 1, none⟩) hlow _)⟩)) (fun hHeld => ?_)
    clear hKK KK
    try simp only [Act.put, lyA, lyB, lyC]
    refine ly_a 4 (fun KK hKK => ?_)
    go_simp
    refine (c3'.out _).mono ?_
    rintro e w4 ⟨rfl, hB4⟩
    replace hd := hd.trans (hB4.mono hd.size)
    (try replace n2 := gfrozen (bgrow hB4 none) n0 n2 (by simp))
    (try replace n3 := gfrozen (bgrow hB4 none) n1 n3 (by simp))
    (try replace n0 := bkeep hB4 n0)
    (try replace n1 := bkeep hB4 n1)
    try dsimp only
    refine hKK.out _ _ (by (try dsimp only); (first | exact ⟨hd, at''.out _ hd⟩ | exact ⟨hdp.alloc hdp.size _, at''.out _ (hdp.alloc hdp.size _)⟩ | exact ⟨(hd.setCell (p := ⟨_, 0, none⟩) hlow _).setCell (p := ⟨_, 1, none⟩) hlow _, at''.out _ ((hd.setCell (p := ⟨_, 0, none⟩) hlow _).setCell (p := ⟨_, 1, none⟩) hlow _)⟩)) (fun hHeld => ?_)
    clear hKK KK
    try simp only [Act.put, lyA, lyB, lyC]
    refine ly_q 5 (v := ?_) hHeld ?_
    try simp only [Act.put, lyA, lyB, lyC]
    refine ly_q 6 (v := ?_) hHeld ?_
    try simp only [Act.put, lyA, lyB, lyC]
    refine ly_q 7 (v := ?_) hHeld ?_
    try simp only [Act.put, lyA, lyB, lyC]
    refine ly_a 9 (fun KK hKK => ?_)
    go_simp
    skip
    try dsimp only
    refine hKK.out _ _ (by (try dsimp only); (first | exact ⟨hd, at''.out _ hd⟩ | exact ⟨hdp.alloc hdp.size _, at''.out _ (hdp.alloc hdp.size _)⟩ | exact ⟨(hd.setCell (p := ⟨_, 0, none⟩) hlow _).setCell (p := ⟨_, 1, none⟩) hlow _, at''.out _ ((hd.setCell (p := ⟨_, 0, none⟩) hlow _).setCell (p := ⟨_, 1, none⟩) hlow _)⟩)) (fun hHeld => ?_)
    clear hKK KK
    try simp only [Act.put, lyA, lyB, lyC]
    refine ly_q 10 (v := ?_) hHeld ?_
    try simp only [Act.put, lyA, lyB, lyC]
    refine wpAnyH_done (by kernel_rfl) ?_ _
    obtain ⟨hdV, _⟩ := hHeld
    have hk5 := hk2.trans (hdV.mono hk2.size)
    have hb5 := hB.trans (hk5.mono hB.size)
    have p2 := bkeep hk5 u1'.out.1
    have p3 := bkeep hk5 u1'.out.2.1
    have q0 := bkeep hk5 y0
    have q1 := bkeep hk5 y1
    have q2 := gfrozen (bgrow hk5 none) y0 y2 (by simp)
    have q3 := gfrozen (bgrow hk5 none) y1 y3 (by simp)
    clear y0 y1 y2 y3 hk2 hk5 hdV
    have hset : ∀ (W : World), Below w.heap.size w W → ∀ z0 z1, Below w.heap.size w ((W.setCell ⟨w.heap.size + 1 + 1 + 1, 0, none⟩ z0).setCell ⟨w.heap.size + 1 + 1 + 1, 1, none⟩ z1) := fun W h z0 z1 =>
      (h.setCell (p := ⟨w.heap.size + 1 + 1 + 1, 0, none⟩) (by show w.heap.size ≤ w.heap.size + 1 + 1 + 1; omega) _).setCell (p := ⟨w.heap.size + 1 + 1 + 1, 1, none⟩) (by show w.heap.size ≤ w.heap.size + 1 + 1 + 1; omega) _
    have hset' := Lib.hid hset
    clear hset
    first
      | (obtain ⟨rfl, rfl, rfl⟩ := hr'.out (by simp)
         go_wp2
         exact bodyPost_ret (v := .tuple #[ratV (0, 0), .bool false]) (by simp [results, Tryz.results45, go_sem, q0, q1, ratV]) rfl ⟨rfl, hset'.out _ hb5 _ _⟩)
      | (have c5 := c4'.out (by simp)
         clear c4'
         have c5' := Lib.hid c5
         clear c5
         go_wp2_with fail
         refine (c5'.out _).mono ?_
         rintro e w6 ⟨rfl, hB6⟩
         have hb6 := hb5.trans (hB6.mono hb5.size)
         have h0 := bkeep hB6 q0
         have h1 := bkeep hB6 q1
         have h2 := gfrozen (bgrow hB6 none) q0 q2 (by simp)
         have h3 := gfrozen (bgrow hB6 none) q1 q3 (by simp)
         clear q0 q1 q2 q3 p2 p3 hB6
         go_wp2
         exact bodyPost_ret (v := .tuple #[ratV (r0, r1), .bool r2]) (by simp [results, Tryz.results45, go_sem, h0, h1, ratV]) rfl ⟨rfl, hset'.out _ hb6 _ _⟩)
set_option linter.unusedSimpArgs false in
set_option linter.unusedVariables false in
set_option maxHeartbeats 4000000 in
theorem imBack_coreC (a0 a1 a2 a3 b0 b1 b2 b3 x0 x1 f0 f1 s0 s1 m0 m1 r0 r1 : Int) (r2 : Bool) (w : World)
    (c1 : ∀ w, Calls Tryz.prog 59 #[.agg #[.int .i64 x0, .int .i64 x1], .agg #[.int .i64 a2, .int .i64 a3]] w (Ret (.tuple #[ratV (f0, f1), .bool true]) w))
    (c2 : ∀ w, Calls Tryz.prog 61 #[.agg #[.int .i64 a0, .int .i64 a1, .int .i64 a2, .int .i64 a3], .agg #[.int .i64 b0, .int .i64 b1, .int .i64 b2, .int .i64 b3]] w (Ret (ratV (s0, s1)) w))
    (c3 : ∀ w, Calls Tryz.prog 60 #[.agg #[.int .i64 f0, .int .i64 f1], .agg #[.int .i64 s0, .int .i64 s1]] w (Ret (.tuple #[ratV (m0, m1), .bool true]) w))
    (c4 : true = true → ∀ w, Calls Tryz.prog 62 #[.agg #[.int .i64 a0, .int .i64 a1], .agg #[.int .i64 m0, .int .i64 m1]] w (Ret (.tuple #[ratV (r0, r1), .bool r2]) w))
    (hr : true = false → r0 = 0 ∧ r1 = 0 ∧ r2 = false) :
    Calls Tryz.prog 45 #[.agg #[.int .i64 a0, .int .i64 a1, .int .i64 a2, .int .i64 a3], .agg #[.int .i64 b0, .int .i64 b1, .int .i64 b2, .int .i64 b3], .agg #[.int .i64 x0, .int .i64 x1]] w (Ret (.tuple #[ratV (r0, r1), .bool r2]) w) := by
  obtain ⟨w1, hw1⟩ : ∃ W, (((w.alloc (.cells #[.int .i64 a0, .int .i64 a1, .int .i64 a2, .int .i64 a3] 48)).alloc (.cells #[.int .i64 b0, .int .i64 b1, .int .i64 b2, .int .i64 b3] 48)).alloc (.cells #[.int .i64 x0, .int .i64 x1] 42)).alloc (.cells #[.int .i64 0, .int .i64 0] 42) = W := ⟨_, rfl⟩
  have hB : Below w.heap.size w w1 := by rw [← hw1]; exact ((((Below.refl _ _).alloc (Nat.le_refl _) _).alloc (by simp) _).alloc (by simp; omega) _).alloc (by simp; omega) _
  have u1 : w1.cell? ⟨w.heap.size, 0, none⟩ = some (.int .i64 a0) ∧ w1.cell? ⟨w.heap.size, 1, none⟩ = some (.int .i64 a1) ∧ w1.cell? ⟨w.heap.size, 2, none⟩ = some (.int .i64 a2) ∧ w1.cell? ⟨w.heap.size, 3, none⟩ = some (.int .i64 a3) := by rw [← hw1]; simp [go_sem]
  have u2 : w1.cell? ⟨w.heap.size + 1, 0, none⟩ = some (.int .i64 b0) ∧ w1.cell? ⟨w.heap.size + 1, 1, none⟩ = some (.int .i64 b1) ∧ w1.cell? ⟨w.heap.size + 1, 2, none⟩ = some (.int .i64 b2) ∧ w1.cell? ⟨w.heap.size + 1, 3, none⟩ = some (.int .i64 b3) := by rw [← hw1]; simp [go_sem]
  have t0 : w1.cell? ⟨w.heap.size + 1 + 1, 0, none⟩ = some (.int .i64 x0) := by rw [← hw1]; simp [go_sem]
  have t1 : w1.cell? ⟨w.heap.size + 1 + 1, 1, none⟩ = some (.int .i64 x1) := by rw [← hw1]; simp [go_sem]
  have y0 : w1.cell? ⟨w.heap.size + 1 + 1 + 1, 0, none⟩ = some (.int .i64 0) := by rw [← hw1]; simp [go_sem]
  have y1 : w1.cell? ⟨w.heap.size + 1 + 1 + 1, 1, none⟩ = some (.int .i64 0) := by rw [← hw1]; simp [go_sem]
  have y2 : w1.frozen? ⟨w.heap.size + 1 + 1 + 1, 0, none⟩ = false := by rw [← hw1]; simp [go_sem]
  have y3 : w1.frozen? ⟨w.heap.size + 1 + 1 + 1, 1, none⟩ = false := by rw [← hw1]; simp [go_sem]
  have e0 := u1.2.2.1
  have e1 := u1.2.2.2
  have c1' := Lib.hid c1
  have c2' := Lib.hid c2
  have c3' := Lib.hid c3
  have c4' := Lib.hid c4
  have hw1' := Lib.hid hw1
  have u1' := Lib.hid u1
  have u2' := Lib.hid u2
  have hr' := Lib.hid hr
  clear c1 c2 c3 c4 hw1 u1 u2 hr
  go_enter Tryz.func45, Tryz.ntmps45
  go_wp2_with fail
  rw [hw1'.out]
  go_wp2_with fail
  refine (c1'.out _).mono ?_
  rintro e w2 ⟨rfl, hB2⟩
  obtain ⟨v2, hv2⟩ : ∃ W, w2.alloc (.cells #[.int .i64 f0, .int .i64 f1] 42) = W := ⟨_, rfl⟩
  have hk2 : Below w1.heap.size w1 v2 := by rw [← hv2]; exact hB2.alloc hB2.size _
  have g0 : v2.cell? ⟨w2.heap.size, 0, none⟩ = some (.int .i64 f0) := by rw [← hv2]; simp [go_sem]
  have g1 : v2.cell? ⟨w2.heap.size, 1, none⟩ = some (.int .i64 f1) := by rw [← hv2]; simp [go_sem]
  have at' : ∀ w', Below v2.heap.size v2 w' → ((w'.cell? ⟨w.heap.size, 0, none⟩ = some (.int .i64 a0) ∧ w'.cell? ⟨w.heap.size, 1, none⟩ = some (.int .i64 a1) ∧ w'.cell? ⟨w.heap.size, 2, none⟩ = some (.int .i64 a2) ∧ w'.cell? ⟨w.heap.size, 3, none⟩ = some (.int .i64 a3)) ∧ w'.cell? ⟨w.heap.size + 1, 0, none⟩ = some (.int .i64 b0) ∧ w'.cell? ⟨w.heap.size + 1, 1, none⟩ = some (.int .i64 b1) ∧ w'.cell? ⟨w.heap.size + 1, 2, none⟩ = some (.int .i64 b2) ∧ w'.cell? ⟨w.heap.size + 1, 3, none⟩ = some (.int .i64 b3)) ∧ w'.cell? ⟨w2.heap.size, 0, none⟩ = some (.int .i64 f0) ∧ w'.cell? ⟨w2.heap.size, 1, none⟩ = some (.int .i64 f1) :=
    fun w' h => by
      have hk := hk2.trans (h.mono hk2.size)
      exact ⟨⟨⟨bkeep hk u1'.out.1, bkeep hk u1'.out.2.1, bkeep hk u1'.out.2.2.1, bkeep hk u1'.out.2.2.2⟩, bkeep hk u2'.out.1, bkeep hk u2'.out.2.1, bkeep hk u2'.out.2.2.1, bkeep hk u2'.out.2.2.2⟩, bkeep h g0, bkeep h g1⟩
  have hd := (Below.refl v2.heap.size v2).drew
  clear e0 e1 t0 t1 g0 g1 hB2
  have hv2' := Lib.hid hv2
  have at'' := Lib.hid at'
  clear hv2 at'
  go_wp2_with fail
  rw [hv2'.out]
  refine wp_region_held_drew (S := (fun w' => Below v2.heap.size v2 w' ∧ ((w'.cell? ⟨w.heap.size, 0, none⟩ = some (.int .i64 a0) ∧ w'.cell? ⟨w.heap.size, 1, none⟩ = some (.int .i64 a1) ∧ w'.cell? ⟨w.heap.size, 2, none⟩ = some (.int .i64 a2) ∧ w'.cell? ⟨w.heap.size, 3, none⟩ = some (.int .i64 a3)) ∧ w'.cell? ⟨w.heap.size + 1, 0, none⟩ = some (.int .i64 b0) ∧ w'.cell? ⟨w.heap.size + 1, 1, none⟩ = some (.int .i64 b1) ∧ w'.cell? ⟨w.heap.size + 1, 2, none⟩ = some (.int .i64 b2) ∧ w'.cell? ⟨w.heap.size + 1, 3, none⟩ = some (.int .i64 b3)) ∧ w'.cell? ⟨w2.heap.size, 0, none⟩ = some (.int .i64 f0) ∧ w'.cell? ⟨w2.heap.size, 1, none⟩ = some (.int .i64 f1))) (by kernel_rfl) (by (try dsimp only); (first | exact ⟨hd, at''.out _ hd⟩ | exact ⟨hdp.alloc hdp.size _, at''.out _ (hdp.alloc hdp.size _)⟩ | exact ⟨(hd.setCell (p := ⟨_, 0, none⟩) hlow _).setCell (p := ⟨_, 1, none⟩) hlow _, at''.out _ ((hd.setCell (p := ⟨_, 0, none⟩) hlow _).setCell (p := ⟨_, 1, none⟩) hlow _)⟩)) (fun hHeld => ?_)
  refine ly_q 0 (v := ?_) hHeld ?_
  try simp only [Act.put, lyA, lyB, lyC]
  refine ly_q 1 (v := ?_) hHeld ?_
  try simp only [Act.put, lyA, lyB, lyC]
  refine ly_q 2 (v := ?_) hHeld ?_
  try simp only [Act.put, lyA, lyB, lyC]
  refine wpAnyH_ready (rs := [3, 8]) (by kernel_rfl) (by simp) ?_
  refine AllReadyH.cons (o := Oper.mk _ _ _ _ _ _) rfl (fun KK hKK => ?_) (AllReadyH.cons (o := Oper.mk _ _ _ _ _ _) rfl (fun KK hKK => ?_) (AllReadyH.nil))
  · rw [if_pos (by kernel_rfl)]
    go_simp
    refine (c2'.out _).mono ?_
    rintro e w3 ⟨rfl, hB3⟩
    replace hd := hd.trans (hB3.mono hd.size)
    (try replace n2 := gfrozen (bgrow hB3 none) n0 n2 (by simp))
    (try replace n3 := gfrozen (bgrow hB3 none) n1 n3 (by simp))
    (try replace n0 := bkeep hB3 n0)
    (try replace n1 := bkeep hB3 n1)
    try dsimp only
    refine hKK.out _ _ (by (try dsimp only); (first | exact ⟨hd, at''.out _ hd⟩ | exact ⟨hdp.alloc hdp.size _, at''.out _ (hdp.alloc hdp.size _)⟩ | exact ⟨(hd.setCell (p := ⟨_, 0, none⟩) hlow _).setCell (p := ⟨_, 1, none⟩) hlow _, at''.out _ ((hd.setCell (p := ⟨_, 0, none⟩) hlow _).setCell (p := ⟨_, 1, none⟩) hlow _)⟩)) (fun hHeld => ?_)
    clear hKK KK
    try simp only [Act.put, lyA, lyB, lyC]
    refine wpAnyH_ready (rs := [4, 8]) (by kernel_rfl) (by simp) ?_
    refine AllReadyH.cons (o := Oper.mk _ _ _ _ _ _) rfl (fun KK hKK => ?_) (AllReadyH.cons (o := Oper.mk _ _ _ _ _ _) rfl (fun KK hKK => ?_) (AllReadyH.nil))
    · rw [if_pos (by kernel_rfl)]
      go_simp
      refine (c3'.out _).mono ?_
      rintro e w4 ⟨rfl, hB4⟩
      replace hd := hd.trans (hB4.mono hd.size)
      (try replace n2 := gfrozen (bgrow hB4 none) n0 n2 (by simp))
      (try replace n3 := gfrozen (bgrow hB4 none) n1 n3 (by simp))
      (try replace n0 := bkeep hB4 n0)
      (try replace n1 := bkeep hB4 n1)
      try dsimp only
      refine hKK.out _ _ (by (try dsimp only); (first | exact ⟨hd, at''.out _ hd⟩ | exact ⟨hdp.alloc hdp.size _, at''.out _ (hdp.alloc hdp.size _)⟩ | exact ⟨(hd.setCell (p := ⟨_, 0, none⟩) hlow _).setCell (p := ⟨_, 1, none⟩) hlow _, at''.out _ ((hd.setCell (p := ⟨_, 0, none⟩) hlow _).setCell (p := ⟨_, 1, none⟩) hlow _)⟩)) (fun hHeld => ?_)
      clear hKK KK
      try simp only [Act.put, lyA, lyB, lyC]
      refine ly_q 5 (v := ?_) hHeld ?_
      try simp only [Act.put, lyA, lyB, lyC]
      refine ly_q 6 (v := ?_) hHeld ?_
      try simp only [Act.put, lyA, lyB, lyC]
      refine ly_q 7 (v := ?_) hHeld ?_
      try simp only [Act.put, lyA, lyB, lyC]
      refine ly_a 8 (fun KK hKK => ?_)
      go_simp
      have hdp := hd
      have hlow := hd.size
      replace hd := hd.alloc hd.size (.cells #[.int .i64 0, .int .i64 0] 42)
      obtain ⟨n0, n1, n2, n3⟩ := new_cells hd
      (try change World.cell? _ ⟨v2.heap.size, 0, none⟩ = _ at n0)
      (try change World.cell? _ ⟨v2.heap.size, 1, none⟩ = _ at n1)
      (try change World.frozen? _ ⟨v2.heap.size, 0, none⟩ = _ at n2)
      (try change World.frozen? _ ⟨v2.heap.size, 1, none⟩ = _ at n3)
      try dsimp only
      refine hKK.out _ _ (by (try dsimp only); (first | exact ⟨hd, at''.out _ hd⟩ | exact ⟨hdp.alloc hdp.size _, at''.out _ (hdp.alloc hdp.size _)⟩ | exact ⟨(hd.setCell (p := ⟨_, 0, none⟩) hlow _).setCell (p := ⟨_, 1, none⟩) hlow _, at''.out _ ((hd.setCell (p := ⟨_, 0, none⟩) hlow _).setCell (p := ⟨_, 1, none⟩) hlow _)⟩)) (fun hHeld => ?_)
      clear hKK KK
      try simp only [Act.put, lyA, lyB, lyC]
      refine ly_a 9 (fun KK hKK => ?_)
      go_simp
      skip
      try dsimp only
      refine hKK.out _ _ (by (try dsimp only); (first | exact ⟨hd, at''.out _ hd⟩ | exact ⟨hdp.alloc hdp.size _, at''.out _ (hdp.alloc hdp.size _)⟩ | exact ⟨(hd.setCell (p := ⟨_, 0, none⟩) hlow _).setCell (p := ⟨_, 1, none⟩) hlow _, at''.out _ ((hd.setCell (p := ⟨_, 0, none⟩) hlow _).setCell (p := ⟨_, 1, none⟩) hlow _)⟩)) (fun hHeld => ?_)
      clear hKK KK
      try simp only [Act.put, lyA, lyB, lyC]
      refine ly_q 10 (v := ?_) hHeld ?_
      try simp only [Act.put, lyA, lyB, lyC]
      refine wpAnyH_done (by kernel_rfl) ?_ _
      obtain ⟨hdV, _⟩ := hHeld
      have hk5 := hk2.trans (hdV.mono hk2.size)
      have hb5 := hB.trans (hk5.mono hB.size)
      have p2 := bkeep hk5 u1'.out.1
      have p3 := bkeep hk5 u1'.out.2.1
      have q0 := bkeep hk5 y0
      have q1 := bkeep hk5 y1
      have q2 := gfrozen (bgrow hk5 none) y0 y2 (by simp)
      have q3 := gfrozen (bgrow hk5 none) y1 y3 (by simp)
      clear y0 y1 y2 y3 hk2 hk5 hdV
      have hset : ∀ (W : World), Below w.heap.size w W → ∀ z0 z1, Below w.heap.size w ((W.setCell ⟨w.heap.size + 1 + 1 + 1, 0, none⟩ z0).setCell ⟨w.heap.size + 1 + 1 + 1, 1, none⟩ z1) := fun W h z0 z1 =>
        (h.setCell (p := ⟨w.heap.size + 1 + 1 + 1, 0, none⟩) (by show w.heap.size ≤ w.heap.size + 1 + 1 + 1; omega) _).setCell (p := ⟨w.heap.size + 1 + 1 + 1, 1, none⟩) (by show w.heap.size ≤ w.heap.size + 1 + 1 + 1; omega) _
      have hset' := Lib.hid hset
      clear hset
      first
        | (obtain ⟨rfl, rfl, rfl⟩ := hr'.out (by simp)
           go_wp2
           exact bodyPost_ret (v := .tuple #[ratV (0, 0), .bool false]) (by simp [results, Tryz.results45, go_sem, q0, q1, ratV]) rfl ⟨rfl, hset'.out _ hb5 _ _⟩)
        | (have c5 := c4'.out (by simp)
           clear c4'
           have c5' := Lib.hid c5
           clear c5
           go_wp2_with fail
           refine (c5'.out _).mono ?_
           rintro e w6 ⟨rfl, hB6⟩
           have hb6 := hb5.trans (hB6.mono hb5.size)
           have h0 := bkeep hB6 q0
           have h1 := bkeep hB6 q1
           have h2 := gfrozen (bgrow hB6 none) q0 q2 (by simp)
           have h3 := gfrozen (bgrow hB6 none) q1 q3 (by simp)
           clear q0 q1 q2 q3 p2 p3 hB6
           go_wp2
           exact bodyPost_ret (v := .tuple #[ratV (r0, r1), .bool r2]) (by simp [results, Tryz.results45, go_sem, h0, h1, ratV]) rfl ⟨rfl, hset'.out _ hb6 _ _⟩)
    · rw [if_pos (by kernel_rfl)]
      go_simp
      have hdp := hd
      have hlow := hd.size
      replace hd := hd.alloc hd.size (.cells #[.int .i64 0, .int .i64 0] 42)
      obtain ⟨n0, n1, n2, n3⟩ := new_cells hd
      (try change World.cell? _ ⟨v2.heap.size, 0, none⟩ = _ at n0)
      (try change World.cell? _ ⟨v2.heap.size, 1, none⟩ = _ at n1)
      (try change World.frozen? _ ⟨v2.heap.size, 0, none⟩ = _ at n2)
      (try change World.frozen? _ ⟨v2.heap.size, 1, none⟩ = _ at n3)
      try dsimp only
      refine hKK.out _ _ (by (try dsimp only); (first | exact ⟨hd, at''.out _ hd⟩ | exact ⟨hdp.alloc hdp.size _, at''.out _ (hdp.alloc hdp.size _)⟩ | exact ⟨(hd.setCell (p := ⟨_, 0, none⟩) hlow _).setCell (p := ⟨_, 1, none⟩) hlow _, at''.out _ ((hd.setCell (p := ⟨_, 0, none⟩) hlow _).setCell (p := ⟨_, 1, none⟩) hlow _)⟩)) (fun hHeld => ?_)
      clear hKK KK
      try simp only [Act.put, lyA, lyB, lyC]
      refine ly_a 4 (fun KK hKK => ?_)
      go_simp
      refine (c3'.out _).mono ?_
      rintro e w4 ⟨rfl, hB4⟩
      replace hd := hd.trans (hB4.mono hd.size)
      (try replace n2 := gfrozen (bgrow hB4 none) n0 n2 (by simp))
      (try replace n3 := gfrozen (bgrow hB4 none) n1 n3 (by simp))
      (try replace n0 := bkeep hB4 n0)
      (try replace n1 := bkeep hB4 n1)
      try dsimp only
      refine hKK.out _ _ (by (try dsimp only); (first | exact ⟨hd, at''.out _ hd⟩ | exact ⟨hdp.alloc hdp.size _, at''.out _ (hdp.alloc hdp.size _)⟩ | exact ⟨(hd.setCell (p := ⟨_, 0, none⟩) hlow _).setCell (p := ⟨_, 1, none⟩) hlow _, at''.out _ ((hd.setCell (p := ⟨_, 0, none⟩) hlow _).setCell (p := ⟨_, 1, none⟩) hlow _)⟩)) (fun hHeld => ?_)
      clear hKK KK
      try simp only [Act.put, lyA, lyB, lyC]
      refine ly_q 5 (v := ?_) hHeld ?_
      try simp only [Act.put, lyA, lyB, lyC]
      refine ly_q 6 (v := ?_) hHeld ?_
      try simp only [Act.put, lyA, lyB, lyC]
      refine ly_q 7 (v := ?_) hHeld ?_
      try simp only [Act.put, lyA, lyB, lyC]
      refine ly_a 9 (fun KK hKK => ?_)
      go_simp
      skip
      try dsimp only
      refine hKK.out _ _ (by (try dsimp only); (first | exact ⟨hd, at''.out _ hd⟩ | exact ⟨hdp.alloc hdp.size _, at''.out _ (hdp.alloc hdp.size _)⟩ | exact ⟨(hd.setCell (p := ⟨_, 0, none⟩) hlow _).setCell (p := ⟨_, 1, none⟩) hlow _, at''.out _ ((hd.setCell (p := ⟨_, 0, none⟩) hlow _).setCell (p := ⟨_, 1, none⟩) hlow _)⟩)) (fun hHeld => ?_)
      clear hKK KK
      try simp only [Act.put, lyA, lyB, lyC]
      refine ly_q 10 (v := ?_) hHeld ?_
      try simp only [Act.put, lyA, lyB, lyC]
      refine wpAnyH_done (by kernel_rfl) ?_ _
      obtain ⟨hdV, _⟩ := hHeld
      have hk5 := hk2.trans (hdV.mono hk2.size)
      have hb5 := hB.trans (hk5.mono hB.size)
      have p2 := bkeep hk5 u1'.out.1
      have p3 := bkeep hk5 u1'.out.2.1
      have q0 := bkeep hk5 y0
      have q1 := bkeep hk5 y1
      have q2 := gfrozen (bgrow hk5 none) y0 y2 (by simp)
      have q3 := gfrozen (bgrow hk5 none) y1 y3 (by simp)
      clear y0 y1 y2 y3 hk2 hk5 hdV
      have hset : ∀ (W : World), Below w.heap.size w W → ∀ z0 z1, Below w.heap.size w ((W.setCell ⟨w.heap.size + 1 + 1 + 1, 0, none⟩ z0).setCell ⟨w.heap.size + 1 + 1 + 1, 1, none⟩ z1) := fun W h z0 z1 =>
        (h.setCell (p := ⟨w.heap.size + 1 + 1 + 1, 0, none⟩) (by show w.heap.size ≤ w.heap.size + 1 + 1 + 1; omega) _).setCell (p := ⟨w.heap.size + 1 + 1 + 1, 1, none⟩) (by show w.heap.size ≤ w.heap.size + 1 + 1 + 1; omega) _
      have hset' := Lib.hid hset
      clear hset
      first
        | (obtain ⟨rfl, rfl, rfl⟩ := hr'.out (by simp)
           go_wp2
           exact bodyPost_ret (v := .tuple #[ratV (0, 0), .bool false]) (by simp [results, Tryz.results45, go_sem, q0, q1, ratV]) rfl ⟨rfl, hset'.out _ hb5 _ _⟩)
        | (have c5 := c4'.out (by simp)
           clear c4'
           have c5' := Lib.hid c5
           clear c5
           go_wp2_with fail
           refine (c5'.out _).mono ?_
           rintro e w6 ⟨rfl, hB6⟩
           have hb6 := hb5.trans (hB6.mono hb5.size)
           have h0 := bkeep hB6 q0
           have h1 := bkeep hB6 q1
           have h2 := gfrozen (bgrow hB6 none) q0 q2 (by simp)
           have h3 := gfrozen (bgrow hB6 none) q1 q3 (by simp)
           clear q0 q1 q2 q3 p2 p3 hB6
           go_wp2
           exact bodyPost_ret (v := .tuple #[ratV (r0, r1), .bool r2]) (by simp [results, Tryz.results45, go_sem, h0, h1, ratV]) rfl ⟨rfl, hset'.out _ hb6 _ _⟩)
  · rw [if_pos (by kernel_rfl)]
    go_simp
    have hdp := hd
    have hlow := hd.size
    replace hd := hd.alloc hd.size (.cells #[.int .i64 0, .int .i64 0] 42)
    obtain ⟨n0, n1, n2, n3⟩ := new_cells hd
    (try change World.cell? _ ⟨v2.heap.size, 0, none⟩ = _ at n0)
    (try change World.cell? _ ⟨v2.heap.size, 1, none⟩ = _ at n1)
    (try change World.frozen? _ ⟨v2.heap.size, 0, none⟩ = _ at n2)
    (try change World.frozen? _ ⟨v2.heap.size, 1, none⟩ = _ at n3)
    try dsimp only
    refine hKK.out _ _ (by (try dsimp only); (first | exact ⟨hd, at''.out _ hd⟩ | exact ⟨hdp.alloc hdp.size _, at''.out _ (hdp.alloc hdp.size _)⟩ | exact ⟨(hd.setCell (p := ⟨_, 0, none⟩) hlow _).setCell (p := ⟨_, 1, none⟩) hlow _, at''.out _ ((hd.setCell (p := ⟨_, 0, none⟩) hlow _).setCell (p := ⟨_, 1, none⟩) hlow _)⟩)) (fun hHeld => ?_)
    clear hKK KK
    try simp only [Act.put, lyA, lyB, lyC]
    refine ly_a 3 (fun KK hKK => ?_)
    go_simp
    refine (c2'.out _).mono ?_
    rintro e w3 ⟨rfl, hB3⟩
    replace hd := hd.trans (hB3.mono hd.size)
    (try replace n2 := gfrozen (bgrow hB3 none) n0 n2 (by simp))
    (try replace n3 := gfrozen (bgrow hB3 none) n1 n3 (by simp))
    (try replace n0 := bkeep hB3 n0)
    (try replace n1 := bkeep hB3 n1)
    try dsimp only
    refine hKK.out _ _ (by (try dsimp only); (first | exact ⟨hd, at''.out _ hd⟩ | exact ⟨hdp.alloc hdp.size _, at''.out _ (hdp.alloc hdp.size _)⟩ | exact ⟨(hd.setCell (p := ⟨_, 0, none⟩) hlow _).setCell (p := ⟨_, 1, none⟩) hlow _, at''.out _ ((hd.setCell (p := ⟨_, 0, none⟩) hlow _).setCell (p := ⟨_, 1, none⟩) hlow _)⟩)) (fun hHeld => ?_)
    clear hKK KK
    try simp only [Act.put, lyA, lyB, lyC]
    refine ly_a 4 (fun KK hKK => ?_)
    go_simp
    refine (c3'.out _).mono ?_
    rintro e w4 ⟨rfl, hB4⟩
    replace hd := hd.trans (hB4.mono hd.size)
    (try replace n2 := gfrozen (bgrow hB4 none) n0 n2 (by simp))
    (try replace n3 := gfrozen (bgrow hB4 none) n1 n3 (by simp))
    (try replace n0 := bkeep hB4 n0)
    (try replace n1 := bkeep hB4 n1)
    try dsimp only
    refine hKK.out _ _ (by (try dsimp only); (first | exact ⟨hd, at''.out _ hd⟩ | exact ⟨hdp.alloc hdp.size _, at''.out _ (hdp.alloc hdp.size _)⟩ | exact ⟨(hd.setCell (p := ⟨_, 0, none⟩) hlow _).setCell (p := ⟨_, 1, none⟩) hlow _, at''.out _ ((hd.setCell (p := ⟨_, 0, none⟩) hlow _).setCell (p := ⟨_, 1, none⟩) hlow _)⟩)) (fun hHeld => ?_)
    clear hKK KK
    try simp only [Act.put, lyA, lyB, lyC]
    refine ly_q 5 (v := ?_) hHeld ?_
    try simp only [Act.put, lyA, lyB, lyC]
    refine ly_q 6 (v := ?_) hHeld ?_
    try simp only [Act.put, lyA, lyB, lyC]
    refine ly_q 7 (v := ?_) hHeld ?_
    try simp only [Act.put, lyA, lyB, lyC]
    refine ly_a 9 (fun KK hKK => ?_)
    go_simp
    skip
    try dsimp only
    refine hKK.out _ _ (by (try dsimp only); (first | exact ⟨hd, at''.out _ hd⟩ | exact ⟨hdp.alloc hdp.size _, at''.out _ (hdp.alloc hdp.size _)⟩ | exact ⟨(hd.setCell (p := ⟨_, 0, none⟩) hlow _).setCell (p := ⟨_, 1, none⟩) hlow _, at''.out _ ((hd.setCell (p := ⟨_, 0, none⟩) hlow _).setCell (p := ⟨_, 1, none⟩) hlow _)⟩)) (fun hHeld => ?_)
    clear hKK KK
    try simp only [Act.put, lyA, lyB, lyC]
    refine ly_q 10 (v := ?_) hHeld ?_
    try simp only [Act.put, lyA, lyB, lyC]
    refine wpAnyH_done (by kernel_rfl) ?_ _
    obtain ⟨hdV, _⟩ := hHeld
    have hk5 := hk2.trans (hdV.mono hk2.size)
    have hb5 := hB.trans (hk5.mono hB.size)
    have p2 := bkeep hk5 u1'.out.1
    have p3 := bkeep hk5 u1'.out.2.1
    have q0 := bkeep hk5 y0
    have q1 := bkeep hk5 y1
    have q2 := gfrozen (bgrow hk5 none) y0 y2 (by simp)
    have q3 := gfrozen (bgrow hk5 none) y1 y3 (by simp)
    clear y0 y1 y2 y3 hk2 hk5 hdV
    have hset : ∀ (W : World), Below w.heap.size w W → ∀ z0 z1, Below w.heap.size w ((W.setCell ⟨w.heap.size + 1 + 1 + 1, 0, none⟩ z0).setCell ⟨w.heap.size + 1 + 1 + 1, 1, none⟩ z1) := fun W h z0 z1 =>
      (h.setCell (p := ⟨w.heap.size + 1 + 1 + 1, 0, none⟩) (by show w.heap.size ≤ w.heap.size + 1 + 1 + 1; omega) _).setCell (p := ⟨w.heap.size + 1 + 1 + 1, 1, none⟩) (by show w.heap.size ≤ w.heap.size + 1 + 1 + 1; omega) _
    have hset' := Lib.hid hset
    clear hset
    first
      | (obtain ⟨rfl, rfl, rfl⟩ := hr'.out (by simp)
         go_wp2
         exact bodyPost_ret (v := .tuple #[ratV (0, 0), .bool false]) (by simp [results, Tryz.results45, go_sem, q0, q1, ratV]) rfl ⟨rfl, hset'.out _ hb5 _ _⟩)
      | (have c5 := c4'.out (by simp)
         clear c4'
         have c5' := Lib.hid c5
         clear c5
         go_wp2_with fail
         refine (c5'.out _).mono ?_
         rintro e w6 ⟨rfl, hB6⟩
         have hb6 := hb5.trans (hB6.mono hb5.size)
         have h0 := bkeep hB6 q0
         have h1 := bkeep hB6 q1
         have h2 := gfrozen (bgrow hB6 none) q0 q2 (by simp)
         have h3 := gfrozen (bgrow hB6 none) q1 q3 (by simp)
         clear q0 q1 q2 q3 p2 p3 hB6
         go_wp2
         exact bodyPost_ret (v := .tuple #[ratV (r0, r1), .bool r2]) (by simp [results, Tryz.results45, go_sem, h0, h1, ratV]) rfl ⟨rfl, hset'.out _ hb6 _ _⟩)
theorem imBack_any (p q : Quad) (y : Int × Int) (w : World) (h1 : coordR p.1 = true) (h2 : coordR p.2 = true) (h3 : coordR q.1 = true) (h4 : coordR q.2 = true) (hl : ltB p.1.1 p.1.2 q.1.1 q.1.2 = true) (hy : goodR y.1 y.2 = true) (hs0 : (slopeR p q).1 ≠ 0) :
    Calls Tryz.prog 45 #[quadV p, quadV q, .agg #[.int .i64 y.1, .int .i64 y.2]] w (Ret (.tuple #[ratV (backR p q y).1, .bool (backR p q y).2]) w) := by
  have g1 := unitR_good (coordR_unit h1)
  have g2 := unitR_good (coordR_unit h2)
  have gs := (slope_ok h1 h2 h3 h4 hl).2.1
  have c1 := fun w => raSub_any y p.2 w (good_bd hy) (good_bd g2)
  have c2 := fun w => imSlope_any p q w h1 h2 h3 h4 hl
  unfold backR
  cases o1 : (subR y p.2).2
  · rw [o1] at c1
    exact imBack_coreA p.1.1 p.1.2 p.2.1 p.2.2 q.1.1 q.1.2 q.2.1 q.2.2 y.1 y.2 _ _ w c1
  · rw [o1] at c1
    rw [if_pos rfl]
    have gf : goodR (subR y p.2).1.1 (subR y p.2).1.2 = true := mkR_good o1
    have c3 := fun w => raDiv_any (subR y p.2).1 (slopeR p q) w (good_bd gf) (good_bd gs) hs0
    cases o2 : (divR (subR y p.2).1 (slopeR p q)).2
    · rw [o2] at c3
      exact imBack_coreB p.1.1 p.1.2 p.2.1 p.2.2 q.1.1 q.1.2 q.2.1 q.2.2 y.1 y.2 _ _ (slopeR p q).1 (slopeR p q).2 _ _ 0 0 false w c1 c2 c3 (fun h => by cases h) (fun _ => ⟨rfl, rfl, rfl⟩)
    · rw [o2] at c3
      rw [if_pos rfl]
      have gm : goodR (divR (subR y p.2).1 (slopeR p q)).1.1 (divR (subR y p.2).1 (slopeR p q)).1.2 = true := (divR_qv gf gs o2).1
      have c4 := fun w => raAdd_any p.1 (divR (subR y p.2).1 (slopeR p q)).1 w (good_bd g1) (good_bd gm)
      exact imBack_coreC p.1.1 p.1.2 p.2.1 p.2.2 q.1.1 q.1.2 q.2.1 q.2.2 y.1 y.2 _ _ (slopeR p q).1 (slopeR p q).2 _ _ _ _ _ w c1 c2 c3 (fun _ => c4) (fun h => by cases h)

end Go.Proofs.YtjkgilenhoomoaaGreat

namespace Go.Proofs.YtjkgilenhoomoaaGreat
open Go.RowKit

/-- Is the value at p below, at or above y? -/
def cY (p : Quad) (y : Int × Int) : Int := cmpN p.2.1 p.2.2 y.1 y.2
def crossB (p q : Quad) (y : Int × Int) : Bool := decide (cY p y * cY q y < 0)
def crAt (f : List Quad) (y : Int × Int) (i : Nat) : Bool := decide (0 < i) && crossB (nth4 f (i - 1)) (nth4 f i) y
def bpL (f : List Quad) (y : Int × Int) (i : Nat) : List (Int × Int) := if (nth4 f i).2 = y then [(nth4 f i).1] else []
def crL (f : List Quad) (y : Int × Int) (i : Nat) : List (Int × Int) := if crAt f y i = true then [backZ (nth4 f (i - 1)) (nth4 f i) y] else []
/-- As the program lists them, point for point. -/
def befL (f : List Quad) (y : Int × Int) (k : Nat) : List (Int × Int) := (List.range k).flatMap fun i => bpL f y i ++ crL f y i
def befOk (f : List Quad) (y : Int × Int) (k : Nat) : Bool := (List.range k).all fun i => !(crAt f y i) || backOk (nth4 f (i - 1)) (nth4 f i) y
theorem befL_step (f : List Quad) (y : Int × Int) (k : Nat) : befL f y (k + 1) = befL f y k ++ (bpL f y k ++ crL f y k) := by simp [befL, List.range_succ]
theorem befOk_step (f : List Quad) (y : Int × Int) (k : Nat) : befOk f y (k + 1) = (befOk f y k && (!(crAt f y k) || backOk (nth4 f (k - 1)) (nth4 f k) y)) := by simp [befOk, List.range_succ, List.all_append]
theorem befOk_false {f : List Quad} {y : Int × Int} {k n : Nat} (h : k < n) (hc : crAt f y k = true) (hb : backOk (nth4 f (k - 1)) (nth4 f k) y = false) : befOk f y n = false := by
  unfold befOk
  rw [List.all_eq_false]
  exact ⟨k, List.mem_range.2 h, by rw [hb, hc]; simp⟩
theorem bpL_len (f : List Quad) (y : Int × Int) (i : Nat) : (bpL f y i).length ≤ 1 := by unfold bpL; split <;> simp
theorem crL_len (f : List Quad) (y : Int × Int) (i : Nat) : (crL f y i).length ≤ 1 := by unfold crL; split <;> simp
theorem befL_len (f : List Quad) (y : Int × Int) : ∀ k, (befL f y k).length ≤ 2 * k := by
  intro k
  induction k with
  | zero => simp [befL]
  | succ k ih =>
    rw [befL_step, List.length_append, List.length_append]
    have h1 := bpL_len f y k
    have h2 := crL_len f y k
    omega
theorem befL_mem {f : List Quad} {y : Int × Int} {k : Nat} {x : Int × Int} : x ∈ befL f y k ↔ ∃ i, i < k ∧ (x ∈ bpL f y i ∨ x ∈ crL f y i) := by
  unfold befL
  simp only [List.mem_flatMap, List.mem_range, List.mem_append]
theorem befL_good {f : List Quad} (hf : MapP f) {y : Int × Int} {k : Nat} (hk : k ≤ f.length) : ∀ x, x ∈ befL f y k → goodR x.1 x.2 = true := by
  intro x hx
  obtain ⟨i, hi, h | h⟩ := befL_mem.1 hx
  · unfold bpL at h
    split at h
    · rw [List.mem_singleton.1 h]; exact unitR_good (coordR_unit (hf.coord i (by omega)).1)
    · cases h
  · unfold crL at h
    split at h
    · rw [List.mem_singleton.1 h]; exact backZ_good _ _ _
    · cases h
theorem cmpN_bd (n d n' d' : Int) : -1 ≤ cmpN n d n' d' ∧ cmpN n d n' d' ≤ 1 := by
  unfold cmpN sgn
  split
  · omega
  · split <;> omega
theorem cmpN_zero {a b : Int × Int} (ha : goodR a.1 a.2 = true) (hb : goodR b.1 b.2 = true) : cmpN a.1 a.2 b.1 b.2 = 0 ↔ a = b := by
  have h1 := cmpN_lt a.1 a.2 b.1 b.2
  have h2 := cmpN_le a.1 a.2 b.1 b.2
  constructor
  · intro h
    rw [h] at h1 h2
    have h3 := (ltB_qvf ha hb).1 (by simpa using h1.symm)
    have h4 := (ltB_qvf hb ha).1 (by simpa using h2.symm)
    exact qv_inj ha hb (by grind)
  · intro h
    subst h
    unfold cmpN
    rw [Int.sub_self]; rfl
theorem cross_slope {p q : Quad} {y : Int × Int} (h1 : coordR p.1 = true) (h2 : coordR p.2 = true) (h3 : coordR q.1 = true) (h4 : coordR q.2 = true) (hl : ltB p.1.1 p.1.2 q.1.1 q.1.2 = true) (hc : crossB p q y = true) : (slopeR p q).1 ≠ 0 := by
  intro h0
  have hs := (slope_ok h1 h2 h3 h4 hl).2.2.1
  have hlt := (ltB_qv (unitR_good (coordR_unit h1)) (unitR_good (coordR_unit h3))).1 hl
  have hz : qv (slopeR p q) = 0 := by unfold qv; rw [h0, Rat.div_def]; simp
  rw [hz] at hs
  have he : qv q.2 = qv p.2 := by
    have hd : qv q.1 - qv p.1 ≠ 0 := by grind
    have : (qv q.2 - qv p.2) / (qv q.1 - qv p.1) * (qv q.1 - qv p.1) = qv q.2 - qv p.2 := Rat.div_mul_cancel hd
    rw [← hs] at this
    grind
  have e := qv_inj (unitR_good (coordR_unit h4)) (unitR_good (coordR_unit h2)) he
  unfold crossB cY at hc
  rw [e, decide_eq_true_iff] at hc
  have hb := cmpN_bd p.2.1 p.2.2 y.1 y.2
  generalize cmpN p.2.1 p.2.2 y.1 y.2 = c at *
  rcases (by omega : c = -1 ∨ c = 0 ∨ c = 1) with rfl | rfl | rfl <;> omega
/-- In order, each once. -/
def befR (f : List Quad) (y : Int × Int) : List (Int × Int) := mergeL [] (befL f y f.length)
theorem befR_rise {f : List Quad} (hf : MapP f) (y : Int × Int) : RiseL (befR f y) ∧ ∀ x, x ∈ befR f y ↔ x ∈ befL f y f.length := by
  obtain ⟨h1, h2⟩ := merge_rise (befL f y f.length) (xs := []) List.Pairwise.nil (fun y h => by cases h) (befL_good hf (Nat.le_refl _))
  exact ⟨h1, fun x => by rw [show befR f y = mergeL [] (befL f y f.length) from rfl, h2]; simp⟩
theorem befR_sorted {f : List Quad} (hf : MapP f) {y : Int × Int} {ys : List (Int × Int)} (hp : ys.Pairwise fun a b => qv a ≤ qv b) (hm : ∀ x, x ∈ ys ↔ x ∈ befL f y f.length) : cmpL ys = befR f y :=
  sort_merge hp (fun x => by rw [hm]; simp) List.Pairwise.nil (fun y h => by cases h) (befL_good hf (Nat.le_refl _))
theorem befR_put {f : List Quad} (hf : MapP f) {y : Int × Int} {l : List (Int × Int)} (hr : RiseL l) (hm : ∀ x, x ∈ l ↔ x ∈ befL f y f.length) : l = befR f y :=
  rise_ext hr (befR_rise hf y).1 fun x => by rw [hm, (befR_rise hf y).2]
end Go.Proofs.YtjkgilenhoomoaaGreat

namespace Go.Proofs.YtjkgilenhoomoaaGreat
open Go.RowKit

def putIf (c : Bool) (l : List (Int × Int)) (x : Int × Int) : List (Int × Int) := if c = true then putR l x else l
def spS (f : List Quad) (y : Int × Int) (k : Nat) (l : List (Int × Int)) : List (Int × Int) :=
  putIf (crossB (nth4 f k) (nth4 f (k + 1)) y) (putIf (decide (cY (nth4 f (k + 1)) y = 0)) (putIf (decide (cY (nth4 f k) y = 0)) l (nth4 f k).1) (nth4 f (k + 1)).1) (backZ (nth4 f k) (nth4 f (k + 1)) y)
/-- The list after k pieces. -/
def spL (f : List Quad) (y : Int × Int) : Nat → List (Int × Int)
  | 0 => []
  | k + 1 => spS f y k (spL f y k)
structure GoodL (l : List (Int × Int)) : Prop where
  rise : RiseL l
  good : ∀ x, x ∈ l → goodR x.1 x.2 = true
theorem GoodL.putIf {l : List (Int × Int)} (h : GoodL l) {x : Int × Int} (hx : goodR x.1 x.2 = true) (c : Bool) : GoodL (putIf c l x) ∧ (∀ z, z ∈ YtjkgilenhoomoaaGreat.putIf c l x ↔ z ∈ l ∨ (c = true ∧ z = x)) ∧ (YtjkgilenhoomoaaGreat.putIf c l x).length ≤ l.length + 1 := by
  unfold YtjkgilenhoomoaaGreat.putIf
  cases c
  · rw [if_neg (by decide)]
    exact ⟨h, fun z => by simp, by omega⟩
  · rw [if_pos rfl]
    obtain ⟨h1, h2⟩ := putR_rise h.rise h.good hx
    exact ⟨⟨h1, fun z hz => by
      rcases (h2 z).1 hz with e | e
      · exact h.good z e
      · rw [e]; exact hx⟩, fun z => by rw [h2]; simp, (putR_len l x).2⟩
theorem spL_law {f : List Quad} (hf : MapP f) {y : Int × Int} (hy : goodR y.1 y.2 = true) : ∀ k, k + 1 ≤ f.length →
    GoodL (spL f y k) ∧ (spL f y k).length ≤ 3 * k ∧ (1 ≤ k → ∀ x, x ∈ spL f y k ↔ x ∈ befL f y (k + 1)) := by
  intro k
  induction k with
  | zero => exact fun _ => ⟨⟨List.Pairwise.nil, fun x h => by cases h⟩, by simp [spL], fun h => absurd h (by omega)⟩
  | succ k ih =>
    intro hk
    obtain ⟨h1, h2, h3⟩ := ih (by omega)
    have c0 := hf.coord k (by omega)
    have c1 := hf.coord (k + 1) (by omega)
    obtain ⟨i1, i2, i3⟩ := h1.putIf (unitR_good (coordR_unit c0.1)) (decide (cY (nth4 f k) y = 0))
    obtain ⟨j1, j2, j3⟩ := i1.putIf (unitR_good (coordR_unit c1.1)) (decide (cY (nth4 f (k + 1)) y = 0))
    obtain ⟨l1, l2, l3⟩ := j1.putIf (backZ_good (nth4 f k) (nth4 f (k + 1)) y) (crossB (nth4 f k) (nth4 f (k + 1)) y)
    have hE : spL f y (k + 1) = spS f y k (spL f y k) := rfl
    rw [hE]
    unfold spS
    refine ⟨l1, by omega, fun _ x => ?_⟩
    rw [l2, j2, i2]
    have e0 : ∀ i, i < f.length → (cY (nth4 f i) y = 0 ↔ (nth4 f i).2 = y) := fun i hi => cmpN_zero (unitR_good (coordR_unit (hf.coord i hi).2)) hy
    have hp : ∀ i, i < f.length → (x ∈ bpL f y i ↔ cY (nth4 f i) y = 0 ∧ x = (nth4 f i).1) := fun i hi => by
      unfold bpL
      rw [e0 i hi]
      split <;> simp_all
    have hc : x ∈ crL f y (k + 1) ↔ crossB (nth4 f k) (nth4 f (k + 1)) y = true ∧ x = backZ (nth4 f k) (nth4 f (k + 1)) y := by
      unfold crL crAt
      rw [show k + 1 - 1 = k from rfl]
      cases crossB (nth4 f k) (nth4 f (k + 1)) y <;> simp
    rw [befL_step f y (k + 1), List.mem_append, List.mem_append, hp (k + 1) (by omega), hc]
    simp only [decide_eq_true_iff]
    by_cases hk0 : k = 0
    · subst hk0
      have hb : befL f y 1 = bpL f y 0 ++ crL f y 0 := by rw [befL_step f y 0]; rfl
      rw [show (0 + 1 : Nat) = 1 from rfl] at *
      have hcr : crL f y 0 = [] := rfl
      rw [hb, hcr, List.append_nil, hp 0 (by omega)]
      simp only [spL, List.not_mem_nil, false_or]
      exact or_assoc
    · rw [h3 (by omega) x]
      have hin : cY (nth4 f k) y = 0 ∧ x = (nth4 f k).1 → x ∈ befL f y (k + 1) := fun h => befL_mem.2 ⟨k, by omega, .inl ((hp k (by omega)).2 h)⟩
      grind
theorem mul_bd1 {a b : Int} (ha : -1 ≤ a ∧ a ≤ 1) (hb : -1 ≤ b ∧ b ≤ 1) : -1 ≤ a * b ∧ a * b ≤ 1 := by
  rcases (by omega : a = -1 ∨ a = 0 ∨ a = 1) with rfl | rfl | rfl <;> omega
end Go.Proofs.YtjkgilenhoomoaaGreat

namespace Go.Proofs.YtjkgilenhoomoaaGreat
open Go.RowKit

/-- X rise. -/
theorem x_rise {f : List Quad} (hf : MapP f) : ∀ j i, i < j → j < f.length → qv (nth4 f i).1 < qv (nth4 f j).1 := by
  intro j
  induction j with
  | zero => intro i h; omega
  | succ j ih =>
    intro i h hj
    have h1 := (ltB_qv (unitR_good (coordR_unit (hf.coord j (by omega)).1)) (unitR_good (coordR_unit (hf.coord (j + 1) hj).1))).1 (hf.rise j hj)
    by_cases e : i = j
    · rw [e]; exact h1
    · have := ih i (by omega) (by omega)
      grind

/-- The value at x, by any piece that has x. -/
theorem at_piece {f : List Quad} (hf : MapP f) {x : Int × Int} (hx : unitR x.1 x.2 = true) (h : atOk f x = true) {i : Nat} (hi : i + 1 < f.length) (h1 : qv (nth4 f i).1 ≤ qv x) (h2 : qv x ≤ qv (nth4 f (i + 1)).1) :
    qv (atZ f x) * (qv (nth4 f (i + 1)).1 - qv (nth4 f i).1) = qv (nth4 f i).2 * (qv (nth4 f (i + 1)).1 - qv x) + qv (nth4 f (i + 1)).2 * (qv x - qv (nth4 f i).1) := by
  obtain ⟨p1, p2, p3⟩ := piece_in hf hx
  obtain ⟨e, hlt⟩ := at_qv hf hx h
  generalize hp : pieceN f x = p at *
  rcases Nat.lt_trichotomy p i with h3 | h3 | h3
  · -- x lies at the left end of piece i
    have e2 : qv (nth4 f (p + 1)).1 ≤ qv (nth4 f i).1 := by
      by_cases q : p + 1 = i
      · rw [q]; grind
      · exact Rat.le_of_lt (x_rise hf i (p + 1) (by omega) (by omega))
    have ex : qv x = qv (nth4 f i).1 := by grind
    have q : p + 1 = i := by
      apply Nat.le_antisymm (by omega)
      apply Nat.le_of_not_lt
      intro q
      have := x_rise hf i (p + 1) q (by omega)
      grind
    rw [q] at e hlt
    have hv : qv (atZ f x) = qv (nth4 f i).2 := by
      have h4 : (qv (atZ f x) - qv (nth4 f i).2) * (qv (nth4 f i).1 - qv (nth4 f p).1) = 0 := by grind
      rcases Rat.mul_eq_zero.1 h4 with h5 | h5 <;> grind
    rw [hv, ex]; grind
  · rw [h3] at e; exact e
  · -- x lies at the right end of piece i
    have e2 : qv (nth4 f (i + 1)).1 ≤ qv (nth4 f p).1 := by
      by_cases q : i + 1 = p
      · rw [q]; grind
      · exact Rat.le_of_lt (x_rise hf p (i + 1) (by omega) (by omega))
    have ex : qv x = qv (nth4 f (i + 1)).1 := by grind
    have q : i + 1 = p := by
      apply Nat.le_antisymm (by omega)
      apply Nat.le_of_not_lt
      intro q
      have := x_rise hf p (i + 1) q (by omega)
      grind
    rw [← q] at e hlt
    have hv : qv (atZ f x) = qv (nth4 f (i + 1)).2 := by
      have h4 : (qv (atZ f x) - qv (nth4 f (i + 1)).2) * (qv (nth4 f (i + 1 + 1)).1 - qv (nth4 f (i + 1)).1) = 0 := by grind
      rcases Rat.mul_eq_zero.1 h4 with h5 | h5 <;> grind
    rw [hv, ex]; grind
/-- Strictly inside of a piece: that is the piece. -/
theorem piece_mid {f : List Quad} (hf : MapP f) {x : Int × Int} (hx : goodR x.1 x.2 = true) {i : Nat} (hi : i + 1 < f.length) (h1 : qv (nth4 f i).1 < qv x) (h2 : qv x < qv (nth4 f (i + 1)).1) : pieceN f x = i := by
  obtain ⟨p1, p2, p3⟩ := pieceN_spec hf.len.1 x
  generalize pieceN f x = p at *
  have gg := fun j (h : j < f.length) => unitR_good (coordR_unit (hf.coord j h).1)
  rcases Nat.lt_trichotomy p i with h3 | h3 | h3
  · have h4 := (ltB_qvf (gg (p + 1) (by omega)) hx).1 (p3 (by omega))
    by_cases q : p + 1 = i
    · rw [q] at h4; grind
    · have := x_rise hf i (p + 1) (by omega) (by omega)
      grind
  · exact h3
  · have h4 := (ltB_qv (gg (i + 1) hi) hx).1 (p2 (i + 1) (by omega) (by omega))
    grind
theorem mid_unit {f : List Quad} (hf : MapP f) {x : Int × Int} (hx : goodR x.1 x.2 = true) {i : Nat} (hi : i + 1 < f.length) (h1 : qv (nth4 f i).1 ≤ qv x) (h2 : qv x ≤ qv (nth4 f (i + 1)).1) : unitR x.1 x.2 = true := by
  obtain ⟨_, a, _⟩ := unitR_qv.1 (coordR_unit (hf.coord i (by omega)).1)
  obtain ⟨_, _, b⟩ := unitR_qv.1 (coordR_unit (hf.coord (i + 1) hi).1)
  exact unitR_qv.2 ⟨hx, by grind, by grind⟩
theorem subR_is {a b r : Int × Int} (ha : goodR a.1 a.2 = true) (hb : goodR b.1 b.2 = true) (hr : goodR r.1 r.2 = true) (h : qv r = qv a - qv b) : subR a b = (r, true) := by
  refine mkR_is (den_ne ha hb) hr ?_
  rw [h]
  have := ratC_ne (d := a.2) (by have := good_den ha; omega)
  have := ratC_ne (d := b.2) (by have := good_den hb; omega)
  unfold qv
  push_cast
  grind
theorem addR_is {a b r : Int × Int} (ha : goodR a.1 a.2 = true) (hb : goodR b.1 b.2 = true) (hr : goodR r.1 r.2 = true) (h : qv r = qv a + qv b) : addR a b = (r, true) := by
  refine mkR_is (den_ne ha hb) hr ?_
  rw [h]
  have := ratC_ne (d := a.2) (by have := good_den ha; omega)
  have := ratC_ne (d := b.2) (by have := good_den hb; omega)
  unfold qv
  push_cast
  grind
theorem mulR_is {a b r : Int × Int} (ha : goodR a.1 a.2 = true) (hb : goodR b.1 b.2 = true) (hr : goodR r.1 r.2 = true) (h : qv r = qv a * qv b) : mulR a b = (r, true) := by
  refine mkR_is (den_ne ha hb) hr ?_
  rw [h]
  have := ratC_ne (d := a.2) (by have := good_den ha; omega)
  have := ratC_ne (d := b.2) (by have := good_den hb; omega)
  unfold qv
  push_cast
  grind
/-- Differences that are told make a value that is told. -/
theorem at_of {f : List Quad} {p : Nat} {x r1 r2 z : Int × Int} (hp : pieceN f x = p) (hx : goodR x.1 x.2 = true) (gX : goodR (nth4 f p).1.1 (nth4 f p).1.2 = true) (gP : goodR (nth4 f p).2.1 (nth4 f p).2.2 = true)
    (gs : goodR (slopeR (nth4 f p) (nth4 f (p + 1))).1 (slopeR (nth4 f p) (nth4 f (p + 1))).2 = true) (g1 : goodR r1.1 r1.2 = true) (g2 : goodR r2.1 r2.2 = true) (gz : goodR z.1 z.2 = true)
    (h1 : qv r1 = qv x - qv (nth4 f p).1) (h2 : qv r2 = qv (slopeR (nth4 f p) (nth4 f (p + 1))) * qv r1) (h3 : qv z = qv (nth4 f p).2 + qv r2) : atOk f x = true ∧ atZ f x = z := by
  have e1 := subR_is hx gX g1 h1
  have e2 := mulR_is gs g1 g2 h2
  have e3 := addR_is gP g2 gz h3
  unfold atOk atZ
  rw [hp]
  unfold lineOk lineZ
  rw [e1]
  have z1 : orZ (r1, true) = r1 := rfl
  rw [z1, e2]
  have z2 : orZ (r2, true) = r2 := rfl
  rw [z2, e3]
  exact ⟨rfl, rfl⟩
theorem piece_pt {f : List Quad} (hf : MapP f) {i : Nat} (hi : i < f.length) : pieceN f (nth4 f i).1 = i - 1 := by
  obtain ⟨p1, p2, p3⟩ := pieceN_spec hf.len.1 (nth4 f i).1
  generalize pieceN f (nth4 f i).1 = p at *
  have gg := fun j (h : j < f.length) => unitR_good (coordR_unit (hf.coord j h).1)
  have h1 : ¬ i ≤ p ∨ i = 0 := by
    by_cases h0 : i = 0
    · exact .inr h0
    · refine .inl fun q => ?_
      have := (ltB_qv (gg i hi) (gg i hi)).1 (p2 i (by omega) q)
      grind
  have h2 : ¬ p + 1 < i := fun q => by
    have h4 := (ltB_qvf (gg (p + 1) (by omega)) (gg i hi)).1 (p3 (by omega))
    have := x_rise hf i (p + 1) q hi
    grind
  have h3 : i = 0 → p = 0 := fun q => by
    subst q
    rcases Nat.eq_zero_or_pos p with h | h
    · exact h
    · have h4 := (ltB_qv (gg 1 (by omega)) (gg 0 hi)).1 (p2 1 (by omega) h)
      have := x_rise hf 1 0 (by omega) (by omega)
      grind
  omega
/-- The value at a point of the map. -/
theorem at_point {f : List Quad} (hf : MapP f) {i : Nat} (hi : i < f.length) : atOk f (nth4 f i).1 = true ∧ atZ f (nth4 f i).1 = (nth4 f i).2 := by
  have hp := piece_pt hf hi
  have hl := hf.len.1
  have gX := fun j (h : j < f.length) => unitR_good (coordR_unit (hf.coord j h).1)
  have gP := fun j (h : j < f.length) => unitR_good (coordR_unit (hf.coord j h).2)
  have sl := fun j (h : j + 1 < f.length) => slope_ok (hf.coord j (by omega)).1 (hf.coord j (by omega)).2 (hf.coord (j + 1) h).1 (hf.coord (j + 1) h).2 (hf.rise j h)
  by_cases h0 : i = 0
  · subst h0
    obtain ⟨_, s1, _⟩ := sl 0 (by omega)
    exact at_of (r1 := (0, 1)) (r2 := (0, 1)) hp (gX 0 hi) (gX 0 hi) (gP 0 hi) s1 good_zero good_zero (gP 0 hi) (by rw [qv_zero]; grind) (by rw [qv_zero, Rat.mul_zero]) (by rw [qv_zero]; grind)
  · obtain ⟨j, rfl⟩ : ∃ j, i = j + 1 := ⟨i - 1, by omega⟩
    rw [show j + 1 - 1 = j from rfl] at hp
    obtain ⟨_, s1, s2, s3, s4, s5⟩ := sl j hi
    have hlt := (ltB_qv (gX j (by omega)) (gX (j + 1) hi)).1 (hf.rise j hi)
    have o1 := (subR_coord (hf.coord (j + 1) hi).1 (hf.coord j (by omega)).1).1
    have o2 := (subR_coord (hf.coord (j + 1) hi).2 (hf.coord j (by omega)).2).1
    obtain ⟨_, v1⟩ := subR_qv (gX (j + 1) hi) (gX j (by omega)) o1
    obtain ⟨_, v2⟩ := subR_qv (gP (j + 1) hi) (gP j (by omega)) o2
    refine at_of (r1 := (subR (nth4 f (j + 1)).1 (nth4 f j).1).1) (r2 := (subR (nth4 f (j + 1)).2 (nth4 f j).2).1) hp (gX (j + 1) hi) (gX j (by omega)) (gP j (by omega)) s1 s3 s4 (gP (j + 1) hi) v1 ?_ (by rw [v2]; grind)
    rw [v1, v2, s2, Rat.div_mul_cancel (by grind)]
end Go.Proofs.YtjkgilenhoomoaaGreat

/- Sorted lists of fractions, each once: by sorting and striking equals, or by putting one after the other. Plain laws, no program in sight. -/
import Derived.Test.YtnggopbehohjnaaGreatRise
namespace Go.Proofs.YtnggopbehohjnaaGreat
open Go.RowKit

/-- Put one after the other. -/
def mergeL (xs ys : List (Int × Int)) : List (Int × Int) := ys.foldl putR xs
theorem merge_rise : ∀ (ys : List (Int × Int)) {xs : List (Int × Int)}, RiseL xs → (∀ y ∈ xs, goodR y.1 y.2 = true) → (∀ y ∈ ys, goodR y.1 y.2 = true) →
    RiseL (mergeL xs ys) ∧ ∀ y, y ∈ mergeL xs ys ↔ y ∈ xs ∨ y ∈ ys := by
  intro ys
  induction ys with
  | nil => intro xs h _ _; exact ⟨h, fun y => by simp [mergeL]⟩
  | cons a t ih =>
    intro xs h hg hy
    have ha := hy a (List.mem_cons_self ..)
    obtain ⟨h1, h2⟩ := putR_rise h hg ha
    have h3 : ∀ y ∈ putR xs a, goodR y.1 y.2 = true := fun y q => by
      rcases (h2 y).1 q with e | e
      · exact hg y e
      · rw [e]; exact ha
    obtain ⟨h4, h5⟩ := ih h1 h3 (fun y q => hy y (List.mem_cons_of_mem _ q))
    refine ⟨h4, fun y => ?_⟩
    have e : mergeL xs (a :: t) = mergeL (putR xs a) t := rfl
    rw [e, h5 y, h2 y, List.mem_cons, or_assoc]
/-- Equal neighbours struck. -/
def cmpL : List (Int × Int) → List (Int × Int)
  | [] => []
  | a :: t => match t with
    | [] => [a]
    | b :: _ => if a = b then cmpL t else a :: cmpL t
theorem cmpL_one (a : Int × Int) : cmpL [a] = [a] := by unfold cmpL; rfl
theorem cmpL_same (a : Int × Int) (t : List (Int × Int)) : cmpL (a :: a :: t) = cmpL (a :: t) := by
  conv => lhs; unfold cmpL
  simp
theorem cmpL_new {a b : Int × Int} (h : a ≠ b) (t : List (Int × Int)) : cmpL (a :: b :: t) = a :: cmpL (b :: t) := by
  conv => lhs; unfold cmpL
  simp [h]
theorem cmpL_mem : ∀ (l : List (Int × Int)) (y : Int × Int), y ∈ cmpL l ↔ y ∈ l := by
  intro l
  induction l with
  | nil => intro y; unfold cmpL; exact Iff.rfl
  | cons a t ih =>
    intro y
    cases t with
    | nil => rw [cmpL_one]
    | cons b s =>
      by_cases h : a = b
      · subst h
        rw [cmpL_same, ih y]
        simp
      · rw [cmpL_new h, List.mem_cons, ih y, List.mem_cons (a := y) (b := a)]
theorem cmpL_rise : ∀ {l : List (Int × Int)}, (l.Pairwise fun a b => qv a ≤ qv b) → (∀ y ∈ l, goodR y.1 y.2 = true) → RiseL (cmpL l) := by
  intro l
  induction l with
  | nil => intro _ _; unfold cmpL; exact List.Pairwise.nil
  | cons a t ih =>
    intro h hg
    obtain ⟨h1, h2⟩ := List.pairwise_cons.1 h
    have hi := ih h2 (fun y q => hg y (List.mem_cons_of_mem _ q))
    cases t with
    | nil => rw [cmpL_one]; exact List.pairwise_singleton _ _
    | cons b s =>
      by_cases e : a = b
      · subst e
        rw [cmpL_same]; exact hi
      · rw [cmpL_new e]
        refine List.pairwise_cons.2 ⟨fun y hy => ?_, hi⟩
        have hy2 := (cmpL_mem _ y).1 hy
        have hab : qv a < qv b := by
          rcases Rat.le_iff_lt_or_eq.1 (h1 b (List.mem_cons_self ..)) with q | q
          · exact q
          · exact absurd (qv_inj (hg a (List.mem_cons_self ..)) (hg b (List.mem_cons_of_mem _ (List.mem_cons_self ..))) q) e
        rcases List.mem_cons.1 hy2 with q | q
        · rw [q]; exact hab
        · have := (List.pairwise_cons.1 h2).1 y q
          grind
/-- Both ways give one list. -/
theorem sort_merge {l xs ys : List (Int × Int)} (hs : l.Pairwise fun a b => qv a ≤ qv b) (hm : ∀ y, y ∈ l ↔ y ∈ xs ∨ y ∈ ys) (hx : RiseL xs) (gx : ∀ y ∈ xs, goodR y.1 y.2 = true) (gy : ∀ y ∈ ys, goodR y.1 y.2 = true) : cmpL l = mergeL xs ys := by
  obtain ⟨h1, h2⟩ := merge_rise ys hx gx gy
  refine rise_ext (cmpL_rise hs fun y q => ?_) h1 fun y => by rw [cmpL_mem, hm, h2]
  rcases (hm y).1 q with e | e
  · exact gx y e
  · exact gy y e

end Go.Proofs.YtnggopbehohjnaaGreat

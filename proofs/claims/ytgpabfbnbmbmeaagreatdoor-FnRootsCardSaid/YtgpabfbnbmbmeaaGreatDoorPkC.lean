/- Several texts in one: Rise AppR MergeLaw CalcAt PutR PutOwn QuadIdx. No conditions but those that each theorem states. -/
import Derived.Test.YtgpabfbnbmbmeaaGreatDoorPkA
import Derived.Test.YtgpabfbnbmbmeaaGreatDoorWidths
import Derived.Deep.AppendLies
import Derived.Test.YtgpabfbnbmbmeaaGreatDoorQuad

namespace Go.Proofs.YtgpabfbnbmbmeaaGreatDoor
open Go.RowKit

/-- It rises strictly. -/
def RiseL (l : List (Int × Int)) : Prop := l.Pairwise fun a b => qv a < qv b
theorem rise_ext : ∀ {l l' : List (Int × Int)}, RiseL l → RiseL l' → (∀ x, x ∈ l ↔ x ∈ l') → l = l' := by
  intro l
  induction l with
  | nil =>
    intro l' _ _ h
    cases l' with
    | nil => rfl
    | cons b t => exact absurd ((h b).2 (List.mem_cons_self ..)) (by simp)
  | cons a t ih =>
    intro l' h1 h2 h
    cases l' with
    | nil => exact absurd ((h a).1 (List.mem_cons_self ..)) (by simp)
    | cons b s =>
      obtain ⟨ha, ht⟩ := List.pairwise_cons.1 h1
      obtain ⟨hb, hs⟩ := List.pairwise_cons.1 h2
      have e : a = b := by
        rcases List.mem_cons.1 ((h a).1 (List.mem_cons_self ..)) with e | e
        · exact e
        · rcases List.mem_cons.1 ((h b).2 (List.mem_cons_self ..)) with e2 | e2
          · exact e2.symm
          · have := hb a e
            have := ha b e2
            grind
      subst e
      congr 1
      refine ih ht hs fun x => ⟨fun hx => ?_, fun hx => ?_⟩
      · rcases List.mem_cons.1 ((h x).1 (List.mem_cons_of_mem _ hx)) with e | e
        · subst e; have := ha x hx; grind
        · exact e
      · rcases List.mem_cons.1 ((h x).2 (List.mem_cons_of_mem _ hx)) with e | e
        · subst e; have := hb x hx; grind
        · exact e

/-- The first place at which the list is not below x. -/
def putN (l : List (Int × Int)) (x : Int × Int) : Nat := (l.takeWhile fun y => ltB y.1 y.2 x.1 x.2).length
def putR (l : List (Int × Int)) (x : Int × Int) : List (Int × Int) := if nthR l (putN l x) = x ∧ putN l x < l.length then l else l.take (putN l x) ++ x :: l.drop (putN l x)
theorem putN_le (l : List (Int × Int)) (x : Int × Int) : putN l x ≤ l.length := by
  unfold putN
  induction l with
  | nil => simp
  | cons a t ih =>
    rw [List.takeWhile_cons]
    split
    · simp only [List.length_cons]; omega
    · simp
theorem putN_below {l : List (Int × Int)} {x : Int × Int} : ∀ y, y ∈ l.take (putN l x) → ltB y.1 y.2 x.1 x.2 = true := by
  unfold putN
  induction l with
  | nil => intro y hy; simp at hy
  | cons a t ih =>
    intro y hy
    rw [List.takeWhile_cons] at hy
    split at hy
    · rename_i h
      rw [List.length_cons, List.take_succ_cons] at hy
      rcases List.mem_cons.1 hy with e | e
      · rw [e]; exact h
      · exact ih y e
    · simp at hy
theorem putN_at {l : List (Int × Int)} {x : Int × Int} (h : putN l x < l.length) : ltB (nthR l (putN l x)).1 (nthR l (putN l x)).2 x.1 x.2 = false := by
  unfold putN at *
  induction l with
  | nil => simp at h
  | cons a t ih =>
    rw [List.takeWhile_cons] at h ⊢
    split
    · rename_i q
      rw [if_pos q, List.length_cons, List.length_cons] at h
      have := ih (by omega)
      rw [List.length_cons]
      simpa [nthR] using this
    · rename_i q
      simpa [nthR] using q
/-- Put in its place, once: it still rises, and holds x. -/
theorem putR_rise {l : List (Int × Int)} {x : Int × Int} (hl : RiseL l) (hg : ∀ y ∈ l, goodR y.1 y.2 = true) (hx : goodR x.1 x.2 = true) : RiseL (putR l x) ∧ ∀ y, y ∈ putR l x ↔ y ∈ l ∨ y = x := by
  unfold putR
  by_cases h : nthR l (putN l x) = x ∧ putN l x < l.length
  · rw [if_pos h]
    refine ⟨hl, fun y => ⟨.inl, fun q => ?_⟩⟩
    rcases q with q | q
    · exact q
    · subst q
      have e : nthR l (putN l y) ∈ l := by rw [nthR_eq h.2]; exact List.getElem_mem _
      rw [h.1] at e
      exact e
  · rw [if_neg h]
    have hsplit : l = l.take (putN l x) ++ l.drop (putN l x) := (List.take_append_drop _ _).symm
    have hbel : ∀ y ∈ l.take (putN l x), qv y < qv x := fun y hy => (ltB_qv (hg y (List.mem_of_mem_take hy)) hx).1 (putN_below y hy)
    have habv : ∀ y ∈ l.drop (putN l x), qv x < qv y := by
      intro y hy
      have hlt : putN l x < l.length := by
        apply Nat.lt_of_not_le
        intro q
        rw [List.drop_eq_nil_of_le q] at hy
        simp at hy
      have h1 := putN_at hlt
      have hm : nthR l (putN l x) ∈ l := by rw [nthR_eq hlt]; exact List.getElem_mem _
      have h2 := (ltB_qvf (hg _ hm) hx).1 h1
      have h3 : qv x < qv (nthR l (putN l x)) := by
        rcases Rat.le_iff_lt_or_eq.1 h2 with q | q
        · exact q
        · exact absurd ⟨(qv_inj hx (hg _ hm) q).symm, hlt⟩ h
      rw [List.drop_eq_getElem_cons hlt, ← nthR_eq hlt] at hy
      rcases List.mem_cons.1 hy with e | e
      · rw [e]; exact h3
      · have h4 : RiseL (l.drop (putN l x)) := List.Pairwise.sublist (List.drop_sublist _ _) hl
        unfold RiseL at h4
        rw [List.drop_eq_getElem_cons hlt, ← nthR_eq hlt] at h4
        have := (List.pairwise_cons.1 h4).1 y e
        grind
    refine ⟨?_, fun y => ?_⟩
    · unfold RiseL
      rw [List.pairwise_append]
      refine ⟨List.Pairwise.sublist (List.take_sublist _ _) hl, List.pairwise_cons.2 ⟨habv, List.Pairwise.sublist (List.drop_sublist _ _) hl⟩, fun a ha b hb => ?_⟩
      rcases List.mem_cons.1 hb with e | e
      · rw [e]; exact hbel a ha
      · have := hbel a ha
        have := habv b e
        grind
    · rw [List.mem_append, List.mem_cons]
      constructor
      · rintro (q | q | q)
        · exact .inl (List.mem_of_mem_take q)
        · exact .inr q
        · exact .inl (List.mem_of_mem_drop q)
      · rintro (q | q)
        · rw [hsplit] at q
          rcases List.mem_append.1 q with q | q
          · exact .inl q
          · exact .inr (.inr q)
        · exact .inr (.inl q)

end Go.Proofs.YtgpabfbnbmbmeaaGreatDoor

namespace Go.Proofs.YtgpabfbnbmbmeaaGreatDoor
open Go.RowKit


end Go.Proofs.YtgpabfbnbmbmeaaGreatDoor

namespace Go.Proofs.YtgpabfbnbmbmeaaGreatDoor
open Go.RowKit

/-- Put one after the other. -/
def mergeL (xs ys : List (Int × Int)) : List (Int × Int) := ys.foldl putR xs
theorem merge_rise : ∀ (ys : List (Int × Int)) {xs : List (Int × Int)}, RiseL xs → (∀ y ∈ xs, goodR y.1 y.2 = true) → (∀ y ∈ ys, goodR y.1 y.2 = true) →
    RiseL (mergeL xs ys) ∧ ∀ y, y ∈ mergeL xs ys ↔ y ∈ xs ∨ y ∈ ys := by
  intro ys
  induction ys with
  | nil => intro xs h _ _; exact ⟨h, fun y => by simp [mergeL]⟩
  | cons a t ih =>
    intro xs h hg hy
    have ha := hy a (List.mem_cons_self ..)
    obtain ⟨h1, h2⟩ := putR_rise h hg ha
    have h3 : ∀ y ∈ putR xs a, goodR y.1 y.2 = true := fun y q => by
      rcases (h2 y).1 q with e | e
      · exact hg y e
      · rw [e]; exact ha
    obtain ⟨h4, h5⟩ := ih h1 h3 (fun y q => hy y (List.mem_cons_of_mem _ q))
    refine ⟨h4, fun y => ?_⟩
    have e : mergeL xs (a :: t) = mergeL (putR xs a) t := rfl
    rw [e, h5 y, h2 y, List.mem_cons, or_assoc]
/-- Equal neighbours struck. -/
def cmpL : List (Int × Int) → List (Int × Int)
  | [] => []
  | a :: t => match t with
    | [] => [a]
    | b :: _ => if a = b then cmpL t else a :: cmpL t
theorem cmpL_one (a : Int × Int) : cmpL [a] = [a] := by unfold cmpL; rfl
theorem cmpL_same (a : Int × Int) (t : List (Int × Int)) : cmpL (a :: a :: t) = cmpL (a :: t) := by
  conv => lhs; unfold cmpL
  simp
theorem cmpL_new {a b : Int × Int} (h : a ≠ b) (t : List (Int × Int)) : cmpL (a :: b :: t) = a :: cmpL (b :: t) := by
  conv => lhs; unfold cmpL
  simp [h]
theorem cmpL_mem : ∀ (l : List (Int × Int)) (y : Int × Int), y ∈ cmpL l ↔ y ∈ l := by
  intro l
  induction l with
  | nil => intro y; unfold cmpL; exact Iff.rfl
  | cons a t ih =>
    intro y
    cases t with
    | nil => rw [cmpL_one]
    | cons b s =>
      by_cases h : a = b
      · subst h
        rw [cmpL_same, ih y]
        simp
      · rw [cmpL_new h, List.mem_cons, ih y, List.mem_cons (a := y) (b := a)]
theorem cmpL_rise : ∀ {l : List (Int × Int)}, (l.Pairwise fun a b => qv a ≤ qv b) → (∀ y ∈ l, goodR y.1 y.2 = true) → RiseL (cmpL l) := by
  intro l
  induction l with
  | nil => intro _ _; unfold cmpL; exact List.Pairwise.nil
  | cons a t ih =>
    intro h hg
    obtain ⟨h1, h2⟩ := List.pairwise_cons.1 h
    have hi := ih h2 (fun y q => hg y (List.mem_cons_of_mem _ q))
    cases t with
    | nil => rw [cmpL_one]; exact List.pairwise_singleton _ _
    | cons b s =>
      by_cases e : a = b
      · subst e
        rw [cmpL_same]; exact hi
      · rw [cmpL_new e]
        refine List.pairwise_cons.2 ⟨fun y hy => ?_, hi⟩
        have hy2 := (cmpL_mem _ y).1 hy
        have hab : qv a < qv b := by
          rcases Rat.le_iff_lt_or_eq.1 (h1 b (List.mem_cons_self ..)) with q | q
          · exact q
          · exact absurd (qv_inj (hg a (List.mem_cons_self ..)) (hg b (List.mem_cons_of_mem _ (List.mem_cons_self ..))) q) e
        rcases List.mem_cons.1 hy2 with q | q
        · rw [q]; exact hab
        · have := (List.pairwise_cons.1 h2).1 y q
          grind
/-- Both ways give one list. -/
theorem sort_merge {l xs ys : List (Int × Int)} (hs : l.Pairwise fun a b => qv a ≤ qv b) (hm : ∀ y, y ∈ l ↔ y ∈ xs ∨ y ∈ ys) (hx : RiseL xs) (gx : ∀ y ∈ xs, goodR y.1 y.2 = true) (gy : ∀ y ∈ ys, goodR y.1 y.2 = true) : cmpL l = mergeL xs ys := by
  obtain ⟨h1, h2⟩ := merge_rise ys hx gx gy
  refine rise_ext (cmpL_rise hs fun y q => ?_) h1 fun y => by rw [cmpL_mem, hm, h2]
  rcases (hm y).1 q with e | e
  · exact gx y e
  · exact gy y e

end Go.Proofs.YtgpabfbnbmbmeaaGreatDoor

namespace Go.Proofs.YtgpabfbnbmbmeaaGreatDoor
open Go.RowKit

theorem bkeep {w w' : World} (h : Below w.heap.size w w') {a : Addr} {v : Value} (hc : w.cell? a = some v) : w'.cell? a = some v :=
  (h.cell (World.block_lt_of_cell? _ _ hc)).trans hc
theorem bgrow {w w' : World} (h : Below w.heap.size w w') (r : Option Nat) : w.grownBy w' r := ⟨h.os, h.tape, h.output, h.size, fun k hk _ => h.block k hk⟩
theorem grownBy_setCell_some (w : World) (g o : Nat) (u : Value) : w.grownBy (w.setCell ⟨g, o, none⟩ u) (some g) :=
  ⟨rfl, rfl, rfl, by simp [World.setCell], fun k _ hk => Below.heap_setCell _ _ _ _ (fun e => hk (by rw [e]))⟩

/-- The calculator's cell: has a result been too large? -/
def CalcAt (w : World) (g : Nat) (bd : Bool) : Prop := w.cell? ⟨g, 0, none⟩ = some (.bool bd) ∧ w.frozen? ⟨g, 0, none⟩ = false
theorem CalcAt.lt {w : World} {g : Nat} {bd : Bool} (h : CalcAt w g bd) : g < w.heap.size := by
  have := World.block_lt_of_cell? w _ h.1
  exact this
theorem CalcAt.grown {w w' : World} {g : Nat} {bd : Bool} {r : Option Nat} (h : CalcAt w g bd) (hg : w.grownBy w' r) (hr : r ≠ some g) : CalcAt w' g bd :=
  ⟨(hg.cell_far ⟨g, 0, none⟩ h.lt (fun e => hr e.symm)).trans h.1, (hg.frozen_far ⟨g, 0, none⟩ h.lt (fun e => hr e.symm)).trans h.2⟩
theorem CalcAt.below {w w' : World} {g : Nat} {bd : Bool} (h : CalcAt w g bd) (hB : Below w.heap.size w w') : CalcAt w' g bd := h.grown (bgrow hB none) (by simp)
theorem CalcAt.drew {w : World} {g : Nat} {bd : Bool} (h : CalcAt w g bd) : CalcAt w.drew g bd := h
theorem CalcAt.cell {w : World} {g : Nat} {bd : Bool} (h : CalcAt w g bd) : w.cell? ⟨g, 0, none⟩ = some (.bool bd) := h.1

/-- It returns v; the calculator's cell alone may have turned. -/
def RetC (g : Nat) (bd : Bool) (v : Value) (w : World) (e : Ending) (w' : World) : Prop := e = .returned v ∧ w.grownBy w' (some g) ∧ CalcAt w' g bd
theorem RetC.ok {g : Nat} {bd : Bool} {v : Value} {w : World} (h : CalcAt w g bd) {e : Ending} {w' : World} (hr : Ret v w e w') : RetC g bd v w e w' := ⟨hr.1, bgrow hr.2 _, h.below hr.2⟩
theorem RetC.bad {g : Nat} {bd : Bool} {v : Value} {w : World} (h : CalcAt w g bd) {e : Ending} {w' : World} (hr : e = .returned v ∧ Below w.heap.size (w.setCell ⟨g, 0, none⟩ (.bool true)) w') : RetC g true v w e w' := by
  have hs : w.heap.size = (w.setCell ⟨g, 0, none⟩ (.bool true)).heap.size := by simp [World.setCell]
  have hB := hr.2
  rw [hs] at hB
  refine ⟨hr.1, (grownBy_setCell_some w g 0 (.bool true)).trans (bgrow hB _), ?_⟩
  refine CalcAt.below ⟨?_, ?_⟩ hB
  · simp [go_sem, h.1]
  · simp [go_sem, h.2]

/-- A fraction or, where it is too large, 0. -/
def orZ (r : (Int × Int) × Bool) : Int × Int := if r.2 = true then r.1 else (0, 1)


theorem GrowR.kept {w w' : World} {B g : Nat} {v : Value} {xs : List (Int × Int)} (h : GrowR w B v xs) (hg : w.grownBy w' (some g)) (hgB : g < B) : GrowR w' B v xs :=
  World.ownsRow.kept h hg (.inr (fun e => by have := (World.ownsRow.lt h g e).1; omega))

end Go.Proofs.YtgpabfbnbmbmeaaGreatDoor

namespace Go.Proofs.YtgpabfbnbmbmeaaGreatDoor
open Go.RowKit
set_option maxRecDepth 100000

theorem putN_lt {l : List (Int × Int)} {x : Int × Int} {k : Nat} (h : k < putN l x) : ltB (nthR l k).1 (nthR l k).2 x.1 x.2 = true := by
  have h1 := putN_le l x
  have hk : k < l.length := by omega
  refine putN_below (l := l) (x := x) _ ?_
  rw [nthR_eq hk]
  exact List.mem_take_iff_getElem.2 ⟨k, by omega, rfl⟩
theorem nthR_take {l : List (Int × Int)} {k i : Nat} (h : i < k) : nthR (l.take k) i = nthR l i := by
  unfold nthR; rw [List.getElem?_take_of_lt h]
theorem nthR_drop (l : List (Int × Int)) (k i : Nat) : nthR (l.drop k) i = nthR l (k + i) := by
  unfold nthR; rw [List.getElem?_drop]
/-- The head of a slice, its tail. -/
theorem RatsV.take {w : World} {b off n cap : Nat} {xs : List (Int × Int)} (h : RatsV w (.slice (some ⟨b, off, none⟩) n cap) xs) {k : Nat} (hk : k ≤ xs.length) : RatsV w (.slice (some ⟨b, off, none⟩) k cap) (xs.take k) := by
  obtain ⟨ao, c, e, h1, h2, H⟩ := h.form
  cases e
  have hl : (xs.take k).length = k := by simp; omega
  have := RatsV.mk (w := w) (ao := some ⟨b, off, none⟩) (cap := cap) (xs := xs.take k) ⟨by omega, fun e => by cases e⟩ h2 (fun i hi => by
    rw [nthR_take (by omega)]
    exact H i (by omega))
  rw [hl] at this
  exact this
theorem RatsV.drop {w : World} {b off n cap : Nat} {xs : List (Int × Int)} (h : RatsV w (.slice (some ⟨b, off, none⟩) n cap) xs) {k m c' o' : Nat} (hk : k ≤ xs.length) (hm : m = xs.length - k) (hc : m ≤ c' ∧ c' ≤ maxLen) (ho : k < xs.length → o' = off + k * 2) : RatsV w (.slice (some ⟨b, o', none⟩) m c') (xs.drop k) := by
  obtain ⟨ao, c, e, h1, h2, H⟩ := h.form
  cases e
  have hl : (xs.drop k).length = m := by simp; omega
  have := RatsV.mk (w := w) (ao := some ⟨b, o', none⟩) (cap := c') (xs := xs.drop k) ⟨by omega, fun e => by cases e⟩ hc.2 (fun i hi => by
    obtain ⟨b1, o1, e1, c0, c1⟩ := H (k + i) (by omega)
    cases e1
    rw [nthR_drop]
    refine ⟨b, o', rfl, ?_, ?_⟩
    · rw [ho (by omega), ← c0]; congr 2; omega
    · rw [ho (by omega), ← c1]; congr 2; omega)
  rw [hl] at this
  exact this



end Go.Proofs.YtgpabfbnbmbmeaaGreatDoor

namespace Go.Proofs.YtgpabfbnbmbmeaaGreatDoor
open Go.RowKit

/-- A literal of one fraction is a slice of one's own. -/
theorem GrowR.put1 {w : World} {B : Nat} {p q : Int} (hB : B ≤ w.heap.size) : GrowR (w.alloc (.cells #[.int .i64 p, .int .i64 q] 29)) B (.slice (some ⟨w.heap.size, 0, none⟩) 1 1) [(p, q)] :=
  ⟨rfl, .inr ⟨w.heap.size, 1, #[.int .i64 p, .int .i64 q], rfl, hB, heap_alloc_new _ _, Nat.le_refl _, by simp [maxLen], rfl, rfl⟩⟩
/-- A literal of two fractions. -/
theorem GrowR.put2 {w : World} {B : Nat} {p q p' q' : Int} (hB : B ≤ w.heap.size) : GrowR (w.alloc (.cells #[.int .i64 p, .int .i64 q, .int .i64 p', .int .i64 q'] 29)) B (.slice (some ⟨w.heap.size, 0, none⟩) 2 2) [(p, q), (p', q')] :=
  ⟨rfl, .inr ⟨w.heap.size, 2, #[.int .i64 p, .int .i64 q, .int .i64 p', .int .i64 q'], rfl, hB, heap_alloc_new _ _, Nat.le_refl _, by simp [maxLen], rfl, rfl⟩⟩
end Go.Proofs.YtgpabfbnbmbmeaaGreatDoor

namespace Go.Proofs.YtgpabfbnbmbmeaaGreatDoor
open Go.RowKit

/-- A pair of fractions as a value. -/
abbrev quadV (p : Quad) : Value := .agg #[.int .i64 p.1.1, .int .i64 p.1.2, .int .i64 p.2.1, .int .i64 p.2.2]
/-- The first place at which p holds, or -1. -/
def idx4 (p : Quad → Bool) (xs : List Quad) : Int := match xs.findIdx? p with | some k => (k : Int) | none => -1
theorem idx4_hit {p : Quad → Bool} {xs : List Quad} {k : Nat} (hk : k < xs.length) (hno : ∀ j, j < k → p (nth4 xs j) = false) (hy : p (nth4 xs k) = true) : idx4 p xs = k := by
  have : xs.findIdx? p = some k := by
    rw [List.findIdx?_eq_some_iff_getElem]
    refine ⟨hk, by rw [← nth4_eq hk]; exact hy, fun j hj => ?_⟩
    rw [← nth4_eq (by omega)]; simp [hno j hj]
  simp [idx4, this]
theorem idx4_none {p : Quad → Bool} {xs : List Quad} (hno : ∀ j, j < xs.length → p (nth4 xs j) = false) : idx4 p xs = -1 := by
  have : xs.findIdx? p = none := by
    rw [List.findIdx?_eq_none_iff]
    intro x hx
    obtain ⟨j, hj, rfl⟩ := List.getElem_of_mem hx
    rw [← nth4_eq hj]; exact hno j hj
  simp [idx4, this]
theorem idx4_geq (p : Quad → Bool) (xs : List Quad) : decide (idx4 p xs ≥ 0) = xs.any p := by
  unfold idx4
  cases h : xs.findIdx? p with
  | none =>
    rw [List.findIdx?_eq_none_iff] at h
    have : xs.any p = false := by rw [List.any_eq_false]; intro x hx; rw [h x hx]; simp
    rw [this]; rfl
  | some k =>
    rw [List.findIdx?_eq_some_iff_getElem] at h
    obtain ⟨hk, hp, _⟩ := h
    have : xs.any p = true := by rw [List.any_eq_true]; exact ⟨_, List.getElem_mem hk, hp⟩
    rw [this]; simp

/-- A function value of pairs of fractions that says p of these, whatever has been laid since w. -/
def Says4 (g : FuncId) (cb : Array Value) (p : Quad → Bool) (xs : List Quad) (w : World) : Prop :=
  ∀ i w', i < xs.length → Below w.heap.size w w' → Calls Tryz.prog g (#[quadV (nth4 xs i)] ++ cb) w' (Ret (.bool (p (nth4 xs i))) w')


end Go.Proofs.YtgpabfbnbmbmeaaGreatDoor

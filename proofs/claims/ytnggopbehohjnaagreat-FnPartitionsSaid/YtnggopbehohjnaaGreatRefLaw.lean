/- The least set of fractions that holds given ones and the values of its own. Plain laws, no program in sight. -/
import Derived.Test.YtnggopbehohjnaaGreatMergeLaw
namespace Go.Proofs.YtnggopbehohjnaaGreat
open Go.RowKit

section
variable (ok : Int × Int → Bool) (F : Int × Int → Int × Int) (S : List (Int × Int))
/-- D holds S and the values of its own, and all of these are known. -/
def ClosedD (D : List (Int × Int)) : Prop := (∀ x, x ∈ S → x ∈ D) ∧ ∀ x, x ∈ D → ok x = true ∧ F x ∈ D
/-- X lies in every such set. -/
def InvD (X : List (Int × Int)) : Prop := RiseL X ∧ (∀ x, x ∈ S → x ∈ X) ∧ ∀ D, ClosedD ok F S D → ∀ x, x ∈ X → x ∈ D
def LeastD (R : List (Int × Int)) : Prop := InvD ok F S R ∧ R.length ≤ 9 ∧ ∀ x, x ∈ R → ok x = true ∧ F x ∈ R
def NoneD : Prop := ∀ D, ClosedD ok F S D → 9 < D.length
end
section
variable {ok : Int × Int → Bool} {F : Int × Int → Int × Int} {S : List (Int × Int)}

theorem rise_nodup {l : List (Int × Int)} (h : RiseL l) : l.Nodup := List.Pairwise.imp (fun {a b} q e => by subst e; exact absurd q (by grind)) h
theorem nodup_len : ∀ (l d : List (Int × Int)), l.Nodup → (∀ x, x ∈ l → x ∈ d) → l.length ≤ d.length := by
  intro l
  induction l with
  | nil => intro d _ _; exact Nat.zero_le _
  | cons a t ih =>
    intro d hn hs
    obtain ⟨h1, h2⟩ := List.nodup_cons.1 hn
    have ha := hs a (List.mem_cons_self ..)
    have h3 := ih (d.erase a) h2 (fun x hx => (List.mem_erase_of_ne (fun e => h1 (by rw [← e]; exact hx))).2 (hs x (List.mem_cons_of_mem _ hx)))
    have h4 := List.length_erase_of_mem ha
    have h5 : 0 < d.length := List.length_pos_of_mem ha
    rw [List.length_cons]
    omega
theorem nodup_all {l d : List (Int × Int)} (hl : l.Nodup) (hs : ∀ x, x ∈ l → x ∈ d) (hlen : d.length ≤ l.length) : ∀ x, x ∈ d → x ∈ l := by
  intro x hx
  apply Classical.byContradiction
  intro hn
  have := nodup_len (x :: l) d (List.nodup_cons.2 ⟨hn, hl⟩) (fun y hy => by
    rcases List.mem_cons.1 hy with e | e
    · rw [e]; exact hx
    · exact hs y e)
  rw [List.length_cons] at this
  omega
theorem LeastD.closed {R : List (Int × Int)} (h : LeastD ok F S R) : ClosedD ok F S R := ⟨h.1.2.1, h.2.2⟩
theorem least_unique {R R' : List (Int × Int)} (h : LeastD ok F S R) (h' : LeastD ok F S R') : R = R' :=
  rise_ext h.1.1 h'.1.1 fun x => ⟨h.1.2.2 R' h'.closed x, h'.1.2.2 R h.closed x⟩
theorem least_none {R : List (Int × Int)} (h : LeastD ok F S R) (hn : NoneD ok F S) : False := by
  have := hn R h.closed
  have := h.2.1
  omega
theorem inv_big {X : List (Int × Int)} (h : InvD ok F S X) (h9 : 9 < X.length) : NoneD ok F S := fun D hD => by
  have := nodup_len X D (rise_nodup h.1) (h.2.2 D hD)
  omega
theorem inv_bad {X : List (Int × Int)} (h : InvD ok F S X) {x : Int × Int} (hx : x ∈ X) (hb : ok x = false) : NoneD ok F S := fun D hD => by
  have := (hD.2 x (h.2.2 D hD x hx)).1
  rw [hb] at this
  cases this
theorem inv_put {X : List (Int × Int)} (h : InvD ok F S X) (hg : ∀ y, y ∈ X → goodR y.1 y.2 = true) {x : Int × Int} (hx : x ∈ X) (hy : goodR (F x).1 (F x).2 = true) : InvD ok F S (putR X (F x)) := by
  obtain ⟨h1, h2⟩ := putR_rise h.1 hg hy
  refine ⟨h1, fun y q => (h2 y).2 (.inl (h.2.1 y q)), fun D hD y q => ?_⟩
  rcases (h2 y).1 q with e | e
  · exact h.2.2 D hD y e
  · rw [e]; exact (hD.2 x (h.2.2 D hD x hx)).2
theorem inv_all {X N : List (Int × Int)} (h : InvD ok F S X) (hr : RiseL N) (hm : ∀ y, y ∈ N ↔ y ∈ X ∨ ∃ x, x ∈ X ∧ F x = y) : InvD ok F S N := by
  refine ⟨hr, fun y q => (hm y).2 (.inl (h.2.1 y q)), fun D hD y q => ?_⟩
  rcases (hm y).1 q with e | ⟨x, hx, rfl⟩
  · exact h.2.2 D hD y e
  · exact (hD.2 x (h.2.2 D hD x hx)).2
theorem all_done {X N : List (Int × Int)} (hX : RiseL X) (hm : ∀ y, y ∈ N ↔ y ∈ X ∨ ∃ x, x ∈ X ∧ F x = y) (hl : N.length = X.length) : ∀ x, x ∈ X → F x ∈ X := fun x hx =>
  nodup_all (rise_nodup hX) (fun y q => (hm y).2 (.inl q)) (by omega) _ ((hm _).2 (.inr ⟨x, hx, rfl⟩))

/-- What the reference does, with so many rounds. -/
def refN (ok : Int × Int → Bool) (F : Int × Int → Int × Int) : Nat → List (Int × Int) → List (Int × Int) × Bool
  | 0, _ => ([], false)
  | n + 1, X => if 9 < X.length then ([], false) else match X.find? fun x => !(ok x) || !(X.contains (F x)) with
    | none => (X, true)
    | some x => if ok x = true then refN ok F n (putR X (F x)) else ([], false)
/-- One of two ends. -/
def EndD (ok : Int × Int → Bool) (F : Int × Int → Int × Int) (S : List (Int × Int)) (r : List (Int × Int) × Bool) : Prop := (r = ([], false) ∧ NoneD ok F S) ∨ (r.2 = true ∧ LeastD ok F S r.1)
theorem end_unique {r r' : List (Int × Int) × Bool} (h : EndD ok F S r) (h' : EndD ok F S r') : r = r' := by
  rcases h with ⟨rfl, h⟩ | ⟨e, h⟩ <;> rcases h' with ⟨rfl, h'⟩ | ⟨e', h'⟩
  · rfl
  · exact (least_none h' h).elim
  · exact (least_none h h').elim
  · exact Prod.ext (least_unique h h') (by rw [e, e'])
theorem putR_more {X : List (Int × Int)} {y : Int × Int} (h : y ∉ X) : (putR X y).length = X.length + 1 := by
  have hn := putN_le X y
  unfold putR
  rw [if_neg (fun q => h (by rw [← q.1, nthR_eq q.2]; exact List.getElem_mem _)), List.length_append, List.length_cons, List.length_take, List.length_drop]
  omega
theorem refN_end : ∀ (n : Nat) (X : List (Int × Int)), InvD ok F S X → (∀ y, y ∈ X → goodR y.1 y.2 = true) → (∀ x, goodR x.1 x.2 = true → ok x = true → goodR (F x).1 (F x).2 = true) → 10 < n + X.length → EndD ok F S (refN ok F n X) := by
  intro n
  induction n with
  | zero => intro X h _ _ hn; exact .inl ⟨rfl, inv_big h (by omega)⟩
  | succ n ih =>
    intro X h hg hF hn
    unfold refN
    by_cases h9 : 9 < X.length
    · rw [if_pos h9]; exact .inl ⟨rfl, inv_big h h9⟩
    · rw [if_neg h9]
      cases hf : X.find? fun x => !(ok x) || !(X.contains (F x)) with
      | none =>
        refine .inr ⟨rfl, h, by show X.length ≤ 9; omega, fun x hx => ?_⟩
        have := List.find?_eq_none.1 hf x hx
        simpa using this
      | some x =>
        have hx := List.mem_of_find?_eq_some hf
        have hp := List.find?_some hf
        by_cases ho : ok x = true
        · simp only [ho, if_true]
          have hnot : F x ∉ X := by simpa [ho] using hp
          have hl := putR_more hnot
          have hgF := hF x (hg x hx) ho
          refine ih _ (inv_put h hg hx hgF) (fun y hy => ?_) hF (by omega)
          rcases ((putR_rise h.1 hg hgF).2 y).1 hy with e | e
          · exact hg y e
          · rw [e]; exact hgF
        · simp only [ho]
          exact .inl ⟨rfl, inv_bad h hx (by simpa using ho)⟩
end
end Go.Proofs.YtnggopbehohjnaaGreat

/- The least set of fractions that holds given ones and the values of its own. Plain laws, no program in sight. -/
import Derived.Test.YtfhhofecfllbfaaGreatPkI
namespace Go.Proofs.YtfhhofecfllbfaaGreat
open Go.RowKit
section
variable (ok : Int × Int → Bool) (F : Int × Int → Int × Int) (S : List (Int × Int))
def ClosedD (D : List (Int × Int)) : Prop := (∀ x, x ∈ S → x ∈ D) ∧ ∀ x, x ∈ D → ok x = true ∧ F x ∈ D
def InvD (X : List (Int × Int)) : Prop := RiseL X ∧ (∀ x, x ∈ S → x ∈ X) ∧ ∀ D, ClosedD ok F S D → ∀ x, x ∈ X → x ∈ D
def LeastD (R : List (Int × Int)) : Prop := InvD ok F S R ∧ R.length ≤ 9 ∧ ∀ x, x ∈ R → ok x = true ∧ F x ∈ R
def NoneD : Prop := ∀ D, ClosedD ok F S D → 9 < D.length
end
section
variable {ok : Int × Int → Bool} {F : Int × Int → Int × Int} {S : List (Int × Int)}
theorem rise_nodup {l : List (Int × Int)} (h : RiseL l) : l.Nodup := List.Pairwise.imp (fun {a b} q e => by subst e; exact absurd q (by grind)) h
theorem nodup_len : ∀ (l d : List (Int × Int)), l.Nodup → (∀ x, x ∈ l → x ∈ d) → l.length ≤ d.length := by
 intro l
 induction l with
 | nil => intro d _ _; exact Nat.zero_le _
 | cons a t ih =>
   intro d hn hs
   obtain ⟨h1, h2⟩ := List.nodup_cons.1 hn
   have ha := hs a (List.mem_cons_self ..)
   have h3 := ih (d.erase a) h2 (fun x hx => (List.mem_erase_of_ne (fun e => h1 (by rw [← e]; exact hx))).2 (hs x (List.mem_cons_of_mem _ hx)))
   have h4 := List.length_erase_of_mem ha
   have h5 : 0 < d.length := List.length_pos_of_mem ha
   rw [List.length_cons]
   omega
theorem inv_big {X : List (Int × Int)} (h : InvD ok F S X) (h9 : 9 < X.length) : NoneD ok F S := fun D hD => by
 have := nodup_len X D (rise_nodup h.1) (h.2.2 D hD)
 omega
theorem inv_bad {X : List (Int × Int)} (h : InvD ok F S X) {x : Int × Int} (hx : x ∈ X) (hb : ok x = false) : NoneD ok F S := fun D hD => by
 have := (hD.2 x (h.2.2 D hD x hx)).1
 rw [hb] at this
 cases this
theorem inv_put {X : List (Int × Int)} (h : InvD ok F S X) (hg : ∀ y, y ∈ X → goodR y.1 y.2 = true) {x : Int × Int} (hx : x ∈ X) (hy : goodR (F x).1 (F x).2 = true) : InvD ok F S (putR X (F x)) := by
 obtain ⟨h1, h2⟩ := putR_rise h.1 hg hy
 refine ⟨h1, fun y q => (h2 y).2 (.inl (h.2.1 y q)), fun D hD y q => ?_⟩
 rcases (h2 y).1 q with e | e
 ·exact h.2.2 D hD y e
 ·rw [e]; exact (hD.2 x (h.2.2 D hD x hx)).2
def EndD (ok : Int × Int → Bool) (F : Int × Int → Int × Int) (S : List (Int × Int)) (r : List (Int × Int) × Bool) : Prop := (r = ([], false) ∧ NoneD ok F S) ∨ (r.2 = true ∧ LeastD ok F S r.1)
theorem putR_more {X : List (Int × Int)} {y : Int × Int} (h : y ∉ X) : (putR X y).length = X.length + 1 := by
 have hn := putN_le X y
 unfold putR
 rw [if_neg (fun q => h (by rw [← q.1, nthR_eq q.2]; exact List.getElem_mem _)), List.length_append, List.length_cons, List.length_take, List.length_drop]
 omega
end
end Go.Proofs.YtfhhofecfllbfaaGreat

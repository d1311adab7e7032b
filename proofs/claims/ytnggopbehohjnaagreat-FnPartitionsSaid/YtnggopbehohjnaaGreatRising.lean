/- impl.rising: a list of fractions sorted, each once, in its own row. No conditions but small sizes. -/
import Derived.Test.YtnggopbehohjnaaGreatCompactR
import Derived.Test.YtnggopbehohjnaaGreatGrowR
namespace Go.Proofs.YtnggopbehohjnaaGreat
open Go.RowKit

theorem cmpL_len : ∀ l : List (Int × Int), (cmpL l).length ≤ l.length := by
  intro l
  induction l with
  | nil => exact Nat.le_refl _
  | cons a t ih =>
    cases t with
    | nil => rw [cmpL_one]; exact Nat.le_refl _
    | cons b s =>
      by_cases h : a = b
      · subst h; rw [cmpL_same]; simp only [List.length_cons] at ih ⊢; omega
      · rw [cmpL_new h]; simp only [List.length_cons] at ih ⊢; omega

theorem GrowR.ofOwn {w : World} {B E : Nat} {v : Value} {xs : List (Int × Int)} (h : OwnR w B E v xs) (hn : 0 < xs.length) : GrowR w B v xs := by
  rcases h with ⟨h0, _⟩ | ⟨g, cap, e, _, _, h3⟩
  · omega
  · exact h3
set_option maxHeartbeats 800000 in
theorem rising_row (B g cap : Nat) (xs : List (Int × Int)) (w : World) (hg : GrowR w B (.slice (some ⟨g, 0, none⟩) xs.length cap) xs) (hn : 0 < xs.length) (hgd : ∀ x ∈ xs, goodR x.1 x.2 = true) (hm : xs.length ≤ 1099511627776) :
    Calls Tryz.prog 83 #[.slice (some ⟨g, 0, none⟩) xs.length cap] w fun e w' => ∃ v', e = .returned v' ∧ (∃ ys : List (Int × Int), (∀ y, y ∈ ys ↔ y ∈ xs) ∧ (ys.Pairwise fun a b => qv a ≤ qv b) ∧ OwnR w' B w'.heap.size v' (cmpL ys) ∧ v' = .slice (some ⟨g, 0, none⟩) (cmpL ys).length cap) ∧ Upon g w w' := by
  obtain ⟨g', cap', e, hrow⟩ := GrowF.form hg hn
  obtain ⟨rfl, rfl⟩ : g = g' ∧ cap = cap' := by cases e; exact ⟨rfl, rfl⟩
  clear e
  obtain ⟨hc1, hc2⟩ : xs.length ≤ cap ∧ cap ≤ maxLen := by
    obtain ⟨_, _, e, h1, h2, _⟩ := hg.read.form
    cases e
    exact ⟨h1.1, h2⟩
  have hrc := RowC.of hrow
  have hsh := ShapeC.of hrow
  have hlt := hrow.lt
  have c1 := sorted_any g cap xs w hrc hgd hlt.2 hm
  obtain ⟨n, hn'⟩ : ∃ n, xs.length = n := ⟨_, rfl⟩
  rw [hn'] at c1 hc1 hm ⊢
  have c1' := Lib.hid c1
  have hsh' := Lib.hid hsh
  have hn'' := Lib.hid hn'
  have hrc' := Lib.hid hrc
  have hrow' := Lib.hid hrow
  have hg' := Lib.hid hg
  have hgd' := Lib.hid hgd
  clear c1 hsh hn' hrc hrow hg hgd
  go_enter Tryz.func83, Tryz.ntmps83
  go_wp2_with fail
  refine (c1'.out).mono ?_
  rintro e w1 ⟨rfl, ⟨ys, hl, hmem, hpw, hr1⟩, hs1, hB1⟩
  rw [← hl] at hr1 hc1 hm
  have c2 := compact_any g cap ys w1 hr1 ⟨hc1, hc2⟩ hm
  rw [hl] at c2
  have c2' := Lib.hid c2
  have hs1' := Lib.hid hs1
  have hB1' := Lib.hid hB1
  have hr1' := Lib.hid hr1
  have hmem' := Lib.hid hmem
  have hpw' := Lib.hid hpw
  have hl' := Lib.hid hl
  clear c2 hs1 hB1 hr1 hmem hpw hl
  go_wp2_with fail
  refine (c2'.out).mono ?_
  rintro e w2 ⟨rfl, hr2, hs2, hB2⟩
  have hcl : (cmpL ys).length ≤ ys.length := cmpL_len ys
  have hown := own_of hr2 (hs2 cap (hs1'.out cap hsh'.out)) hlt.1 ⟨by omega, hc2⟩
  have hb := hB1'.out.trans hB2
  have hown' := Lib.hid hown
  have hs2' := Lib.hid hs2
  have hB2' := Lib.hid hB2
  have hr2' := Lib.hid hr2
  have hcl' := Lib.hid hcl
  have hb' := Lib.hid hb
  clear hown hs2 hB2 hr2 hcl hb
  go_wp2
  go_ret
  exact ⟨_, rfl, ⟨ys, hmem'.out, hpw'.out, hown'.out, rfl⟩, hb'.out⟩
theorem rising_any (B : Nat) (v : Value) (xs : List (Int × Int)) (w : World) (hg : GrowR w B v xs) (hn : 0 < xs.length) (hgd : ∀ x ∈ xs, goodR x.1 x.2 = true) (hm : xs.length ≤ 1099511627776) :
    Calls Tryz.prog 83 #[v] w fun e w' => ∃ v', e = .returned v' ∧ (∃ ys : List (Int × Int), (∀ y, y ∈ ys ↔ y ∈ xs) ∧ (ys.Pairwise fun a b => qv a ≤ qv b) ∧ OwnR w' B w'.heap.size v' (cmpL ys)) ∧ Below B w w' := by
  obtain ⟨g, cap, rfl, hrow⟩ := GrowF.form hg hn
  have hlt := hrow.lt
  refine (rising_row B g cap xs w hg hn hgd hm).mono ?_
  rintro e w' ⟨v', h1, ⟨ys, h2, h4, h5, _⟩, h3⟩
  exact ⟨v', h1, ⟨ys, h2, h4, h5⟩, h3.below hlt.1 hlt.2⟩
end Go.Proofs.YtnggopbehohjnaaGreat

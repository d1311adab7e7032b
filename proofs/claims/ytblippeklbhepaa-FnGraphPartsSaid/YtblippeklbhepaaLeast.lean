/- The first of the shortest walks: the search by words finds it, and the way down the numbers of steps is it. Plain laws, no program in sight. -/
import Derived.Test.YtblippeklbhepaaSteps
namespace Go.Proofs.Ytblippeklbhepaa
open Go.RowKit

/-- Words with their last letter first: shorter ones first, then by the first letters. -/
def slt : List Nat → List Nat → Prop
  | _, [] => False
  | [], _ :: _ => True
  | x :: u, y :: v => slt u v ∨ (u = v ∧ x < y)
theorem slt_cons {x y : Nat} {u v : List Nat} : slt (x :: u) (y :: v) ↔ slt u v ∨ (u = v ∧ x < y) := Iff.rfl
theorem slt_irrefl : ∀ u, ¬ slt u u := by
  intro u
  induction u with
  | nil => intro h; exact h
  | cons x u ih =>
    intro h
    rcases h with h | h
    · exact ih h
    · exact Nat.lt_irrefl _ h.2
theorem slt_trans : ∀ {u v w}, slt u v → slt v w → slt u w := by
  intro u
  induction u with
  | nil =>
    intro v w _ h2
    cases w with
    | nil => cases v <;> exact h2
    | cons => trivial
  | cons x u ih =>
    intro v w h1 h2
    cases v with
    | nil => exact h1.elim
    | cons y v =>
      cases w with
      | nil => exact h2.elim
      | cons z w =>
        rcases h1 with h1 | ⟨rfl, h1⟩
        · rcases h2 with h2 | ⟨rfl, h2⟩
          · exact .inl (ih h1 h2)
          · exact .inl h1
        · rcases h2 with h2 | ⟨rfl, h2⟩
          · exact .inl h2
          · exact .inr ⟨rfl, Nat.lt_trans h1 h2⟩
theorem slt_tri : ∀ u v, slt u v ∨ u = v ∨ slt v u := by
  intro u
  induction u with
  | nil =>
    intro v
    cases v with
    | nil => exact .inr (.inl rfl)
    | cons => exact .inl trivial
  | cons x u ih =>
    intro v
    cases v with
    | nil => exact .inr (.inr trivial)
    | cons y v =>
      rcases ih v with h | rfl | h
      · exact .inl (.inl h)
      · rcases Nat.lt_trichotomy x y with h | rfl | h
        · exact .inl (.inr ⟨rfl, h⟩)
        · exact .inr (.inl rfl)
        · exact .inr (.inr (.inr ⟨rfl, h⟩))
      · exact .inr (.inr (.inl h))
theorem slt_snoc (x : Nat) : ∀ u, slt u (x :: u) := by
  intro u
  induction u generalizing x with
  | nil => trivial
  | cons y u ih => exact .inl (ih y)
theorem slt_len : ∀ {u v : List Nat}, u.length < v.length → slt u v := by
  intro u
  induction u with
  | nil =>
    intro v h
    cases v with
    | nil => exact absurd h (Nat.lt_irrefl _)
    | cons => trivial
  | cons x u ih =>
    intro v h
    cases v with
    | nil => exact absurd h (Nat.not_lt_zero _)
    | cons y v => exact .inl (ih (by simpa using h))
/-- Not behind. -/
def sle (u v : List Nat) : Prop := ¬ slt v u
theorem sle_refl (u : List Nat) : sle u u := slt_irrefl u
theorem sle_of_lt {u v : List Nat} (h : slt u v) : sle u v := fun h2 => slt_irrefl _ (slt_trans h h2)
theorem slt_of_lt_le {u v w : List Nat} (h : slt u v) (h2 : sle v w) : slt u w := by
  rcases slt_tri v w with h3 | rfl | h3
  · exact slt_trans h h3
  · exact h
  · exact absurd h3 h2
theorem slt_of_le_lt {u v w : List Nat} (h : sle u v) (h2 : slt v w) : slt u w := by
  rcases slt_tri u v with h3 | rfl | h3
  · exact slt_trans h3 h2
  · exact h2
  · exact absurd h3 h
theorem sle_trans {u v w : List Nat} (h : sle u v) (h2 : sle v w) : sle u w := fun h3 => h2 (slt_of_lt_le h3 h)
theorem sle_antisymm {u v : List Nat} (h : sle u v) (h2 : sle v u) : u = v := by
  rcases slt_tri u v with h3 | h3 | h3
  · exact absurd h3 h2
  · exact h3
  · exact absurd h3 h
theorem sle_cons {u v : List Nat} (x : Nat) (h : sle u v) : sle (x :: u) (x :: v) := by
  intro h2
  rcases h2 with h2 | ⟨_, h2⟩
  · exact h h2
  · exact Nat.lt_irrefl _ h2
theorem sle_len {u v : List Nat} (h : sle u v) : u.length ≤ v.length := by
  apply Decidable.byContradiction
  intro q
  exact h (slt_len (by omega))

/-- The word (its last letter first) is a walk from a. -/
def rwk (g : Nat → Nat → Int) (n a : Nat) : List Nat → Prop
  | [] => False
  | [x] => x = a
  | x :: y :: u => (0 < g y x ∧ x < n) ∧ rwk g n a (y :: u)
theorem rwk_cons {g : Nat → Nat → Int} {n a x y : Nat} {u : List Nat} : rwk g n a (x :: y :: u) ↔ (0 < g y x ∧ x < n) ∧ rwk g n a (y :: u) := Iff.rfl
theorem rwk_wk {g : Nat → Nat → Int} {n a : Nat} (ha : a < n) : ∀ (u : List Nat) (x : Nat), rwk g n a (x :: u) → wk g n u.length a x ∧ x < n := by
  intro u
  induction u with
  | nil => intro x h; exact ⟨(show x = a from h).symm, by rw [show x = a from h]; exact ha⟩
  | cons y u ih =>
    intro x h
    obtain ⟨h1, h2⟩ := h
    obtain ⟨h3, h4⟩ := ih y h2
    exact ⟨⟨y, h4, h3, h1.1⟩, h1.2⟩
/-- The word is the first of all walks of at least one step from a to b. -/
structure Least (g : Nat → Nat → Int) (n a b : Nat) (p : List Nat) : Prop where
  walk : rwk g n a (b :: p)
  ne : p ≠ []
  min : ∀ q, rwk g n a (b :: q) → q ≠ [] → sle (b :: p) (b :: q)
theorem Least.unique {g : Nat → Nat → Int} {n a b : Nat} {p q : List Nat} (h : Least g n a b p) (h2 : Least g n a b q) : p = q := by
  have := sle_antisymm (h.min q h2.walk h2.ne) (h2.min p h.walk h.ne)
  simpa using this

/-- What is known while the words are searched: word k is looked at, its first j arrows have been seen. -/
structure WsI (g : Nat → Nat → Int) (n a b : Nat) (ws : Nat → List Nat) (m k j : Nat) : Prop where
  zero : ws 0 = [a]
  one : 1 ≤ m
  walk : ∀ i, i < m → rwk g n a (ws i)
  sorted : ∀ i i', i < i' → i' < m → slt (ws i) (ws i')
  from' : ∀ i, 1 ≤ i → i < m → ∃ x p, ws i = x :: ws p ∧ p < m ∧ (p < k ∨ (p = k ∧ x < j)) ∧ ∀ p', p' < p → ∀ y u, ws p' = y :: u → ¬ 0 < g y x
  ends : ∀ i i' x u v, 1 ≤ i → i < i' → i' < m → ws i = x :: u → ws i' = x :: v → False
  seen : ∀ i x y u, i < m → (i < k ∨ (i = k ∧ x < j)) → x < n → ws i = y :: u → 0 < g y x → ∃ i' v, 1 ≤ i' ∧ i' < m ∧ ws i' = x :: v
  notb : ∀ i u, 1 ≤ i → i < m → ws i ≠ b :: u
theorem WsI.start {g : Nat → Nat → Int} {n a b : Nat} : WsI g n a b (fun _ => [a]) 1 0 0 :=
  ⟨rfl, Nat.le_refl _, fun _ _ => rfl, fun i i' h h2 => by omega, fun i h h2 => by omega, fun i i' _ _ _ h h2 h3 => by omega, fun i x y u _ h => by omega, fun i u h h2 => by omega⟩
theorem WsI.nextWord {g : Nat → Nat → Int} {n a b : Nat} {ws : Nat → List Nat} {m k : Nat} (h : WsI g n a b ws m k n) : WsI g n a b ws m (k + 1) 0 :=
  ⟨h.zero, h.one, h.walk, h.sorted, fun i h1 h2 => by
    obtain ⟨x, p, e, hp, hk, hn⟩ := h.from' i h1 h2
    exact ⟨x, p, e, hp, .inl (by omega), hn⟩, h.ends, fun i x y u him hi hx e hg => h.seen i x y u him (by omega) hx e hg, h.notb⟩
theorem WsI.skip {g : Nat → Nat → Int} {n a b : Nat} {ws : Nat → List Nat} {m k j : Nat} (h : WsI g n a b ws m k j) (hk : ∀ y u, ws k = y :: u → 0 < g y j → ∃ i' v, 1 ≤ i' ∧ i' < m ∧ ws i' = j :: v) : WsI g n a b ws m k (j + 1) :=
  ⟨h.zero, h.one, h.walk, h.sorted, fun i h1 h2 => by
    obtain ⟨x, p, e, hp, hk, hn⟩ := h.from' i h1 h2
    exact ⟨x, p, e, hp, by omega, hn⟩, h.ends, fun i x y u him hi hx e hg => by
      by_cases q : i = k ∧ x = j
      · obtain ⟨rfl, rfl⟩ := q
        exact hk y u e hg
      · exact h.seen i x y u him (by omega) hx e hg, h.notb⟩
theorem WsI.add {g : Nat → Nat → Int} {n a b : Nat} {ws : Nat → List Nat} {m k j y : Nat} {u : List Nat} (h : WsI g n a b ws m k j) (hkm : k < m) (hj : j < n) (e : ws k = y :: u) (hg : 0 < g y j)
    (hnew : ∀ i v, 1 ≤ i → i < m → ws i ≠ j :: v) (hb : j ≠ b) : WsI g n a b (fun i => if i = m then j :: ws k else ws i) (m + 1) k (j + 1) := by
  have old : ∀ i, i < m → (fun i => if i = m then j :: ws k else ws i) i = ws i := fun i hi => by simp only; rw [if_neg (by omega)]
  have new : (fun i => if i = m then j :: ws k else ws i) m = j :: ws k := by simp
  generalize (fun i => if i = m then j :: ws k else ws i) = W at *
  refine ⟨by rw [old 0 (by have := h.one; omega)]; exact h.zero, by omega, fun i hi => ?_, fun i i' hii hi' => ?_, fun i h1 hi => ?_, fun i i' x u' v h1 hii hi' e1 e2 => ?_, fun i x y' u' him hi hx e1 hg' => ?_, fun i u' h1 hi => ?_⟩
  · by_cases q : i = m
    · subst q
      rw [new, e]
      exact ⟨⟨hg, hj⟩, by rw [← e]; exact h.walk k hkm⟩
    · rw [old i (by omega)]; exact h.walk i (by omega)
  · by_cases q : i' = m
    · subst q
      rw [new, old i (by omega)]
      by_cases q0 : i = 0
      · subst q0
        rw [h.zero, e]
        exact .inl trivial
      · obtain ⟨x, p, e1, hp, hpk, _⟩ := h.from' i (by omega) (by omega)
        rw [e1]
        by_cases q1 : p = k
        · subst q1
          exact .inr ⟨rfl, by omega⟩
        · exact .inl (h.sorted p k (by omega) hkm)
    · rw [old i (by omega), old i' (by omega)]; exact h.sorted i i' hii (by omega)
  · by_cases q : i = m
    · subst q
      refine ⟨j, k, by rw [new, old k hkm], by omega, .inr ⟨rfl, Nat.lt_succ_self _⟩, fun p' hp' y' u' e1 hg' => ?_⟩
      rw [old p' (by omega)] at e1
      obtain ⟨i', v, h2, h3, h4⟩ := h.seen p' j y' u' (by omega) (.inl hp') hj e1 hg'
      exact hnew i' v h2 h3 h4
    · obtain ⟨x, p, e1, hp, hpk, hn⟩ := h.from' i h1 (by omega)
      refine ⟨x, p, by rw [old i (by omega), old p hp]; exact e1, by omega, by omega, fun p' hp' y' u' e2 => ?_⟩
      rw [old p' (by omega)] at e2
      exact hn p' hp' y' u' e2
  · by_cases q : i' = m
    · subst q
      rw [new] at e2
      rw [old i (by omega)] at e1
      injection e2 with e3 e4
      subst e3
      exact hnew i u' h1 (by omega) e1
    · rw [old i (by omega)] at e1
      rw [old i' (by omega)] at e2
      exact h.ends i i' x u' v h1 hii (by omega) e1 e2
  · have him' : i < m := by omega
    rw [old i him'] at e1
    by_cases q : i = k ∧ x = j
    · obtain ⟨rfl, rfl⟩ := q
      exact ⟨m, _, h.one, by omega, new⟩
    · obtain ⟨i', v, h2, h3, h4⟩ := h.seen i x y' u' him' (by omega) hx e1 hg'
      exact ⟨i', v, h2, by omega, by rw [old i' h3]; exact h4⟩
  · by_cases q : i = m
    · subst q
      rw [new]
      intro e1
      injection e1 with e2 e3
      exact hb e2
    · rw [old i (by omega)]; exact h.notb i u' h1 (by omega)
/-- Each walk ends where an earlier word ends, or lies behind word k. -/
theorem WsI.cover {g : Nat → Nat → Int} {n a b : Nat} {ws : Nat → List Nat} {m k j : Nat} (h : WsI g n a b ws m k j) (hkm : k < m) (_ha : a < n) : ∀ (v : List Nat) (y : Nat), rwk g n a (y :: v) → (∃ i u, i < m ∧ ws i = y :: u ∧ sle (ws i) (y :: v)) ∨ slt (ws k) (y :: v) := by
  intro v
  induction v with
  | nil =>
    intro y hw
    have hy : y = a := hw
    subst hy
    exact .inl ⟨0, [], by have := h.one; omega, h.zero, by rw [h.zero]; exact sle_refl _⟩
  | cons z v ih =>
    intro y hw
    obtain ⟨⟨hg, hy⟩, hw2⟩ := hw
    rcases ih z hw2 with ⟨i, u, hi, e, hle⟩ | hlt
    · by_cases q : i < k ∨ (i = k ∧ y < j)
      · obtain ⟨i', v', h1, h2, h3⟩ := h.seen i y z u hi q hy e hg
        obtain ⟨x, p, e1, hp, hpk, hn⟩ := h.from' i' h1 h2
        have hxy : y = x := by rw [e1] at h3; injection h3 with h4 _; exact h4.symm
        subst hxy
        have hpi : p ≤ i := by
          apply Decidable.byContradiction
          intro r
          exact hn i (by omega) z u e hg
        refine .inl ⟨i', v', h2, h3, ?_⟩
        rw [e1]
        apply sle_cons
        by_cases r : p = i
        · subst r; exact hle
        · exact sle_trans (sle_of_lt (h.sorted p i (by omega) hi)) hle
      · refine .inr ?_
        have h1 : sle (ws k) (z :: v) := by
          by_cases r : i = k
          · subst r; exact hle
          · exact sle_trans (sle_of_lt (h.sorted k i (by omega) hi)) hle
        exact slt_of_le_lt h1 (slt_snoc _ _)
    · exact .inr (slt_trans hlt (slt_snoc _ _))
/-- The word that is found first is the least. -/
theorem WsI.found {g : Nat → Nat → Int} {n a b : Nat} {ws : Nat → List Nat} {m k y : Nat} {u : List Nat} (h : WsI g n a b ws m k b) (hkm : k < m) (ha : a < n) (hb : b < n) (e : ws k = y :: u) (hg : 0 < g y b) : Least g n a b (ws k) := by
  refine ⟨by rw [e]; exact ⟨⟨hg, hb⟩, by rw [← e]; exact h.walk k hkm⟩, by rw [e]; simp, fun q hq hne => ?_⟩
  cases q with
  | nil => exact absurd rfl hne
  | cons z v =>
    obtain ⟨⟨hg2, _⟩, hw2⟩ := hq
    rcases h.cover hkm ha v z hw2 with ⟨i, u', hi, e2, hle⟩ | hlt
    · apply sle_cons
      by_cases r : i < k
      · obtain ⟨i', v', h1, h2, h3⟩ := h.seen i b z u' hi (.inl r) hb e2 hg2
        exact absurd h3 (h.notb i' v' h1 h2)
      · by_cases r2 : i = k
        · subst r2; exact hle
        · exact sle_trans (sle_of_lt (h.sorted k i (by omega) hi)) hle
    · exact sle_of_lt (.inl hlt)
/-- All words have been looked at: there is no walk. -/
theorem WsI.none {g : Nat → Nat → Int} {n a b : Nat} {ws : Nat → List Nat} {m : Nat} (h : WsI g n a b ws m m 0) (_ha : a < n) : ∀ t, 1 ≤ t → b < n → ¬ wk g n t a b := by
  have key : ∀ t y, y < n → wk g n t a y → ∃ i u, i < m ∧ ws i = y :: u ∧ (1 ≤ t → 1 ≤ i) := by
    intro t
    induction t with
    | zero =>
      intro y _ hw
      have e : a = y := hw
      subst e
      exact ⟨0, [], h.one, h.zero, fun q => by omega⟩
    | succ t ih =>
      intro y hy hw
      obtain ⟨z, hz, h1, h2⟩ := hw
      obtain ⟨i, u, hi, e, _⟩ := ih z hz h1
      obtain ⟨i', v, h3, h4, h5⟩ := h.seen i y z u hi (.inl hi) hy e h2
      exact ⟨i', v, h4, h5, fun _ => h3⟩
  intro t ht hb hw
  obtain ⟨i, u, hi, e, h1⟩ := key t b hb hw
  exact h.notb i u (h1 ht) hi e
theorem WsI.len {g : Nat → Nat → Int} {n a b : Nat} {ws : Nat → List Nat} {m k j : Nat} (h : WsI g n a b ws m k j) : m ≤ n + 1 := by
  have cl : ∀ t, t < m → ∃ p : Nat → Bool, (∀ x, p x = true → x < n ∧ ∃ i u, 1 ≤ i ∧ i ≤ t ∧ ws i = x :: u) ∧ t ≤ cnt p n := by
    intro t
    induction t with
    | zero => intro _; exact ⟨fun _ => false, fun x h => by simp at h, Nat.zero_le _⟩
    | succ t ih =>
      intro ht
      obtain ⟨p, h1, h2⟩ := ih (by omega)
      obtain ⟨x, q, e, _, _, _⟩ := h.from' (t + 1) (by omega) ht
      have hw := h.walk (t + 1) ht
      have hx : x < n := by
        rw [e] at hw
        cases hq : ws q with
        | nil =>
          have := h.walk q (by omega)
          rw [hq] at this; exact this.elim
        | cons y u => rw [hq] at hw; exact hw.1.2
      refine ⟨fun z => p z || decide (z = x), fun z hz => ?_, ?_⟩
      · rcases (by simpa using hz : p z = true ∨ z = x) with hz | rfl
        · obtain ⟨h3, i, u, h4, h5, h6⟩ := h1 z hz
          exact ⟨h3, i, u, h4, by omega, h6⟩
        · exact ⟨hx, t + 1, _, by omega, Nat.le_refl _, e⟩
      · have hpx : p x = false := by
          cases r : p x with
          | false => rfl
          | true =>
            obtain ⟨_, i, u, h4, h5, h6⟩ := h1 x r
            exact (h.ends i (t + 1) x u _ h4 (by omega) ht h6 e).elim
        have := cnt_lt (p := p) (q := fun z => p z || decide (z = x)) (a := x) n (fun i _ h => by simp [h]) hx hpx (by simp)
        omega
  have h1 := h.one
  obtain ⟨p, _, h2⟩ := cl (m - 1) (by omega)
  have := cnt_le p n
  omega
theorem rwk_len {g : Nat → Nat → Int} {n a b : Nat} {p : List Nat} (h : Least g n a b p) (ha : a < n) (hb : b < n) : p.length ≤ n := by
  have hw := (rwk_wk ha _ _ h.walk).1
  obtain ⟨t, _, ht⟩ := wkMin_of p.length (by cases hp : p with
    | nil => exact absurd hp h.ne
    | cons => simp) hw
  have hl := wkMin_len hb t a ha ht
  have hex : ∀ t x, x < n → wk g n t a x → ∃ u, rwk g n a (x :: u) ∧ u.length = t := by
    intro t
    induction t with
    | zero => intro x _ e; exact ⟨[], (show a = x from e).symm, rfl⟩
    | succ t ih =>
      intro x hx hw
      obtain ⟨z, hz, h1, h2⟩ := hw
      obtain ⟨u, h3, h4⟩ := ih z hz h1
      exact ⟨z :: u, ⟨⟨h2, hx⟩, h3⟩, by simp [h4]⟩
  obtain ⟨u, h1, h2⟩ := hex t b hb ht.2.1
  have h3 := sle_len (h.min u h1 (by intro q; rw [q] at h2; simp at h2; have := ht.1; omega))
  simp at h3
  omega

/-- The way down: the prefix u (last state first, at state x) is the first one of all shortest walks' prefixes, r steps are left. -/
structure DownI (g : Nat → Nat → Int) (n a b : Nat) (x : Nat) (u : List Nat) (r : Nat) : Prop where
  walk : rwk g n a (x :: u)
  left : r = 0 ∧ x = b ∧ u ≠ [] ∨ wkMin g n b r x
  first : ∀ q, rwk g n a (b :: q) → q ≠ [] → u.length + r < q.length ∨ (u.length + r = q.length ∧ sle (x :: u) ((b :: q).drop r))
theorem DownI.start {g : Nat → Nat → Int} {n a b r : Nat} (ha : a < n) (_hb : b < n) (h : wkMin g n b r a) : DownI g n a b a [] r := by
  refine ⟨rfl, .inr h, fun q hq hne => ?_⟩
  have hw := (rwk_wk ha _ _ hq).1
  have hlen : r ≤ q.length := by
    apply Decidable.byContradiction
    intro c
    refine h.2.2 q.length ?_ (by omega) hw
    cases q with
    | nil => exact absurd rfl hne
    | cons => simp
  by_cases e : r = q.length
  · refine .inr ⟨by simp [e], ?_⟩
    have hd : ∀ (q : List Nat) (y : Nat), rwk g n a (y :: q) → (y :: q).drop q.length = [a] := by
      intro q
      induction q with
      | nil => intro y h; rw [show y = a from h]; rfl
      | cons z q ih =>
        intro y h
        have := ih z h.2
        rw [List.length_cons, List.drop_succ_cons]; exact this
    rw [e, hd q b hq]; exact sle_refl _
  · exact .inl (by simp; omega)
theorem rwk_drop {g : Nat → Nat → Int} {n a : Nat} (ha : a < n) : ∀ (r : Nat) (q : List Nat) (y : Nat), rwk g n a (y :: q) → r ≤ q.length → ∃ z v, (y :: q).drop r = z :: v ∧ rwk g n a (z :: v) ∧ wk g n r z y ∧ z < n := by
  intro r
  induction r with
  | zero => intro q y h _; exact ⟨y, q, rfl, h, rfl, (rwk_wk ha _ _ h).2⟩
  | succ r ih =>
    intro q y h hr
    cases q with
    | nil => exact absurd hr (by simp)
    | cons w q =>
      obtain ⟨⟨h1, h1'⟩, h2⟩ := h
      obtain ⟨z, v, e, h3, h4, h5⟩ := ih q w h2 (by simpa using hr)
      exact ⟨z, v, by rw [List.drop_succ_cons]; exact e, h3, ⟨w, (rwk_wk ha _ _ h2).2, h4, h1⟩, h5⟩
/-- The way down goes on at the first state that is due. -/
theorem DownI.step {g : Nat → Nat → Int} {n a b x k r : Nat} {u : List Nat} (ha : a < n) (hb : b < n) (h : DownI g n a b x u (r + 1)) (hk : k < n) (hg : 0 < g x k) (hd : (r = 0 ∧ k = b) ∨ wkMin g n b r k)
    (hmin : ∀ k', k' < k → 0 < g x k' → ¬ ((r = 0 ∧ k' = b) ∨ wkMin g n b r k')) : DownI g n a b k (x :: u) r := by
  refine ⟨⟨⟨hg, hk⟩, h.walk⟩, ?_, fun q hq hne => ?_⟩
  · rcases hd with ⟨h1, h2⟩ | h1
    · exact .inl ⟨h1, h2, by simp⟩
    · exact .inr h1
  rcases h.first q hq hne with h1 | ⟨h1, h2⟩
  · exact .inl (by simp; omega)
  · refine .inr ⟨by simp; omega, ?_⟩
    obtain ⟨z, v, e, h3, h4, h5⟩ := rwk_drop ha r q b hq (by omega)
    have e2 : (b :: q).drop (r + 1) = v := by
      rw [← List.drop_drop, e]; rfl
    rw [e2] at h2
    rw [e]
    intro h6
    rcases h6 with h6 | ⟨h6, h7⟩
    · exact h2 h6
    · subst h6
      obtain ⟨⟨h8, _⟩, _⟩ := h3
      refine hmin z h7 h8 ?_
      by_cases r0 : r = 0
      · subst r0
        exact .inl ⟨rfl, h4⟩
      · refine .inr ⟨by omega, h4, fun s hs1 hs2 hw => ?_⟩
        rcases h.left with ⟨h9, _⟩ | h9
        · omega
        · exact h9.2.2 (s + 1) (by omega) (by omega) ((wk_first hb).2 ⟨z, h5, ⟨h8, (rwk_wk ha _ _ h.walk).2⟩, hw⟩)
theorem DownI.least {g : Nat → Nat → Int} {n a b x : Nat} {u : List Nat} (h : DownI g n a b x u 0) : x = b ∧ Least g n a b u := by
  rcases h.left with ⟨_, rfl, hne⟩ | h1
  · refine ⟨rfl, h.walk, hne, fun q hq hq0 => ?_⟩
    rcases h.first q hq hq0 with h2 | ⟨_, h2⟩
    · exact sle_of_lt (slt_len (by simp; omega))
    · exact h2
  · exact absurd h1.1 (by omega)
/-- There is a state where the way down goes on. -/
theorem wkMin_due {g : Nat → Nat → Int} {n b x r : Nat} (hb : b < n) (h : wkMin g n b (r + 1) x) : ∃ k, k < n ∧ 0 < g x k ∧ ((r = 0 ∧ k = b) ∨ wkMin g n b r k) := by
  by_cases r0 : r = 0
  · subst r0
    obtain ⟨k, hk, ⟨h1, _⟩, h2⟩ := (wk_first hb).1 h.2.1
    exact ⟨k, hk, h1, .inl ⟨rfl, h2⟩⟩
  · obtain ⟨k, hk, h1, h2⟩ := wkMin_next hb h (by omega)
    exact ⟨k, hk, h1, .inr h2⟩

end Go.Proofs.Ytblippeklbhepaa

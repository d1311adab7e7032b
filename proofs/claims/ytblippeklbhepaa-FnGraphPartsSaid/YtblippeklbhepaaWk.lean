/- Walks of a graph, as a relation: where the numbers of walks are positive; walks and reaching; counting states. Plain laws, no program in sight. -/
import Derived.Test.YtblippeklbhepaaWalks
import Derived.Test.YtblippeklbhepaaReach
namespace Go.Proofs.Ytblippeklbhepaa
open Go.RowKit

/-- There is a walk of t steps from i to j, through states less than n. -/
def wk (g : Nat → Nat → Int) (n : Nat) : Nat → Nat → Nat → Prop
  | 0 => fun i j => i = j
  | t + 1 => fun i j => ∃ k, k < n ∧ wk g n t i k ∧ 0 < g k j
theorem wk_succ {g : Nat → Nat → Int} {n t i j : Nat} : wk g n (t + 1) i j ↔ ∃ k, k < n ∧ wk g n t i k ∧ 0 < g k j := Iff.rfl
theorem wk_add {g : Nat → Nat → Int} {n s i k : Nat} (h : wk g n s i k) (_hk : k < n) : ∀ {t j}, wk g n t k j → wk g n (s + t) i j := by
  intro t
  induction t with
  | zero => intro j h2; cases h2; exact h
  | succ t ih =>
    intro j h2
    obtain ⟨m, hm, h3, h4⟩ := h2
    exact ⟨m, hm, ih h3, h4⟩
theorem wk_pre {g : Nat → Nat → Int} {n i : Nat} (_hi : i < n) : ∀ {b a j}, j < n → wk g n (a + b) i j → ∃ k, k < n ∧ wk g n a i k := by
  intro b
  induction b with
  | zero => intro a j hj h; exact ⟨j, hj, h⟩
  | succ b ih =>
    intro a j hj h
    obtain ⟨k, hk, h1, _⟩ := h
    exact ih hk h1

/-- Where the capped sum of products is positive. -/
theorem pwS_pos {o g : Nat → Nat → Int} {most : Int} {n i c : Nat} (h0 : 1 ≤ most) (hb : most ≤ 1000000001) (ho : ∀ k, k < n → 0 ≤ o i k ∧ o i k ≤ most) (hg : ∀ k, k < n → 0 ≤ g k c ∧ g k c ≤ 9) :
    ∀ k, k ≤ n → (0 < pwS o g most i c k ↔ ∃ m, m < k ∧ 0 < o i m ∧ 0 < g m c) := by
  intro k
  induction k with
  | zero => intro _; constructor
            · intro h; exact absurd h (by show ¬ (0 : Int) < 0; omega)
            · rintro ⟨m, hm, _⟩; omega
  | succ k ih =>
    intro hk
    have h1 := pwS_bd (by omega) hb ho hg k (by omega)
    have h2 := ih (by omega)
    have h3 := h1.2 (by omega)
    have h4 := ho k (by omega)
    have h5 := hg k (by omega)
    have h6 : 0 ≤ o i k * g k c := Int.mul_nonneg h4.1 h5.1
    have h7 : 0 < o i k * g k c ↔ 0 < o i k ∧ 0 < g k c := by
      constructor
      · intro q
        refine ⟨?_, ?_⟩
        · apply Decidable.byContradiction; intro r
          have : o i k = 0 := by omega
          rw [this] at q; simp at q
        · apply Decidable.byContradiction; intro r
          have : g k c = 0 := by omega
          rw [this] at q; simp at q
      · rintro ⟨q, r⟩; exact Int.mul_pos q r
    have h8 : 0 < pwS o g most i c (k + 1) ↔ (0 < pwS o g most i c k ∨ 0 < o i k * g k c) := by
      rw [h3]
      have := h1.1
      split <;> omega
    rw [h8, h2, h7]
    constructor
    · rintro (⟨m, hm, h⟩ | h)
      · exact ⟨m, by omega, h⟩
      · exact ⟨k, by omega, h⟩
    · rintro ⟨m, hm, h⟩
      by_cases e : m = k
      · subst e; exact .inr h
      · exact .inl ⟨m, by omega, h⟩
theorem pwE_pos {g : Nat → Nat → Int} {most : Int} {n : Nat} (h0 : 1 ≤ most) (hb : most ≤ 1000000001) (hg : ∀ i j, i < n → j < n → 0 ≤ g i j ∧ g i j ≤ 9) : ∀ t i j, i < n → j < n → (0 < pwE g most n t i j ↔ wk g n t i j) := by
  intro t
  induction t with
  | zero => intro i j _ _; show 0 < (if i = j then (1 : Int) else 0) ↔ i = j; split <;> simp_all
  | succ t ih =>
    intro i j hi hj
    rw [pwE_succ, pwS_pos h0 hb (fun k hk => pwE_bd h0 hb hg t i k hi hk) (fun k hk => hg k j hk hj) n (Nat.le_refl _), wk_succ]
    constructor
    · rintro ⟨m, hm, h1, h2⟩; exact ⟨m, hm, (ih i m hi hm).1 h1, h2⟩
    · rintro ⟨m, hm, h1, h2⟩; exact ⟨m, hm, (ih i m hi hm).2 h1, h2⟩
theorem pwG_pos {g : List (List Int)} (h : graphB g = true) {t i j : Nat} (hi : i < g.length) (hj : j < g.length) : 0 < pwG g t i j ↔ wk (ent g) g.length t i j := by
  obtain ⟨_, _, _, hent⟩ := graphB_true h
  exact pwE_pos (by omega) (by omega) hent t i j hi hj

/-- Reaching is: a walk of at least one step. -/
theorem rcB_wk {g : List (List Int)} {i j : Nat} (hi : i < g.length) (hj : j < g.length) (h : rcB g i j = true) : ∃ t, wk (ent g) g.length (t + 1) i j := by
  refine rcB_min (fun i j => ∃ t, wk (ent g) g.length (t + 1) i j) (fun i j hi _ h => ⟨0, i, hi, rfl, h⟩) ?_ hi hj h
  rintro i m j _ hm _ ⟨s, h1⟩ ⟨t, h2⟩
  exact ⟨s + 1 + t, by have := wk_add h1 hm h2; rw [show s + 1 + (t + 1) = s + 1 + t + 1 by omega] at this; exact this⟩
theorem wk_rcB {g : List (List Int)} {i : Nat} : ∀ {t j}, wk (ent g) g.length (t + 1) i j → rcB g i j = true := by
  intro t
  induction t with
  | zero =>
    intro j h
    obtain ⟨k, hk, h1, h2⟩ := h
    cases h1
    exact rcB_edge h2
  | succ t ih =>
    intro j h
    obtain ⟨k, hk, h1, h2⟩ := h
    exact rcB_trans hk (ih h1) (rcB_edge h2)

/-- How many numbers less than n have a property. -/
def cnt (p : Nat → Bool) : Nat → Nat
  | 0 => 0
  | k + 1 => cnt p k + if p k = true then 1 else 0
theorem cnt_le (p : Nat → Bool) : ∀ n, cnt p n ≤ n := by
  intro n
  induction n with
  | zero => exact Nat.le_refl _
  | succ n ih => show cnt p n + _ ≤ n + 1; split <;> omega
theorem cnt_mono {p q : Nat → Bool} : ∀ n, (∀ i, i < n → p i = true → q i = true) → cnt p n ≤ cnt q n := by
  intro n
  induction n with
  | zero => intro _; exact Nat.le_refl _
  | succ n ih =>
    intro h
    have h1 := ih (fun i hi => h i (by omega))
    have h2 := h n (by omega)
    show cnt p n + (if p n = true then 1 else 0) ≤ cnt q n + (if q n = true then 1 else 0)
    by_cases e : p n = true
    · rw [if_pos e, if_pos (h2 e)]; omega
    · rw [if_neg e]; omega
theorem cnt_lt {p q : Nat → Bool} {a : Nat} : ∀ n, (∀ i, i < n → p i = true → q i = true) → a < n → p a = false → q a = true → cnt p n < cnt q n := by
  intro n
  induction n with
  | zero => intro _ h; omega
  | succ n ih =>
    intro h ha hp hq
    show cnt p n + (if p n = true then 1 else 0) < cnt q n + (if q n = true then 1 else 0)
    by_cases e : a = n
    · subst e
      have h1 := cnt_mono a (fun i hi => h i (by omega))
      rw [hp, hq]; simp; omega
    · have h1 := ih (fun i hi => h i (by omega)) (by omega) hp hq
      have h2 := h n (by omega)
      by_cases e2 : p n = true
      · rw [if_pos e2, if_pos (h2 e2)]; omega
      · rw [if_neg e2]; omega

/-- No state reaches itself. -/
def nilB (g : List (List Int)) : Bool := (List.range g.length).all fun i => !rcB g i i
theorem nilB_true {g : List (List Int)} : nilB g = true ↔ ∀ i, i < g.length → rcB g i i = false := by simp [nilB]
theorem acyclic_len {g : List (List Int)} (h : nilB g = true) {i : Nat} (_hi : i < g.length) : ∀ t j, j < g.length → wk (ent g) g.length t i j → t ≤ cnt (fun m => rcB g m j) g.length := by
  rw [nilB_true] at h
  intro t
  induction t with
  | zero => intro j _ _; exact Nat.zero_le _
  | succ t ih =>
    intro j hj hw
    obtain ⟨k, hk, h1, h2⟩ := hw
    have h3 := ih k hk h1
    have h4 := cnt_lt (p := fun m => rcB g m k) (q := fun m => rcB g m j) (a := k) g.length (fun m _ hm => rcB_trans hk hm (rcB_edge h2)) hk (h k hk) (rcB_edge h2)
    omega
theorem nilB_walks {g : List (List Int)} (hg : graphB g = true) : nilB g = true ↔ ∀ i j, i < g.length → j < g.length → pwG g g.length i j = 0 := by
  have hb := pwG_bd hg g.length
  constructor
  · intro h i j hi hj
    have h1 := hb i j hi hj
    apply Decidable.byContradiction
    intro q
    have hw := (pwG_pos hg (t := g.length) hi hj).1 (by omega)
    have h2 := acyclic_len h hi _ j hj hw
    have h3 := cnt_lt (p := fun m => rcB g m j) (q := fun _ => true) (a := j) g.length (fun _ _ _ => rfl) hj ((nilB_true.1 h) j hj) rfl
    have h4 := cnt_le (fun _ => true) g.length
    omega
  · intro h
    rw [nilB_true]
    intro i hi
    cases hr : rcB g i i with
    | false => rfl
    | true =>
      exfalso
      obtain ⟨t, ht⟩ := rcB_wk hi hi hr
      have hrep : ∀ k, wk (ent g) g.length (k * (t + 1)) i i := by
        intro k
        induction k with
        | zero => rw [Nat.zero_mul]; exact rfl
        | succ k ih => rw [Nat.add_mul, Nat.one_mul]; exact wk_add ih hi ht
      have h1 := hrep g.length
      have e : g.length * (t + 1) = g.length + g.length * t := by rw [Nat.mul_add, Nat.mul_one]; omega
      rw [e] at h1
      obtain ⟨k, hk, h2⟩ := wk_pre hi hi h1
      have h3 := (pwG_pos hg (t := g.length) hi hk).2 h2
      have h4 := h i k hi hk
      omega

end Go.Proofs.Ytblippeklbhepaa

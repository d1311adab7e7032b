/- Least numbers of steps of walks, and the program's relaxation of them; periods as common divisors. Plain laws, no program in sight. -/
import Derived.Test.YtblippeklbhepaaWk
namespace Go.Proofs.Ytblippeklbhepaa
open Go.RowKit

theorem wk_first {g : Nat → Nat → Int} {n i : Nat} : ∀ {t j}, j < n → (wk g n (t + 1) i j ↔ ∃ k, k < n ∧ (0 < g i k ∧ (i < n)) ∧ wk g n t k j) := by
  intro t
  induction t with
  | zero =>
    intro j hj
    constructor
    · rintro ⟨k, hk, h1, h2⟩; cases h1; exact ⟨j, hj, ⟨h2, hk⟩, rfl⟩
    · rintro ⟨k, hk, ⟨h1, h2⟩, h3⟩; cases h3; exact ⟨i, h2, rfl, h1⟩
  | succ t ih =>
    intro j hj
    constructor
    · rintro ⟨m, hm, h1, h2⟩
      obtain ⟨k, hk, h3, h4⟩ := (ih hm).1 h1
      exact ⟨k, hk, h3, ⟨m, hm, h4, h2⟩⟩
    · rintro ⟨k, hk, h1, ⟨m, hm, h2, h3⟩⟩
      exact ⟨m, hm, (ih hm).2 ⟨k, hk, h1, h2⟩, h3⟩

/-- There is a walk of 1 to t steps from i to j. -/
def wkUp (g : Nat → Nat → Int) (n j : Nat) (t i : Nat) : Prop := ∃ s, 1 ≤ s ∧ s ≤ t ∧ wk g n s i j
/-- A walk, and none with fewer steps (but at least one). -/
def wkMin (g : Nat → Nat → Int) (n j : Nat) (t i : Nat) : Prop := 1 ≤ t ∧ wk g n t i j ∧ ∀ s, 1 ≤ s → s < t → ¬ wk g n s i j
theorem wkMin_of {g : Nat → Nat → Int} {n i j : Nat} : ∀ t, 1 ≤ t → wk g n t i j → ∃ s, s ≤ t ∧ wkMin g n j s i := by
  intro t
  induction t using Nat.strongRecOn with
  | _ t ih =>
    intro h1 hw
    by_cases h : ∃ s, 1 ≤ s ∧ s < t ∧ wk g n s i j
    · obtain ⟨s, a, b, c⟩ := h
      obtain ⟨r, d, e⟩ := ih s b a c
      exact ⟨r, by omega, e⟩
    · exact ⟨t, Nat.le_refl _, h1, hw, fun s a b c => h ⟨s, a, b, c⟩⟩
theorem wkMin_unique {g : Nat → Nat → Int} {n i j s t : Nat} (h : wkMin g n j s i) (h' : wkMin g n j t i) : s = t := by
  apply Decidable.byContradiction
  intro e
  rcases Nat.lt_or_gt_of_ne e with q | q
  · exact h'.2.2 s h.1 q h.2.1
  · exact h.2.2 t h'.1 q h'.2.1
theorem wkMin_next {g : Nat → Nat → Int} {n i j t : Nat} (hj : j < n) (h : wkMin g n j (t + 1) i) (ht : 1 ≤ t) : ∃ k, k < n ∧ 0 < g i k ∧ wkMin g n j t k := by
  obtain ⟨_, h2, h3⟩ := h
  obtain ⟨k, hk, ⟨h4, h4'⟩, h5⟩ := (wk_first hj).1 h2
  refine ⟨k, hk, h4, ht, h5, fun s hs hst hw => h3 (s + 1) (by omega) (by omega) ((wk_first hj).2 ⟨k, hk, ⟨h4, h4'⟩, hw⟩)⟩
theorem wkMin_len {g : Nat → Nat → Int} {n j : Nat} (hj : j < n) : ∀ t i, i < n → wkMin g n j t i → t ≤ n := by
  intro t i hi h
  have key : ∀ d s, s + d = t → 1 ≤ s → ∃ k, k < n ∧ wkMin g n j s k := by
    intro d
    induction d with
    | zero => intro s e _; simp at e; subst e; exact ⟨i, hi, h⟩
    | succ d ih =>
      intro s e hs
      obtain ⟨k, hk, h1⟩ := ih (s + 1) (by omega) (by omega)
      obtain ⟨k', hk', _, h2⟩ := wkMin_next hj h1 hs
      exact ⟨k', hk', h2⟩
  have cl : ∀ s, s ≤ t → ∃ p : Nat → Bool, (∀ k, p k = true → ∃ r, r ≤ s ∧ wkMin g n j r k) ∧ s ≤ cnt p n := by
    intro s
    induction s with
    | zero => intro _; exact ⟨fun _ => false, fun k h => by simp at h, Nat.zero_le _⟩
    | succ s ih =>
      intro hs
      obtain ⟨p, h1, h2⟩ := ih (by omega)
      obtain ⟨k, hk, h3⟩ := key (t - (s + 1)) (s + 1) (by omega) (by omega)
      refine ⟨fun x => p x || decide (x = k), fun x hx => ?_, ?_⟩
      · rcases (by simpa using hx : p x = true ∨ x = k) with hx | rfl
        · obtain ⟨r, a, b⟩ := h1 x hx; exact ⟨r, by omega, b⟩
        · exact ⟨_, Nat.le_refl _, h3⟩
      · have hpk : p k = false := by
          cases e : p k with
          | false => rfl
          | true => obtain ⟨r, a, b⟩ := h1 k e; have := wkMin_unique h3 b; omega
        have := cnt_lt (p := p) (q := fun x => p x || decide (x = k)) (a := k) n (fun i _ h => by simp [h]) hk hpk (by simp)
        omega
  obtain ⟨p, _, h2⟩ := cl t (Nat.le_refl _)
  have := cnt_le p n
  omega

/-- What the relaxed numbers say: each is 0, or the steps of a walk. -/
def StOk (g : Nat → Nat → Int) (n to : Nat) (o : Nat → Int) : Prop := ∀ i, i < n → o i = 0 ∨ ∃ t : Nat, 1 ≤ t ∧ o i = t ∧ wk g n t i to
/-- State i has been told all walks of at most t steps. -/
def StDone (g : Nat → Nat → Int) (n to : Nat) (o : Nat → Int) (t i : Nat) : Prop := ∀ s, 1 ≤ s → s ≤ t → wk g n s i to → 1 ≤ o i ∧ o i ≤ s
/-- State i has been told all walks of at most t + 1 steps whose first arrow leads to a state less than k. -/
def StRow (g : Nat → Nat → Int) (n to : Nat) (o : Nat → Int) (t i k : Nat) : Prop := ∀ s m, s ≤ t → m < k → 0 < g i m → wk g n s m to → 1 ≤ o i ∧ o i ≤ (s : Int) + 1
/-- What state k offers: a walk by it. -/
def cnd (to : Nat) (o : Nat → Int) (k : Nat) : Int := if k = to then 1 else o k + 1
/-- One relaxation. -/
def rlx (g : Nat → Nat → Int) (to : Nat) (o : Nat → Int) (i k : Nat) : Int := if 0 < g i k ∧ (k = to ∨ 0 < o k) ∧ (o i = 0 ∨ cnd to o k < o i) then cnd to o k else o i
theorem rlx_cases (g : Nat → Nat → Int) (to : Nat) (o : Nat → Int) (i k : Nat) :
    ((0 < g i k ∧ (k = to ∨ 0 < o k) ∧ (o i = 0 ∨ cnd to o k < o i)) ∧ rlx g to o i k = cnd to o k) ∨ (¬ (0 < g i k ∧ (k = to ∨ 0 < o k) ∧ (o i = 0 ∨ cnd to o k < o i)) ∧ rlx g to o i k = o i) := by
  unfold rlx
  by_cases h : 0 < g i k ∧ (k = to ∨ 0 < o k) ∧ (o i = 0 ∨ cnd to o k < o i)
  · exact .inl ⟨h, if_pos h⟩
  · exact .inr ⟨h, if_neg h⟩
theorem cnd_cases (to : Nat) (o : Nat → Int) (k : Nat) : (k = to ∧ cnd to o k = 1) ∨ (k ≠ to ∧ cnd to o k = o k + 1) := by
  unfold cnd
  by_cases h : k = to
  · exact .inl ⟨h, if_pos h⟩
  · exact .inr ⟨h, if_neg h⟩
def updF (o : Nat → Int) (i : Nat) (x : Int) : Nat → Int := fun k => if k = i then x else o k
theorem updF_self (o : Nat → Int) (i : Nat) : updF o i (o i) = o := by
  funext k; unfold updF; split
  · rename_i h; rw [h]
  · rfl
theorem updF_ne {o : Nat → Int} {i k : Nat} {x : Int} (h : k ≠ i) : updF o i x k = o k := if_neg h
theorem updF_at (o : Nat → Int) (i : Nat) (x : Int) : updF o i x i = x := if_pos rfl
theorem StOk.nn {g : Nat → Nat → Int} {n to : Nat} {o : Nat → Int} {i : Nat} (h : StOk g n to o) (hi : i < n) : 0 ≤ o i := by
  rcases h i hi with h1 | ⟨t, h1, h2, _⟩ <;> omega
theorem rlx_le {g : Nat → Nat → Int} {n to : Nat} {o : Nat → Int} {i k : Nat} (h : StOk g n to o) (hi : i < n) (hk : k < n) : (o i = 0 ∨ (1 ≤ rlx g to o i k ∧ rlx g to o i k ≤ o i)) := by
  have h1 := h.nn hi
  have h2 := h.nn hk
  rcases rlx_cases g to o i k with ⟨q, e⟩ | ⟨q, e⟩ <;> rcases cnd_cases to o k with ⟨_, e'⟩ | ⟨_, e'⟩ <;> rw [e] <;> omega
theorem StOk.step {g : Nat → Nat → Int} {n to : Nat} {o : Nat → Int} {i k : Nat} (h : StOk g n to o) (hi : i < n) (hk : k < n) (hto : to < n) : StOk g n to (updF o i (rlx g to o i k)) := by
  intro x hx
  by_cases e : x = i
  · subst e
    rw [updF_at]
    rcases rlx_cases g to o x k with ⟨q, e⟩ | ⟨q, e⟩
    · rw [e]
      rcases cnd_cases to o k with ⟨e2, e'⟩ | ⟨e2, e'⟩ <;> rw [e']
      · subst e2
        exact .inr ⟨1, Nat.le_refl _, rfl, (wk_first hto).2 ⟨k, hk, ⟨q.1, hx⟩, rfl⟩⟩
      · rcases h k hk with h3 | ⟨s, h3, h4, h6⟩
        · exact absurd q.2.1 (by omega)
        · exact .inr ⟨s + 1, by omega, by omega, (wk_first hto).2 ⟨k, hk, ⟨q.1, hx⟩, h6⟩⟩
    · rw [e]; exact h x hx
  · rw [updF_ne e]; exact h x hx
theorem StDone.step {g : Nat → Nat → Int} {n to : Nat} {o : Nat → Int} {i k t x : Nat} (h : StOk g n to o) (hi : i < n) (hk : k < n) (hd : StDone g n to o t x) : StDone g n to (updF o i (rlx g to o i k)) t x := by
  intro s h1 h2 hw
  have h3 := hd s h1 h2 hw
  by_cases e : x = i
  · subst e
    rw [updF_at]
    rcases rlx_le (k := k) h hi hk with q | q <;> omega
  · rw [updF_ne e]; exact h3
theorem StRow.step {g : Nat → Nat → Int} {n to : Nat} {o : Nat → Int} {i k t : Nat} (h : StOk g n to o) (hi : i < n) (hk : k < n) (hd : StDone g n to o t k) (hr : StRow g n to o t i k) : StRow g n to (updF o i (rlx g to o i k)) t i (k + 1) := by
  intro s m hs hm hg hw
  rw [updF_at]
  have hle := rlx_le (k := k) h hi hk
  have h1 := h.nn hi
  by_cases e : m = k
  · subst e
    have h2 := h.nn hk
    rcases rlx_cases g to o i m with ⟨q, e⟩ | ⟨q, e⟩ <;> rw [e]
    · rcases cnd_cases to o m with ⟨e2, e'⟩ | ⟨e2, e'⟩ <;> rw [e']
      · omega
      · cases s with
        | zero => exact absurd hw e2
        | succ s => have := hd (s + 1) (by omega) hs hw; omega
    · rcases cnd_cases to o m with ⟨e2, e'⟩ | ⟨e2, e'⟩ <;> rw [e'] at q
      · have q1 : ¬ (o i = 0 ∨ 1 < o i) := fun r => q ⟨hg, .inl e2, r⟩
        omega
      · cases s with
        | zero => exact absurd hw e2
        | succ s =>
          have h3 := hd (s + 1) (by omega) hs hw
          have q1 : ¬ (o i = 0 ∨ o m + 1 < o i) := fun r => q ⟨hg, .inr (by omega), r⟩
          omega
  · have h3 := hr s m hs (by omega) hg hw
    rcases hle with q | q <;> omega
theorem StRow.zero {g : Nat → Nat → Int} {n to : Nat} {o : Nat → Int} {i t : Nat} : StRow g n to o t i 0 := fun _ m _ hm => absurd hm (Nat.not_lt_zero m)
theorem StRow.done {g : Nat → Nat → Int} {n to : Nat} {o : Nat → Int} {i t : Nat} (hto : to < n) (h : StRow g n to o t i n) : StDone g n to o (t + 1) i := by
  intro s h1 h2 hw
  obtain ⟨r, rfl⟩ : ∃ r, s = r + 1 := ⟨s - 1, by omega⟩
  obtain ⟨m, hm, ⟨h3, _⟩, h4⟩ := (wk_first hto).1 hw
  have := h r m (by omega) hm h3 h4
  omega
theorem StDone.zero {g : Nat → Nat → Int} {n to : Nat} {o : Nat → Int} {i : Nat} : StDone g n to o 0 i := fun s h1 h2 => absurd h2 (by omega)
/-- Numbers that are those of the shortest walks. -/
def StMin (g : Nat → Nat → Int) (n to : Nat) (o : Nat → Int) : Prop := ∀ i, i < n → (o i = 0 ∧ ∀ t, 1 ≤ t → ¬ wk g n t i to) ∨ ∃ t : Nat, o i = t ∧ t ≤ n ∧ wkMin g n to t i
theorem StMin.of {g : Nat → Nat → Int} {n to : Nat} {o : Nat → Int} (hto : to < n) (h : StOk g n to o) (hd : ∀ i, i < n → StDone g n to o n i) : StMin g n to o := by
  intro i hi
  have key : ∀ t, 1 ≤ t → wk g n t i to → ∃ s, o i = (s : Nat) ∧ s ≤ n ∧ wkMin g n to s i := by
    intro t h1 hw
    obtain ⟨s, _, h2⟩ := wkMin_of t h1 hw
    have h3 := wkMin_len hto s i hi h2
    have h4 := hd i hi s h2.1 h3 h2.2.1
    rcases h i hi with h5 | ⟨r, h5, h6, h7⟩
    · omega
    · have h8 : ¬ r < s := fun q => h2.2.2 r h5 q h7
      exact ⟨s, by omega, h3, h2⟩
  by_cases e : ∃ t, 1 ≤ t ∧ wk g n t i to
  · obtain ⟨t, h1, h2⟩ := e
    exact .inr (key t h1 h2)
  · rcases h i hi with h5 | ⟨r, h5, h6, h7⟩
    · exact .inl ⟨h5, fun t h1 h2 => e ⟨t, h1, h2⟩⟩
    · exact absurd ⟨r, h5, h7⟩ e
/-- All numbers are at most as many as there are numbers that are not 0. -/
def StB (n : Nat) (o : Nat → Int) : Prop := ∀ x, x < n → o x ≤ cnt (fun y => decide (o y ≠ 0)) n
theorem StB.le {n : Nat} {o : Nat → Int} (h : StB n o) {x : Nat} (hx : x < n) : o x ≤ n := by
  have h1 := h x hx
  have h2 := cnt_le (fun y => decide (o y ≠ 0)) n
  omega
theorem StB.step {g : Nat → Nat → Int} {n to : Nat} {o : Nat → Int} {i k : Nat} (h : StOk g n to o) (hi : i < n) (hk : k < n) (hB : StB n o) : StB n (updF o i (rlx g to o i k)) := by
  by_cases h0 : o i = 0
  · by_cases hr : rlx g to o i k = 0
    · rw [hr, ← h0, updF_self]; exact hB
    · have hc := cnt_lt (p := fun y => decide (o y ≠ 0)) (q := fun y => decide (updF o i (rlx g to o i k) y ≠ 0)) (a := i) n (fun x _ hx => by
        by_cases e : x = i
        · subst e; rw [updF_at]; exact decide_eq_true hr
        · rw [updF_ne e]; exact hx) hi (by simp [h0]) (by rw [updF_at]; exact decide_eq_true hr)
      intro x hx
      by_cases e : x = i
      · subst e
        rw [updF_at]
        have := hB k hk
        rcases rlx_cases g to o x k with ⟨q, e⟩ | ⟨q, e⟩
        · rcases cnd_cases to o k with ⟨e2, e'⟩ | ⟨e2, e'⟩ <;> omega
        · exact absurd (e.trans h0) hr
      · rw [updF_ne e]
        have := hB x hx
        omega
  · have hle := rlx_le (k := k) h hi hk
    have hc := cnt_mono (p := fun y => decide (o y ≠ 0)) (q := fun y => decide (updF o i (rlx g to o i k) y ≠ 0)) n (fun x _ hx => by
      by_cases e : x = i
      · subst e; rw [updF_at]; exact decide_eq_true (by omega)
      · rw [updF_ne e]; exact hx)
    intro x hx
    have := hB x hx
    by_cases e : x = i
    · subst e; rw [updF_at]; omega
    · rw [updF_ne e]; omega

/-- All that is known while sweep m runs, before arrow (i, k). -/
structure StI (g : Nat → Nat → Int) (n to m i k : Nat) (o : Nat → Int) : Prop where
  ok : StOk g n to o
  b : StB n o
  done : ∀ x, x < n → StDone g n to o m x
  rows : ∀ x, x < i → StDone g n to o (m + 1) x
  row : StRow g n to o m i k
theorem StI.start (g : Nat → Nat → Int) (n to : Nat) : StI g n to 0 0 0 (fun _ => 0) :=
  ⟨fun _ _ => .inl rfl, fun _ _ => Int.natCast_nonneg _, fun _ _ => StDone.zero, fun _ hx => absurd hx (Nat.not_lt_zero _), StRow.zero⟩
theorem StI.step {g : Nat → Nat → Int} {n to m i k : Nat} {o : Nat → Int} (h : StI g n to m i k o) (hi : i < n) (hk : k < n) (hto : to < n) : StI g n to m i (k + 1) (updF o i (rlx g to o i k)) :=
  ⟨h.ok.step hi hk hto, StB.step h.ok hi hk h.b, fun x hx => StDone.step h.ok hi hk (h.done x hx), fun x hx => StDone.step h.ok hi hk (h.rows x hx), StRow.step h.ok hi hk (h.done k hk) h.row⟩
theorem StI.nextRow {g : Nat → Nat → Int} {n to m i : Nat} {o : Nat → Int} (h : StI g n to m i n o) (hto : to < n) : StI g n to m (i + 1) 0 o :=
  ⟨h.ok, h.b, h.done, fun x hx => by
    by_cases e : x = i
    · subst e; exact StRow.done hto h.row
    · exact h.rows x (by omega), StRow.zero⟩
theorem StI.nextSweep {g : Nat → Nat → Int} {n to m k : Nat} {o : Nat → Int} (h : StI g n to m n k o) : StI g n to (m + 1) 0 0 o :=
  ⟨h.ok, h.b, h.rows, fun _ hx => absurd hx (Nat.not_lt_zero _), StRow.zero⟩
theorem StI.min {g : Nat → Nat → Int} {n to : Nat} {o : Nat → Int} (h : StI g n to n 0 0 o) (hto : to < n) : StMin g n to o := StMin.of hto h.ok h.done

/-- The common divisor along one row. -/
def gcR (e : Nat → Bool) (d : Nat → Int) (z : Nat) : Nat → Nat
  | 0 => z
  | k + 1 => if e k = true then Nat.gcd (d k).natAbs (gcR e d z k) else gcR e d z k
/-- .. of the whole table. -/
def gcT (n : Nat) (e : Nat → Nat → Bool) (d : Nat → Nat → Int) : Nat → Nat
  | 0 => 0
  | i + 1 => gcR (e i) (d i) (gcT n e d i) n
theorem gcR_dvd {e : Nat → Bool} {d : Nat → Int} {z : Nat} : ∀ n, gcR e d z n ∣ z ∧ ∀ k, k < n → e k = true → gcR e d z n ∣ (d k).natAbs := by
  intro n
  induction n with
  | zero => exact ⟨Nat.dvd_refl _, fun k hk => absurd hk (Nat.not_lt_zero k)⟩
  | succ n ih =>
    unfold gcR
    split
    · rename_i h
      refine ⟨Nat.dvd_trans (Nat.gcd_dvd_right _ _) ih.1, fun k hk he => ?_⟩
      by_cases q : k = n
      · subst q; exact Nat.gcd_dvd_left _ _
      · exact Nat.dvd_trans (Nat.gcd_dvd_right _ _) (ih.2 k (by omega) he)
    · rename_i h
      refine ⟨ih.1, fun k hk he => ?_⟩
      by_cases q : k = n
      · subst q; exact absurd he h
      · exact ih.2 k (by omega) he
theorem gcR_max {e : Nat → Bool} {d : Nat → Int} {z D : Nat} (hz : D ∣ z) : ∀ n, (∀ k, k < n → e k = true → D ∣ (d k).natAbs) → D ∣ gcR e d z n := by
  intro n
  induction n with
  | zero => intro _; exact hz
  | succ n ih =>
    intro h
    have h1 := ih (fun k hk => h k (by omega))
    unfold gcR
    split
    · rename_i q; exact Nat.dvd_gcd (h n (by omega) q) h1
    · exact h1
theorem gcT_dvd {n : Nat} {e : Nat → Nat → Bool} {d : Nat → Nat → Int} : ∀ m i k, i < m → k < n → e i k = true → gcT n e d m ∣ (d i k).natAbs := by
  intro m
  induction m with
  | zero => intro i k hi; exact absurd hi (Nat.not_lt_zero i)
  | succ m ih =>
    intro i k hi hk he
    by_cases q : i = m
    · subst q; exact (gcR_dvd n).2 k hk he
    · exact Nat.dvd_trans (gcR_dvd n).1 (ih i k (by omega) hk he)
theorem gcT_max {n D : Nat} {e : Nat → Nat → Bool} {d : Nat → Nat → Int} : ∀ m, (∀ i k, i < m → k < n → e i k = true → D ∣ (d i k).natAbs) → D ∣ gcT n e d m := by
  intro m
  induction m with
  | zero => intro _; exact Nat.dvd_zero _
  | succ m ih => intro h; exact gcR_max (ih (fun i k hi => h i k (by omega))) n (fun k hk he => h m k (by omega) hk he)

/-- Along a walk a potential falls by the steps, up to multiples. -/
theorem wk_tele {g : Nat → Nat → Int} {n : Nat} {D : Int} {p : Nat → Int} (h : ∀ i k, i < n → k < n → 0 < g i k → D ∣ p i + 1 - p k) {i : Nat} (_hi : i < n) : ∀ t j, j < n → wk g n t i j → D ∣ p i + t - p j := by
  intro t
  induction t with
  | zero => intro j _ hw; cases hw; have : p i + (0 : Nat) - p i = 0 := by omega
            rw [this]; exact Int.dvd_zero _
  | succ t ih =>
    intro j hj hw
    obtain ⟨k, hk, h1, h2⟩ := hw
    have := Int.dvd_add (ih k hk h1) (h k j hk hj h2)
    have e : p i + t - p k + (p k + 1 - p j) = p i + ((t + 1 : Nat) : Int) - p j := by omega
    rwa [e] at this

/-- The common divisor of an arrow's rise of a potential. -/
def perT (g : Nat → Nat → Int) (n : Nat) (p : Nat → Int) : Nat := gcT n (fun i k => decide (0 < g i k)) (fun i k => p i + 1 - p k) n
theorem perT_dvd {g : Nat → Nat → Int} {n : Nat} {p : Nat → Int} {i k : Nat} (hi : i < n) (hk : k < n) (h : 0 < g i k) : (perT g n p : Int) ∣ p i + 1 - p k :=
  Int.ofNat_dvd_left.2 (gcT_dvd n i k hi hk (decide_eq_true h))
theorem perT_max {g : Nat → Nat → Int} {n D : Nat} {p : Nat → Int} (h : ∀ i k, i < n → k < n → 0 < g i k → (D : Int) ∣ p i + 1 - p k) : D ∣ perT g n p :=
  gcT_max n (fun i k hi hk he => Int.ofNat_dvd_left.1 (h i k hi hk (of_decide_eq_true he)))
/-- Potentials by walks from state 0, and by walks to state 0, have the same common divisor. -/
theorem perT_eq {g : Nat → Nat → Int} {n : Nat} {f s : Nat → Nat} (hn : 0 < n) (hf : ∀ i, i < n → wk g n (f i) 0 i) (hs : ∀ i, i < n → wk g n (s i) i 0) (f0 : f 0 = 0) (s0 : s 0 = 0) :
    perT g n (fun i => f i) = perT g n (fun i => -(s i : Int)) := by
  apply Nat.dvd_antisymm
  · apply perT_max
    intro i k hi hk hg
    have h1 := wk_tele (D := (perT g n (fun i => f i) : Nat)) (fun i k hi hk h => perT_dvd (p := fun i => (f i : Int)) hi hk h) hi (s i) 0 hn (hs i hi)
    have h2 := wk_tele (D := (perT g n (fun i => f i) : Nat)) (fun i k hi hk h => perT_dvd (p := fun i => (f i : Int)) hi hk h) hk (s k) 0 hn (hs k hk)
    have h3 := perT_dvd (p := fun i => (f i : Int)) hi hk hg
    have h4 := Int.dvd_sub (Int.dvd_add h2 h3) h1
    simp only [f0] at h4
    have e : ((f k : Int) + s k - (0 : Nat) + (f i + 1 - f k) - (f i + s i - (0 : Nat))) = -(s i : Int) + 1 - -(s k : Int) := by omega
    rwa [e] at h4
  · apply perT_max
    intro i k hi hk hg
    have h1 := wk_tele (D := (perT g n (fun i => -(s i : Int)) : Nat)) (fun i k hi hk h => perT_dvd (p := fun i => -(s i : Int)) hi hk h) hn (f i) i hi (hf i hi)
    have h2 := wk_tele (D := (perT g n (fun i => -(s i : Int)) : Nat)) (fun i k hi hk h => perT_dvd (p := fun i => -(s i : Int)) hi hk h) hn (f k) k hk (hf k hk)
    have h3 := perT_dvd (p := fun i => -(s i : Int)) hi hk hg
    have h4 := Int.dvd_add (Int.dvd_sub h1 h2) h3
    simp only [s0] at h4
    have e : (-((0 : Nat) : Int) + f i - -(s i : Int) - (-((0 : Nat) : Int) + f k - -(s k : Int)) + (-(s i : Int) + 1 - -(s k : Int))) = (f i : Int) + 1 - f k := by omega
    rwa [e] at h4

end Go.Proofs.Ytblippeklbhepaa

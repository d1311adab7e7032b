/- Roots and texts: what FnRoots asks. Plain laws, no program in sight. -/
import Derived.Test.YtgpabfbnbmbmeaaGreatDoorPkA
import Derived.Test.YtgpabfbnbmbmeaaGreatDoorPkB
import Derived.Test.YtgpabfbnbmbmeaaGreatDoorTextR
namespace Go.Proofs.YtgpabfbnbmbmeaaGreatDoor
open Go.RowKit

theorem sgn_iff {a b : Int} (h1 : 0 < a ↔ 0 < b) (h2 : a < 0 ↔ b < 0) : sgn a = sgn b := by
  unfold sgn; simp only [h1, h2]
theorem hv_one (n : Int) : ∀ xs : List Int, hv n 1 xs = pv n xs := by
  intro xs
  rw [← scl_pv]
  congr 1
  induction xs with
  | nil => rfl
  | cons a t ih => rw [scl, ih, Int.one_pow, Int.mul_one]
theorem hv_scale (g n d : Int) : ∀ (t : List Int) (a : Int), hv (g * n) (g * d) (a :: t) = g ^ t.length * hv n d (a :: t) := by
  intro t
  induction t with
  | nil => intro a; simp [hv]
  | cons b t ih =>
    intro a
    have e0 : hv (g * n) (g * d) (a :: b :: t) = hv (g * n) (g * d) (b :: t) * (g * n) + a * (g * d) ^ (b :: t).length := rfl
    have e1 : hv n d (a :: b :: t) = hv n d (b :: t) * n + a * d ^ (b :: t).length := rfl
    rw [e0, ih b, e1, List.length_cons, Int.mul_pow, Int.pow_succ g]
    generalize hv n d (b :: t) = H
    generalize g ^ t.length = G
    generalize d ^ (t.length + 1) = D
    grind
/-- The sign is the same at a fraction in lowest terms. -/
theorem hv_low {n d m e : Int} (hd : 0 < d) (he : 0 < e) (h : n * e = m * d) (xs : List Int) : sgn (hv n d xs) = sgn (hv m e xs) := by
  match xs with
  | [] => rfl
  | a :: t =>
    have h1 := hv_scale e n d t a
    have h2 := hv_scale d m e t a
    have e1 : e * n = d * m := by grind
    rw [e1, Int.mul_comm e d, h2] at h1
    have p1 := pow_pos' he t.length
    have p2 := pow_pos' hd t.length
    generalize e ^ t.length = E at *
    generalize d ^ t.length = D at *
    generalize hv n d (a :: t) = U at *
    generalize hv m e (a :: t) = V at *
    have q : ∀ {x : Int}, 0 < x → ∀ y : Int, (0 < x * y ↔ 0 < y) ∧ (x * y < 0 ↔ y < 0) := by
      intro x hx y
      constructor
      · constructor
        · intro h
          apply Classical.byContradiction
          intro q
          have := Int.mul_nonneg (Int.le_of_lt hx) (show 0 ≤ -y by omega)
          rw [Int.mul_neg] at this
          omega
        · exact fun h => Int.mul_pos hx h
      · constructor
        · intro h
          apply Classical.byContradiction
          intro q
          have := Int.mul_nonneg (Int.le_of_lt hx) (show 0 ≤ y by omega)
          omega
        · intro h
          have := Int.mul_pos hx (show 0 < -y by omega)
          rw [Int.mul_neg] at this
          omega
    refine sgn_iff ?_ ?_
    · rw [← (q p1 U).1, ← h1, (q p2 V).1]
    · rw [← (q p1 U).2, ← h1, (q p2 V).2]
theorem poly_parts {p : List Int} (h : polyB p = true) : p.length ≤ 9 ∧ (∀ n ∈ p, -1000000 ≤ n ∧ n ≤ 1000000) ∧ (p.length = 0 ∨ nth p (p.length - 1) ≠ 0) := by
  unfold polyB allB at h
  simp only [Bool.and_eq_true, Bool.or_eq_true, decide_eq_true_eq, List.all_eq_true, inB_true, bne_iff_ne] at h
  exact ⟨h.1.1, h.1.2, h.2⟩
theorem signV_eq {p : List Int} (h : polyB p = true) {n d : Int} (hn : -30 ≤ n ∧ n ≤ 30) (hd : 0 ≤ d ∧ d ≤ 30) : signV p n d = sgn (hv n d p) := by
  obtain ⟨h1, h2, _⟩ := poly_parts h
  unfold signV
  rw [hv_in hn hd h1 h2]
theorem sgn_mul {a b : Int} : sgn a * sgn b < 0 ↔ a * b < 0 := by
  unfold sgn
  rcases Int.lt_trichotomy a 0 with ha | rfl | ha <;> rcases Int.lt_trichotomy b 0 with hb | rfl | hb
  · have := Int.mul_pos (show 0 < -a by omega) (show 0 < -b by omega)
    rw [Int.neg_mul_neg] at this
    simp [ha, hb, show ¬ (0 < a) by omega, show ¬ (0 < b) by omega]; omega
  · simp
  · have := Int.mul_neg_of_neg_of_pos ha hb
    simp [ha, hb, show ¬ (0 < a) by omega, this]
  · simp
  · simp
  · simp
  · have := Int.mul_neg_of_pos_of_neg ha hb
    simp [ha, hb, show ¬ (0 < b) by omega, this]
  · simp
  · have := Int.mul_pos ha hb
    simp [ha, hb]; omega
theorem rootTo_mem (xs : List Int) (d : Int) : ∀ (n : Nat) (x : Int), x ∈ rootTo xs d n ↔ ∃ k : Nat, k < n ∧ x = k ∧ rootB xs d k = true := by
  intro n
  induction n with
  | zero => intro x; simp [rootTo]
  | succ n ih =>
    intro x
    rw [rootTo]
    split
    · rename_i h
      rw [List.mem_append, ih, List.mem_singleton]
      constructor
      · rintro (⟨k, a, b, c⟩ | rfl)
        · exact ⟨k, by omega, b, c⟩
        · exact ⟨n, by omega, rfl, h⟩
      · rintro ⟨k, a, rfl, c⟩
        by_cases e : k = n
        · exact .inr (by rw [e])
        · exact .inl ⟨k, by omega, rfl, c⟩
    · rename_i h
      rw [ih]
      constructor
      · rintro ⟨k, a, b, c⟩; exact ⟨k, by omega, b, c⟩
      · rintro ⟨k, a, b, c⟩
        by_cases e : k = n
        · subst e; exact absurd c h
        · exact ⟨k, by omega, b, c⟩
/-- A place of the grid, as the law makes it. -/
theorem place_fact {p : List Int} (hp : polyB p = true) {k : Nat} {d : Int} (hk : k ≤ 30) (hd : 1 ≤ d ∧ d ≤ 30) : (mkR k d).2 = true ∧ I64R (mkR k d).1 ∧ SignAt_v p (mkR k d).1 = (signV p k d, true) := by
  have h0 : d ≠ 0 := by omega
  have hok := mkR_ok (x := (k : Int)) h0 (by omega) (by omega)
  have hg := mkR_good hok
  obtain ⟨l1, l2, l3, l4, l5⟩ := low_spec (x := (k : Int)) h0
  have hE : (mkR (k : Int) d).1 = (lowN k d, lowD k d) := by
    unfold mkR at hok ⊢
    split
    · rfl
    · rename_i q; rw [if_neg q] at hok; cases hok
  have hgb := goodR_bd hg
  refine ⟨hok, ⟨by unfold I64; omega, by unfold I64; omega⟩, ?_⟩
  rw [hE] at hg ⊢
  have hs : signOk p (lowN k d) (lowD k d) = true := by
    unfold signOk placeB
    rw [hp, hg, inB_true.2 (by omega)]
    simp; omega
  unfold SignAt_v
  rw [if_pos hs, signV_eq hp (by omega) (by omega), signV_eq hp (by omega) (by omega), hv_low (by omega) (by omega) l2]
theorem btw_congr {f g : Nat → Int} : ∀ n, (∀ k, k < n → ((f k * f (k + 1) < 0) ↔ (g k * g (k + 1) < 0))) → btw f n = btw g n := by
  intro n
  induction n with
  | zero => intro _; rfl
  | succ n ih =>
    intro h
    rw [btw, btw, ih (fun k hk => h k (by omega))]
    simp only [h n (by omega)]
theorem btw_le (f : Nat → Int) : ∀ n, 0 ≤ btw f n ∧ btw f n ≤ n := by
  intro n
  induction n with
  | zero => simp [btw]
  | succ n ih => rw [btw]; split <;> omega
theorem last_of {p : List Int} (hl : p.length ≠ 0) : p.getLast? = some (nth p (p.length - 1)) := by
  rw [List.getLast?_eq_getElem?, nth_eq (by omega), List.getElem?_eq_getElem (by omega)]
/-- Changes of sign at the places are no more than those of the coefficients. -/
theorem between_places {p : List Int} (hp : polyB p = true) (hl : p.length ≠ 0) {d : Int} (hd : 1 ≤ d ∧ d ≤ 30) : btw (fun k => signV p k d) 30 ≤ (SignChanges_v p).1 := by
  obtain ⟨_, _, h3⟩ := poly_parts hp
  have hz : nth p (p.length - 1) ≠ 0 := by rcases h3 with h | h; exact absurd h hl; exact h
  have h1 := between_le (d := d) (z := nth p (p.length - 1)) (xs := p) (by omega) (last_of hl) hz 30
  unfold SignChanges_v
  rw [if_pos hp]
  have e : btw (fun k => signV p k d) 30 = btw (fun k => hv k d p) 30 := btw_congr 30 fun k hk => by
    rw [signV_eq hp (by omega) (by omega), signV_eq hp (by omega) (by omega), sgn_mul]
  rw [e]
  exact h1
theorem chg_le : ∀ (t : List Int) (c l : Int), c ≤ (t.foldl chgStep (c, l)).1 ∧ (t.foldl chgStep (c, l)).1 ≤ c + t.length := by
  intro t
  induction t with
  | nil => intro c l; simp
  | cons a t ih =>
    intro c l
    rw [List.foldl_cons, List.length_cons]
    have e : chgStep (c, l) a = if a = 0 then (c, l) else (if l ≠ 0 ∧ ¬ (l < 0 ↔ a < 0) then c + 1 else c, a) := rfl
    rw [e]
    split
    · have := ih c l; omega
    · split
      · have := ih (c + 1) a; omega
      · have := ih c a; omega
theorem changes_less {p : List Int} (hl : p.length ≠ 0) : 0 ≤ (p.foldl chgStep (0, 0)).1 ∧ (p.foldl chgStep (0, 0)).1 < p.length := by
  match p with
  | [] => exact absurd rfl hl
  | a :: t =>
    rw [List.foldl_cons, List.length_cons]
    have e : ∃ l, chgStep (0, 0) a = (0, l) := by
      unfold chgStep
      split
      · exact ⟨_, rfl⟩
      · exact ⟨a, by simp⟩
    obtain ⟨l, e⟩ := e
    rw [e]
    have := chg_le t 0 l
    omega
theorem mxA_ge (xs : List Int) : ∀ k i, i < k → ((nth xs i).natAbs : Int) ≤ mxA xs k := by
  intro k
  induction k with
  | zero => intro i h; omega
  | succ k ih =>
    intro i h
    rw [mxA_succ]
    by_cases e : i = k
    · subst e; omega
    · have := ih i (by omega); omega
/-- The bound is told, and no told place lies beyond it. -/
theorem bound_fact {p : List Int} (hp : polyB p = true) (hl : p.length ≠ 0) {d : Int} (hd : 1 ≤ d ∧ d ≤ 30) :
    (RootBound_v p).2 = true ∧ (1 ≤ (RootBound_v p).1.2 ∧ (RootBound_v p).1.2 ≤ 1000000000) ∧ (0 ≤ (RootBound_v p).1.1 ∧ (RootBound_v p).1.1 ≤ 1000000000) ∧ ∀ k : Nat, k < 30 → rootB p d k = true → (k : Int) * (RootBound_v p).1.2 ≤ (RootBound_v p).1.1 * d := by
  obtain ⟨h1, h2, h3⟩ := poly_parts hp
  have hz : nth p (p.length - 1) ≠ 0 := by rcases h3 with h | h; exact absurd h hl; exact h
  have hin : ∀ i, i < p.length → -1000000 ≤ nth p i ∧ nth p i ≤ 1000000 := fun i hi => h2 _ (nth_mem hi)
  have hmx := mxA_bd (xs := p) (n := p.length) hin (p.length - 1) (by omega)
  have hzb := hin (p.length - 1) (by omega)
  have hbo : boundOk p = true := by unfold boundOk; rw [hp]; simp [hl]
  obtain ⟨z, hze⟩ : ∃ z, nth p (p.length - 1) = z := ⟨_, rfl⟩
  obtain ⟨M, hM⟩ : ∃ M, mxA p (p.length - 1) = M := ⟨_, rfl⟩
  have hX : bndX p = M + z.natAbs := by unfold bndX; rw [hze, hM]
  have hY : bndY p = z.natAbs := by unfold bndY; rw [hze]
  rw [hze] at hz hzb
  rw [hM] at hmx
  rw [RootBound_yes hbo, hX, hY]
  have h0 : (z.natAbs : Int) ≠ 0 := by omega
  have hok := mkR_ok (x := M + (z.natAbs : Int)) h0 (by omega) (by omega)
  have hg := mkR_good hok
  have hgb := goodR_bd hg
  obtain ⟨l1, l2, l3, l4, l5⟩ := low_spec (x := M + (z.natAbs : Int)) h0
  have hE : (mkR (M + (z.natAbs : Int)) (z.natAbs : Int)).1 = (lowN (M + (z.natAbs : Int)) (z.natAbs : Int), lowD (M + (z.natAbs : Int)) (z.natAbs : Int)) := by
    unfold mkR at hok ⊢
    split
    · rfl
    · rename_i q; rw [if_neg q] at hok; cases hok
  rw [hE] at hgb ⊢
  generalize lowN (M + (z.natAbs : Int)) (z.natAbs : Int) = N at *
  generalize lowD (M + (z.natAbs : Int)) (z.natAbs : Int) = D at *
  obtain ⟨Z, hZ⟩ : ∃ Z : Int, (z.natAbs : Int) = Z := ⟨_, rfl⟩
  rw [hZ] at l2 h0 hX hY
  have hZ1 : 1 ≤ Z := by omega
  have hN0 : 0 ≤ N := by
    apply Classical.byContradiction
    intro q
    have a := Int.mul_neg_of_neg_of_pos (show N < 0 by omega) (show 0 < Z by omega)
    have b := Int.mul_nonneg (show 0 ≤ M + Z by omega) (show 0 ≤ D by omega)
    omega
  refine ⟨hok, hgb.1, ⟨hN0, hgb.2.2⟩, fun k hk hr => ?_⟩
  show (k : Int) * D ≤ N * d
  apply Classical.byContradiction
  intro q
  have hq : N * d < k * D := by omega
  -- so k / d lies beyond the bound
  have hbig : (M + Z) * d < k * Z := by
    have a := Int.mul_lt_mul_of_pos_right hq (show 0 < Z by omega)
    have b : N * d * Z = (M + Z) * d * D := by grind
    have c : (k : Int) * D * Z = k * Z * D := by grind
    rw [b, c] at a
    exact Int.lt_of_mul_lt_mul_right a (by omega)
  obtain ⟨g, hgz, hg1⟩ : ∃ g : Int, z * g = Z ∧ (g = 1 ∨ g = -1) := by
    by_cases hs : 0 ≤ z
    · exact ⟨1, by omega, .inl rfl⟩
    · exact ⟨-1, by omega, .inr rfl⟩
  have hsplit : p = p.take (p.length - 1) ++ [z] := by
    have := take_nth (xs := p) (k := p.length - 1) (by omega)
    rw [hze, show p.length - 1 + 1 = p.length by omega, List.take_length] at this
    exact this
  have hxs : ∀ x, x ∈ p.take (p.length - 1) → -M ≤ x ∧ x ≤ M := by
    intro x hx
    obtain ⟨i, hi, rfl⟩ := List.getElem_of_mem hx
    rw [List.length_take] at hi
    rw [List.getElem_take, ← nth_eq (by omega)]
    have := mxA_ge p (p.length - 1) i (by omega)
    rw [hM] at this
    omega
  have sg : ∀ m : Int, (M + Z) * d ≤ m * Z → sgn (hv m d p) = g := by
    intro m hm
    have := cauchy (n := m) (d := d) (M := M) (z := z) (g := g) (by omega) hmx.1 hg1 (by omega) (by rw [hgz]; exact hm) _ hxs
    rw [← hsplit, hgz] at this
    have hp := pow_pos' (show 0 < d by omega) (p.take (p.length - 1)).length
    have hpos : 0 < Z * d ^ (p.take (p.length - 1)).length := Int.mul_pos (by omega) hp
    unfold sgn
    rcases hg1 with rfl | rfl
    · rw [if_pos (by omega)]
    · rw [if_neg (by omega), if_pos (by omega)]
  have s1 := sg k (Int.le_of_lt hbig)
  have s2 := sg ((k : Int) + 1) (by
    have : ((k : Int) + 1) * Z = k * Z + Z := by grind
    omega)
  unfold rootB at hr
  rw [signV_eq hp (by omega) (by omega), signV_eq hp (by omega) (by omega), s1, s2, decide_eq_true_iff] at hr
  rcases hg1 with rfl | rfl <;> simp at hr
theorem value_sign (q : List Int) (n : Int) : (0 < wrap64 (pv n q) ↔ signV q n 1 = 1) ∧ (wrap64 (pv n q) < 0 ↔ signV q n 1 = -1) := by
  unfold signV
  rw [hv_one]
  generalize wrap64 (pv n q) = v
  unfold sgn
  constructor <;> split <;> (try split) <;> omega
theorem polyB_small : ∀ p, polyB p = true → ∀ n ∈ p, -1000000 ≤ n ∧ n ≤ 1000000 := fun _ h => (poly_parts h).2.1
theorem parse_text {p : List Int} (hp : polyB p = true) : ParsePoly_v (textP p) = (p, true) := by
  unfold ParsePoly_v
  by_cases h0 : p = []
  · subst h0; rfl
  · have hb := read_back polyB_small rdS_itoa h0 hp
    have hne : textP p ≠ [48] := by
      intro e
      rw [e] at hb
      have : (words [48]).map rdS = [0] := by decide
      rw [this] at hb
      subst hb
      revert hp; decide
    unfold readV
    rw [if_neg hne, hb, if_pos ⟨hp, rfl⟩]
end Go.Proofs.YtgpabfbnbmbmeaaGreatDoor

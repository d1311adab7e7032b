/- Plain laws on polynomials modulo 2^64: values of sums and products; a division put together again; a shift there and back; the derivative's length. No conditions but those stated. -/
import Derived.Test.YtblippeklbhepaaPolyOps
import Derived.Test.YtblippeklbhepaaDivide
import Derived.Test.YtblippeklbhepaaShift
import Derived.Test.YtblippeklbhepaaValue
namespace Go.Proofs.Ytblippeklbhepaa
open Go.RowKit

/-- Alike modulo 2^64. -/
def Cg (a b : Int) : Prop := ∃ k : Int, a = b + 18446744073709551616 * k
theorem Cg.refl (a : Int) : Cg a a := ⟨0, by omega⟩
theorem Cg.of_eq {a b : Int} (h : a = b) : Cg a b := h ▸ Cg.refl a
theorem Cg.symm {a b : Int} (h : Cg a b) : Cg b a := by obtain ⟨k, h⟩ := h; exact ⟨-k, by omega⟩
theorem Cg.trans {a b c : Int} (h : Cg a b) (h' : Cg b c) : Cg a c := by obtain ⟨k, h⟩ := h; obtain ⟨l, h'⟩ := h'; exact ⟨k + l, by omega⟩
theorem Cg.add {a b c d : Int} (h : Cg a b) (h' : Cg c d) : Cg (a + c) (b + d) := by obtain ⟨k, h⟩ := h; obtain ⟨l, h'⟩ := h'; exact ⟨k + l, by omega⟩
theorem Cg.sub {a b c d : Int} (h : Cg a b) (h' : Cg c d) : Cg (a - c) (b - d) := by obtain ⟨k, h⟩ := h; obtain ⟨l, h'⟩ := h'; exact ⟨k - l, by omega⟩
theorem Cg.mul_left (c : Int) {a b : Int} (h : Cg a b) : Cg (c * a) (c * b) := by
  obtain ⟨k, h⟩ := h
  exact ⟨c * k, by rw [h, Int.mul_add, Int.mul_left_comm]⟩
theorem Cg.mul_right (c : Int) {a b : Int} (h : Cg a b) : Cg (a * c) (b * c) := by rw [Int.mul_comm a, Int.mul_comm b]; exact h.mul_left c
theorem Cg.mul {a b c d : Int} (h : Cg a b) (h' : Cg c d) : Cg (a * c) (b * d) := (h.mul_right c).trans (h'.mul_left b)
theorem Cg.wrap (a : Int) : Cg (wrap64 a) a := ⟨-((a + 9223372036854775808) / 18446744073709551616), by unfold wrap64; omega⟩
theorem Cg.wraps {a b : Int} (h : Cg a b) : wrap64 a = wrap64 b := by obtain ⟨k, h⟩ := h; unfold wrap64; omega
theorem Cg.small {a b : Int} (h : Cg a b) (ha : I64 a) (hb : I64 b) : a = b := by obtain ⟨k, h⟩ := h; unfold I64 at ha hb; omega
theorem wrap_I64 (a : Int) : I64 (wrap64 a) := by unfold I64 wrap64; omega

theorem nth_out {xs : List Int} {i : Nat} (h : xs.length ≤ i) : nth xs i = 0 := by unfold nth; rw [List.getElem?_eq_none h]; rfl
theorem nth_set {xs : List Int} {k i : Nat} {v : Int} : nth (xs.set k v) i = if i = k ∧ k < xs.length then v else nth xs i := by
  unfold nth
  rw [List.getElem?_set]
  by_cases e : k = i
  · subst e
    by_cases hk : k < xs.length
    · simp [hk]
    · rw [if_pos rfl, if_neg hk, if_neg (by omega), List.getElem?_eq_none (by omega)]
  · rw [if_neg e, if_neg (by omega)]
theorem nth_rep (n i : Nat) : nth (List.replicate n 0) i = 0 := by
  unfold nth
  rw [List.getElem?_replicate]
  split <;> rfl

theorem eq_up {xs ys : List Int} (h : xs.length = ys.length) (hj : ∀ j, j < xs.length → nth xs j = nth ys j) : xs = ys := by
  apply List.ext_getElem h
  intro i h1 h2
  have := hj i h1
  rwa [nth_eq h1, nth_eq h2] at this

/-! Trimming. -/
theorem trimN_pos {xs : List Int} {k : Nat} (h : 0 < trimN xs k) : nth xs (trimN xs k - 1) ≠ 0 := by
  induction k with
  | zero => simp [trimN] at h
  | succ k ih =>
    unfold trimN at h ⊢
    split
    · rename_i hz; rw [if_pos hz] at h; exact ih h
    · rename_i hz; exact hz
theorem trimN_zero {xs : List Int} {k : Nat} : ∀ i, trimN xs k ≤ i → i < k → nth xs i = 0 := by
  induction k with
  | zero => intro i _ h; omega
  | succ k ih =>
    intro i h1 h2
    unfold trimN at h1
    split at h1
    · rename_i hz
      by_cases e : i = k
      · rw [e]; exact hz
      · exact ih i h1 (by omega)
    · omega
theorem nth_take (xs : List Int) (n i : Nat) : nth (xs.take n) i = if i < n then nth xs i else 0 := by
  unfold nth
  rw [List.getElem?_take]
  split <;> rfl
/-- A trimmed list has the same coefficients. -/
theorem nth_trimZ (xs : List Int) (i : Nat) : nth (trimZ xs) i = nth xs i := by
  unfold trimZ
  rw [nth_take]
  split
  · rfl
  · rename_i h
    by_cases hl : i < xs.length
    · exact (trimN_zero i (by omega) hl).symm
    · exact (nth_out (by omega)).symm
theorem trimZ_last {xs : List Int} (h : 0 < (trimZ xs).length) : nth (trimZ xs) ((trimZ xs).length - 1) ≠ 0 := by
  have hl : (trimZ xs).length = trimN xs xs.length := by unfold trimZ; rw [List.length_take]; have := trimN_le xs xs.length; omega
  rw [nth_trimZ, hl]
  rw [hl] at h
  exact trimN_pos h
/-- Two lists without zeros at the end that have the same coefficients are one. -/
theorem ext_nth {xs ys : List Int} (hx : 0 < xs.length → nth xs (xs.length - 1) ≠ 0) (hy : 0 < ys.length → nth ys (ys.length - 1) ≠ 0) (h : ∀ i, nth xs i = nth ys i) : xs = ys := by
  have hl : xs.length = ys.length := by
    rcases Nat.lt_trichotomy xs.length ys.length with h1 | h1 | h1
    · exact absurd ((h _).symm.trans (nth_out (by omega))) (hy (by omega))
    · exact h1
    · exact absurd ((h _).trans (nth_out (by omega))) (hx (by omega))
  exact eq_up hl (fun j _ => h j)
theorem polyB_lastne {xs : List Int} (h : polyB xs = true) : 0 < xs.length → nth xs (xs.length - 1) ≠ 0 := by
  intro h0
  have hall : allB xs (-1000000) 1000000 = true := by
    cases h1 : allB xs (-1000000) 1000000
    · rw [polyB_all h1] at h; cases h
    · rfl
  rw [polyB_last (polyB_le9 h) hall h0] at h
  simpa using h
theorem polyB_bd {xs : List Int} (h : polyB xs = true) (i : Nat) : -1000000 ≤ nth xs i ∧ nth xs i ≤ 1000000 := by
  by_cases hi : i < xs.length
  · have hall : allB xs (-1000000) 1000000 = true := by
      cases h1 : allB xs (-1000000) 1000000
      · rw [polyB_all h1] at h; cases h
      · rfl
    unfold allB at hall
    rw [List.all_eq_true] at hall
    exact inB_true.1 (hall _ (nth_mem hi))
  · rw [nth_out (by omega)]; omega
/-- The trimmed list is this polynomial, if the coefficients are alike. -/
theorem ifPoly_is {xs ys : List Int} (hy : polyB ys = true) (h : ∀ i, nth xs i = nth ys i) : ifPoly xs = (ys, true) := by
  have e : trimZ xs = ys := ext_nth trimZ_last (polyB_lastne hy) (fun i => by rw [nth_trimZ]; exact h i)
  rw [ifPoly_yes (by rw [e]; exact hy), e]
theorem ifPoly_ok {xs ys : List Int} (h : ifPoly xs = (ys, true)) : polyB ys = true ∧ ∀ i, nth ys i = nth xs i := by
  cases hb : polyB (trimZ xs)
  · rw [ifPoly_no hb] at h; simp at h
  · rw [ifPoly_yes hb] at h
    simp only [Prod.mk.injEq, and_true] at h
    rw [← h]
    exact ⟨hb, nth_trimZ xs⟩

/-! Values. -/
theorem pv_nil (x : Int) : pv x [] = 0 := rfl
theorem pv_set (x : Int) {xs : List Int} {k : Nat} (h : k < xs.length) (v : Int) : pv x (xs.set k v) = pv x xs + (v - nth xs k) * x ^ k := by
  induction xs generalizing k with
  | nil => simp at h
  | cons a xs ih =>
    cases k with
    | zero => simp only [List.set_cons_zero, pv, Int.pow_zero, Int.mul_one]; show pv x xs * x + v = pv x xs * x + a + (v - a); omega
    | succ k =>
      have hk : k < xs.length := by simpa using h
      simp only [List.set_cons_succ, pv, ih hk]
      show (pv x xs + (v - nth xs k) * x ^ k) * x + a = pv x xs * x + a + (v - nth xs k) * x ^ (k + 1)
      rw [Int.add_mul, Int.pow_succ, Int.mul_assoc]; omega
theorem pv_rep (x : Int) (n : Nat) : pv x (List.replicate n 0) = 0 := by
  induction n with
  | zero => rfl
  | succ n ih => rw [List.replicate_succ, pv, ih]; omega
theorem pv_zeros (x : Int) {xs : List Int} (h : ∀ i, nth xs i = 0) : pv x xs = 0 := by
  induction xs with
  | nil => rfl
  | cons a xs ih =>
    have h0 : a = 0 := h 0
    rw [pv, ih (fun i => h (i + 1)), h0]; omega
/-- Values depend on the coefficients alone. -/
theorem pv_ext (x : Int) {xs ys : List Int} (h : ∀ i, nth xs i = nth ys i) : pv x xs = pv x ys := by
  induction xs generalizing ys with
  | nil => exact (pv_zeros x (fun i => (h i).symm)).symm
  | cons a xs ih =>
    cases ys with
    | nil => exact pv_zeros x h
    | cons b ys =>
      have h0 : a = b := h 0
      rw [pv, pv, ih (fun i => h (i + 1)), h0]
theorem pv_addTo (x : Int) {out xs : List Int} (hl : xs.length ≤ out.length) : ∀ k, k ≤ xs.length → Cg (pv x (addTo out xs k)) (pv x out + pv x (xs.take k)) := by
  intro k
  induction k with
  | zero => intro _; rw [List.take_zero, pv, Int.add_zero]; exact Cg.refl _
  | succ k ih =>
    intro hk
    have h1 := ih (by omega)
    rw [addTo, pv_set x (by rw [addTo_len]; omega), pv_take x (by omega), ← Int.add_assoc]
    refine h1.add ?_
    refine Cg.mul_right _ ?_
    have := (Cg.wrap (nth (addTo out xs k) k + nth xs k)).sub (Cg.refl (nth (addTo out xs k) k))
    refine this.trans (Cg.of_eq (by omega))
theorem pv_sum (x : Int) (p q : List Int) : Cg (pv x (sumL p q)) (pv x p + pv x q) := by
  unfold sumL
  have h1 := pv_addTo x (out := List.replicate (max p.length q.length) 0) (xs := p) (by rw [List.length_replicate]; omega) p.length (Nat.le_refl _)
  have h2 := pv_addTo x (out := addTo (List.replicate (max p.length q.length) 0) p p.length) (xs := q) (by rw [addTo_len, List.length_replicate]; omega) q.length (Nat.le_refl _)
  rw [List.take_length] at h1 h2
  rw [pv_rep, Int.zero_add] at h1
  exact h2.trans (h1.add (Cg.refl _))
theorem pv_mulIn (x : Int) {out p q : List Int} {i : Nat} (hl : i + q.length ≤ out.length) : ∀ k, k ≤ q.length → Cg (pv x (mulIn out p q i k)) (pv x out + nth p i * x ^ i * pv x (q.take k)) := by
  intro k
  induction k with
  | zero => intro _; rw [List.take_zero, pv, Int.mul_zero, Int.add_zero]; exact Cg.refl _
  | succ k ih =>
    intro hk
    have h1 := ih (by omega)
    rw [mulIn, pv_set x (by rw [mulIn_len]; omega), pv_take x (by omega), Int.mul_add, ← Int.add_assoc]
    refine h1.add ?_
    have := (Cg.wrap (nth (mulIn out p q i k) (i + k) + wrap64 (nth p i * nth q k))).sub (Cg.refl (nth (mulIn out p q i k) (i + k)))
    have h3 : Cg (wrap64 (nth (mulIn out p q i k) (i + k) + wrap64 (nth p i * nth q k)) - nth (mulIn out p q i k) (i + k)) (nth p i * nth q k) :=
      this.trans ((Cg.of_eq (by omega)).trans (Cg.wrap (nth p i * nth q k)))
    refine (h3.mul_right _).trans (Cg.of_eq ?_)
    rw [Int.pow_add]
    grind
theorem pv_mulOut (x : Int) (p q : List Int) (hq : 0 < q.length) : ∀ i, i ≤ p.length → Cg (pv x (mulOut p q i)) (pv x (p.take i) * pv x q) := by
  intro i
  induction i with
  | zero => intro _; rw [List.take_zero, pv, Int.zero_mul, mulOut, pv_rep]; exact Cg.refl _
  | succ i ih =>
    intro hi
    have h1 := ih (by omega)
    have h2 := pv_mulIn x (out := mulOut p q i) (p := p) (q := q) (i := i) (by rw [mulOut_len]; omega) q.length (Nat.le_refl _)
    rw [List.take_length] at h2
    rw [mulOut, pv_take x (by omega), Int.add_mul]
    exact h2.trans (h1.add (Cg.refl _))
theorem pv_prod (x : Int) (p q : List Int) : Cg (pv x (prodL p q)) (pv x p * pv x q) := by
  unfold prodL
  split
  · rename_i h
    rcases h with h | h
    · rw [List.eq_nil_of_length_eq_zero h]; simp [pv, Cg.refl]
    · rw [List.eq_nil_of_length_eq_zero h]; simp [pv, Cg.refl]
  · have := pv_mulOut x p q (by omega) p.length (Nat.le_refl _)
    rwa [List.take_length] at this

theorem AddPolys_ok {p q s : List Int} (h : AddPolys_v p q = (s, true)) : polyB p = true ∧ polyB q = true ∧ polyB s = true ∧ ∀ i, nth s i = nth (sumL p q) i := by
  unfold AddPolys_v at h
  split at h
  · rename_i hb
    simp only [Bool.and_eq_true] at hb
    exact ⟨hb.1, hb.2, ifPoly_ok h⟩
  · simp at h
theorem MultiplyPolys_ok {p q s : List Int} (h : MultiplyPolys_v p q = (s, true)) : polyB p = true ∧ polyB q = true ∧ polyB s = true ∧ ∀ i, nth s i = nth (prodL p q) i := by
  unfold MultiplyPolys_v at h
  split at h
  · rename_i hb
    simp only [Bool.and_eq_true] at hb
    exact ⟨hb.1, hb.2, ifPoly_ok h⟩
  · simp at h
/-- The value of a sum. -/
theorem value_sum {p q s : List Int} {x : Int} (h : AddPolys_v p q = (s, true)) (hx : inB x (-9) 9 = true) : PolyValue_v s x = (wrap64 ((PolyValue_v p x).1 + (PolyValue_v q x).1), true) := by
  obtain ⟨h1, h2, h3, h4⟩ := AddPolys_ok h
  rw [PolyValue_yes h1 hx, PolyValue_yes h2 hx, PolyValue_yes h3 hx]
  refine Prod.ext ?_ rfl
  refine Cg.wraps ?_
  rw [pv_ext x h4]
  exact (pv_sum x p q).trans ((Cg.wrap _).add (Cg.wrap _)).symm
/-- The value of a product. -/
theorem value_prod {p q s : List Int} {x : Int} (h : MultiplyPolys_v p q = (s, true)) (hx : inB x (-9) 9 = true) : PolyValue_v s x = (wrap64 ((PolyValue_v p x).1 * (PolyValue_v q x).1), true) := by
  obtain ⟨h1, h2, h3, h4⟩ := MultiplyPolys_ok h
  rw [PolyValue_yes h1 hx, PolyValue_yes h2 hx, PolyValue_yes h3 hx]
  refine Prod.ext ?_ rfl
  refine Cg.wraps ?_
  rw [pv_ext x h4]
  exact (pv_prod x p q).trans ((Cg.wrap _).mul (Cg.wrap _)).symm
/-- A value that is not told belongs to no polynomial. -/
theorem value_no {p q : List Int} {x : Int} (hx : inB x (-9) 9 = true) (h : ((PolyValue_v p x).2 && (PolyValue_v q x).2) = false) : (MultiplyPolys_v p q).2 = false ∧ (AddPolys_v p q).2 = false := by
  have : polyB p = false ∨ polyB q = false := by
    cases h1 : polyB p
    · exact .inl rfl
    · cases h2 : polyB q
      · exact .inr rfl
      · rw [PolyValue_yes h1 hx, PolyValue_yes h2 hx] at h; cases h
  rcases this with h1 | h1
  · rw [MultiplyPolys_no1 h1, AddPolys_no1 h1]; exact ⟨rfl, rfl⟩
  · rw [MultiplyPolys_no2 h1, AddPolys_no2 h1]; exact ⟨rfl, rfl⟩

/-! Coefficients of sums and products. -/
theorem nth_addTo (out xs : List Int) (k i : Nat) : nth (addTo out xs k) i = if i < k ∧ i < out.length then wrap64 (nth out i + nth xs i) else nth out i := by
  induction k with
  | zero => rw [if_neg (by omega)]; rfl
  | succ k ih =>
    rw [addTo, nth_set, addTo_len]
    by_cases e : i = k ∧ k < out.length
    · obtain ⟨rfl, hk⟩ := e
      rw [if_pos ⟨rfl, hk⟩, if_pos ⟨by omega, hk⟩, ih, if_neg (by omega)]
    · rw [if_neg e, ih]
      by_cases h : i < k ∧ i < out.length
      · rw [if_pos h, if_pos ⟨by omega, h.2⟩]
      · rw [if_neg h, if_neg (by omega)]
theorem nth_sum (p q : List Int) (i : Nat) : Cg (nth (sumL p q) i) (nth p i + nth q i) := by
  unfold sumL
  rw [nth_addTo, nth_addTo, addTo_len, List.length_replicate, nth_rep, Int.zero_add]
  by_cases h1 : i < p.length
  · rw [if_pos (show i < p.length ∧ i < max p.length q.length by omega)]
    by_cases h2 : i < q.length
    · rw [if_pos ⟨h2, by omega⟩]
      exact (Cg.wrap _).trans ((Cg.wrap _).add (Cg.refl _))
    · rw [if_neg (by omega), nth_out (xs := q) (by omega), Int.add_zero]
      exact Cg.wrap _
  · rw [if_neg (show ¬ (i < p.length ∧ i < max p.length q.length) by omega), nth_out (xs := p) (by omega)]
    by_cases h2 : i < q.length
    · rw [if_pos ⟨h2, by omega⟩]
      exact Cg.wrap _
    · rw [if_neg (by omega), nth_out (xs := q) (by omega)]
      exact Cg.refl _

/-- The sum of the first n. -/
def sm (F : Nat → Int) : Nat → Int
  | 0 => 0
  | n + 1 => sm F n + F n
theorem sm_congr {F G : Nat → Int} {n : Nat} (h : ∀ i, i < n → F i = G i) : sm F n = sm G n := by
  induction n with
  | zero => rfl
  | succ n ih => rw [sm, sm, ih (fun i hi => h i (by omega)), h n (by omega)]
theorem sm_zero {F : Nat → Int} {n : Nat} (h : ∀ i, i < n → F i = 0) : sm F n = 0 := by
  induction n with
  | zero => rfl
  | succ n ih => rw [sm, ih (fun i hi => h i (by omega)), h n (by omega)]; rfl
theorem sm_add (F : Nat → Int) (n m : Nat) : sm F (n + m) = sm F n + sm (fun i => F (n + i)) m := by
  induction m with
  | zero => simp [sm]
  | succ m ih => rw [← Nat.add_assoc, sm, ih, sm]; omega
theorem sm_front (F : Nat → Int) (n : Nat) : sm F (n + 1) = F 0 + sm (fun i => F (i + 1)) n := by
  rw [Nat.add_comm, sm_add]
  simp only [sm]
  rw [sm_congr (G := fun i => F (i + 1)) (fun i _ => by rw [Nat.add_comm])]; omega
theorem sm_rev (F : Nat → Int) : ∀ n, sm F n = sm (fun i => F (n - 1 - i)) n
  | 0 => rfl
  | n + 1 => by
    rw [sm_front (fun i => F (n + 1 - 1 - i)) n, sm, sm_rev F n, Int.add_comm]
    congr 1
    exact sm_congr (fun i hi => by congr 1; omega)
/-- What the coefficient i of a product is: the sum of the products of coefficients. -/
def cv (f g : Nat → Int) (m : Nat) : Int := sm (fun i => f i * g (m - i)) (m + 1)
theorem cv_comm (f g : Nat → Int) (m : Nat) : cv f g m = cv g f m := by
  unfold cv
  rw [sm_rev]
  refine sm_congr (fun i hi => ?_)
  rw [show m + 1 - 1 - i = m - i by omega, show m - (m - i) = i by omega, Int.mul_comm]
/-- g moved up by i. -/
def up (g : Nat → Int) (i m : Nat) : Int := if i ≤ m then g (m - i) else 0
theorem cv_up {f g : Nat → Int} {n m : Nat} (hf : ∀ i, n ≤ i → f i = 0) : sm (fun i => f i * up g i m) n = cv f g m := by
  unfold cv
  rcases Nat.le_total n (m + 1) with h | h
  · obtain ⟨d, hd⟩ := Nat.exists_eq_add_of_le h
    rw [hd, sm_add]
    rw [sm_zero (F := fun i => f (n + i) * g (m - (n + i))) (fun i _ => by rw [hf _ (Nat.le_add_right _ _), Int.zero_mul]), Int.add_zero]
    exact sm_congr (fun i hi => by unfold up; rw [if_pos (by omega)])
  · obtain ⟨d, hd⟩ := Nat.exists_eq_add_of_le h
    rw [hd, sm_add]
    rw [sm_zero (F := fun i => f (m + 1 + i) * up g (m + 1 + i) m) (fun i _ => by unfold up; rw [if_neg (by omega), Int.mul_zero]), Int.add_zero]
    exact sm_congr (fun i hi => by unfold up; rw [if_pos (by omega)])
theorem nth_mulIn {out p q : List Int} {i : Nat} (hl : i + q.length ≤ out.length) (m : Nat) : ∀ k, k ≤ q.length → Cg (nth (mulIn out p q i k) m) (nth out m + if i ≤ m ∧ m < i + k then nth p i * nth q (m - i) else 0) := by
  intro k
  induction k with
  | zero => intro _; rw [if_neg (by omega), Int.add_zero]; exact Cg.refl _
  | succ k ih =>
    intro hk
    have h1 := ih (by omega)
    rw [mulIn, nth_set, mulIn_len]
    by_cases e : m = i + k
    · subst e
      rw [if_pos ⟨rfl, by omega⟩, if_pos ⟨by omega, by omega⟩, show i + k - i = k by omega]
      rw [if_neg (by omega), Int.add_zero] at h1
      exact (Cg.wrap _).trans (h1.add (Cg.wrap _))
    · rw [if_neg (by omega)]
      by_cases h : i ≤ m ∧ m < i + k
      · rw [if_pos h] at h1
        rw [if_pos ⟨h.1, by omega⟩]; exact h1
      · rw [if_neg h] at h1
        rw [if_neg (by omega)]; exact h1
theorem up_nth (q : List Int) (i m : Nat) : up (nth q) i m = if i ≤ m ∧ m < i + q.length then nth q (m - i) else 0 := by
  unfold up
  by_cases h1 : i ≤ m
  · rw [if_pos h1]
    by_cases h2 : m < i + q.length
    · rw [if_pos ⟨h1, h2⟩]
    · rw [if_neg (by omega), nth_out (by omega)]
  · rw [if_neg h1, if_neg (by omega)]
theorem nth_mulOut (p q : List Int) (hq : 0 < q.length) (m : Nat) : ∀ i, i ≤ p.length → Cg (nth (mulOut p q i) m) (sm (fun i => nth p i * up (nth q) i m) i) := by
  intro i
  induction i with
  | zero => intro _; rw [mulOut, nth_rep]; exact Cg.refl _
  | succ i ih =>
    intro hi
    have h1 := ih (by omega)
    have h2 := nth_mulIn (out := mulOut p q i) (p := p) (q := q) (i := i) (by rw [mulOut_len]; omega) m q.length (Nat.le_refl _)
    rw [mulOut, sm]
    refine h2.trans (h1.add (Cg.of_eq ?_))
    rw [up_nth]
    split
    · rfl
    · rw [Int.mul_zero]
theorem nth_prod (p q : List Int) (m : Nat) : Cg (nth (prodL p q) m) (cv (nth p) (nth q) m) := by
  unfold prodL
  split
  · rename_i h
    refine Cg.of_eq ?_
    unfold cv
    rw [nth_out (by simp), sm_zero]
    intro i _
    rcases h with h | h
    · rw [nth_out (xs := p) (by omega), Int.zero_mul]
    · rw [nth_out (xs := q) (by omega), Int.mul_zero]
  · have h1 := nth_mulOut p q (by omega) m p.length (Nat.le_refl _)
    rw [cv_up (fun i hi => nth_out hi)] at h1
    exact h1

/-! A division put together again. -/
theorem nth_dvIn {rest q : List Int} {i : Nat} {n : Int} (hl : i + q.length ≤ rest.length) (m : Nat) : ∀ k, k ≤ q.length → nth (dvIn rest q i n k) m = if i ≤ m ∧ m < i + k then wrap64 (nth rest m - wrap64 (n * nth q (m - i))) else nth rest m := by
  intro k
  induction k with
  | zero => intro _; rw [if_neg (by omega)]; rfl
  | succ k ih =>
    intro hk
    have h1 := ih (by omega)
    rw [dvIn, nth_set, dvIn_len]
    by_cases e : m = i + k
    · subst e
      rw [if_pos ⟨rfl, by omega⟩, if_pos ⟨by omega, by omega⟩, show i + k - i = k by omega, h1, if_neg (by omega)]
    · rw [if_neg (by omega), h1]
      by_cases h : i ≤ m ∧ m < i + k
      · rw [if_pos h, if_pos ⟨h.1, by omega⟩]
      · rw [if_neg h, if_neg (by omega)]
/-- After J rounds: the quotient so far times q, and the rest, are p; the rest has zeros where the quotient is known. -/
theorem dvOut_law {p q : List Int} (hq : 0 < q.length) (hm : nth q (q.length - 1) = 1) : ∀ J, J ≤ dvM p q → ∀ rest quo, dvOut p q (dvM p q) J = some (rest, quo) →
    (∀ i, i < dvM p q - J → nth quo i = 0) ∧ (∀ m, Cg (sm (fun i => nth quo i * up (nth q) i m) (dvM p q) + nth rest m) (nth p m)) ∧ (∀ m, dvM p q - J + q.length ≤ m + 1 → nth rest m = 0) ∧ (∀ i, -1000000 ≤ nth quo i ∧ nth quo i ≤ 1000000) := by
  have hM : dvM p q = p.length + 1 - q.length := rfl
  obtain ⟨M, hMM⟩ : ∃ M, dvM p q = M := ⟨_, rfl⟩
  rw [hMM] at hM ⊢
  intro J
  induction J with
  | zero =>
    intro _ rest quo h
    simp only [dvOut, Option.some.injEq, Prod.mk.injEq] at h
    obtain ⟨rfl, rfl⟩ := h
    refine ⟨fun i _ => nth_rep _ _, fun m => ?_, fun m hm => nth_out (by omega), fun i => by rw [nth_rep]; omega⟩
    rw [sm_zero (fun i _ => by rw [nth_rep, Int.zero_mul]), Int.zero_add]; exact Cg.refl _
  | succ J ih =>
    intro hJ rest quo h
    rw [dvOut] at h
    cases ho : dvOut p q M J with
    | none => rw [ho] at h; simp at h
    | some s =>
      obtain ⟨r0, q0⟩ := s
      obtain ⟨a1, a2, a3, a4⟩ := ih (by omega) r0 q0 ho
      have hlen := dvOut_len ho
      rw [ho] at h
      simp only [Option.bind_some] at h
      split at h
      · rename_i hb
        simp only [Option.some.injEq, Prod.mk.injEq] at h
        obtain ⟨h1, h2⟩ := h
        obtain ⟨n, hn⟩ : ∃ n, nth r0 (M - 1 - J + q.length - 1) = n := ⟨_, rfl⟩
        rw [hn] at h1 h2 hb
        have hbd := inB_true.1 hb
        obtain ⟨t, ht⟩ : ∃ t, M - 1 - J = t := ⟨_, rfl⟩
        rw [ht] at h1 h2 hn
        have hl1 : r0.length = p.length := hlen.1
        have hl2 : q0.length = M := hlen.2
        have hq0 : nth q0 t = 0 := a1 t (by omega)
        have hrest : ∀ m, nth rest m = if t ≤ m ∧ m < t + q.length then wrap64 (nth r0 m - wrap64 (n * nth q (m - t))) else nth r0 m := fun m => by
          rw [← h1]; exact nth_dvIn (by omega) m q.length (Nat.le_refl _)
        have hquo : ∀ i, nth quo i = if i = t then n else nth q0 i := fun i => by
          rw [← h2, nth_set]
          by_cases e : i = t
          · rw [if_pos ⟨e, by omega⟩, if_pos e]
          · rw [if_neg (by omega), if_neg e]
        refine ⟨fun i hi => ?_, fun m => ?_, fun m hm' => ?_, fun i => ?_⟩
        · rw [hquo, if_neg (by omega)]; exact a1 i (by omega)
        · -- the sum grows by n times q moved up; the rest falls by as much
          have e1 : sm (fun i => nth quo i * up (nth q) i m) M = sm (fun i => nth q0 i * up (nth q) i m) M + n * up (nth q) t m := by
            obtain ⟨d, hd⟩ := Nat.exists_eq_add_of_le (show t + 1 ≤ M by omega)
            have s1 : ∀ F : Nat → Int, sm F (t + 1) = sm F t + F t := fun F => rfl
            rw [hd, sm_add _ (t + 1), sm_add _ (t + 1), s1, s1]
            have g1 : sm (fun i => nth quo i * up (nth q) i m) t = sm (fun i => nth q0 i * up (nth q) i m) t := sm_congr (fun i hi => by rw [hquo, if_neg (by omega)])
            have g2 : sm (fun i => nth quo (t + 1 + i) * up (nth q) (t + 1 + i) m) d = sm (fun i => nth q0 (t + 1 + i) * up (nth q) (t + 1 + i) m) d := sm_congr (fun i hi => by rw [hquo, if_neg (by omega)])
            rw [g1, g2, hquo, if_pos rfl, hq0, Int.zero_mul]; omega
          rw [e1]
          have e2 : Cg (nth rest m) (nth r0 m - n * up (nth q) t m) := by
            rw [hrest, up_nth]
            by_cases hc : t ≤ m ∧ m < t + q.length
            · rw [if_pos hc, if_pos hc]; exact (Cg.wrap _).trans ((Cg.refl _).sub (Cg.wrap _))
            · rw [if_neg hc, if_neg hc, Int.mul_zero, Int.sub_zero]; exact Cg.refl _
          exact (((Cg.refl _).add e2).trans (Cg.of_eq (by omega))).trans (a2 m)
        · rw [hrest]
          by_cases hc : t ≤ m ∧ m < t + q.length
          · by_cases e : m = t + q.length - 1
            · rw [if_pos hc, show nth r0 m = n by rw [e]; exact hn, show m - t = q.length - 1 by omega, hm, Int.mul_one, wrap64_id (a := n) (by omega) (by omega), Int.sub_self]; unfold wrap64; omega
            · omega
          · rw [if_neg hc]; exact a3 m (by omega)
        · rw [hquo]
          split
          · exact hbd
          · exact a4 i
      · simp at h

theorem monic_last {q : List Int} (h : monicB q = true) : nth q (q.length - 1) = 1 := by
  unfold monicB at h
  simp only [Bool.and_eq_true, beq_iff_eq] at h
  exact h.2
theorem DivideByMonic_ok {a b d r : List Int} (h : DivideByMonic_v a b = (d, r, true)) :
    polyB a = true ∧ polyB b = true ∧ polyB d = true ∧ polyB r = true ∧ r.length < b.length ∧ ∀ m, Cg (cv (nth b) (nth d) m + nth r m) (nth a m) := by
  unfold DivideByMonic_v at h
  split at h
  · rename_i hok
    obtain ⟨h1, h2, h3, h4, -, -⟩ := dvOk_parts hok
    have hm : nth b (b.length - 1) = 1 := monic_last h3
    cases ho : dvOut a b (dvM a b) (dvM a b) with
    | none => rw [ho] at h; simp at h
    | some s =>
      obtain ⟨rest, quo⟩ := s
      rw [ho] at h
      simp only at h
      split at h
      · rename_i hp
        simp only [Bool.and_eq_true] at hp
        simp only [Prod.mk.injEq, and_true] at h
        obtain ⟨e1, e2⟩ := h
        have k1 : ifPoly quo = (d, true) := Prod.ext e1 hp.1
        have k2 : ifPoly rest = (r, true) := Prod.ext e2 hp.2
        obtain ⟨p1, n1⟩ := ifPoly_ok k1
        obtain ⟨p2, n2⟩ := ifPoly_ok k2
        obtain ⟨-, c1, c2, -⟩ := dvOut_law h4 hm (dvM a b) (Nat.le_refl _) rest quo ho
        have hql : quo.length = dvM a b := (dvOut_len ho).2
        refine ⟨h1, h2, p1, p2, ?_, fun m => ?_⟩
        · rcases Nat.lt_or_ge r.length b.length with hlt | hge
          · exact hlt
          · exact absurd ((n2 _).trans (c2 (r.length - 1) (by omega))) (polyB_lastne p2 (by omega))
        · have := c1 m
          rw [cv_up (fun i hi => nth_out (by omega)), cv_comm] at this
          rw [n2, show nth d = nth quo from funext n1]
          exact this
      · simp at h
  · simp at h
/-- A division that is told can be put together again. -/
theorem divide_back {a b d r w : List Int} (h : DivideByMonic_v a b = (d, r, true)) (hw : MultiplyPolys_v b d = (w, true)) : AddPolys_v w r = (a, true) := by
  obtain ⟨h1, h2, h3, h4, h5, h6⟩ := DivideByMonic_ok h
  obtain ⟨_, _, h7, h8⟩ := MultiplyPolys_ok hw
  rw [AddPolys_yes h7 h4]
  refine ifPoly_is h1 (fun i => ?_)
  have b1 := polyB_bd h1 i
  have b2 := polyB_bd h7 i
  have b3 := polyB_bd h4 i
  have hs : I64 (nth (sumL w r) i) := by
    unfold sumL
    rw [nth_addTo, nth_addTo, nth_rep]
    repeat' split
    all_goals first | exact wrap_I64 _ | (unfold I64; omega)
  refine Cg.small ?_ hs (by unfold I64; omega)
  refine (nth_sum w r i).trans ?_
  rw [h8]
  exact ((nth_prod b d i).add (Cg.refl _)).trans (h6 i)

/-! A shift there and back. -/
/-- f moved up by one, c in front. -/
def put0 (c : Int) (f : Nat → Int) : Nat → Int
  | 0 => c
  | i + 1 => f i
theorem put0_zero (c : Int) (f : Nat → Int) : put0 c f 0 = c := rfl
theorem put0_succ (c : Int) (f : Nat → Int) (i : Nat) : put0 c f (i + 1) = f i := rfl
/-- The coefficients of f(x + r), f of n coefficients. -/
def tay (r : Int) : Nat → (Nat → Int) → Nat → Int
  | 0, _ => fun _ => 0
  | n + 1, f => fun i => r * tay r n (fun j => f (j + 1)) i + put0 (f 0) (tay r n (fun j => f (j + 1))) i
theorem tay_s (r : Int) (n : Nat) (f : Nat → Int) (i : Nat) : tay r (n + 1) f i = r * tay r n (fun j => f (j + 1)) i + put0 (f 0) (tay r n (fun j => f (j + 1))) i := rfl
theorem tay_0 (r : Int) (f : Nat → Int) (i : Nat) : tay r 0 f i = 0 := rfl
theorem tay_cg (r : Int) : ∀ n (f g : Nat → Int), (∀ i, Cg (f i) (g i)) → ∀ i, Cg (tay r n f i) (tay r n g i)
  | 0, _, _, _, _ => Cg.refl _
  | n + 1, f, g, h, i => by
    have ih := tay_cg r n _ _ (fun i => h (i + 1))
    rw [tay_s, tay_s]
    cases i with
    | zero => exact ((ih 0).mul_left r).add (h 0)
    | succ i => exact ((ih (i + 1)).mul_left r).add (ih i)
theorem tay_lin (r s : Int) : ∀ n (f g : Nat → Int) i, tay r n (fun j => s * f j + g j) i = s * tay r n f i + tay r n g i
  | 0, _, _, _ => by simp only [tay_0]; omega
  | n + 1, f, g, i => by
    have ih := tay_lin r s n (fun j => f (j + 1)) (fun j => g (j + 1))
    rw [tay_s, tay_s, tay_s, ih]
    cases i with
    | zero => simp only [put0_zero]; grind
    | succ i => simp only [put0_succ]; rw [ih]; grind
theorem tay_out (r : Int) : ∀ n (f : Nat → Int) i, n ≤ i → tay r n f i = 0
  | 0, _, _, _ => rfl
  | n + 1, f, 0, h => by omega
  | n + 1, f, i + 1, h => by rw [tay_s, put0_succ, tay_out r n _ _ (by omega), tay_out r n _ _ (by omega)]; omega
theorem tay_more (r : Int) : ∀ n (f : Nat → Int) i, f n = 0 → tay r (n + 1) f i = tay r n f i
  | 0, f, i, h => by
    rw [tay_s, tay_0, tay_0]
    cases i with
    | zero => rw [put0_zero, h]; omega
    | succ i => rw [put0_succ, tay_0]; omega
  | n + 1, f, i, h => by
    have ih := fun i => tay_more r n (fun j => f (j + 1)) i h
    rw [tay_s r (n + 1) f i, tay_s r n f i, ih]
    cases i with
    | zero => rfl
    | succ i => rw [put0_succ, put0_succ, ih]
theorem tay_last (r : Int) : ∀ n (f : Nat → Int), tay r (n + 1) f n = f n
  | 0, f => by rw [tay_s, tay_0, put0_zero]; omega
  | n + 1, f => by
    rw [tay_s, put0_succ, tay_out r (n + 1) _ _ (by omega), tay_last r n]; omega
/-- There and back. -/
theorem tay_back (s : Int) : ∀ n (f : Nat → Int), (∀ i, n ≤ i → f i = 0) → ∀ i, tay (-s) n (tay s n f) i = f i
  | 0, f, h, i => (h i (Nat.zero_le _)).symm
  | n + 1, f, h, i => by
    have ih := tay_back s n (fun j => f (j + 1)) (fun i hi => h (i + 1) (by omega))
    obtain ⟨P, hP⟩ : ∃ P, tay s n (fun j => f (j + 1)) = P := ⟨_, rfl⟩
    rw [hP] at ih
    have hPn : P n = 0 := by rw [← hP]; exact tay_out s n _ _ (Nat.le_refl _)
    have e : tay s (n + 1) f = fun i => s * P i + put0 (f 0) P i := by
      funext i
      rw [tay_s, hP]
    rw [e, tay_lin, tay_more _ _ _ _ hPn, ih, tay_s]
    have e2 : (fun j => put0 (f 0) P (j + 1)) = P := rfl
    rw [e2, ih]
    cases i with
    | zero => rw [put0_zero, put0_zero]; grind
    | succ i => rw [put0_succ, ih]; grind
theorem nth_shIn (out : List Int) (s : Int) (i : Nat) : ∀ k, k ≤ out.length → Cg (nth (shIn out s k) i) ((if i < k then s * nth out i else 0) + (if 0 < i ∧ i ≤ k then nth out (i - 1) else 0)) := by
  intro k
  induction k with
  | zero => intro _; rw [shIn, nth_rep, if_neg (by omega), if_neg (by omega)]; exact Cg.refl _
  | succ k ih =>
    intro hk
    have h1 := ih (by omega)
    rw [shIn, nth_set, nth_set, nth_set, List.length_set, shIn_len]
    by_cases e1 : i = k + 1
    · subst e1
      rw [if_pos ⟨rfl, by omega⟩, if_neg (by omega), if_neg (by omega), if_pos ⟨by omega, by omega⟩]
      rw [if_neg (by omega), if_neg (by omega)] at h1
      exact (Cg.wrap _).trans (h1.add (Cg.refl _) |>.trans (Cg.of_eq (by simp)))
    · rw [if_neg (by omega)]
      by_cases e2 : i = k
      · subst e2
        rw [if_pos ⟨rfl, by omega⟩, if_pos (by omega)]
        rw [if_neg (by omega)] at h1
        by_cases e3 : 0 < i
        · rw [if_pos ⟨e3, by omega⟩] at h1 ⊢
          exact (Cg.wrap _).trans ((h1.add (Cg.wrap _)).trans (Cg.of_eq (by omega)))
        · rw [if_neg (by omega)] at h1 ⊢
          exact (Cg.wrap _).trans ((h1.add (Cg.wrap _)).trans (Cg.of_eq (by omega)))
      · rw [if_neg (by omega)]
        by_cases e3 : i < k
        · rw [if_pos e3] at h1
          rw [if_pos (by omega)]
          by_cases e4 : 0 < i
          · rw [if_pos ⟨e4, by omega⟩] at h1 ⊢; exact h1
          · rw [if_neg (by omega)] at h1 ⊢; exact h1
        · rw [if_neg e3, if_neg (by omega)] at h1
          rw [if_neg (by omega), if_neg (by omega)]; exact h1
theorem nth_shL (s : Int) (xs : List Int) : ∀ i, Cg (nth (shL s xs) i) (tay s xs.length (nth xs) i) := by
  induction xs with
  | nil => intro i; exact Cg.of_eq (nth_out (by simp [shL]))
  | cons c xs ih =>
    intro i
    have hf : (fun j => nth (c :: xs) (j + 1)) = nth xs := rfl
    rw [shL, shNext, nth_set, shIn_len, List.length_cons, tay_s, hf]
    obtain ⟨out, ho⟩ : ∃ out, shL s xs = out := ⟨_, rfl⟩
    rw [ho] at ih ⊢
    have hl : out.length = xs.length := by rw [← ho]; exact shL_len s xs
    have h1 := nth_shIn out s i out.length (Nat.le_refl _)
    cases i with
    | zero =>
      rw [if_pos ⟨rfl, by omega⟩]
      refine (Cg.wrap _).trans (Cg.add ?_ (Cg.of_eq rfl))
      refine h1.trans ?_
      rw [if_neg (show ¬ (0 < 0 ∧ 0 ≤ out.length) by omega), Int.add_zero]
      split
      · exact (ih 0).mul_left s
      · rename_i h
        have := (ih 0).mul_left s
        rw [nth_out (xs := out) (by omega), Int.mul_zero] at this
        exact this
    | succ i =>
      rw [if_neg (by omega), put0_succ]
      refine h1.trans (Cg.add ?_ ?_)
      · split
        · exact (ih (i + 1)).mul_left s
        · rename_i h
          have := (ih (i + 1)).mul_left s
          rw [nth_out (xs := out) (by omega), Int.mul_zero] at this
          exact this
      · rw [Nat.add_sub_cancel]
        split
        · exact ih i
        · rename_i h
          have := ih i
          rw [nth_out (xs := out) (by omega)] at this
          exact this
theorem shL_I64 (s : Int) (xs : List Int) (i : Nat) : I64 (nth (shL s xs) i) := by
  cases xs with
  | nil => rw [nth_out (by simp [shL])]; unfold I64; omega
  | cons c xs =>
    rw [shL, shNext, nth_set]
    split
    · exact wrap_I64 _
    · have : ∀ out k i, I64 (nth (shIn out s k) i) := by
        intro out k
        induction k with
        | zero => intro i; rw [shIn, nth_rep]; unfold I64; omega
        | succ k ih =>
          intro i
          rw [shIn, nth_set]
          split
          · exact wrap_I64 _
          · rw [nth_set]
            split
            · exact wrap_I64 _
            · exact ih i
      exact this _ _ _
/-- A shifted polynomial is shifted back; it has as many coefficients. -/
theorem shift_back {t h : List Int} {s : Int} (hs : ShiftPoly_v t s = (h, true)) : ShiftPoly_v h (-s) = (t, true) ∧ h.length = t.length ∧ polyB h = true ∧ inB s (-9) 9 = true := by
  unfold ShiftPoly_v at hs
  split at hs
  · rename_i hb
    simp only [Bool.and_eq_true] at hb
    obtain ⟨h1, h2⟩ := hb
    have hok := ifPoly_ok hs
    have hnz : 0 < t.length → nth (shL s t) (t.length - 1) ≠ 0 := by
      intro h0 e
      have e1 := nth_shL s t (t.length - 1)
      have e2 : tay s t.length (nth t) (t.length - 1) = nth t (t.length - 1) := by
        obtain ⟨n, hn⟩ : ∃ n, t.length = n + 1 := ⟨t.length - 1, by omega⟩
        rw [hn]; exact tay_last s n _
      rw [e2, e] at e1
      have b := polyB_bd h1 (t.length - 1)
      exact polyB_lastne h1 h0 (e1.small (by unfold I64; omega) (by unfold I64; omega)).symm
    have eh : h = shL s t := ext_nth (polyB_lastne hok.1) (by rw [shL_len]; exact hnz) hok.2
    have hl : h.length = t.length := by rw [eh, shL_len]
    have h2' : inB (-s) (-9) 9 = true := by rw [inB_true] at h2 ⊢; omega
    refine ⟨?_, hl, hok.1, h2⟩
    rw [ShiftPoly_yes hok.1 h2']
    refine ifPoly_is h1 (fun i => ?_)
    have b := polyB_bd h1 i
    refine Cg.small ?_ (shL_I64 _ _ _) (by unfold I64; omega)
    refine (nth_shL (-s) h i).trans ?_
    rw [hl, eh]
    refine (tay_cg (-s) t.length _ _ (nth_shL s t) i).trans (Cg.of_eq ?_)
    exact tay_back s t.length (nth t) (fun i hi => nth_out hi) i
  · simp at hs

/-- A derivative has one coefficient less. -/
theorem derive_len {u d : List Int} (h : DerivePoly_v u = (d, true)) (h0 : u.length ≠ 0) : d.length = u.length - 1 := by
  unfold DerivePoly_v at h
  split at h
  · rename_i hb
    have hok := ifPoly_ok h
    have hl : ∀ k, (derTo u k).length = k - 1 := by
      intro k
      induction k with
      | zero => rfl
      | succ k ih =>
        rw [derTo]
        split
        · rename_i e; rw [e]; rfl
        · rw [List.length_append, ih]; simp; omega
    have h9 := polyB_le9 hb
    obtain ⟨n, hn⟩ : ∃ n, u.length = n + 1 := ⟨u.length - 1, by omega⟩
    have hz : 0 < (derTo u u.length).length → nth (derTo u u.length) ((derTo u u.length).length - 1) ≠ 0 := by
      intro hp
      rw [hl] at hp ⊢
      rw [hn] at hp ⊢
      rw [derTo, if_neg (by omega)]
      have e : nth (derTo u n ++ [wrap64 (n * nth u n)]) (n + 1 - 1 - 1) = wrap64 (n * nth u n) := by
        unfold nth
        rw [List.getElem?_append_right (by rw [hl]; omega), hl]
        rw [show n + 1 - 1 - 1 - (n - 1) = 0 by omega]; rfl
      rw [e]
      have b := polyB_bd hb n
      have hne := polyB_lastne hb (by omega)
      rw [show u.length - 1 = n by omega] at hne
      have hn8 : (n : Int) ≤ 8 ∧ 1 ≤ (n : Int) := by omega
      have m1 : (n : Int) * nth u n ≤ 8000000 ∧ -8000000 ≤ (n : Int) * nth u n := by
        rcases Int.le_total 0 (nth u n) with hh | hh
        · have := Int.mul_le_mul hn8.1 b.2 hh (by omega); have := Int.mul_nonneg (show (0 : Int) ≤ n by omega) hh; omega
        · have a1 := Int.mul_le_mul hn8.1 (show -(nth u n) ≤ 1000000 by omega) (by omega) (by omega)
          have a2 := Int.mul_nonneg (show (0 : Int) ≤ n by omega) (show 0 ≤ -(nth u n) by omega)
          rw [Int.mul_neg] at a1 a2; omega
      rw [wrap64_id (by omega) (by omega)]
      intro e0
      rcases Int.mul_eq_zero.1 e0 with h | h
      · omega
      · exact hne h
    have : d = derTo u u.length := ext_nth (polyB_lastne hok.1) hz hok.2
    rw [this, hl]
  · simp at h

end Go.Proofs.Ytblippeklbhepaa

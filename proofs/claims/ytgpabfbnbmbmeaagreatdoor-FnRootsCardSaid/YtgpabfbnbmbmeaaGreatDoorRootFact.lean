/- What the results in FnRoots have to do with one another. Plain laws, no program in sight. -/
import Derived.Test.YtgpabfbnbmbmeaaGreatDoorRootFn
import Derived.Test.YtgpabfbnbmbmeaaGreatDoorPkB
import Derived.Test.YtgpabfbnbmbmeaaGreatDoorPkA
import Derived.Test.YtgpabfbnbmbmeaaGreatDoorTextI
namespace Go.Proofs.YtgpabfbnbmbmeaaGreatDoor
open Go.RowKit

theorem ParsePoly_le (s : Bytes) : szIntS (ParsePoly_v s).1 ≤ 1099511627776 := by
  show (ParsePoly_v s).1.length ≤ _
  unfold ParsePoly_v readV
  split
  · simp
  · split
    · rename_i q
      have := polyB_le9 q.1
      simp only
      omega
    · simp
theorem rt_three (p : List Int) : (SignChanges_v p).2 = polyB p := by
  unfold SignChanges_v; split
  · rename_i h; exact h.symm
  · rename_i h; cases hp : polyB p
    · rfl
    · exact absurd hp h
theorem rt_five (p : List Int) : (PolyText_v p).2 = polyB p := by
  unfold PolyText_v; split
  · rename_i h; exact h.symm
  · rename_i h; cases hp : polyB p
    · rfl
    · exact absurd hp h
theorem rt_text {p : List Int} (h : polyB p = true) : (PolyText_v p).1 = textP p := by unfold PolyText_v; rw [if_pos h]
theorem rt_changes {p : List Int} (h : polyB p = true) : (SignChanges_v p).1 = (p.foldl chgStep (0, 0)).1 := by unfold SignChanges_v; rw [if_pos h]
/-- The text is read back; the changes are fewer than the coefficients. -/
theorem rt_back {p : List Int} {c : Int} {t : Bytes} {three five : Bool} (h1 : SignChanges_v p = (c, three)) (h2 : PolyText_v p = (t, five)) (h : five = true) :
    ParsePoly_v t = (p, true) ∧ t.length ≤ 1048576 ∧ (p.length = 0 ∨ c < (p.length : Int)) := by
  have hp : polyB p = true := by have := rt_five p; rw [h2] at this; rw [← this]; exact h
  have ht : t = textP p := by have := rt_text hp; rw [h2] at this; exact this
  have hc : c = (p.foldl chgStep (0, 0)).1 := by have := rt_changes hp; rw [h1] at this; exact this
  refine ⟨by rw [ht]; exact parse_text hp, ?_, ?_⟩
  · rw [ht]; have := textP_len (polyB_le9 hp) (polyB_mem hp); omega
  · by_cases h0 : p.length = 0
    · exact .inl h0
    · right; rw [hc]; exact (changes_less h0).2
/-- Where places are told. -/
theorem rt_ok {p l : List Int} {d : Int} (h : RootPlaces_v p d = (l, true)) : polyB p = true ∧ p.length ≠ 0 ∧ (1 ≤ d ∧ d ≤ 30) ∧ l = rootTo p d 30 := by
  unfold RootPlaces_v at h
  split at h
  · rename_i q
    simp only [Bool.and_eq_true, decide_eq_true_eq, inB_true] at q
    exact ⟨q.1, q.2.1, q.2.2, (Prod.mk.inj h).1.symm⟩
  · cases (Prod.mk.inj h).2
theorem rt_one {p l : List Int} {d : Int} (h : RootPlaces_v p d = (l, true)) : (RootBound_v p).2 = true := by
  obtain ⟨h1, h2, h3, -⟩ := rt_ok h
  exact (bound_fact h1 h2 h3).1
/-- No root is farther away than the bound. -/
theorem rt_far {p l : List Int} {d b0 b1 : Int} {one : Bool} (h : RootPlaces_v p d = (l, true)) (hb : RootBound_v p = ((b0, b1), one)) (j : Nat) (hj : j < l.length) :
    nth l j * b1 ≤ b0 * d ∧ wrap64 (nth l j * b1) = nth l j * b1 ∧ wrap64 (b0 * d) = b0 * d := by
  obtain ⟨h1, h2, h3, h4⟩ := rt_ok h
  obtain ⟨-, b1b, b0b, hk⟩ := bound_fact h1 h2 h3
  rw [hb] at b1b b0b hk
  simp only at b1b b0b hk
  have hm : nth l j ∈ rootTo p d 30 := by rw [← h4]; exact nth_mem hj
  obtain ⟨k, hk1, hk2, hk3⟩ := (rootTo_mem p d 30 _).1 hm
  rw [hk2]
  refine ⟨hk k hk1 hk3, ?_, ?_⟩
  · have x1 : 0 ≤ (k : Int) * b1 := Int.mul_nonneg (by omega) (by omega)
    have x2 : (k : Int) * b1 ≤ 30 * b1 := Int.mul_le_mul_of_nonneg_right (by omega) (by omega)
    unfold wrap64; omega
  · have x1 : 0 ≤ b0 * d := Int.mul_nonneg (by omega) (by omega)
    have x2 : b0 * d ≤ b0 * 30 := Int.mul_le_mul_of_nonneg_left (by omega) (by omega)
    unfold wrap64; omega
theorem rt_has {p l : List Int} {d : Int} (h : RootPlaces_v p d = (l, true)) (k : Nat) (hk : k < 30) : hasJ l k = rootB p d k := by
  obtain ⟨-, -, -, h4⟩ := rt_ok h
  have hm := rootTo_mem p d 30 (k : Int)
  rw [← h4] at hm
  cases hr : rootB p d k
  · unfold hasJ
    rw [List.any_eq_false]
    intro y hy q
    simp only [decide_eq_true_eq] at q
    subst q
    obtain ⟨k', _, e, h'⟩ := hm.1 hy
    have : k' = k := by omega
    subst this
    rw [hr] at h'; cases h'
  · unfold hasJ
    rw [List.any_eq_true]
    exact ⟨k, hm.2 ⟨k, hk, rfl, hr⟩, by simp⟩
theorem rt_between {p l : List Int} {d c : Int} {three : Bool} (h : RootPlaces_v p d = (l, true)) (hc : SignChanges_v p = (c, three)) : btw (fun k => signV p k d) 30 ≤ c := by
  obtain ⟨h1, h2, h3, -⟩ := rt_ok h
  have := between_places h1 h2 h3
  rw [hc] at this
  exact this
/-- The sign is that of the value. -/
theorem rt_value {q : List Int} {n s : Int} (h : SignAt_v q (n, 1) = (s, true)) (hn : -9 ≤ n ∧ n ≤ 9) :
    ∃ z, PolyValue_v q n = (z, true) ∧ ((0 < z ∧ s = 1) ∨ (z < 0 ∧ s = -1) ∨ (z = 0 ∧ s = 0)) := by
  have hs : signOk q n 1 = true ∧ s = signV q n 1 := by
    unfold SignAt_v at h
    split at h
    · rename_i g; exact ⟨g, (Prod.mk.inj h).1.symm⟩
    · cases (Prod.mk.inj h).2
  have hp : polyB q = true := by have := hs.1; unfold signOk at this; rw [Bool.and_eq_true] at this; exact this.1
  obtain ⟨v1, v2⟩ := value_sign q n
  refine ⟨wrap64 (pv n q), PolyValue_yes hp (by rw [inB_true]; exact hn), ?_⟩
  rw [hs.2]
  rcases signV_cases q n 1 with e | e | e
  · exact .inl ⟨v1.2 e, e⟩
  · exact .inr (.inl ⟨v2.2 e, e⟩)
  · refine .inr (.inr ⟨?_, e⟩)
    rw [e] at v1 v2
    generalize wrap64 (pv n q) = z at *
    have a1 : ¬ 0 < z := fun g => by have := v1.1 g; omega
    have a2 : ¬ z < 0 := fun g => by have := v2.1 g; omega
    omega
theorem sg_mul {a b : Int} (ha : a = 1 ∨ a = -1 ∨ a = 0) (hb : b = 1 ∨ b = -1 ∨ b = 0) : IntKind.i64.wrap (a * b) = a * b ∧ wrap64 (a * b) = a * b := by
  rcases ha with rfl | rfl | rfl <;> rcases hb with rfl | rfl | rfl <;> (rw [IntKind.wrap_i64]; unfold wrap64; constructor <;> omega)
/-- All that the last loop asks of the signs. -/
theorem rt_signs {p l : List Int} {d c : Int} {three : Bool} (h : RootPlaces_v p d = (l, true)) (hc : SignChanges_v p = (c, three)) :
    ∃ sg : Nat → Int, (∀ j : Nat, signV p (j : Int) d = sg j) ∧ (∀ j : Nat, sg j = 1 ∨ sg j = -1 ∨ sg j = 0) ∧ (∀ j : Nat, j < 30 → hasJ l j = decide (sg j = 0 ∨ sg j * sg (j + 1) < 0)) ∧ btw sg 30 ≤ c :=
  ⟨fun j => signV p j d, fun _ => rfl, fun j => signV_cases p j d, fun j hj => by
    rw [rt_has h j hj]
    unfold rootB
    rfl, rt_between h hc⟩
end Go.Proofs.YtgpabfbnbmbmeaaGreatDoor

/- The image of an interval without turning points inside. Plain laws, no program in sight. -/
import Derived.Test.YtfcanpebagpdbaaGreatMarkov
import Derived.Test.YtfcanpebagpdbaaGreatCovGraph
import Derived.Test.YtfcanpebagpdbaaGreatImgLaw
namespace Go.Proofs.YtfcanpebagpdbaaGreat
open Go.RowKit

/-- A slope's sign tells which way the values go. -/
theorem sg_cases {f : List Quad} (hf : MapP f) {i : Nat} (h : i + 1 < f.length) :
    (0 ≤ sgS f i → qv (nth4 f i).2 ≤ qv (nth4 f (i + 1)).2) ∧ (sgS f i ≤ 0 → qv (nth4 f (i + 1)).2 ≤ qv (nth4 f i).2) := by
  obtain ⟨c1, c2⟩ := hf.coord i (by omega)
  obtain ⟨c3, c4⟩ := hf.coord (i + 1) h
  obtain ⟨_, s1, s2, _⟩ := slope_ok c1 c2 c3 c4 (hf.rise i h)
  have hlt := (ltB_qv (unitR_good (coordR_unit c1)) (unitR_good (coordR_unit c3))).1 (hf.rise i h)
  obtain ⟨⟨hd, _⟩, _⟩ := goodR_all s1
  unfold sgS
  generalize slopeR (nth4 f i) (nth4 f (i + 1)) = s at *
  generalize qv (nth4 f i).2 = P at *
  generalize qv (nth4 f (i + 1)).2 = Q at *
  generalize qv (nth4 f i).1 = X at *
  generalize qv (nth4 f (i + 1)).1 = Y at *
  have hpos : 0 < Y - X := by grind
  have hmul : qv s * (Y - X) = Q - P := by rw [s2, Rat.div_mul_cancel (by grind)]
  have hs : (0 ≤ s.1 → 0 ≤ qv s) ∧ (s.1 ≤ 0 → qv s ≤ 0) := by
    have h2 := ratC_pos hd
    unfold qv
    constructor
    · intro h3
      rw [rat_le_div h2, Rat.zero_mul]
      exact_mod_cast h3
    · intro h3
      rw [rat_div_le h2, Rat.zero_mul]
      exact_mod_cast h3
  have hsg : (0 ≤ sgn s.1 → 0 ≤ s.1) ∧ (sgn s.1 ≤ 0 → s.1 ≤ 0) := by
    unfold sgn
    constructor
    · intro h3
      split at h3
      · omega
      · split at h3 <;> omega
    · intro h3
      split at h3
      · omega
      · split at h3 <;> omega
  constructor
  · intro h3
    have h4 := hs.1 (hsg.1 h3)
    have := Rat.mul_nonneg h4 (Rat.le_of_lt hpos)
    grind
  · intro h3
    have h4 := hs.2 (hsg.2 h3)
    have h5 : 0 ≤ (-(qv s)) * (Y - X) := Rat.mul_nonneg (by grind) (Rat.le_of_lt hpos)
    grind

/-- X rise. -/
theorem x_rise {f : List Quad} (hf : MapP f) : ∀ j i, i < j → j < f.length → qv (nth4 f i).1 < qv (nth4 f j).1 := by
  intro j
  induction j with
  | zero => intro i h; omega
  | succ j ih =>
    intro i h hj
    have h1 := (ltB_qv (unitR_good (coordR_unit (hf.coord j (by omega)).1)) (unitR_good (coordR_unit (hf.coord (j + 1) hj).1))).1 (hf.rise j hj)
    by_cases e : i = j
    · rw [e]; exact h1
    · have := ih i (by omega) (by omega)
      grind

/-- The value at x, by any piece that has x. -/
theorem at_piece {f : List Quad} (hf : MapP f) {x : Int × Int} (hx : unitR x.1 x.2 = true) (h : atOk f x = true) {i : Nat} (hi : i + 1 < f.length) (h1 : qv (nth4 f i).1 ≤ qv x) (h2 : qv x ≤ qv (nth4 f (i + 1)).1) :
    qv (atZ f x) * (qv (nth4 f (i + 1)).1 - qv (nth4 f i).1) = qv (nth4 f i).2 * (qv (nth4 f (i + 1)).1 - qv x) + qv (nth4 f (i + 1)).2 * (qv x - qv (nth4 f i).1) := by
  obtain ⟨p1, p2, p3⟩ := piece_in hf hx
  obtain ⟨e, hlt⟩ := at_qv hf hx h
  generalize hp : pieceN f x = p at *
  rcases Nat.lt_trichotomy p i with h3 | h3 | h3
  · -- x lies at the left end of piece i
    have e2 : qv (nth4 f (p + 1)).1 ≤ qv (nth4 f i).1 := by
      by_cases q : p + 1 = i
      · rw [q]; grind
      · exact Rat.le_of_lt (x_rise hf i (p + 1) (by omega) (by omega))
    have ex : qv x = qv (nth4 f i).1 := by grind
    have q : p + 1 = i := by
      apply Nat.le_antisymm (by omega)
      apply Nat.le_of_not_lt
      intro q
      have := x_rise hf i (p + 1) q (by omega)
      grind
    rw [q] at e hlt
    have hv : qv (atZ f x) = qv (nth4 f i).2 := by
      have h4 : (qv (atZ f x) - qv (nth4 f i).2) * (qv (nth4 f i).1 - qv (nth4 f p).1) = 0 := by grind
      rcases Rat.mul_eq_zero.1 h4 with h5 | h5 <;> grind
    rw [hv, ex]; grind
  · rw [h3] at e; exact e
  · -- x lies at the right end of piece i
    have e2 : qv (nth4 f (i + 1)).1 ≤ qv (nth4 f p).1 := by
      by_cases q : i + 1 = p
      · rw [q]; grind
      · exact Rat.le_of_lt (x_rise hf p (i + 1) (by omega) (by omega))
    have ex : qv x = qv (nth4 f (i + 1)).1 := by grind
    have q : i + 1 = p := by
      apply Nat.le_antisymm (by omega)
      apply Nat.le_of_not_lt
      intro q
      have := x_rise hf p (i + 1) q (by omega)
      grind
    rw [← q] at e hlt
    have hv : qv (atZ f x) = qv (nth4 f (i + 1)).2 := by
      have h4 : (qv (atZ f x) - qv (nth4 f (i + 1)).2) * (qv (nth4 f (i + 1 + 1)).1 - qv (nth4 f (i + 1)).1) = 0 := by grind
      rcases Rat.mul_eq_zero.1 h4 with h5 | h5 <;> grind
    rw [hv, ex]; grind

theorem mono_left {f : List Quad} (hf : MapP f) {a b : Int × Int} (ha : unitR a.1 a.2 = true) (oa : atOk f a = true)
    (hno : ∀ k, 0 < k → k < f.length - 1 → qv a < qv (nth4 f k).1 → qv (nth4 f k).1 < qv b → sgS f (k - 1) = sgS f k) : ∀ j, j < f.length → qv a < qv (nth4 f j).1 → qv (nth4 f j).1 < qv b →
    (0 ≤ sgS f (j - 1) → qv (atZ f a) ≤ qv (nth4 f j).2) ∧ (sgS f (j - 1) ≤ 0 → qv (nth4 f j).2 ≤ qv (atZ f a)) := by
  intro j
  induction j with
  | zero =>
    intro _ h1
    rw [hf.first, qv_zero] at h1
    have := (unitR_qv.1 ha).2.1
    grind
  | succ j ih =>
    intro hj h1 h2
    rw [Nat.add_sub_cancel]
    have hs := sg_cases hf hj
    have hx := (ltB_qv (unitR_good (coordR_unit (hf.coord j (by omega)).1)) (unitR_good (coordR_unit (hf.coord (j + 1) hj).1))).1 (hf.rise j hj)
    rcases Rat.le_total (a := qv (nth4 f j).1) (b := qv a) with h3 | h3
    · have e := at_piece hf ha oa hj h3 (Rat.le_of_lt h1)
      constructor
      · intro h4
        exact (seg_in hx h3 (Rat.le_of_lt h1) (hs.1 h4 |> fun _ => Rat.le_refl) (hs.1 h4) (hs.1 h4) Rat.le_refl e).2
      · intro h4
        exact (seg_in hx h3 (Rat.le_of_lt h1) (hs.2 h4) Rat.le_refl Rat.le_refl (hs.2 h4) e).1
    · rcases Rat.le_iff_lt_or_eq.1 h3 with h5 | h5
      · have hj0 : 0 < j := by
          apply Nat.pos_of_ne_zero
          intro e
          subst e
          rw [hf.first, qv_zero] at h5
          have := (unitR_qv.1 ha).2.1
          grind
        have hi := ih (by omega) h5 (by grind)
        have hsg := hno j hj0 (by omega) h5 (by grind)
        rw [hsg] at hi
        constructor
        · intro h4
          have := hi.1 h4
          have := hs.1 h4
          grind
        · intro h4
          have := hi.2 h4
          have := hs.2 h4
          grind
      · have h6 : qv (nth4 f j).1 ≤ qv a := by grind
        have e := at_piece hf ha oa hj h6 (Rat.le_of_lt h1)
        constructor
        · intro h4
          exact (seg_in hx h6 (Rat.le_of_lt h1) Rat.le_refl (hs.1 h4) (hs.1 h4) Rat.le_refl e).2
        · intro h4
          exact (seg_in hx h6 (Rat.le_of_lt h1) (hs.2 h4) Rat.le_refl Rat.le_refl (hs.2 h4) e).1
theorem mono_right {f : List Quad} (hf : MapP f) {a b : Int × Int} (hb : unitR b.1 b.2 = true) (ob : atOk f b = true)
    (hno : ∀ k, 0 < k → k < f.length - 1 → qv a < qv (nth4 f k).1 → qv (nth4 f k).1 < qv b → sgS f (k - 1) = sgS f k) : ∀ m j, j + m + 1 = f.length → qv a < qv (nth4 f j).1 → qv (nth4 f j).1 < qv b →
    (0 ≤ sgS f j → qv (nth4 f j).2 ≤ qv (atZ f b)) ∧ (sgS f j ≤ 0 → qv (atZ f b) ≤ qv (nth4 f j).2) := by
  intro m
  induction m with
  | zero =>
    intro j hj _ h2
    have : j = f.length - 1 := by omega
    rw [this, hf.last, qv_one] at h2
    have := (unitR_qv.1 hb).2.2
    grind
  | succ m ih =>
    intro j hj h1 h2
    have hj1 : j + 1 < f.length := by omega
    have hs := sg_cases hf hj1
    have hx := (ltB_qv (unitR_good (coordR_unit (hf.coord j (by omega)).1)) (unitR_good (coordR_unit (hf.coord (j + 1) hj1).1))).1 (hf.rise j hj1)
    rcases Rat.le_total (a := qv b) (b := qv (nth4 f (j + 1)).1) with h3 | h3
    · have e := at_piece hf hb ob hj1 (Rat.le_of_lt h2) h3
      constructor
      · intro h4
        exact (seg_in hx (Rat.le_of_lt h2) h3 Rat.le_refl (hs.1 h4) (hs.1 h4) Rat.le_refl e).1
      · intro h4
        exact (seg_in hx (Rat.le_of_lt h2) h3 (hs.2 h4) Rat.le_refl Rat.le_refl (hs.2 h4) e).2
    · rcases Rat.le_iff_lt_or_eq.1 h3 with h5 | h5
      · have hj2 : j + 1 < f.length - 1 := by
          apply Nat.lt_of_le_of_ne (by omega)
          intro e
          rw [e, hf.last, qv_one] at h5
          have := (unitR_qv.1 hb).2.2
          grind
        have hi := ih (j + 1) (by omega) (by grind) h5
        have hsg := hno (j + 1) (by omega) hj2 (by grind) h5
        rw [Nat.add_sub_cancel] at hsg
        rw [← hsg] at hi
        constructor
        · intro h4
          have := hi.1 h4
          have := hs.1 h4
          grind
        · intro h4
          have := hi.2 h4
          have := hs.2 h4
          grind
      · have h6 : qv b ≤ qv (nth4 f (j + 1)).1 := by grind
        have e := at_piece hf hb ob hj1 (Rat.le_of_lt h2) h6
        constructor
        · intro h4
          exact (seg_in hx (Rat.le_of_lt h2) h6 Rat.le_refl (hs.1 h4) (hs.1 h4) Rat.le_refl e).1
        · intro h4
          exact (seg_in hx (Rat.le_of_lt h2) h6 (hs.2 h4) Rat.le_refl Rat.le_refl (hs.2 h4) e).2
/-- The points between do not matter. -/
theorem imS_mono {f : List Quad} (hf : MapP f) {a b : Int × Int} (ha : unitR a.1 a.2 = true) (hb : unitR b.1 b.2 = true) (oa : atOk f a = true) (ob : atOk f b = true)
    (hno : ∀ k, 0 < k → k < f.length - 1 → qv a < qv (nth4 f k).1 → qv (nth4 f k).1 < qv b → sgS f (k - 1) = sgS f k) : ∀ k, k ≤ f.length → imS f a b k = (lessR (atZ f a) (atZ f b), greatR (atZ f a) (atZ f b)) := by
  intro k
  induction k with
  | zero => intro _; exact imS_zero f a b
  | succ k ih =>
    intro hk
    have hi := ih (by omega)
    cases hm : midB a b (nth4 f k)
    · rw [imS_no hm]; exact hi
    · rw [imS_yes hm, hi]
      have ga := unitR_good ha
      have gb := unitR_good hb
      have gA := atZ_good f a
      have gB := atZ_good f b
      obtain ⟨c1, c2⟩ := hf.coord k (by omega)
      have gx := unitR_good (coordR_unit c1)
      have gy := unitR_good (coordR_unit c2)
      unfold midB at hm
      rw [Bool.and_eq_true] at hm
      have h1 := (ltB_qv ga gx).1 hm.1
      have h2 := (ltB_qv gx gb).1 hm.2
      have hk0 : 0 < k := by
        apply Nat.pos_of_ne_zero
        intro e
        subst e
        rw [hf.first, qv_zero] at h1
        have := (unitR_qv.1 ha).2.1
        grind
      have hkN : k < f.length - 1 := by
        apply Nat.lt_of_le_of_ne (by omega)
        intro e
        rw [e, hf.last, qv_one] at h2
        have := (unitR_qv.1 hb).2.2
        grind
      have hl := mono_left hf ha oa hno k (by omega) h1 h2
      have hr := mono_right hf hb ob hno (f.length - 1 - k) k (by omega) h1 h2
      rw [hno k hk0 hkN h1 h2] at hl
      have hbt : (qv (atZ f a) ≤ qv (nth4 f k).2 ∧ qv (nth4 f k).2 ≤ qv (atZ f b)) ∨ (qv (atZ f b) ≤ qv (nth4 f k).2 ∧ qv (nth4 f k).2 ≤ qv (atZ f a)) := by
        rcases Int.le_total 0 (sgS f k) with h | h
        · exact .inl ⟨hl.1 h, hr.1 h⟩
        · exact .inr ⟨hr.2 h, hl.2 h⟩
      generalize atZ f a = A at *
      generalize atZ f b = B at *
      generalize (nth4 f k).2 = Z at *
      have e1 : lessR (lessR A B) Z = lessR A B := by
        unfold lessR
        rw [if_neg]
        intro h
        split at h
        · rename_i q
          have := (ltB_qv gy gB).1 h
          have := (ltB_qv gB gA).1 q
          rcases hbt with ⟨u, v⟩ | ⟨u, v⟩ <;> grind
        · rename_i q
          have q2 := (ltB_qvf gB gA).1 (by rw [← Bool.not_eq_true]; exact q)
          have := (ltB_qv gy gA).1 h
          rcases hbt with ⟨u, v⟩ | ⟨u, v⟩ <;> grind
      have e2 : greatR (greatR A B) Z = greatR A B := by
        unfold greatR
        rw [if_neg]
        intro h
        split at h
        · rename_i q
          have := (ltB_qv gB gy).1 h
          have := (ltB_qv gA gB).1 q
          rcases hbt with ⟨u, v⟩ | ⟨u, v⟩ <;> grind
        · rename_i q
          have q2 := (ltB_qvf gA gB).1 (by rw [← Bool.not_eq_true]; exact q)
          have := (ltB_qv gA gy).1 h
          rcases hbt with ⟨u, v⟩ | ⟨u, v⟩ <;> grind
      rw [e1, e2]

end Go.Proofs.YtfcanpebagpdbaaGreat

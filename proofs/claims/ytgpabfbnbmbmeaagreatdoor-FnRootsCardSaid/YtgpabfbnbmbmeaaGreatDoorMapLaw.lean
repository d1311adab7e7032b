/- Maps of the interval: valid ones, their pieces, their values. Plain laws, no program in sight. -/
import Derived.Test.YtgpabfbnbmbmeaaGreatDoorPkA
import Derived.Test.YtgpabfbnbmbmeaaGreatDoorQuad
import Derived.Test.YtgpabfbnbmbmeaaGreatDoorPart
import Derived.Test.YtgpabfbnbmbmeaaGreatDoorPkC
namespace Go.Proofs.YtgpabfbnbmbmeaaGreatDoor
open Go.RowKit

/-- A coordinate: a fraction of 0..1 whose denominator is at most 100. -/
def coordR (r : Int × Int) : Bool := unitR r.1 r.2 && decide (r.2 ≤ 100)
def coordP (p : Quad) : Bool := coordR p.1 && coordR p.2
def xsL (f : List Quad) : List (Int × Int) := f.map fun p => p.1
/-- A map: 2 to 12 points, whose X rise strictly from 0 to 1. -/
def mapB (f : List Quad) : Bool := inB f.length 2 12 && (f.all coordP && (riseK (xsL f) f.length && (decide ((nth4 f 0).1 = (0, 1)) && decide ((nth4 f (f.length - 1)).1 = (1, 1)))))
theorem xsL_len (f : List Quad) : (xsL f).length = f.length := by simp [xsL]
theorem nthR_xsL {f : List Quad} {i : Nat} (h : i < f.length) : nthR (xsL f) i = (nth4 f i).1 := by
  rw [nthR_eq (by rw [xsL_len]; exact h), nth4_eq h]; simp [xsL]
theorem all_nth4 {f : List Quad} {p : Quad → Bool} (h : f.all p = true) {i : Nat} (hi : i < f.length) : p (nth4 f i) = true := by
  rw [List.all_eq_true] at h
  rw [nth4_eq hi]
  exact h _ (List.getElem_mem hi)
structure MapP (f : List Quad) : Prop where
  len : 2 ≤ f.length ∧ f.length ≤ 12
  coord : ∀ i, i < f.length → coordR (nth4 f i).1 = true ∧ coordR (nth4 f i).2 = true
  rise : ∀ i, i + 1 < f.length → ltB (nth4 f i).1.1 (nth4 f i).1.2 (nth4 f (i + 1)).1.1 (nth4 f (i + 1)).1.2 = true
  first : (nth4 f 0).1 = (0, 1)
  last : (nth4 f (f.length - 1)).1 = (1, 1)
theorem mapB_true {f : List Quad} (h : mapB f = true) : MapP f := by
  unfold mapB at h
  simp only [Bool.and_eq_true, inB_true, decide_eq_true_iff] at h
  obtain ⟨h1, h2, h3, h4, h5⟩ := h
  refine ⟨by omega, fun i hi => ?_, fun i hi => ?_, h4, h5⟩
  · have := all_nth4 h2 hi
    unfold coordP at this
    rw [Bool.and_eq_true] at this
    exact this
  · unfold riseK at h3
    rw [List.all_eq_true] at h3
    have := h3 i (List.mem_range.2 (by omega))
    rw [nthR_xsL (by omega), nthR_xsL hi] at this
    exact this
theorem coordR_unit {r : Int × Int} (h : coordR r = true) : unitR r.1 r.2 = true := by
  unfold coordR at h; rw [Bool.and_eq_true] at h; exact h.1
theorem unitR_good {r : Int × Int} (h : unitR r.1 r.2 = true) : goodR r.1 r.2 = true := by
  unfold unitR at h; rw [Bool.and_eq_true] at h; exact h.1
theorem coordR_bd {r : Int × Int} (h : coordR r = true) : (1 ≤ r.2 ∧ r.2 ≤ 100) ∧ 0 ≤ r.1 ∧ r.1 ≤ r.2 := by
  have h1 := coordR_unit h
  have h2 := (goodR_all (unitR_good h1)).1
  unfold coordR at h
  rw [Bool.and_eq_true, decide_eq_true_iff] at h
  unfold unitR at h1
  rw [Bool.and_eq_true, inB_true] at h1
  omega

/-- Differences of coordinates are always told. -/
theorem mul_bd {a b A B : Int} (ha : 0 ≤ a ∧ a ≤ A) (hb : 0 ≤ b ∧ b ≤ B) : 0 ≤ a * b ∧ a * b ≤ A * B :=
  ⟨Int.mul_nonneg ha.1 hb.1, Int.mul_le_mul ha.2 hb.2 hb.1 (by omega)⟩
theorem subR_coord {a b : Int × Int} (ha : coordR a = true) (hb : coordR b = true) : (subR a b).2 = true ∧ (-10000 ≤ (subR a b).1.1 ∧ (subR a b).1.1 ≤ 10000) ∧ (1 ≤ (subR a b).1.2 ∧ (subR a b).1.2 ≤ 10000) := by
  obtain ⟨h1, h2, h3⟩ := coordR_bd ha
  obtain ⟨h4, h5, h6⟩ := coordR_bd hb
  have b1 : 0 ≤ a.1 * b.2 ∧ a.1 * b.2 ≤ 100 * 100 := mul_bd (by omega) (by omega)
  have b2 : 0 ≤ b.1 * a.2 ∧ b.1 * a.2 ≤ 100 * 100 := mul_bd (by omega) (by omega)
  have b3 : 0 ≤ a.2 * b.2 ∧ a.2 * b.2 ≤ 100 * 100 := mul_bd (by omega) (by omega)
  have b4 : a.2 * b.2 ≠ 0 := Int.mul_ne_zero (by omega) (by omega)
  have hok : (subR a b).2 = true := mkR_ok b4 (by omega) (by omega)
  obtain ⟨l1, _, _, l4, l5⟩ := low_spec (x := a.1 * b.2 - b.1 * a.2) b4
  have e : (subR a b).1 = (lowN (a.1 * b.2 - b.1 * a.2) (a.2 * b.2), lowD (a.1 * b.2 - b.1 * a.2) (a.2 * b.2)) := by
    unfold subR mkR at hok ⊢
    split
    · rfl
    · rename_i q; rw [if_neg q] at hok; cases hok
  refine ⟨hok, ?_, ?_⟩ <;> rw [e] <;> simp only <;> omega
/-- The slope of a piece. -/
def slopeR (p q : Quad) : Int × Int := (divR (subR q.2 p.2).1 (subR q.1 p.1).1).1
theorem slope_ok {p q : Quad} (h1 : coordR p.1 = true) (h2 : coordR p.2 = true) (h3 : coordR q.1 = true) (h4 : coordR q.2 = true) (h : ltB p.1.1 p.1.2 q.1.1 q.1.2 = true) :
    (divR (subR q.2 p.2).1 (subR q.1 p.1).1).2 = true ∧ goodR (slopeR p q).1 (slopeR p q).2 = true ∧ qv (slopeR p q) = (qv q.2 - qv p.2) / (qv q.1 - qv p.1) ∧ goodR (subR q.1 p.1).1.1 (subR q.1 p.1).1.2 = true ∧ goodR (subR q.2 p.2).1.1 (subR q.2 p.2).1.2 = true ∧ (subR q.1 p.1).1.1 ≠ 0 := by
  have g1 := unitR_good (coordR_unit h1)
  have g2 := unitR_good (coordR_unit h2)
  have g3 := unitR_good (coordR_unit h3)
  have g4 := unitR_good (coordR_unit h4)
  obtain ⟨o1, b1, c1⟩ := subR_coord h3 h1
  obtain ⟨o2, b2, c2⟩ := subR_coord h4 h2
  obtain ⟨k1, v1⟩ := subR_qv g3 g1 o1
  obtain ⟨k2, v2⟩ := subR_qv g4 g2 o2
  have hlt := (ltB_qv g1 g3).1 h
  have hne : (subR q.1 p.1).1.1 ≠ 0 := by
    intro e
    have : qv (subR q.1 p.1).1 = 0 := by unfold qv; rw [e, Rat.div_def]; simp
    rw [v1] at this
    grind
  have hd : (divR (subR q.2 p.2).1 (subR q.1 p.1).1).2 = true := by
    unfold divR
    rw [if_neg hne]
    generalize (subR q.2 p.2).1 = A at *
    generalize (subR q.1 p.1).1 = B at *
    have m1 : A.1 * B.2 = A.1 * B.2 := rfl
    have n1 : 0 ≤ (A.1.natAbs : Int) * B.2 ∧ (A.1.natAbs : Int) * B.2 ≤ 10000 * 10000 := mul_bd (by omega) (by omega)
    have n2 : 0 ≤ A.2 * (B.1.natAbs : Int) ∧ A.2 * (B.1.natAbs : Int) ≤ 10000 * 10000 := mul_bd (by omega) (by omega)
    have e1 : (A.1 * B.2).natAbs = A.1.natAbs * B.2.natAbs := Int.natAbs_mul _ _
    have e2 : (A.2 * B.1).natAbs = A.2.natAbs * B.1.natAbs := Int.natAbs_mul _ _
    have e3 : ((A.1 * B.2).natAbs : Int) = (A.1.natAbs : Int) * B.2 := by rw [e1, Int.natCast_mul]; congr 1; omega
    have e4 : ((A.2 * B.1).natAbs : Int) = A.2 * (B.1.natAbs : Int) := by rw [e2, Int.natCast_mul]; congr 1; omega
    refine mkR_ok (Int.mul_ne_zero (by omega) hne) (by omega) (by omega)
  obtain ⟨k3, v3, _⟩ := divR_qv k2 k1 hd
  exact ⟨hd, k3, by unfold slopeR; rw [v3, v1, v2], k1, k2, hne⟩

/-- The line through p with slope s, at x; and whether no part of it is too large. -/
def lineZ (p : Quad) (s x : Int × Int) : Int × Int := orZ (addR p.2 (orZ (mulR s (orZ (subR x p.1)))))
def lineOk (p : Quad) (s x : Int × Int) : Bool := (subR x p.1).2 && (mulR s (orZ (subR x p.1))).2 && (addR p.2 (orZ (mulR s (orZ (subR x p.1))))).2
theorem orZ_ok {r : (Int × Int) × Bool} (h : r.2 = true) : orZ r = r.1 := by unfold orZ; rw [if_pos h]
theorem good_zero : goodR 0 1 = true := by decide
theorem orZ_good {r : (Int × Int) × Bool} (h : r.2 = true → goodR r.1.1 r.1.2 = true) : goodR (orZ r).1 (orZ r).2 = true := by
  unfold orZ
  split
  · rename_i q; exact h q
  · exact good_zero
theorem subR_good (a b : Int × Int) : goodR (orZ (subR a b)).1 (orZ (subR a b)).2 = true := orZ_good fun h => mkR_good h
theorem addR_good (a b : Int × Int) : goodR (orZ (addR a b)).1 (orZ (addR a b)).2 = true := orZ_good fun h => mkR_good h
theorem mulR_good (a b : Int × Int) : goodR (orZ (mulR a b)).1 (orZ (mulR a b)).2 = true := orZ_good fun h => mkR_good h
theorem divR_good (a b : Int × Int) : goodR (orZ (divR a b)).1 (orZ (divR a b)).2 = true := orZ_good fun h => by
  unfold divR at h ⊢
  by_cases q : b.1 = 0
  · rw [if_pos q] at h; cases h
  · rw [if_neg q] at h ⊢; exact mkR_good h
theorem lineZ_good (p : Quad) (s x : Int × Int) : goodR (lineZ p s x).1 (lineZ p s x).2 = true := addR_good _ _
theorem line_qv {p : Quad} {s x : Int × Int} (h1 : goodR p.1.1 p.1.2 = true) (h2 : goodR p.2.1 p.2.2 = true) (h3 : goodR s.1 s.2 = true) (h4 : goodR x.1 x.2 = true) (h : lineOk p s x = true) : qv (lineZ p s x) = qv p.2 + qv s * (qv x - qv p.1) := by
  unfold lineOk at h
  simp only [Bool.and_eq_true] at h
  obtain ⟨⟨o1, o2⟩, o3⟩ := h
  unfold lineZ
  rw [orZ_ok o3]
  rw [orZ_ok o1] at o2 o3 ⊢
  obtain ⟨k1, v1⟩ := subR_qv h4 h1 o1
  rw [orZ_ok o2] at o3 ⊢
  obtain ⟨k2, v2⟩ := mulR_qv h3 k1 o2
  rw [(addR_qv h2 k2 o3).2, v2, v1]

/-- The first piece that has x, of the pieces from i on. -/
def pieceF (f : List Quad) (x : Int × Int) : Nat → Nat → Nat
  | 0, i => i
  | m + 1, i => if i + 2 < f.length ∧ ltB (nth4 f (i + 1)).1.1 (nth4 f (i + 1)).1.2 x.1 x.2 = true then pieceF f x m (i + 1) else i
def pieceN (f : List Quad) (x : Int × Int) : Nat := pieceF f x f.length 0
theorem pieceF_spec (f : List Quad) (x : Int × Int) : ∀ m i, f.length ≤ m + i + 2 → i + 2 ≤ f.length → (∀ j, 1 ≤ j → j ≤ i → ltB (nth4 f j).1.1 (nth4 f j).1.2 x.1 x.2 = true) →
    pieceF f x m i + 2 ≤ f.length ∧ (∀ j, 1 ≤ j → j ≤ pieceF f x m i → ltB (nth4 f j).1.1 (nth4 f j).1.2 x.1 x.2 = true) ∧ (pieceF f x m i + 2 < f.length → ltB (nth4 f (pieceF f x m i + 1)).1.1 (nth4 f (pieceF f x m i + 1)).1.2 x.1 x.2 = false) := by
  intro m
  induction m with
  | zero =>
    intro i h1 h2 h3
    refine ⟨h2, h3, fun h => ?_⟩
    have h' : i + 2 < f.length := h
    omega
  | succ m ih =>
    intro i h1 h2 h3
    unfold pieceF
    split
    · rename_i q
      exact ih (i + 1) (by omega) (by omega) (fun j hj hj' => by
        by_cases e : j = i + 1
        · rw [e]; exact q.2
        · exact h3 j hj (by omega))
    · rename_i q
      refine ⟨h2, h3, fun h => ?_⟩
      rw [Bool.eq_false_iff]
      exact fun r => q ⟨h, r⟩
theorem pieceN_spec {f : List Quad} (hf : 2 ≤ f.length) (x : Int × Int) :
    pieceN f x + 2 ≤ f.length ∧ (∀ j, 1 ≤ j → j ≤ pieceN f x → ltB (nth4 f j).1.1 (nth4 f j).1.2 x.1 x.2 = true) ∧ (pieceN f x + 2 < f.length → ltB (nth4 f (pieceN f x + 1)).1.1 (nth4 f (pieceN f x + 1)).1.2 x.1 x.2 = false) :=
  pieceF_spec f x f.length 0 (by omega) (by omega) (fun j h1 h2 => by omega)
theorem qv_zero : qv (0, 1) = 0 := by unfold qv; rw [Rat.div_def]; simp
theorem qv_one : qv (1, 1) = 1 := by unfold qv; simp; rw [Rat.div_def]; grind
/-- A fraction of 0..1 lies in its piece. -/
theorem piece_in {f : List Quad} (hf : MapP f) {x : Int × Int} (hx : unitR x.1 x.2 = true) : pieceN f x + 1 < f.length ∧ qv (nth4 f (pieceN f x)).1 ≤ qv x ∧ qv x ≤ qv (nth4 f (pieceN f x + 1)).1 := by
  obtain ⟨h1, h2, h3⟩ := pieceN_spec hf.len.1 x
  obtain ⟨hg, u0, u1⟩ := unitR_qv.1 hx
  generalize pieceN f x = i at *
  refine ⟨by omega, ?_, ?_⟩
  · by_cases e : i = 0
    · subst e
      rw [hf.first, qv_zero]; exact u0
    · have := h2 i (by omega) (Nat.le_refl _)
      have := (ltB_qv (unitR_good (coordR_unit (hf.coord i (by omega)).1)) hg).1 this
      grind
  · by_cases e : i + 2 < f.length
    · exact (ltB_qvf (unitR_good (coordR_unit (hf.coord (i + 1) (by omega)).1)) hg).1 (h3 e)
    · have e2 : i + 1 = f.length - 1 := by omega
      rw [e2, hf.last, qv_one]; exact u1
/-- The value at x, and whether no part of it is too large. -/
def atZ (f : List Quad) (x : Int × Int) : Int × Int := lineZ (nth4 f (pieceN f x)) (slopeR (nth4 f (pieceN f x)) (nth4 f (pieceN f x + 1))) x
def atOk (f : List Quad) (x : Int × Int) : Bool := lineOk (nth4 f (pieceN f x)) (slopeR (nth4 f (pieceN f x)) (nth4 f (pieceN f x + 1))) x
theorem atZ_good (f : List Quad) (x : Int × Int) : goodR (atZ f x).1 (atZ f x).2 = true := lineZ_good _ _ _
/-- The value of a point on a segment, times its width. -/
theorem seg {X Y P Q x y : Rat} (h : X < Y) (hy : y = P + (Q - P) / (Y - X) * (x - X)) : y * (Y - X) = P * (Y - x) + Q * (x - X) := by
  subst hy
  have : Y - X ≠ 0 := by grind
  rw [Rat.div_def]
  grind
theorem seg_in {X Y P Q x y lo hi : Rat} (h : X < Y) (h1 : X ≤ x) (h2 : x ≤ Y) (p0 : lo ≤ P) (p1 : P ≤ hi) (q0 : lo ≤ Q) (q1 : Q ≤ hi) (hs : y * (Y - X) = P * (Y - x) + Q * (x - X)) : lo ≤ y ∧ y ≤ hi := by
  have a1 : 0 ≤ (P - lo) * (Y - x) := Rat.mul_nonneg (by grind) (by grind)
  have a2 : 0 ≤ (Q - lo) * (x - X) := Rat.mul_nonneg (by grind) (by grind)
  have a3 : 0 ≤ (hi - P) * (Y - x) := Rat.mul_nonneg (by grind) (by grind)
  have a4 : 0 ≤ (hi - Q) * (x - X) := Rat.mul_nonneg (by grind) (by grind)
  have b1 : 0 ≤ (y - lo) * (Y - X) := by grind
  have b2 : 0 ≤ (hi - y) * (Y - X) := by grind
  constructor
  · rcases Rat.le_total (a := lo) (b := y) with q | q
    · exact q
    · rcases Rat.le_iff_lt_or_eq.1 q with r | r
      · have : 0 < (lo - y) * (Y - X) := Rat.mul_pos (by grind) (by grind)
        grind
      · grind
  · rcases Rat.le_total (a := y) (b := hi) with q | q
    · exact q
    · rcases Rat.le_iff_lt_or_eq.1 q with r | r
      · have : 0 < (y - hi) * (Y - X) := Rat.mul_pos (by grind) (by grind)
        grind
      · grind
/-- What the value is, as a number. -/
theorem at_qv {f : List Quad} (hf : MapP f) {x : Int × Int} (hx : unitR x.1 x.2 = true) (h : atOk f x = true) :
    qv (atZ f x) * (qv (nth4 f (pieceN f x + 1)).1 - qv (nth4 f (pieceN f x)).1) = qv (nth4 f (pieceN f x)).2 * (qv (nth4 f (pieceN f x + 1)).1 - qv x) + qv (nth4 f (pieceN f x + 1)).2 * (qv x - qv (nth4 f (pieceN f x)).1) ∧
    qv (nth4 f (pieceN f x)).1 < qv (nth4 f (pieceN f x + 1)).1 := by
  obtain ⟨h1, h2, h3⟩ := piece_in hf hx
  unfold atOk at h
  unfold atZ
  obtain ⟨c1, c2⟩ := hf.coord (pieceN f x) (by omega)
  obtain ⟨c3, c4⟩ := hf.coord (pieceN f x + 1) h1
  have hl := hf.rise (pieceN f x) h1
  obtain ⟨_, s1, s2, _⟩ := slope_ok c1 c2 c3 c4 hl
  have hv := line_qv (unitR_good (coordR_unit c1)) (unitR_good (coordR_unit c2)) s1 (unitR_good hx) h
  rw [s2] at hv
  have hlt := (ltB_qv (unitR_good (coordR_unit c1)) (unitR_good (coordR_unit c3))).1 hl
  exact ⟨seg hlt hv, hlt⟩
/-- Values are fractions of 0..1. -/
theorem at_unit {f : List Quad} (hf : MapP f) {x : Int × Int} (hx : unitR x.1 x.2 = true) (h : atOk f x = true) : unitR (atZ f x).1 (atZ f x).2 = true := by
  obtain ⟨h1, h2, h3⟩ := piece_in hf hx
  obtain ⟨e, hlt⟩ := at_qv hf hx h
  obtain ⟨_, c2⟩ := hf.coord (pieceN f x) (by omega)
  obtain ⟨_, c4⟩ := hf.coord (pieceN f x + 1) h1
  obtain ⟨_, p0, p1⟩ := unitR_qv.1 (coordR_unit c2)
  obtain ⟨_, q0, q1⟩ := unitR_qv.1 (coordR_unit c4)
  obtain ⟨r0, r1⟩ := seg_in hlt h2 h3 p0 p1 q0 q1 e
  exact unitR_qv.2 ⟨atZ_good f x, r0, r1⟩

/-- Points on whose segments slopes can be told. -/
structure LineP (f : List Quad) : Prop where
  len : 2 ≤ f.length ∧ f.length ≤ 1000
  coord : ∀ i, i < f.length → coordR (nth4 f i).1 = true ∧ coordR (nth4 f i).2 = true
  rise : ∀ i, i + 1 < f.length → ltB (nth4 f i).1.1 (nth4 f i).1.2 (nth4 f (i + 1)).1.1 (nth4 f (i + 1)).1.2 = true
theorem MapP.line {f : List Quad} (h : MapP f) : LineP f := ⟨⟨h.len.1, by have := h.len.2; omega⟩, h.coord, h.rise⟩
end Go.Proofs.YtgpabfbnbmbmeaaGreatDoor

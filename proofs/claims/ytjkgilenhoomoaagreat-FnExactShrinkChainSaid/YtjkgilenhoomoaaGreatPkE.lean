/- Several texts in one: MapLaw MapIs QuadIdx IsMap Ivs. No conditions but those that each theorem states. -/
import Derived.Test.YtjkgilenhoomoaaGreatPkD
import Derived.Test.YtjkgilenhoomoaaGreatPkC
import Derived.Deep.RegionHeld3
import Derived.Test.YtjkgilenhoomoaaGreatPkA

namespace Go.Proofs.YtjkgilenhoomoaaGreat
open Go.RowKit

/-- A coordinate: a fraction of 0..1 whose denominator is at most 100. -/
def coordR (r : Int × Int) : Bool := unitR r.1 r.2 && decide (r.2 ≤ 100)
def coordP (p : Quad) : Bool := coordR p.1 && coordR p.2
def xsL (f : List Quad) : List (Int × Int) := f.map fun p => p.1
/-- A map: 2 to 12 points, whose X rise strictly from 0 to 1. -/
def mapB (f : List Quad) : Bool := inB f.length 2 12 && (f.all coordP && (riseK (xsL f) f.length && (decide ((nth4 f 0).1 = (0, 1)) && decide ((nth4 f (f.length - 1)).1 = (1, 1)))))
theorem xsL_len (f : List Quad) : (xsL f).length = f.length := by simp [xsL]
theorem nthR_xsL {f : List Quad} {i : Nat} (h : i < f.length) : nthR (xsL f) i = (nth4 f i).1 := by
  rw [nthR_eq (by rw [xsL_len]; exact h), nth4_eq h]; simp [xsL]
theorem all_nth4 {f : List Quad} {p : Quad → Bool} (h : f.all p = true) {i : Nat} (hi : i < f.length) : p (nth4 f i) = true := by
  rw [List.all_eq_true] at h
  rw [nth4_eq hi]
  exact h _ (List.getElem_mem hi)
structure MapP (f : List Quad) : Prop where
  len : 2 ≤ f.length ∧ f.length ≤ 12
  coord : ∀ i, i < f.length → coordR (nth4 f i).1 = true ∧ coordR (nth4 f i).2 = true
  rise : ∀ i, i + 1 < f.length → ltB (nth4 f i).1.1 (nth4 f i).1.2 (nth4 f (i + 1)).1.1 (nth4 f (i + 1)).1.2 = true
  first : (nth4 f 0).1 = (0, 1)
  last : (nth4 f (f.length - 1)).1 = (1, 1)
theorem mapB_true {f : List Quad} (h : mapB f = true) : MapP f := by
  unfold mapB at h
  simp only [Bool.and_eq_true, inB_true, decide_eq_true_iff] at h
  obtain ⟨h1, h2, h3, h4, h5⟩ := h
  refine ⟨by omega, fun i hi => ?_, fun i hi => ?_, h4, h5⟩
  · have := all_nth4 h2 hi
    unfold coordP at this
    rw [Bool.and_eq_true] at this
    exact this
  · unfold riseK at h3
    rw [List.all_eq_true] at h3
    have := h3 i (List.mem_range.2 (by omega))
    rw [nthR_xsL (by omega), nthR_xsL hi] at this
    exact this
theorem coordR_unit {r : Int × Int} (h : coordR r = true) : unitR r.1 r.2 = true := by
  unfold coordR at h; rw [Bool.and_eq_true] at h; exact h.1
theorem unitR_good {r : Int × Int} (h : unitR r.1 r.2 = true) : goodR r.1 r.2 = true := by
  unfold unitR at h; rw [Bool.and_eq_true] at h; exact h.1
theorem coordR_bd {r : Int × Int} (h : coordR r = true) : (1 ≤ r.2 ∧ r.2 ≤ 100) ∧ 0 ≤ r.1 ∧ r.1 ≤ r.2 := by
  have h1 := coordR_unit h
  have h2 := (goodR_all (unitR_good h1)).1
  unfold coordR at h
  rw [Bool.and_eq_true, decide_eq_true_iff] at h
  unfold unitR at h1
  rw [Bool.and_eq_true, inB_true] at h1
  omega

/-- Differences of coordinates are always told. -/
theorem mul_bd {a b A B : Int} (ha : 0 ≤ a ∧ a ≤ A) (hb : 0 ≤ b ∧ b ≤ B) : 0 ≤ a * b ∧ a * b ≤ A * B :=
  ⟨Int.mul_nonneg ha.1 hb.1, Int.mul_le_mul ha.2 hb.2 hb.1 (by omega)⟩
theorem subR_coord {a b : Int × Int} (ha : coordR a = true) (hb : coordR b = true) : (subR a b).2 = true ∧ (-10000 ≤ (subR a b).1.1 ∧ (subR a b).1.1 ≤ 10000) ∧ (1 ≤ (subR a b).1.2 ∧ (subR a b).1.2 ≤ 10000) := by
  obtain ⟨h1, h2, h3⟩ := coordR_bd ha
  obtain ⟨h4, h5, h6⟩ := coordR_bd hb
  have b1 : 0 ≤ a.1 * b.2 ∧ a.1 * b.2 ≤ 100 * 100 := mul_bd (by omega) (by omega)
  have b2 : 0 ≤ b.1 * a.2 ∧ b.1 * a.2 ≤ 100 * 100 := mul_bd (by omega) (by omega)
  have b3 : 0 ≤ a.2 * b.2 ∧ a.2 * b.2 ≤ 100 * 100 := mul_bd (by omega) (by omega)
  have b4 : a.2 * b.2 ≠ 0 := Int.mul_ne_zero (by omega) (by omega)
  have hok : (subR a b).2 = true := mkR_ok b4 (by omega) (by omega)
  obtain ⟨l1, _, _, l4, l5⟩ := low_spec (x := a.1 * b.2 - b.1 * a.2) b4
  have e : (subR a b).1 = (lowN (a.1 * b.2 - b.1 * a.2) (a.2 * b.2), lowD (a.1 * b.2 - b.1 * a.2) (a.2 * b.2)) := by
    unfold subR mkR at hok ⊢
    split
    · rfl
    · rename_i q; rw [if_neg q] at hok; cases hok
  refine ⟨hok, ?_, ?_⟩ <;> rw [e] <;> simp only <;> omega
/-- The slope of a piece. -/
def slopeR (p q : Quad) : Int × Int := (divR (subR q.2 p.2).1 (subR q.1 p.1).1).1
theorem slope_ok {p q : Quad} (h1 : coordR p.1 = true) (h2 : coordR p.2 = true) (h3 : coordR q.1 = true) (h4 : coordR q.2 = true) (h : ltB p.1.1 p.1.2 q.1.1 q.1.2 = true) :
    (divR (subR q.2 p.2).1 (subR q.1 p.1).1).2 = true ∧ goodR (slopeR p q).1 (slopeR p q).2 = true ∧ qv (slopeR p q) = (qv q.2 - qv p.2) / (qv q.1 - qv p.1) ∧ goodR (subR q.1 p.1).1.1 (subR q.1 p.1).1.2 = true ∧ goodR (subR q.2 p.2).1.1 (subR q.2 p.2).1.2 = true ∧ (subR q.1 p.1).1.1 ≠ 0 := by
  have g1 := unitR_good (coordR_unit h1)
  have g2 := unitR_good (coordR_unit h2)
  have g3 := unitR_good (coordR_unit h3)
  have g4 := unitR_good (coordR_unit h4)
  obtain ⟨o1, b1, c1⟩ := subR_coord h3 h1
  obtain ⟨o2, b2, c2⟩ := subR_coord h4 h2
  obtain ⟨k1, v1⟩ := subR_qv g3 g1 o1
  obtain ⟨k2, v2⟩ := subR_qv g4 g2 o2
  have hlt := (ltB_qv g1 g3).1 h
  have hne : (subR q.1 p.1).1.1 ≠ 0 := by
    intro e
    have : qv (subR q.1 p.1).1 = 0 := by unfold qv; rw [e, Rat.div_def]; simp
    rw [v1] at this
    grind
  have hd : (divR (subR q.2 p.2).1 (subR q.1 p.1).1).2 = true := by
    unfold divR
    rw [if_neg hne]
    generalize (subR q.2 p.2).1 = A at *
    generalize (subR q.1 p.1).1 = B at *
    have m1 : A.1 * B.2 = A.1 * B.2 := rfl
    have n1 : 0 ≤ (A.1.natAbs : Int) * B.2 ∧ (A.1.natAbs : Int) * B.2 ≤ 10000 * 10000 := mul_bd (by omega) (by omega)
    have n2 : 0 ≤ A.2 * (B.1.natAbs : Int) ∧ A.2 * (B.1.natAbs : Int) ≤ 10000 * 10000 := mul_bd (by omega) (by omega)
    have e1 : (A.1 * B.2).natAbs = A.1.natAbs * B.2.natAbs := Int.natAbs_mul _ _
    have e2 : (A.2 * B.1).natAbs = A.2.natAbs * B.1.natAbs := Int.natAbs_mul _ _
    have e3 : ((A.1 * B.2).natAbs : Int) = (A.1.natAbs : Int) * B.2 := by rw [e1, Int.natCast_mul]; congr 1; omega
    have e4 : ((A.2 * B.1).natAbs : Int) = A.2 * (B.1.natAbs : Int) := by rw [e2, Int.natCast_mul]; congr 1; omega
    refine mkR_ok (Int.mul_ne_zero (by omega) hne) (by omega) (by omega)
  obtain ⟨k3, v3, _⟩ := divR_qv k2 k1 hd
  exact ⟨hd, k3, by unfold slopeR; rw [v3, v1, v2], k1, k2, hne⟩

/-- The line through p with slope s, at x; and whether no part of it is too large. -/
def lineZ (p : Quad) (s x : Int × Int) : Int × Int := orZ (addR p.2 (orZ (mulR s (orZ (subR x p.1)))))
def lineOk (p : Quad) (s x : Int × Int) : Bool := (subR x p.1).2 && (mulR s (orZ (subR x p.1))).2 && (addR p.2 (orZ (mulR s (orZ (subR x p.1))))).2
theorem orZ_ok {r : (Int × Int) × Bool} (h : r.2 = true) : orZ r = r.1 := by unfold orZ; rw [if_pos h]
theorem good_zero : goodR 0 1 = true := by decide
theorem orZ_good {r : (Int × Int) × Bool} (h : r.2 = true → goodR r.1.1 r.1.2 = true) : goodR (orZ r).1 (orZ r).2 = true := by
  unfold orZ
  split
  · rename_i q; exact h q
  · exact good_zero
theorem subR_good (a b : Int × Int) : goodR (orZ (subR a b)).1 (orZ (subR a b)).2 = true := orZ_good fun h => mkR_good h
theorem addR_good (a b : Int × Int) : goodR (orZ (addR a b)).1 (orZ (addR a b)).2 = true := orZ_good fun h => mkR_good h
theorem mulR_good (a b : Int × Int) : goodR (orZ (mulR a b)).1 (orZ (mulR a b)).2 = true := orZ_good fun h => mkR_good h
theorem divR_good (a b : Int × Int) : goodR (orZ (divR a b)).1 (orZ (divR a b)).2 = true := orZ_good fun h => by
  unfold divR at h ⊢
  by_cases q : b.1 = 0
  · rw [if_pos q] at h; cases h
  · rw [if_neg q] at h ⊢; exact mkR_good h
theorem lineZ_good (p : Quad) (s x : Int × Int) : goodR (lineZ p s x).1 (lineZ p s x).2 = true := addR_good _ _
theorem line_qv {p : Quad} {s x : Int × Int} (h1 : goodR p.1.1 p.1.2 = true) (h2 : goodR p.2.1 p.2.2 = true) (h3 : goodR s.1 s.2 = true) (h4 : goodR x.1 x.2 = true) (h : lineOk p s x = true) : qv (lineZ p s x) = qv p.2 + qv s * (qv x - qv p.1) := by
  unfold lineOk at h
  simp only [Bool.and_eq_true] at h
  obtain ⟨⟨o1, o2⟩, o3⟩ := h
  unfold lineZ
  rw [orZ_ok o3]
  rw [orZ_ok o1] at o2 o3 ⊢
  obtain ⟨k1, v1⟩ := subR_qv h4 h1 o1
  rw [orZ_ok o2] at o3 ⊢
  obtain ⟨k2, v2⟩ := mulR_qv h3 k1 o2
  rw [(addR_qv h2 k2 o3).2, v2, v1]

/-- The first piece that has x, of the pieces from i on. -/
def pieceF (f : List Quad) (x : Int × Int) : Nat → Nat → Nat
  | 0, i => i
  | m + 1, i => if i + 2 < f.length ∧ ltB (nth4 f (i + 1)).1.1 (nth4 f (i + 1)).1.2 x.1 x.2 = true then pieceF f x m (i + 1) else i
def pieceN (f : List Quad) (x : Int × Int) : Nat := pieceF f x f.length 0
theorem pieceF_spec (f : List Quad) (x : Int × Int) : ∀ m i, f.length ≤ m + i + 2 → i + 2 ≤ f.length → (∀ j, 1 ≤ j → j ≤ i → ltB (nth4 f j).1.1 (nth4 f j).1.2 x.1 x.2 = true) →
    pieceF f x m i + 2 ≤ f.length ∧ (∀ j, 1 ≤ j → j ≤ pieceF f x m i → ltB (nth4 f j).1.1 (nth4 f j).1.2 x.1 x.2 = true) ∧ (pieceF f x m i + 2 < f.length → ltB (nth4 f (pieceF f x m i + 1)).1.1 (nth4 f (pieceF f x m i + 1)).1.2 x.1 x.2 = false) := by
  intro m
  induction m with
  | zero =>
    intro i h1 h2 h3
    refine ⟨h2, h3, fun h => ?_⟩
    have h' : i + 2 < f.length := h
    omega
  | succ m ih =>
    intro i h1 h2 h3
    unfold pieceF
    split
    · rename_i q
      exact ih (i + 1) (by omega) (by omega) (fun j hj hj' => by
        by_cases e : j = i + 1
        · rw [e]; exact q.2
        · exact h3 j hj (by omega))
    · rename_i q
      refine ⟨h2, h3, fun h => ?_⟩
      rw [Bool.eq_false_iff]
      exact fun r => q ⟨h, r⟩
theorem pieceN_spec {f : List Quad} (hf : 2 ≤ f.length) (x : Int × Int) :
    pieceN f x + 2 ≤ f.length ∧ (∀ j, 1 ≤ j → j ≤ pieceN f x → ltB (nth4 f j).1.1 (nth4 f j).1.2 x.1 x.2 = true) ∧ (pieceN f x + 2 < f.length → ltB (nth4 f (pieceN f x + 1)).1.1 (nth4 f (pieceN f x + 1)).1.2 x.1 x.2 = false) :=
  pieceF_spec f x f.length 0 (by omega) (by omega) (fun j h1 h2 => by omega)
theorem qv_zero : qv (0, 1) = 0 := by unfold qv; rw [Rat.div_def]; simp
theorem qv_one : qv (1, 1) = 1 := by unfold qv; simp; rw [Rat.div_def]; grind
/-- A fraction of 0..1 lies in its piece. -/
theorem piece_in {f : List Quad} (hf : MapP f) {x : Int × Int} (hx : unitR x.1 x.2 = true) : pieceN f x + 1 < f.length ∧ qv (nth4 f (pieceN f x)).1 ≤ qv x ∧ qv x ≤ qv (nth4 f (pieceN f x + 1)).1 := by
  obtain ⟨h1, h2, h3⟩ := pieceN_spec hf.len.1 x
  obtain ⟨hg, u0, u1⟩ := unitR_qv.1 hx
  generalize pieceN f x = i at *
  refine ⟨by omega, ?_, ?_⟩
  · by_cases e : i = 0
    · subst e
      rw [hf.first, qv_zero]; exact u0
    · have := h2 i (by omega) (Nat.le_refl _)
      have := (ltB_qv (unitR_good (coordR_unit (hf.coord i (by omega)).1)) hg).1 this
      grind
  · by_cases e : i + 2 < f.length
    · exact (ltB_qvf (unitR_good (coordR_unit (hf.coord (i + 1) (by omega)).1)) hg).1 (h3 e)
    · have e2 : i + 1 = f.length - 1 := by omega
      rw [e2, hf.last, qv_one]; exact u1
/-- The value at x, and whether no part of it is too large. -/
def atZ (f : List Quad) (x : Int × Int) : Int × Int := lineZ (nth4 f (pieceN f x)) (slopeR (nth4 f (pieceN f x)) (nth4 f (pieceN f x + 1))) x
def atOk (f : List Quad) (x : Int × Int) : Bool := lineOk (nth4 f (pieceN f x)) (slopeR (nth4 f (pieceN f x)) (nth4 f (pieceN f x + 1))) x
theorem atZ_good (f : List Quad) (x : Int × Int) : goodR (atZ f x).1 (atZ f x).2 = true := lineZ_good _ _ _
/-- The value of a point on a segment, times its width. -/
theorem seg {X Y P Q x y : Rat} (h : X < Y) (hy : y = P + (Q - P) / (Y - X) * (x - X)) : y * (Y - X) = P * (Y - x) + Q * (x - X) := by
  subst hy
  have : Y - X ≠ 0 := by grind
  rw [Rat.div_def]
  grind
theorem seg_in {X Y P Q x y lo hi : Rat} (h : X < Y) (h1 : X ≤ x) (h2 : x ≤ Y) (p0 : lo ≤ P) (p1 : P ≤ hi) (q0 : lo ≤ Q) (q1 : Q ≤ hi) (hs : y * (Y - X) = P * (Y - x) + Q * (x - X)) : lo ≤ y ∧ y ≤ hi := by
  have a1 : 0 ≤ (P - lo) * (Y - x) := Rat.mul_nonneg (by grind) (by grind)
  have a2 : 0 ≤ (Q - lo) * (x - X) := Rat.mul_nonneg (by grind) (by grind)
  have a3 : 0 ≤ (hi - P) * (Y - x) := Rat.mul_nonneg (by grind) (by grind)
  have a4 : 0 ≤ (hi - Q) * (x - X) := Rat.mul_nonneg (by grind) (by grind)
  have b1 : 0 ≤ (y - lo) * (Y - X) := by grind
  have b2 : 0 ≤ (hi - y) * (Y - X) := by grind
  constructor
  · rcases Rat.le_total (a := lo) (b := y) with q | q
    · exact q
    · rcases Rat.le_iff_lt_or_eq.1 q with r | r
      · have : 0 < (lo - y) * (Y - X) := Rat.mul_pos (by grind) (by grind)
        grind
      · grind
  · rcases Rat.le_total (a := y) (b := hi) with q | q
    · exact q
    · rcases Rat.le_iff_lt_or_eq.1 q with r | r
      · have : 0 < (y - hi) * (Y - X) := Rat.mul_pos (by grind) (by grind)
        grind
      · grind
/-- What the value is, as a number. -/
theorem at_qv {f : List Quad} (hf : MapP f) {x : Int × Int} (hx : unitR x.1 x.2 = true) (h : atOk f x = true) :
    qv (atZ f x) * (qv (nth4 f (pieceN f x + 1)).1 - qv (nth4 f (pieceN f x)).1) = qv (nth4 f (pieceN f x)).2 * (qv (nth4 f (pieceN f x + 1)).1 - qv x) + qv (nth4 f (pieceN f x + 1)).2 * (qv x - qv (nth4 f (pieceN f x)).1) ∧
    qv (nth4 f (pieceN f x)).1 < qv (nth4 f (pieceN f x + 1)).1 := by
  obtain ⟨h1, h2, h3⟩ := piece_in hf hx
  unfold atOk at h
  unfold atZ
  obtain ⟨c1, c2⟩ := hf.coord (pieceN f x) (by omega)
  obtain ⟨c3, c4⟩ := hf.coord (pieceN f x + 1) h1
  have hl := hf.rise (pieceN f x) h1
  obtain ⟨_, s1, s2, _⟩ := slope_ok c1 c2 c3 c4 hl
  have hv := line_qv (unitR_good (coordR_unit c1)) (unitR_good (coordR_unit c2)) s1 (unitR_good hx) h
  rw [s2] at hv
  have hlt := (ltB_qv (unitR_good (coordR_unit c1)) (unitR_good (coordR_unit c3))).1 hl
  exact ⟨seg hlt hv, hlt⟩
/-- Values are fractions of 0..1. -/
theorem at_unit {f : List Quad} (hf : MapP f) {x : Int × Int} (hx : unitR x.1 x.2 = true) (h : atOk f x = true) : unitR (atZ f x).1 (atZ f x).2 = true := by
  obtain ⟨h1, h2, h3⟩ := piece_in hf hx
  obtain ⟨e, hlt⟩ := at_qv hf hx h
  obtain ⟨_, c2⟩ := hf.coord (pieceN f x) (by omega)
  obtain ⟨_, c4⟩ := hf.coord (pieceN f x + 1) h1
  obtain ⟨_, p0, p1⟩ := unitR_qv.1 (coordR_unit c2)
  obtain ⟨_, q0, q1⟩ := unitR_qv.1 (coordR_unit c4)
  obtain ⟨r0, r1⟩ := seg_in hlt h2 h3 p0 p1 q0 q1 e
  exact unitR_qv.2 ⟨atZ_good f x, r0, r1⟩

/-- Points on whose segments slopes can be told. -/
structure LineP (f : List Quad) : Prop where
  len : 2 ≤ f.length ∧ f.length ≤ 1000
  coord : ∀ i, i < f.length → coordR (nth4 f i).1 = true ∧ coordR (nth4 f i).2 = true
  rise : ∀ i, i + 1 < f.length → ltB (nth4 f i).1.1 (nth4 f i).1.2 (nth4 f (i + 1)).1.1 (nth4 f (i + 1)).1.2 = true
theorem MapP.line {f : List Quad} (h : MapP f) : LineP f := ⟨⟨h.len.1, by have := h.len.2; omega⟩, h.coord, h.rise⟩
end Go.Proofs.YtjkgilenhoomoaaGreat

namespace Go.Proofs.YtjkgilenhoomoaaGreat
open Go.RowKit
set_option maxRecDepth 100000

/-- A point as a value. -/
abbrev ptV (p : Quad) : Value := .agg #[.int .i64 p.1.1, .int .i64 p.1.2, .int .i64 p.2.1, .int .i64 p.2.2]

theorem imCoord_any (x : Int × Int) (w : World) : Calls Tryz.prog 41 #[.agg #[.int .i64 x.1, .int .i64 x.2]] w (Ret (.bool (coordR x)) w) := by
  obtain ⟨n, d⟩ := x
  have c1 := fun w => raUnit_any n d w
  show Calls _ _ #[.agg #[.int .i64 n, .int .i64 d]] w (Ret (.bool (unitR n d && decide (d ≤ 100))) w)
  generalize unitR n d = U at *
  have hB : Below w.heap.size w (w.alloc (.cells #[.int .i64 n, .int .i64 d] 42)) := (Below.refl _ _).alloc (Nat.le_refl _) _
  have x1 : (w.alloc (.cells #[.int .i64 n, .int .i64 d] 42)).cell? ⟨w.heap.size, 1, none⟩ = some (.int .i64 d) := by simp [go_sem]
  have c1' := Lib.hid c1
  have x1' := Lib.hid x1
  clear c1 x1
  cases U
  · rw [Bool.false_and]
    go_enter Tryz.func41, Tryz.ntmps41
    go_wp2_with fail
    refine (c1'.out _).mono ?_
    rintro e w1 ⟨rfl, hB1⟩
    have hb1 := hB.trans (hB1.mono hB.size)
    go_wp2
    go_ret
    exact ⟨rfl, hb1⟩
  · rw [Bool.true_and]
    go_enter Tryz.func41, Tryz.ntmps41
    go_wp2_with fail
    refine (c1'.out _).mono ?_
    rintro e w1 ⟨rfl, hB1⟩
    have hb1 := hB.trans (hB1.mono hB.size)
    have y1 := bkeep hB1 x1'.out
    go_wp2
    go_ret
    exact ⟨rfl, hb1⟩
theorem isCoord_any (x : Int × Int) (w : World) : Calls Tryz.prog 80 #[.agg #[.int .i64 x.1, .int .i64 x.2]] w (Ret (.bool (coordR x)) w) := by
  obtain ⟨n, d⟩ := x
  have c1 := fun w => isUnit_any n d w
  show Calls _ _ #[.agg #[.int .i64 n, .int .i64 d]] w (Ret (.bool (unitR n d && decide (d ≤ 100))) w)
  generalize unitR n d = U at *
  have hB : Below w.heap.size w (w.alloc (.cells #[.int .i64 n, .int .i64 d] 42)) := (Below.refl _ _).alloc (Nat.le_refl _) _
  have x1 : (w.alloc (.cells #[.int .i64 n, .int .i64 d] 42)).cell? ⟨w.heap.size, 1, none⟩ = some (.int .i64 d) := by simp [go_sem]
  have c1' := Lib.hid c1
  have x1' := Lib.hid x1
  clear c1 x1
  cases U
  · rw [Bool.false_and]
    go_enter Tryz.func80, Tryz.ntmps80
    go_wp2_with fail
    refine (c1'.out _).mono ?_
    rintro e w1 ⟨rfl, hB1⟩
    have hb1 := hB.trans (hB1.mono hB.size)
    go_wp2
    go_ret
    exact ⟨rfl, hb1⟩
  · rw [Bool.true_and]
    go_enter Tryz.func80, Tryz.ntmps80
    go_wp2_with fail
    refine (c1'.out _).mono ?_
    rintro e w1 ⟨rfl, hB1⟩
    have hb1 := hB.trans (hB1.mono hB.size)
    have y1 := bkeep hB1 x1'.out
    go_wp2
    go_ret
    exact ⟨rfl, hb1⟩

theorem mapB_no_len {f : List Quad} (h : inB f.length 2 12 = false) : mapB f = false := by simp [mapB, h]
theorem mapB_no_coord {f : List Quad} {k : Nat} (hk : k < f.length) (h : coordP (nth4 f k) = false) : mapB f = false := by
  have : f.all coordP = false := by
    rw [List.all_eq_false]
    exact ⟨nth4 f k, by rw [nth4_eq hk]; exact List.getElem_mem hk, by rw [h]; simp⟩
  unfold mapB
  rw [this]; simp
theorem mapB_no_rise {f : List Quad} (h : riseK (xsL f) f.length = false) : mapB f = false := by simp [mapB, h]
theorem mapB_fin {f : List Quad} (h0 : inB f.length 2 12 = true) (h1 : ∀ i, i < f.length → coordP (nth4 f i) = true) (h2 : riseK (xsL f) f.length = true) : mapB f = (decide ((nth4 f 0).1 = (0, 1)) && decide ((nth4 f (f.length - 1)).1 = (1, 1))) := by
  have : f.all coordP = true := by
    rw [List.all_eq_true]
    intro x hx
    obtain ⟨i, hi, rfl⟩ := List.getElem_of_mem hx
    have := h1 i hi
    rw [nth4_eq hi] at this; exact this
  unfold mapB
  rw [h0, this, h2, Bool.true_and, Bool.true_and, Bool.true_and]
theorem sgn_zero (z : Int) : sgn z = 0 ↔ z = 0 := by unfold sgn; split <;> (try split) <;> omega
theorem cmp_zero {r : Int × Int} (h : goodR r.1 r.2 = true) : (cmpN r.1 r.2 0 1 == 0) = decide (r = (0, 1)) := by
  obtain ⟨⟨h1, _⟩, _, h3⟩ := goodR_all h
  obtain ⟨n, d⟩ := r
  simp only at h1 h3
  unfold cmpN
  rw [Bool.eq_iff_iff, beq_iff_eq, sgn_zero, decide_eq_true_iff, Prod.mk.injEq]
  constructor
  · intro e
    have e0 : n = 0 := by omega
    rw [e0] at h3
    simp at h3
    omega
  · rintro ⟨rfl, rfl⟩; rfl
theorem cmp_one {r : Int × Int} (h : goodR r.1 r.2 = true) : (cmpN r.1 r.2 1 1 == 0) = decide (r = (1, 1)) := by
  obtain ⟨⟨h1, _⟩, _, h3⟩ := goodR_all h
  obtain ⟨n, d⟩ := r
  simp only at h1 h3
  unfold cmpN
  rw [Bool.eq_iff_iff, beq_iff_eq, sgn_zero, decide_eq_true_iff, Prod.mk.injEq]
  constructor
  · intro e
    have e0 : n = d := by omega
    rw [e0] at h3
    simp at h3
    omega
  · rintro ⟨rfl, rfl⟩; rfl
theorem bd_zero : BdR 0 1 := ⟨⟨by omega, by omega⟩, by omega, by omega⟩
theorem bd_one : BdR 1 1 := ⟨⟨by omega, by omega⟩, by omega, by omega⟩
theorem good_bd {r : Int × Int} (h : goodR r.1 r.2 = true) : BdR r.1 r.2 := ⟨(goodR_all h).1, (goodR_all h).2.1⟩
theorem cmp_ge (a b : Int × Int) : decide (cmpN a.1 a.2 b.1 b.2 ≥ 0) = !ltB a.1 a.2 b.1 b.2 := by
  rw [← cmpN_lt, ← decide_not]
  congr 1
  apply propext
  omega

set_option linter.unusedSimpArgs false in
set_option maxHeartbeats 4000000 in
theorem imGood_any (v : Value) (f : List Quad) (w : World) (hv : QuadV w v f) (hm : f.length ≤ 1099511627776) :
    Calls Tryz.prog 25 #[v] w (Ret (.bool (mapB f)) w) := by
  obtain ⟨ao, cap, rfl, _, _, H⟩ := hv.form
  have c1 := fun w => l1In_any (f.length : Int) 2 12 w
  cases hw : inB f.length 2 12
  · rw [hw] at c1
    rw [mapB_no_len hw]
    clear hw
    generalize f.length = n at *
    have c1' := Lib.hid c1
    clear c1
    clear H
    go_enter Tryz.func25, Tryz.ntmps25
    go_wp2_with fail
    refine (c1'.out _).mono ?_
    rintro e w_ ⟨rfl, rfl⟩
    go_wp2
    go_ret
    exact ⟨rfl, Below.refl _ _⟩
  · rw [hw] at c1
    have hw2 := hw
    rw [inB_true] at hw
    have hfC := fun k (hk : k < f.length) h => mapB_no_coord (f := f) hk h
    have hfR := fun h => mapB_no_rise (f := f) h
    have hfin := fun h1 h2 => mapB_fin (f := f) hw2 h1 h2
    have hstep := fun k (h : 1 ≤ k) => riseK_step (xsL f) k h
    have hfalse := fun k h1 h2 h3 => @riseK_false (xsL f) k f.length h1 h2 h3
    have hxs : ∀ k, k < f.length → nthR (xsL f) k = (nth4 f k).1 := fun k hk => nthR_xsL hk
    obtain ⟨n, hn⟩ : ∃ n, f.length = n := ⟨_, rfl⟩
    rw [hn] at hw hm hv c1 hfC hfR hfin H hfalse hxs ⊢
    obtain ⟨R, hR⟩ : ∃ R, mapB f = R := ⟨_, rfl⟩
    simp only [hR] at hfC hfR hfin
    rw [hR]
    obtain ⟨b, off, e1, _⟩ := H 0 (by omega)
    cases e1
    have c1' := Lib.hid c1
    have hn' := Lib.hid hn
    have hv' := Lib.hid hv
    have hfC' := Lib.hid hfC
    have hfR' := Lib.hid hfR
    have hfin' := Lib.hid hfin
    have hR' := Lib.hid hR
    have hw2' := Lib.hid hw2
    have H' := Lib.hid H
    have hstep' := Lib.hid hstep
    have hfalse' := Lib.hid hfalse
    have hxs' := Lib.hid hxs
    clear c1 hn hv hfC hfR hfin hR hw2 H hstep hfalse hxs
    go_enter Tryz.func25, Tryz.ntmps25
    go_wp2_with fail
    refine (c1'.out _).mono ?_
    rintro e w_ ⟨rfl, rfl⟩
    go_wp2
    go_loopw [11] (fun i wr => ∃ k : Nat, k ≤ n ∧ i = .int .i64 k ∧ (∀ j, j < k → coordP (nth4 f j) = true) ∧ riseK (xsL f) k = true ∧ Below w.heap.size w wr) (fun i _ => n - (intOf i).toNat)
    case atStart => exact ⟨0, Nat.zero_le _, rfl, fun j hj => absurd hj (Nat.not_lt_zero j), rfl, Below.refl _ _⟩
    case round =>
      obtain ⟨k, hk, rfl, hu, hr, hB⟩ := hrel
      by_cases hlt : k < n
      · obtain ⟨_, _, e, d0, d1, d2, d3⟩ := H'.out k hlt
        cases e
        have l0 := World.block_lt_of_cell? w _ d0
        simp only at l0
        have hc1 := fun w => imCoord_any (nth4 f k).1 w
        have hc2 := fun w => imCoord_any (nth4 f k).2 w
        have hcp : coordP (nth4 f k) = (coordR (nth4 f k).1 && coordR (nth4 f k).2) := rfl
        have hno := hfC'.out k hlt
        have hst0 : k = 0 → riseK (xsL f) (k + 1) = true := fun h => by subst h; rfl
        have hst : k ≠ 0 → riseK (xsL f) (k + 1) = ltB (nth4 f (k - 1)).1.1 (nth4 f (k - 1)).1.2 (nth4 f k).1.1 (nth4 f k).1.2 := fun h => by
          rw [hstep'.out k (by omega), hr, Bool.true_and, hxs'.out _ (by omega), hxs'.out _ hlt]
        have hbad : k ≠ 0 → ltB (nth4 f (k - 1)).1.1 (nth4 f (k - 1)).1.2 (nth4 f k).1.1 (nth4 f k).1.2 = false → R = false := fun h1 h2 => hfR'.out (hfalse'.out k (by omega) hlt (by rw [hxs'.out _ (by omega), hxs'.out _ hlt]; exact h2))
        have hge := cmp_ge (nth4 f (k - 1)).1 (nth4 f k).1
        have hprev : k ≠ 0 → coordR (nth4 f (k - 1)).1 = true := fun h => by
          have := hu (k - 1) (by omega)
          unfold coordP at this
          rw [Bool.and_eq_true] at this
          exact this.1
        have c3 := fun w (h1 : k ≠ 0) (h2 : coordR (nth4 f k).1 = true) => raCmp_any (nth4 f (k - 1)).1.1 (nth4 f (k - 1)).1.2 (nth4 f k).1.1 (nth4 f k).1.2 w (good_bd (unitR_good (coordR_unit (hprev h1)))) (good_bd (unitR_good (coordR_unit h2)))
        have hpr : k ≠ 0 → ∃ mm : Nat, mm + 1 = k ∧ IntKind.i64.wrap ((k : Int) - 1) = (mm : Int) ∧ (0 : Int) ≤ (mm : Int) ∧ mm < n ∧ w.cell? ⟨b, off + mm * 4, none⟩ = some (.int .i64 (nth4 f (k - 1)).1.1) ∧ w.cell? ⟨b, off + mm * 4 + 1, none⟩ = some (.int .i64 (nth4 f (k - 1)).1.2) := by
          intro h0
          obtain ⟨_, _, e, hd0, hd1, _⟩ := H'.out (k - 1) (by omega)
          cases e
          exact ⟨k - 1, by omega, by rw [IntKind.wrap_i64]; omega, by omega, by omega, hd0, hd1⟩
        have hu' : coordP (nth4 f k) = true → ∀ j, j < k + 1 → coordP (nth4 f j) = true := fun h j hj => by
          rcases Nat.lt_succ_iff_lt_or_eq.1 hj with h1 | rfl
          · exact hu j h1
          · exact h
        rw [hcp] at hno hu'
        clear hcp hprev
        generalize ltB (nth4 f (k - 1)).1.1 (nth4 f (k - 1)).1.2 (nth4 f k).1.1 (nth4 f k).1.2 = Lt at *
        generalize cmpN (nth4 f (k - 1)).1.1 (nth4 f (k - 1)).1.2 (nth4 f k).1.1 (nth4 f k).1.2 = C at *
        generalize coordR (nth4 f k).1 = U1 at *
        generalize coordR (nth4 f k).2 = U2 at *
        obtain ⟨⟨⟨x, y⟩, ⟨z, t⟩⟩, hq⟩ : ∃ r, nth4 f k = r := ⟨_, rfl⟩
        obtain ⟨⟨⟨x', y'⟩, ⟨z', t'⟩⟩, hq'⟩ : ∃ r, nth4 f (k - 1) = r := ⟨_, rfl⟩
        rw [hq] at d0 d1 d2 d3 hc1 hc2 c3
        rw [hq'] at c3 hpr
        simp only at d0 d1 d2 d3 hc1 hc2 c3 hpr
        rw [← hB.cell (p := ⟨b, off + k * 4, none⟩) l0] at d0
        rw [← hB.cell (p := ⟨b, off + k * 4 + 1, none⟩) l0] at d1
        rw [← hB.cell (p := ⟨b, off + k * 4 + 2, none⟩) l0] at d2
        rw [← hB.cell (p := ⟨b, off + k * 4 + 3, none⟩) l0] at d3
        obtain ⟨w1, hw1⟩ : ∃ W, wr.alloc (.cells #[.int .i64 x, .int .i64 y, .int .i64 z, .int .i64 t] 48) = W := ⟨_, rfl⟩
        have hB1 : Below wr.heap.size wr w1 := by rw [← hw1]; exact (Below.refl _ _).alloc (Nat.le_refl _) _
        have hx : (w1.cell? ⟨wr.heap.size, 0, none⟩ = some (.int .i64 x) ∧ w1.cell? ⟨wr.heap.size, 1, none⟩ = some (.int .i64 y)) ∧ w1.cell? ⟨wr.heap.size, 2, none⟩ = some (.int .i64 z) ∧ w1.cell? ⟨wr.heap.size, 3, none⟩ = some (.int .i64 t) := by
          rw [← hw1]; simp [go_sem]
        have at' : ∀ w', Below w1.heap.size w1 w' → (w'.cell? ⟨wr.heap.size, 0, none⟩ = some (.int .i64 x) ∧ w'.cell? ⟨wr.heap.size, 1, none⟩ = some (.int .i64 y)) ∧ w'.cell? ⟨wr.heap.size, 2, none⟩ = some (.int .i64 z) ∧ w'.cell? ⟨wr.heap.size, 3, none⟩ = some (.int .i64 t) :=
          fun w' h => ⟨⟨bkeep h hx.1.1, bkeep h hx.1.2⟩, bkeep h hx.2.1, bkeep h hx.2.2⟩
        have hb1 := hB.trans (hB1.mono hB.size)
        have hk1 := (Below.refl w1.heap.size w1).drew
        have hc1' := Lib.hid hc1
        have hc2' := Lib.hid hc2
        have c3' := Lib.hid c3
        have hno' := Lib.hid hno
        have hst' := Lib.hid hst
        have hst0' := Lib.hid hst0
        have hbad' := Lib.hid hbad
        have hge' := Lib.hid hge
        have hpr' := Lib.hid hpr
        have hu'' := Lib.hid hu'
        have hq' := Lib.hid hq
        have hq'' := Lib.hid hq'
        have hw1' := Lib.hid hw1
        have hu' := Lib.hid hu
        have hr' := Lib.hid hr
        have at'' := Lib.hid at'
        have hx' := Lib.hid hx
        clear hc1 hc2 c3 hno hst hst0 hbad hge hpr hu' hq hq' hw1 hu hr at' hx
        cases U1
        · replace hno' := Lib.hid (hno'.out rfl)
          go_wp2_with fail
          rw [hw1'.out]
          refine wp_region_held_drew (S := (fun w' => (w'.cell? ⟨wr.heap.size, 0, none⟩ = some (.int .i64 x) ∧ w'.cell? ⟨wr.heap.size, 1, none⟩ = some (.int .i64 y)) ∧ w'.cell? ⟨wr.heap.size, 2, none⟩ = some (.int .i64 z) ∧ w'.cell? ⟨wr.heap.size, 3, none⟩ = some (.int .i64 t))) (by kernel_rfl) (by (try dsimp only); (first | exact at''.out _ hk1 | exact at''.out _ hk2)) (fun hHeld => ?_)
          refine ly_q 0 (v := ?_) hHeld ?_
          try simp only [Act.put, lyA, lyB, lyC]
          refine ly_q 1 (v := ?_) hHeld ?_
          try simp only [Act.put, lyA, lyB, lyC]
          refine ly_a 2 (fun KK hKK => ?_)
          go_simp
          refine (hc1'.out _).mono ?_
          rintro e w2 ⟨rfl, hB2⟩
          have hk2 := hk1.trans (hB2.mono hk1.size)
          try dsimp only
          refine hKK.out _ _ (by (try dsimp only); (first | exact at''.out _ hk1 | exact at''.out _ hk2)) (fun hHeld => ?_)
          clear hKK KK
          try simp only [Act.put, lyA, lyB, lyC]
          refine ly_q 3 (v := ?_) hHeld ?_
          try simp only [Act.put, lyA, lyB, lyC]
          refine ly_q 4 (v := ?_) hHeld ?_
          try simp only [Act.put, lyA, lyB, lyC]
          refine ly_off 5 hHeld ?_
          try simp only [Act.put, lyA, lyB, lyC]
          refine ly_off 6 hHeld ?_
          try simp only [Act.put, lyA, lyB, lyC]
          refine ly_off 7 hHeld ?_
          try simp only [Act.put, lyA, lyB, lyC]
          refine ly_off 8 hHeld ?_
          try simp only [Act.put, lyA, lyB, lyC]
          refine ly_q 9 (v := ?_) hHeld ?_
          try simp only [Act.put, lyA, lyB, lyC]
          refine ly_q 10 (v := ?_) hHeld ?_
          try simp only [Act.put, lyA, lyB, lyC]
          refine ly_off 11 hHeld ?_
          try simp only [Act.put, lyA, lyB, lyC]
          refine ly_off 12 hHeld ?_
          try simp only [Act.put, lyA, lyB, lyC]
          refine ly_off 13 hHeld ?_
          try simp only [Act.put, lyA, lyB, lyC]
          refine ly_off 14 hHeld ?_
          try simp only [Act.put, lyA, lyB, lyC]
          refine ly_off 15 hHeld ?_
          try simp only [Act.put, lyA, lyB, lyC]
          refine ly_off 16 hHeld ?_
          try simp only [Act.put, lyA, lyB, lyC]
          refine ly_off 17 hHeld ?_
          try simp only [Act.put, lyA, lyB, lyC]
          refine ly_off 18 hHeld ?_
          try simp only [Act.put, lyA, lyB, lyC]
          refine ly_off 19 hHeld ?_
          try simp only [Act.put, lyA, lyB, lyC]
          refine ly_off 20 hHeld ?_
          try simp only [Act.put, lyA, lyB, lyC]
          refine ly_off 21 hHeld ?_
          try simp only [Act.put, lyA, lyB, lyC]
          refine ly_off 22 hHeld ?_
          try simp only [Act.put, lyA, lyB, lyC]
          refine ly_off 23 hHeld ?_
          try simp only [Act.put, lyA, lyB, lyC]
          refine ly_off 24 hHeld ?_
          try simp only [Act.put, lyA, lyB, lyC]
          refine ly_q 25 (v := ?_) hHeld ?_
          try simp only [Act.put, lyA, lyB, lyC]
          refine wpAnyH_done (by kernel_rfl) ?_ _
          have hbf := hb1.trans (hk2.mono hb1.size)
          go_wp2
          go_ret
          exact ⟨by rw [hno'.out]; rfl, hbf⟩
        · cases U2
          · replace hno' := Lib.hid (hno'.out rfl)
            go_wp2_with fail
            rw [hw1'.out]
            refine wp_region_held_drew (S := (fun w' => (w'.cell? ⟨wr.heap.size, 0, none⟩ = some (.int .i64 x) ∧ w'.cell? ⟨wr.heap.size, 1, none⟩ = some (.int .i64 y)) ∧ w'.cell? ⟨wr.heap.size, 2, none⟩ = some (.int .i64 z) ∧ w'.cell? ⟨wr.heap.size, 3, none⟩ = some (.int .i64 t))) (by kernel_rfl) (by (try dsimp only); (first | exact at''.out _ hk1 | exact at''.out _ hk2 | exact at''.out _ hk3)) (fun hHeld => ?_)
            refine ly_q 0 (v := ?_) hHeld ?_
            try simp only [Act.put, lyA, lyB, lyC]
            refine ly_q 1 (v := ?_) hHeld ?_
            try simp only [Act.put, lyA, lyB, lyC]
            refine ly_a 2 (fun KK hKK => ?_)
            go_simp
            refine (hc1'.out _).mono ?_
            rintro e w2 ⟨rfl, hB2⟩
            have hk2 := hk1.trans (hB2.mono hk1.size)
            try dsimp only
            refine hKK.out _ _ (by (try dsimp only); (first | exact at''.out _ hk1 | exact at''.out _ hk2 | exact at''.out _ hk3)) (fun hHeld => ?_)
            clear hKK KK
            try simp only [Act.put, lyA, lyB, lyC]
            refine ly_q 3 (v := ?_) hHeld ?_
            try simp only [Act.put, lyA, lyB, lyC]
            refine ly_q 4 (v := ?_) hHeld ?_
            try simp only [Act.put, lyA, lyB, lyC]
            refine ly_q 5 (v := ?_) hHeld ?_
            try simp only [Act.put, lyA, lyB, lyC]
            refine ly_q 6 (v := ?_) hHeld ?_
            try simp only [Act.put, lyA, lyB, lyC]
            refine ly_a 7 (fun KK hKK => ?_)
            go_simp
            refine (hc2'.out _).mono ?_
            rintro e w3 ⟨rfl, hB3⟩
            have hk3 := hk2.trans (hB3.mono hk2.size)
            try dsimp only
            refine hKK.out _ _ (by (try dsimp only); (first | exact at''.out _ hk1 | exact at''.out _ hk2 | exact at''.out _ hk3)) (fun hHeld => ?_)
            clear hKK KK
            try simp only [Act.put, lyA, lyB, lyC]
            refine ly_q 8 (v := ?_) hHeld ?_
            try simp only [Act.put, lyA, lyB, lyC]
            refine ly_q 9 (v := ?_) hHeld ?_
            try simp only [Act.put, lyA, lyB, lyC]
            refine ly_q 10 (v := ?_) hHeld ?_
            try simp only [Act.put, lyA, lyB, lyC]
            refine ly_off 11 hHeld ?_
            try simp only [Act.put, lyA, lyB, lyC]
            refine ly_off 12 hHeld ?_
            try simp only [Act.put, lyA, lyB, lyC]
            refine ly_off 13 hHeld ?_
            try simp only [Act.put, lyA, lyB, lyC]
            refine ly_off 14 hHeld ?_
            try simp only [Act.put, lyA, lyB, lyC]
            refine ly_off 15 hHeld ?_
            try simp only [Act.put, lyA, lyB, lyC]
            refine ly_off 16 hHeld ?_
            try simp only [Act.put, lyA, lyB, lyC]
            refine ly_off 17 hHeld ?_
            try simp only [Act.put, lyA, lyB, lyC]
            refine ly_off 18 hHeld ?_
            try simp only [Act.put, lyA, lyB, lyC]
            refine ly_off 19 hHeld ?_
            try simp only [Act.put, lyA, lyB, lyC]
            refine ly_off 20 hHeld ?_
            try simp only [Act.put, lyA, lyB, lyC]
            refine ly_off 21 hHeld ?_
            try simp only [Act.put, lyA, lyB, lyC]
            refine ly_off 22 hHeld ?_
            try simp only [Act.put, lyA, lyB, lyC]
            refine ly_off 23 hHeld ?_
            try simp only [Act.put, lyA, lyB, lyC]
            refine ly_off 24 hHeld ?_
            try simp only [Act.put, lyA, lyB, lyC]
            refine ly_q 25 (v := ?_) hHeld ?_
            try simp only [Act.put, lyA, lyB, lyC]
            refine wpAnyH_done (by kernel_rfl) ?_ _
            have hbf := hb1.trans (hk3.mono hb1.size)
            go_wp2
            go_ret
            exact ⟨by rw [hno'.out]; rfl, hbf⟩
          · by_cases h0 : k = 0
            · have h1 : ¬ (0 : Int) < (k : Int) := by omega
              have h2 : ¬ 0 < k := by omega
              have hst1 := hst0'.out h0
              have hu2 := hu''.out rfl
              have h0' := Lib.hid h0
              have hst1' := Lib.hid hst1
              have hu2' := Lib.hid hu2
              clear h0 hst1 hu2
              go_wp2_with fail
              rw [hw1'.out]
              refine wp_region_held_drew (S := (fun w' => (w'.cell? ⟨wr.heap.size, 0, none⟩ = some (.int .i64 x) ∧ w'.cell? ⟨wr.heap.size, 1, none⟩ = some (.int .i64 y)) ∧ w'.cell? ⟨wr.heap.size, 2, none⟩ = some (.int .i64 z) ∧ w'.cell? ⟨wr.heap.size, 3, none⟩ = some (.int .i64 t))) (by kernel_rfl) (by (try dsimp only); (first | exact at''.out _ hk1 | exact at''.out _ hk2 | exact at''.out _ hk3)) (fun hHeld => ?_)
              refine ly_q 0 (v := ?_) hHeld ?_
              try simp only [Act.put, lyA, lyB, lyC]
              refine ly_q 1 (v := ?_) hHeld ?_
              try simp only [Act.put, lyA, lyB, lyC]
              refine ly_a 2 (fun KK hKK => ?_)
              go_simp
              refine (hc1'.out _).mono ?_
              rintro e w2 ⟨rfl, hB2⟩
              have hk2 := hk1.trans (hB2.mono hk1.size)
              try dsimp only
              refine hKK.out _ _ (by (try dsimp only); (first | exact at''.out _ hk1 | exact at''.out _ hk2 | exact at''.out _ hk3)) (fun hHeld => ?_)
              clear hKK KK
              try simp only [Act.put, lyA, lyB, lyC]
              refine ly_q 3 (v := ?_) hHeld ?_
              try simp only [Act.put, lyA, lyB, lyC]
              refine ly_q 4 (v := ?_) hHeld ?_
              try simp only [Act.put, lyA, lyB, lyC]
              refine ly_q 5 (v := ?_) hHeld ?_
              try simp only [Act.put, lyA, lyB, lyC]
              refine ly_q 6 (v := ?_) hHeld ?_
              try simp only [Act.put, lyA, lyB, lyC]
              refine ly_a 7 (fun KK hKK => ?_)
              go_simp
              refine (hc2'.out _).mono ?_
              rintro e w3 ⟨rfl, hB3⟩
              have hk3 := hk2.trans (hB3.mono hk2.size)
              try dsimp only
              refine hKK.out _ _ (by (try dsimp only); (first | exact at''.out _ hk1 | exact at''.out _ hk2 | exact at''.out _ hk3)) (fun hHeld => ?_)
              clear hKK KK
              try simp only [Act.put, lyA, lyB, lyC]
              refine ly_q 8 (v := ?_) hHeld ?_
              try simp only [Act.put, lyA, lyB, lyC]
              refine ly_q 9 (v := ?_) hHeld ?_
              try simp only [Act.put, lyA, lyB, lyC]
              refine ly_q 10 (v := ?_) hHeld ?_
              try simp only [Act.put, lyA, lyB, lyC]
              refine ly_q 11 (v := ?_) hHeld ?_
              try simp only [Act.put, lyA, lyB, lyC]
              refine ly_q 12 (v := ?_) hHeld ?_
              try simp only [Act.put, lyA, lyB, lyC]
              refine ly_q 13 (v := ?_) hHeld ?_
              try simp only [Act.put, lyA, lyB, lyC]
              refine ly_off 14 hHeld ?_
              try simp only [Act.put, lyA, lyB, lyC]
              refine ly_off 15 hHeld ?_
              try simp only [Act.put, lyA, lyB, lyC]
              refine ly_off 16 hHeld ?_
              try simp only [Act.put, lyA, lyB, lyC]
              refine ly_off 17 hHeld ?_
              try simp only [Act.put, lyA, lyB, lyC]
              refine ly_off 18 hHeld ?_
              try simp only [Act.put, lyA, lyB, lyC]
              refine ly_off 19 hHeld ?_
              try simp only [Act.put, lyA, lyB, lyC]
              refine ly_off 20 hHeld ?_
              try simp only [Act.put, lyA, lyB, lyC]
              refine ly_off 21 hHeld ?_
              try simp only [Act.put, lyA, lyB, lyC]
              refine ly_off 22 hHeld ?_
              try simp only [Act.put, lyA, lyB, lyC]
              refine ly_off 23 hHeld ?_
              try simp only [Act.put, lyA, lyB, lyC]
              refine ly_q 24 (v := ?_) hHeld ?_
              try simp only [Act.put, lyA, lyB, lyC]
              refine ly_q 25 (v := ?_) hHeld ?_
              try simp only [Act.put, lyA, lyB, lyC]
              refine wpAnyH_done (by kernel_rfl) ?_ _
              have hbf := hb1.trans (hk3.mono hb1.size)
              go_wp2
              go_roundw
              case rel => exact ⟨k + 1, by omega, by go_num, hu2'.out, hst1'.out, hbf⟩
              case measure => simp [intOf]; omega
            · have h1 : (0 : Int) < (k : Int) := by omega
              have h2 : 0 < k := by omega
              obtain ⟨mm, hmk, hwm, hm0, hmn, p0, p1⟩ := hpr'.out h0
              have l1 := World.block_lt_of_cell? w _ p0
              simp only at l1
              have hBw1 := hb1
              have atp : ∀ w', Below w1.heap.size w1 w' → w'.cell? ⟨b, off + mm * 4, none⟩ = some (.int .i64 x') ∧ w'.cell? ⟨b, off + mm * 4 + 1, none⟩ = some (.int .i64 y') := fun w' h =>
                ⟨bkeep (hBw1.trans (h.mono hBw1.size)) p0, bkeep (hBw1.trans (h.mono hBw1.size)) p1⟩
              clear p0 p1
              have hmn2 : (mm : Int) < (n : Int) := by omega
              have c4 := fun w => c3'.out w h0 rfl
              have hge2 := hge'.out
              have hst1 := hst'.out h0
              have hbad1 := hbad'.out h0
              have hu2 := hu''.out rfl
              have atp' := Lib.hid atp
              have c4' := Lib.hid c4
              have hst1' := Lib.hid hst1
              have hbad1' := Lib.hid hbad1
              have hu2' := Lib.hid hu2
              have h0' := Lib.hid h0
              have hmk' := Lib.hid hmk
              clear atp c4 hst1 hbad1 hu2 h0 hmk
              cases Lt
              · have hC : 0 ≤ C := by simpa using hge2
                have hR1 := hbad1'.out rfl
                clear hge2
                have hR1' := Lib.hid hR1
                clear hR1
                clear hbad1'
                go_wp2_with fail
                rw [hw1'.out]
                refine wp_region_held_drew (S := (fun w' => ((w'.cell? ⟨wr.heap.size, 0, none⟩ = some (.int .i64 x) ∧ w'.cell? ⟨wr.heap.size, 1, none⟩ = some (.int .i64 y)) ∧ w'.cell? ⟨wr.heap.size, 2, none⟩ = some (.int .i64 z) ∧ w'.cell? ⟨wr.heap.size, 3, none⟩ = some (.int .i64 t)) ∧ w'.cell? ⟨b, off + mm * 4, none⟩ = some (.int .i64 x') ∧ w'.cell? ⟨b, off + mm * 4 + 1, none⟩ = some (.int .i64 y'))) (by kernel_rfl) (by (try dsimp only); (first | exact ⟨at''.out _ hk1, atp'.out _ hk1⟩ | exact ⟨at''.out _ hk2, atp'.out _ hk2⟩ | exact ⟨at''.out _ hk3, atp'.out _ hk3⟩ | exact ⟨at''.out _ hk4, atp'.out _ hk4⟩)) (fun hHeld => ?_)
                refine ly_q 0 (v := ?_) hHeld ?_
                try simp only [Act.put, lyA, lyB, lyC]
                refine ly_q 1 (v := ?_) hHeld ?_
                try simp only [Act.put, lyA, lyB, lyC]
                refine ly_a 2 (fun KK hKK => ?_)
                go_simp
                refine (hc1'.out _).mono ?_
                rintro e w2 ⟨rfl, hB2⟩
                have hk2 := hk1.trans (hB2.mono hk1.size)
                try dsimp only
                refine hKK.out _ _ (by (try dsimp only); (first | exact ⟨at''.out _ hk1, atp'.out _ hk1⟩ | exact ⟨at''.out _ hk2, atp'.out _ hk2⟩ | exact ⟨at''.out _ hk3, atp'.out _ hk3⟩ | exact ⟨at''.out _ hk4, atp'.out _ hk4⟩)) (fun hHeld => ?_)
                clear hKK KK
                try simp only [Act.put, lyA, lyB, lyC]
                refine ly_q 3 (v := ?_) hHeld ?_
                try simp only [Act.put, lyA, lyB, lyC]
                refine ly_q 4 (v := ?_) hHeld ?_
                try simp only [Act.put, lyA, lyB, lyC]
                refine ly_q 5 (v := ?_) hHeld ?_
                try simp only [Act.put, lyA, lyB, lyC]
                refine ly_q 6 (v := ?_) hHeld ?_
                try simp only [Act.put, lyA, lyB, lyC]
                refine ly_a 7 (fun KK hKK => ?_)
                go_simp
                refine (hc2'.out _).mono ?_
                rintro e w3 ⟨rfl, hB3⟩
                have hk3 := hk2.trans (hB3.mono hk2.size)
                try dsimp only
                refine hKK.out _ _ (by (try dsimp only); (first | exact ⟨at''.out _ hk1, atp'.out _ hk1⟩ | exact ⟨at''.out _ hk2, atp'.out _ hk2⟩ | exact ⟨at''.out _ hk3, atp'.out _ hk3⟩ | exact ⟨at''.out _ hk4, atp'.out _ hk4⟩)) (fun hHeld => ?_)
                clear hKK KK
                try simp only [Act.put, lyA, lyB, lyC]
                refine ly_q 8 (v := ?_) hHeld ?_
                try simp only [Act.put, lyA, lyB, lyC]
                refine ly_q 9 (v := ?_) hHeld ?_
                try simp only [Act.put, lyA, lyB, lyC]
                refine ly_q 10 (v := ?_) hHeld ?_
                try simp only [Act.put, lyA, lyB, lyC]
                refine ly_q 11 (v := ?_) hHeld ?_
                try simp only [Act.put, lyA, lyB, lyC]
                refine ly_q 12 (v := ?_) hHeld ?_
                try simp only [Act.put, lyA, lyB, lyC]
                refine ly_q 13 (v := ?_) hHeld ?_
                try simp only [Act.put, lyA, lyB, lyC]
                refine ly_q 14 (v := ?_) hHeld ?_
                try simp only [Act.put, lyA, lyB, lyC]
                refine ly_q 15 (v := ?_) hHeld ?_
                try simp only [Act.put, lyA, lyB, lyC]
                refine ly_q 16 (v := ?_) hHeld ?_
                try simp only [Act.put, lyA, lyB, lyC]
                refine ly_q 17 (v := ?_) hHeld ?_
                try simp only [Act.put, lyA, lyB, lyC]
                refine ly_q 18 (v := ?_) hHeld ?_
                try simp only [Act.put, lyA, lyB, lyC]
                refine ly_q 19 (v := ?_) hHeld ?_
                try simp only [Act.put, lyA, lyB, lyC]
                refine ly_q 20 (v := ?_) hHeld ?_
                try simp only [Act.put, lyA, lyB, lyC]
                refine ly_q 21 (v := ?_) hHeld ?_
                try simp only [Act.put, lyA, lyB, lyC]
                refine ly_a 22 (fun KK hKK => ?_)
                go_simp
                refine (c4'.out _).mono ?_
                rintro e w4 ⟨rfl, hB4⟩
                have hk4 := hk3.trans (hB4.mono hk3.size)
                try dsimp only
                refine hKK.out _ _ (by (try dsimp only); (first | exact ⟨at''.out _ hk1, atp'.out _ hk1⟩ | exact ⟨at''.out _ hk2, atp'.out _ hk2⟩ | exact ⟨at''.out _ hk3, atp'.out _ hk3⟩ | exact ⟨at''.out _ hk4, atp'.out _ hk4⟩)) (fun hHeld => ?_)
                clear hKK KK
                try simp only [Act.put, lyA, lyB, lyC]
                refine ly_q 23 (v := ?_) hHeld ?_
                try simp only [Act.put, lyA, lyB, lyC]
                refine ly_q 24 (v := ?_) hHeld ?_
                try simp only [Act.put, lyA, lyB, lyC]
                refine ly_q 25 (v := ?_) hHeld ?_
                try simp only [Act.put, lyA, lyB, lyC]
                refine wpAnyH_done (by kernel_rfl) ?_ _
                have hbf := hb1.trans (hk4.mono hb1.size)
                go_wp2
                go_ret
                exact ⟨by rw [hR1'.out]; rfl, hbf⟩
              · have hC : ¬ 0 ≤ C := by simpa using hge2
                clear hge2
                go_wp2_with fail
                rw [hw1'.out]
                refine wp_region_held_drew (S := (fun w' => ((w'.cell? ⟨wr.heap.size, 0, none⟩ = some (.int .i64 x) ∧ w'.cell? ⟨wr.heap.size, 1, none⟩ = some (.int .i64 y)) ∧ w'.cell? ⟨wr.heap.size, 2, none⟩ = some (.int .i64 z) ∧ w'.cell? ⟨wr.heap.size, 3, none⟩ = some (.int .i64 t)) ∧ w'.cell? ⟨b, off + mm * 4, none⟩ = some (.int .i64 x') ∧ w'.cell? ⟨b, off + mm * 4 + 1, none⟩ = some (.int .i64 y'))) (by kernel_rfl) (by (try dsimp only); (first | exact ⟨at''.out _ hk1, atp'.out _ hk1⟩ | exact ⟨at''.out _ hk2, atp'.out _ hk2⟩ | exact ⟨at''.out _ hk3, atp'.out _ hk3⟩ | exact ⟨at''.out _ hk4, atp'.out _ hk4⟩)) (fun hHeld => ?_)
                refine ly_q 0 (v := ?_) hHeld ?_
                try simp only [Act.put, lyA, lyB, lyC]
                refine ly_q 1 (v := ?_) hHeld ?_
                try simp only [Act.put, lyA, lyB, lyC]
                refine ly_a 2 (fun KK hKK => ?_)
                go_simp
                refine (hc1'.out _).mono ?_
                rintro e w2 ⟨rfl, hB2⟩
                have hk2 := hk1.trans (hB2.mono hk1.size)
                try dsimp only
                refine hKK.out _ _ (by (try dsimp only); (first | exact ⟨at''.out _ hk1, atp'.out _ hk1⟩ | exact ⟨at''.out _ hk2, atp'.out _ hk2⟩ | exact ⟨at''.out _ hk3, atp'.out _ hk3⟩ | exact ⟨at''.out _ hk4, atp'.out _ hk4⟩)) (fun hHeld => ?_)
                clear hKK KK
                try simp only [Act.put, lyA, lyB, lyC]
                refine ly_q 3 (v := ?_) hHeld ?_
                try simp only [Act.put, lyA, lyB, lyC]
                refine ly_q 4 (v := ?_) hHeld ?_
                try simp only [Act.put, lyA, lyB, lyC]
                refine ly_q 5 (v := ?_) hHeld ?_
                try simp only [Act.put, lyA, lyB, lyC]
                refine ly_q 6 (v := ?_) hHeld ?_
                try simp only [Act.put, lyA, lyB, lyC]
                refine ly_a 7 (fun KK hKK => ?_)
                go_simp
                refine (hc2'.out _).mono ?_
                rintro e w3 ⟨rfl, hB3⟩
                have hk3 := hk2.trans (hB3.mono hk2.size)
                try dsimp only
                refine hKK.out _ _ (by (try dsimp only); (first | exact ⟨at''.out _ hk1, atp'.out _ hk1⟩ | exact ⟨at''.out _ hk2, atp'.out _ hk2⟩ | exact ⟨at''.out _ hk3, atp'.out _ hk3⟩ | exact ⟨at''.out _ hk4, atp'.out _ hk4⟩)) (fun hHeld => ?_)
                clear hKK KK
                try simp only [Act.put, lyA, lyB, lyC]
                refine ly_q 8 (v := ?_) hHeld ?_
                try simp only [Act.put, lyA, lyB, lyC]
                refine ly_q 9 (v := ?_) hHeld ?_
                try simp only [Act.put, lyA, lyB, lyC]
                refine ly_q 10 (v := ?_) hHeld ?_
                try simp only [Act.put, lyA, lyB, lyC]
                refine ly_q 11 (v := ?_) hHeld ?_
                try simp only [Act.put, lyA, lyB, lyC]
                refine ly_q 12 (v := ?_) hHeld ?_
                try simp only [Act.put, lyA, lyB, lyC]
                refine ly_q 13 (v := ?_) hHeld ?_
                try simp only [Act.put, lyA, lyB, lyC]
                refine ly_q 14 (v := ?_) hHeld ?_
                try simp only [Act.put, lyA, lyB, lyC]
                refine ly_q 15 (v := ?_) hHeld ?_
                try simp only [Act.put, lyA, lyB, lyC]
                refine ly_q 16 (v := ?_) hHeld ?_
                try simp only [Act.put, lyA, lyB, lyC]
                refine ly_q 17 (v := ?_) hHeld ?_
                try simp only [Act.put, lyA, lyB, lyC]
                refine ly_q 18 (v := ?_) hHeld ?_
                try simp only [Act.put, lyA, lyB, lyC]
                refine ly_q 19 (v := ?_) hHeld ?_
                try simp only [Act.put, lyA, lyB, lyC]
                refine ly_q 20 (v := ?_) hHeld ?_
                try simp only [Act.put, lyA, lyB, lyC]
                refine ly_q 21 (v := ?_) hHeld ?_
                try simp only [Act.put, lyA, lyB, lyC]
                refine ly_a 22 (fun KK hKK => ?_)
                go_simp
                refine (c4'.out _).mono ?_
                rintro e w4 ⟨rfl, hB4⟩
                have hk4 := hk3.trans (hB4.mono hk3.size)
                try dsimp only
                refine hKK.out _ _ (by (try dsimp only); (first | exact ⟨at''.out _ hk1, atp'.out _ hk1⟩ | exact ⟨at''.out _ hk2, atp'.out _ hk2⟩ | exact ⟨at''.out _ hk3, atp'.out _ hk3⟩ | exact ⟨at''.out _ hk4, atp'.out _ hk4⟩)) (fun hHeld => ?_)
                clear hKK KK
                try simp only [Act.put, lyA, lyB, lyC]
                refine ly_q 23 (v := ?_) hHeld ?_
                try simp only [Act.put, lyA, lyB, lyC]
                refine ly_q 24 (v := ?_) hHeld ?_
                try simp only [Act.put, lyA, lyB, lyC]
                refine ly_q 25 (v := ?_) hHeld ?_
                try simp only [Act.put, lyA, lyB, lyC]
                refine wpAnyH_done (by kernel_rfl) ?_ _
                have hbf := hb1.trans (hk4.mono hb1.size)
                go_wp2
                go_roundw
                case rel => exact ⟨k + 1, by omega, by go_num, hu2'.out, hst1'.out, hbf⟩
                case measure => simp [intOf]; omega
      · obtain rfl : n = k := by omega
        have hfi := hfin'.out hu hr
        obtain ⟨_, _, e, p0, p1, _⟩ := H'.out 0 (by omega)
        cases e
        obtain ⟨_, _, e, q0, q1, _⟩ := H'.out (n - 1) (by omega)
        cases e
        have g1 := hu 0 (by omega)
        have g2 := hu (n - 1) (by omega)
        unfold coordP at g1 g2
        rw [Bool.and_eq_true] at g1 g2
        have k1 := unitR_good (coordR_unit g1.1)
        have k2 := unitR_good (coordR_unit g2.1)
        have z1 := cmp_zero k1
        have z2 := cmp_one k2
        have c5 := fun w => raCmp_any (nth4 f 0).1.1 (nth4 f 0).1.2 0 1 w (good_bd k1) bd_zero
        have c6 := fun w => raCmp_any (nth4 f (n - 1)).1.1 (nth4 f (n - 1)).1.2 1 1 w (good_bd k2) bd_one
        rw [← z1, ← z2] at hfi
        generalize cmpN (nth4 f 0).1.1 (nth4 f 0).1.2 0 1 = C1 at *
        generalize cmpN (nth4 f (n - 1)).1.1 (nth4 f (n - 1)).1.2 1 1 = C2 at *
        obtain ⟨m, hm1⟩ : ∃ m, n - 1 = m := ⟨_, rfl⟩
        rw [hm1] at q0 q1 c6
        obtain ⟨⟨⟨p, q⟩, _⟩, hr1⟩ : ∃ r, nth4 f 0 = r := ⟨_, rfl⟩
        obtain ⟨⟨⟨p', q'⟩, _⟩, hr2⟩ : ∃ r, nth4 f m = r := ⟨_, rfl⟩
        rw [hr1] at p0 p1 c5
        rw [hr2] at q0 q1 c6
        simp only at p0 p1 q0 q1 c5 c6
        rw [Nat.zero_mul, Nat.add_zero] at p0 p1
        have at' : ∀ w', Below wr.heap.size wr w' → (w'.cell? ⟨b, off, none⟩ = some (.int .i64 p) ∧ w'.cell? ⟨b, off + 1, none⟩ = some (.int .i64 q)) ∧ w'.cell? ⟨b, off + m * 4, none⟩ = some (.int .i64 p') ∧ w'.cell? ⟨b, off + m * 4 + 1, none⟩ = some (.int .i64 q') := fun w' h =>
          ⟨⟨bkeep (hB.trans (h.mono hB.size)) p0, bkeep (hB.trans (h.mono hB.size)) p1⟩, bkeep (hB.trans (h.mono hB.size)) q0, bkeep (hB.trans (h.mono hB.size)) q1⟩
        have hk1 := (Below.refl wr.heap.size wr).drew
        have e1 : IntKind.i64.wrap ((n : Int) - 1) = (m : Int) := by rw [IntKind.wrap_i64]; omega
        have e2 : (0 : Int) ≤ (m : Int) := by omega
        have e3 : (m : Int) < (n : Int) := by omega
        have e4 : (0 : Int) ≤ (n : Int) := by omega
        have e5 : (0 : Int) < (n : Int) := by omega
        have e6 : 0 < n := by omega
        have e7 : m < n := by omega
        clear p0 p1 q0 q1 z1 z2 k1 k2 g1 g2 H'
        have hu' := Lib.hid hu
        have hr' := Lib.hid hr
        have hfi' := Lib.hid hfi
        have c5' := Lib.hid c5
        have c6' := Lib.hid c6
        have at'' := Lib.hid at'
        have hm1' := Lib.hid hm1
        have hr1' := Lib.hid hr1
        have hr2' := Lib.hid hr2
        clear hu hr hfi c5 c6 at' hm1 hr1 hr2
        have hfi := hfi'.out
        cases hz1 : (C1 == 0)
        · rw [hz1, Bool.false_and] at hfi
          subst hfi
          go_wp2_with fail
          refine wp_region_held_drew (S := (fun w' => (w'.cell? ⟨b, off, none⟩ = some (.int .i64 p) ∧ w'.cell? ⟨b, off + 1, none⟩ = some (.int .i64 q)) ∧ w'.cell? ⟨b, off + m * 4, none⟩ = some (.int .i64 p') ∧ w'.cell? ⟨b, off + m * 4 + 1, none⟩ = some (.int .i64 q'))) (by kernel_rfl) (by (try dsimp only); (first | exact at''.out _ hk1 | exact at''.out _ hk2 | exact at''.out _ hk3)) (fun hHeld => ?_)
          refine ly_q 0 (v := ?_) hHeld ?_
          try simp only [Act.put, lyA, lyB, lyC]
          refine ly_q 1 (v := ?_) hHeld ?_
          try simp only [Act.put, lyA, lyB, lyC]
          refine ly_q 2 (v := ?_) hHeld ?_
          try simp only [Act.put, lyA, lyB, lyC]
          refine ly_q 3 (v := ?_) hHeld ?_
          try simp only [Act.put, lyA, lyB, lyC]
          refine ly_a 4 (fun KK hKK => ?_)
          go_simp
          refine (raInt_any _ _).mono ?_
          rintro e w2 ⟨rfl, hB2⟩
          have hk2 := hk1.trans (hB2.mono hk1.size)
          try dsimp only
          refine hKK.out _ _ (by (try dsimp only); (first | exact at''.out _ hk1 | exact at''.out _ hk2 | exact at''.out _ hk3)) (fun hHeld => ?_)
          clear hKK KK
          try simp only [Act.put, lyA, lyB, lyC]
          refine ly_a 5 (fun KK hKK => ?_)
          go_simp
          refine (c5'.out _).mono ?_
          rintro e w3 ⟨rfl, hB3⟩
          have hk3 := hk2.trans (hB3.mono hk2.size)
          try dsimp only
          refine hKK.out _ _ (by (try dsimp only); (first | exact at''.out _ hk1 | exact at''.out _ hk2 | exact at''.out _ hk3)) (fun hHeld => ?_)
          clear hKK KK
          try simp only [Act.put, lyA, lyB, lyC]
          refine ly_q 6 (v := ?_) hHeld ?_
          try simp only [Act.put, lyA, lyB, lyC]
          refine ly_q 7 (v := ?_) hHeld ?_
          try simp only [Act.put, lyA, lyB, lyC]
          refine ly_off 8 hHeld ?_
          try simp only [Act.put, lyA, lyB, lyC]
          refine ly_off 9 hHeld ?_
          try simp only [Act.put, lyA, lyB, lyC]
          refine ly_off 10 hHeld ?_
          try simp only [Act.put, lyA, lyB, lyC]
          refine ly_off 11 hHeld ?_
          try simp only [Act.put, lyA, lyB, lyC]
          refine ly_off 12 hHeld ?_
          try simp only [Act.put, lyA, lyB, lyC]
          refine ly_off 13 hHeld ?_
          try simp only [Act.put, lyA, lyB, lyC]
          refine ly_off 14 hHeld ?_
          try simp only [Act.put, lyA, lyB, lyC]
          refine ly_off 15 hHeld ?_
          try simp only [Act.put, lyA, lyB, lyC]
          refine ly_off 16 hHeld ?_
          try simp only [Act.put, lyA, lyB, lyC]
          refine ly_off 17 hHeld ?_
          try simp only [Act.put, lyA, lyB, lyC]
          refine ly_q 18 (v := ?_) hHeld ?_
          try simp only [Act.put, lyA, lyB, lyC]
          refine ly_q 19 (v := ?_) hHeld ?_
          try simp only [Act.put, lyA, lyB, lyC]
          refine wpAnyH_done (by kernel_rfl) ?_ _
          have hbf := hB.trans (hk3.mono hB.size)
          go_wp2
          go_ret
          exact ⟨rfl, hbf⟩
        · rw [hz1, Bool.true_and] at hfi
          generalize hz2 : (C2 == 0) = Z2 at *
          subst hfi
          go_wp2_with fail
          refine wp_region_held_drew (S := (fun w' => (w'.cell? ⟨b, off, none⟩ = some (.int .i64 p) ∧ w'.cell? ⟨b, off + 1, none⟩ = some (.int .i64 q)) ∧ w'.cell? ⟨b, off + m * 4, none⟩ = some (.int .i64 p') ∧ w'.cell? ⟨b, off + m * 4 + 1, none⟩ = some (.int .i64 q'))) (by kernel_rfl) (by (try dsimp only); (first | exact at''.out _ hk1 | exact at''.out _ hk2 | exact at''.out _ hk3 | exact at''.out _ hk4 | exact at''.out _ hk5)) (fun hHeld => ?_)
          refine ly_q 0 (v := ?_) hHeld ?_
          try simp only [Act.put, lyA, lyB, lyC]
          refine ly_q 1 (v := ?_) hHeld ?_
          try simp only [Act.put, lyA, lyB, lyC]
          refine ly_q 2 (v := ?_) hHeld ?_
          try simp only [Act.put, lyA, lyB, lyC]
          refine ly_q 3 (v := ?_) hHeld ?_
          try simp only [Act.put, lyA, lyB, lyC]
          refine ly_a 4 (fun KK hKK => ?_)
          go_simp
          refine (raInt_any _ _).mono ?_
          rintro e w2 ⟨rfl, hB2⟩
          have hk2 := hk1.trans (hB2.mono hk1.size)
          try dsimp only
          refine hKK.out _ _ (by (try dsimp only); (first | exact at''.out _ hk1 | exact at''.out _ hk2 | exact at''.out _ hk3 | exact at''.out _ hk4 | exact at''.out _ hk5)) (fun hHeld => ?_)
          clear hKK KK
          try simp only [Act.put, lyA, lyB, lyC]
          refine ly_a 5 (fun KK hKK => ?_)
          go_simp
          refine (c5'.out _).mono ?_
          rintro e w3 ⟨rfl, hB3⟩
          have hk3 := hk2.trans (hB3.mono hk2.size)
          try dsimp only
          refine hKK.out _ _ (by (try dsimp only); (first | exact at''.out _ hk1 | exact at''.out _ hk2 | exact at''.out _ hk3 | exact at''.out _ hk4 | exact at''.out _ hk5)) (fun hHeld => ?_)
          clear hKK KK
          try simp only [Act.put, lyA, lyB, lyC]
          refine ly_q 6 (v := ?_) hHeld ?_
          try simp only [Act.put, lyA, lyB, lyC]
          refine ly_q 7 (v := ?_) hHeld ?_
          try simp only [Act.put, lyA, lyB, lyC]
          refine ly_q 8 (v := ?_) hHeld ?_
          try simp only [Act.put, lyA, lyB, lyC]
          refine ly_q 9 (v := ?_) hHeld ?_
          try simp only [Act.put, lyA, lyB, lyC]
          refine ly_q 10 (v := ?_) hHeld ?_
          try simp only [Act.put, lyA, lyB, lyC]
          refine ly_q 11 (v := ?_) hHeld ?_
          try simp only [Act.put, lyA, lyB, lyC]
          refine ly_q 12 (v := ?_) hHeld ?_
          try simp only [Act.put, lyA, lyB, lyC]
          refine ly_q 13 (v := ?_) hHeld ?_
          try simp only [Act.put, lyA, lyB, lyC]
          refine ly_q 14 (v := ?_) hHeld ?_
          try simp only [Act.put, lyA, lyB, lyC]
          refine ly_a 15 (fun KK hKK => ?_)
          go_simp
          refine (raInt_any _ _).mono ?_
          rintro e w4 ⟨rfl, hB4⟩
          have hk4 := hk3.trans (hB4.mono hk3.size)
          try dsimp only
          refine hKK.out _ _ (by (try dsimp only); (first | exact at''.out _ hk1 | exact at''.out _ hk2 | exact at''.out _ hk3 | exact at''.out _ hk4 | exact at''.out _ hk5)) (fun hHeld => ?_)
          clear hKK KK
          try simp only [Act.put, lyA, lyB, lyC]
          refine ly_a 16 (fun KK hKK => ?_)
          go_simp
          refine (c6'.out _).mono ?_
          rintro e w5 ⟨rfl, hB5⟩
          have hk5 := hk4.trans (hB5.mono hk4.size)
          try dsimp only
          refine hKK.out _ _ (by (try dsimp only); (first | exact at''.out _ hk1 | exact at''.out _ hk2 | exact at''.out _ hk3 | exact at''.out _ hk4 | exact at''.out _ hk5)) (fun hHeld => ?_)
          clear hKK KK
          try simp only [Act.put, lyA, lyB, lyC]
          refine ly_q 17 (v := ?_) hHeld ?_
          try simp only [Act.put, lyA, lyB, lyC]
          refine ly_q 18 (v := ?_) hHeld ?_
          try simp only [Act.put, lyA, lyB, lyC]
          refine ly_q 19 (v := ?_) hHeld ?_
          try simp only [Act.put, lyA, lyB, lyC]
          refine wpAnyH_done (by kernel_rfl) ?_ _
          have hbf := hB.trans (hk5.mono hB.size)
          go_wp2
          go_ret
          exact ⟨rfl, hbf⟩

end Go.Proofs.YtjkgilenhoomoaaGreat

namespace Go.Proofs.YtjkgilenhoomoaaGreat
open Go.RowKit

/-- A pair of fractions as a value. -/
abbrev quadV (p : Quad) : Value := .agg #[.int .i64 p.1.1, .int .i64 p.1.2, .int .i64 p.2.1, .int .i64 p.2.2]
/-- The first place at which p holds, or -1. -/
def idx4 (p : Quad → Bool) (xs : List Quad) : Int := match xs.findIdx? p with | some k => (k : Int) | none => -1
theorem idx4_hit {p : Quad → Bool} {xs : List Quad} {k : Nat} (hk : k < xs.length) (hno : ∀ j, j < k → p (nth4 xs j) = false) (hy : p (nth4 xs k) = true) : idx4 p xs = k := by
  have : xs.findIdx? p = some k := by
    rw [List.findIdx?_eq_some_iff_getElem]
    refine ⟨hk, by rw [← nth4_eq hk]; exact hy, fun j hj => ?_⟩
    rw [← nth4_eq (by omega)]; simp [hno j hj]
  simp [idx4, this]
theorem idx4_none {p : Quad → Bool} {xs : List Quad} (hno : ∀ j, j < xs.length → p (nth4 xs j) = false) : idx4 p xs = -1 := by
  have : xs.findIdx? p = none := by
    rw [List.findIdx?_eq_none_iff]
    intro x hx
    obtain ⟨j, hj, rfl⟩ := List.getElem_of_mem hx
    rw [← nth4_eq hj]; exact hno j hj
  simp [idx4, this]
theorem idx4_geq (p : Quad → Bool) (xs : List Quad) : decide (idx4 p xs ≥ 0) = xs.any p := by
  unfold idx4
  cases h : xs.findIdx? p with
  | none =>
    rw [List.findIdx?_eq_none_iff] at h
    have : xs.any p = false := by rw [List.any_eq_false]; intro x hx; rw [h x hx]; simp
    rw [this]; rfl
  | some k =>
    rw [List.findIdx?_eq_some_iff_getElem] at h
    obtain ⟨hk, hp, _⟩ := h
    have : xs.any p = true := by rw [List.any_eq_true]; exact ⟨_, List.getElem_mem hk, hp⟩
    rw [this]; simp

/-- A function value of pairs of fractions that says p of these, whatever has been laid since w. -/
def Says4 (g : FuncId) (cb : Array Value) (p : Quad → Bool) (xs : List Quad) (w : World) : Prop :=
  ∀ i w', i < xs.length → Below w.heap.size w w' → Calls Tryz.prog g (#[quadV (nth4 xs i)] ++ cb) w' (Ret (.bool (p (nth4 xs i))) w')

set_option maxHeartbeats 400000 in
theorem indexFuncP_any (v : Value) (xs : List Quad) (g : FuncId) (cb : Array Value) (p : Quad → Bool) (w : World) (eg : Enters Tryz.prog g) (hp : Says4 g cb p xs w) (hv : QuadV w v xs) (hm : xs.length ≤ 1099511627776) :
    Calls Tryz.prog 70 #[v, .func (.func g) #[] cb] w (Ret (.int .i64 (idx4 p xs)) w) := by
  have heg : ∀ args w, (callFunc g args).run Tryz.prog w = .ok (.enter g args) w := eg
  obtain ⟨ao, cap, rfl, h1, h2, H0⟩ := hv.form
  obtain ⟨n, hn⟩ : ∃ n, xs.length = n := ⟨_, rfl⟩
  rw [hn] at hm hv h1 ⊢
  clear H0 h1 h2
  have hn' := Lib.hid hn
  clear hn
  go_enter Tryz.func70, Tryz.ntmps70
  go_wp2
  go_loopw [8] (fun i wr => ∃ k : Nat, k ≤ n ∧ i = .int .i64 k ∧ (∀ j, j < k → p (nth4 xs j) = false) ∧ Below w.heap.size w wr) (fun i _ => n - (intOf i).toNat)
  case atStart => exact ⟨0, Nat.zero_le _, rfl, fun j hj => absurd hj (Nat.not_lt_zero j), Below.refl _ _⟩
  case round =>
    obtain ⟨k, hk, rfl, hno, hB⟩ := hrel
    have hno' := Lib.hid hno
    clear hno
    by_cases hlt : k < n
    · obtain ⟨ao', cap', e, _, _, H⟩ := (hv.below hB).form
      obtain ⟨rfl, e1, rfl⟩ := Value.slice.inj e
      clear e1
      obtain ⟨b, off, rfl, hc0, hc1, hc2, hc3⟩ := H k (by rw [hn'.out]; exact hlt)
      have hcall := hp k wr (by rw [hn'.out]; exact hlt) hB
      obtain ⟨r, hr⟩ : ∃ r, nth4 xs k = r := ⟨_, rfl⟩
      rw [hr] at hc0 hc1 hc2 hc3 hcall
      have hcall' := Lib.hid hcall
      have hr' := Lib.hid hr
      clear hcall hr
      clear H e
      cases hb : p r
      · have hb' := Lib.hid hb
        clear hb
        go_wp2_with fail
        refine (hcall'.out).mono ?_
        rintro e w' ⟨rfl, hB'⟩
        rw [hb'.out]
        go_wp2
        go_roundw
        case rel => exact ⟨k + 1, by omega, by go_num, fun j hj => by
          rcases Nat.lt_succ_iff_lt_or_eq.1 hj with h | rfl
          · exact hno'.out j h
          · rw [hr'.out]; exact hb'.out, hB.trans (hB'.mono hB.size)⟩
        case measure => simp [intOf]; omega
      · have hb' := Lib.hid hb
        clear hb
        go_wp2_with fail
        refine (hcall'.out).mono ?_
        rintro e w' ⟨rfl, hB'⟩
        rw [hb'.out]
        go_wp2
        go_ret
        exact ⟨by rw [idx4_hit (by rw [hn'.out]; exact hlt) hno'.out (by rw [hr'.out]; exact hb'.out)]; rfl, hB.trans (hB'.mono hB.size)⟩
    · obtain rfl : k = n := by omega
      go_wp2
      go_ret
      exact ⟨by rw [idx4_none (by rw [hn'.out]; exact hno'.out)]; rfl, hB⟩
theorem containsFuncP_any (v : Value) (xs : List Quad) (g : FuncId) (cb : Array Value) (p : Quad → Bool) (w : World) (eg : Enters Tryz.prog g) (hp : Says4 g cb p xs w) (hv : QuadV w v xs) (hm : xs.length ≤ 1099511627776) :
    Calls Tryz.prog 78 #[v, .func (.func g) #[] cb] w (Ret (.bool (xs.any p)) w) := by
  go_enter Tryz.func78, Tryz.ntmps78
  go_wp2_with fail
  refine (indexFuncP_any v xs g cb p _ eg hp hv hm).mono ?_
  rintro e w' ⟨rfl, hB⟩
  go_wp2
  go_ret
  refine ⟨?_, hB⟩
  rw [← idx4_geq]; rfl
set_option maxHeartbeats 400000 in
theorem indexFuncI_any (v : Value) (xs : List Quad) (g : FuncId) (cb : Array Value) (p : Quad → Bool) (w : World) (eg : Enters Tryz.prog g) (hp : Says4 g cb p xs w) (hv : QuadV w v xs) (hm : xs.length ≤ 1099511627776) :
    Calls Tryz.prog 109 #[v, .func (.func g) #[] cb] w (Ret (.int .i64 (idx4 p xs)) w) := by
  have heg : ∀ args w, (callFunc g args).run Tryz.prog w = .ok (.enter g args) w := eg
  obtain ⟨ao, cap, rfl, h1, h2, H0⟩ := hv.form
  obtain ⟨n, hn⟩ : ∃ n, xs.length = n := ⟨_, rfl⟩
  rw [hn] at hm hv h1 ⊢
  clear H0 h1 h2
  have hn' := Lib.hid hn
  clear hn
  go_enter Tryz.func109, Tryz.ntmps109
  go_wp2
  go_loopw [8] (fun i wr => ∃ k : Nat, k ≤ n ∧ i = .int .i64 k ∧ (∀ j, j < k → p (nth4 xs j) = false) ∧ Below w.heap.size w wr) (fun i _ => n - (intOf i).toNat)
  case atStart => exact ⟨0, Nat.zero_le _, rfl, fun j hj => absurd hj (Nat.not_lt_zero j), Below.refl _ _⟩
  case round =>
    obtain ⟨k, hk, rfl, hno, hB⟩ := hrel
    have hno' := Lib.hid hno
    clear hno
    by_cases hlt : k < n
    · obtain ⟨ao', cap', e, _, _, H⟩ := (hv.below hB).form
      obtain ⟨rfl, e1, rfl⟩ := Value.slice.inj e
      clear e1
      obtain ⟨b, off, rfl, hc0, hc1, hc2, hc3⟩ := H k (by rw [hn'.out]; exact hlt)
      have hcall := hp k wr (by rw [hn'.out]; exact hlt) hB
      obtain ⟨r, hr⟩ : ∃ r, nth4 xs k = r := ⟨_, rfl⟩
      rw [hr] at hc0 hc1 hc2 hc3 hcall
      have hcall' := Lib.hid hcall
      have hr' := Lib.hid hr
      clear hcall hr
      clear H e
      cases hb : p r
      · have hb' := Lib.hid hb
        clear hb
        go_wp2_with fail
        refine (hcall'.out).mono ?_
        rintro e w' ⟨rfl, hB'⟩
        rw [hb'.out]
        go_wp2
        go_roundw
        case rel => exact ⟨k + 1, by omega, by go_num, fun j hj => by
          rcases Nat.lt_succ_iff_lt_or_eq.1 hj with h | rfl
          · exact hno'.out j h
          · rw [hr'.out]; exact hb'.out, hB.trans (hB'.mono hB.size)⟩
        case measure => simp [intOf]; omega
      · have hb' := Lib.hid hb
        clear hb
        go_wp2_with fail
        refine (hcall'.out).mono ?_
        rintro e w' ⟨rfl, hB'⟩
        rw [hb'.out]
        go_wp2
        go_ret
        exact ⟨by rw [idx4_hit (by rw [hn'.out]; exact hlt) hno'.out (by rw [hr'.out]; exact hb'.out)]; rfl, hB.trans (hB'.mono hB.size)⟩
    · obtain rfl : k = n := by omega
      go_wp2
      go_ret
      exact ⟨by rw [idx4_none (by rw [hn'.out]; exact hno'.out)]; rfl, hB⟩
theorem containsFuncI_any (v : Value) (xs : List Quad) (g : FuncId) (cb : Array Value) (p : Quad → Bool) (w : World) (eg : Enters Tryz.prog g) (hp : Says4 g cb p xs w) (hv : QuadV w v xs) (hm : xs.length ≤ 1099511627776) :
    Calls Tryz.prog 85 #[v, .func (.func g) #[] cb] w (Ret (.bool (xs.any p)) w) := by
  go_enter Tryz.func85, Tryz.ntmps85
  go_wp2_with fail
  refine (indexFuncI_any v xs g cb p _ eg hp hv hm).mono ?_
  rintro e w' ⟨rfl, hB⟩
  go_wp2
  go_ret
  refine ⟨?_, hB⟩
  rw [← idx4_geq]; rfl

end Go.Proofs.YtjkgilenhoomoaaGreat

namespace Go.Proofs.YtjkgilenhoomoaaGreat
open Go.RowKit
set_option maxRecDepth 100000

set_option maxHeartbeats 800000 in
theorem xsOf_any (v : Value) (f : List Quad) (w : World) (hv : QuadV w v f) (hm : f.length ≤ 1099511627776) :
    Calls Tryz.prog 84 #[v] w (RetO OwnR (xsL f) w) := by
  obtain ⟨ao, cap, rfl, _, _, H⟩ := hv.form
  have hst : ∀ k, k < f.length → xsL (f.take (k + 1)) = xsL (f.take k) ++ [(nth4 f k).1] := fun k hk => by
    rw [take_nth4 hk]; simp [xsL]
  have hln : ∀ k, k ≤ f.length → (xsL (f.take k)).length = k := fun k hk => by rw [xsL_len, List.length_take]; omega
  have hall : xsL (f.take f.length) = xsL f := by rw [List.take_length]
  have h0 : xsL (f.take 0) = [] := rfl
  obtain ⟨n, hn⟩ : ∃ n, f.length = n := ⟨_, rfl⟩
  rw [hn] at hm hv H hst hln hall ⊢
  generalize xsL f = R at *
  have hn' := Lib.hid hn
  have hv' := Lib.hid hv
  have H' := Lib.hid H
  have hst' := Lib.hid hst
  have hln' := Lib.hid hln
  have hall' := Lib.hid hall
  have h0' := Lib.hid h0
  clear hn hv H hst hln hall h0
  go_enter Tryz.func84, Tryz.ntmps84
  go_wp2
  go_loopw [3, 8] (fun o i wr => ∃ k : Nat, k ≤ n ∧ i = .int .i64 k ∧ GrowR wr w.heap.size o (xsL (f.take k)) ∧ Below w.heap.size w wr) (fun _ i _ => n - (intOf i).toNat)
  case atStart => exact ⟨0, Nat.zero_le _, rfl, by rw [h0'.out]; exact GrowR.nil _ _, Below.refl _ _⟩
  case round =>
    obtain ⟨k, hk, rfl, hg, hB⟩ := hrel
    by_cases hlt : k < n
    · obtain ⟨b, off, rfl, d0, d1, d2, d3⟩ := H'.out k hlt
      have l0 := World.block_lt_of_cell? w _ d0
      simp only at l0
      rw [← hB.cell (p := ⟨b, off + k * 4, none⟩) l0] at d0
      rw [← hB.cell (p := ⟨b, off + k * 4 + 1, none⟩) l0] at d1
      rw [← hB.cell (p := ⟨b, off + k * 4 + 2, none⟩) l0] at d2
      rw [← hB.cell (p := ⟨b, off + k * 4 + 3, none⟩) l0] at d3
      have hst1 := hst'.out k hlt
      have hl1 := hln'.out k hk
      obtain ⟨⟨⟨x, y⟩, ⟨z, t⟩⟩, hq⟩ : ∃ r, nth4 f k = r := ⟨_, rfl⟩
      rw [hq] at d0 d1 d2 d3 hst1
      simp only at d0 d1 d2 d3 hst1
      obtain ⟨w1, hw1⟩ : ∃ W, wr.alloc (.cells #[.int .i64 x, .int .i64 y, .int .i64 z, .int .i64 t] 48) = W := ⟨_, rfl⟩
      have hB1 : Below wr.heap.size wr w1 := by rw [← hw1]; exact (Below.refl _ _).alloc (Nat.le_refl _) _
      have hz1 : wr.heap.size + 1 = w1.heap.size := by rw [← hw1]; simp
      have hg1 := hg.below hB1
      have hb1 := hB.trans (hB1.mono hB.size)
      have hs1 : w.heap.size ≤ w1.heap.size := hb1.size
      generalize hA : xsL (f.take k) = A at *
      have hst1' := Lib.hid hst1
      have hq' := Lib.hid hq
      have hw1' := Lib.hid hw1
      have hg1' := Lib.hid hg1
      have hz1' := Lib.hid hz1
      have hA' := Lib.hid hA
      clear hst1 hq hw1 hg1 hz1 hA
      clear hg hB1
      go_wp2_with (at_builtin; rw [hw1'.out, hz1'.out]; refine wpList_append_rat rfl _ _ rfl w.heap.size u3 A x y _ rfl rfl hg1'.out (by omega) hs1 ?_)
      intro v' w' hown' hgrow
      have hbf := hg1'.out.belowB hb1 (Nat.le_refl _) hs1 hgrow
      go_wp2
      go_roundw
      case rel => exact ⟨k + 1, by omega, by go_num, by rw [hst1'.out]; exact hown', hbf⟩
      case measure => simp [intOf]; omega
    · obtain rfl : n = k := by omega
      rw [hall'.out] at hg
      have ho := hg.own
      clear hg
      have ho' := Lib.hid ho
      clear ho
      clear H'
      go_wp2
      go_ret
      exact ⟨_, rfl, ho'.out, hB⟩

set_option maxHeartbeats 400000 in
theorem isMap1_any (q : Quad) (w : World) : Calls Tryz.prog 79 #[quadV q] w (Ret (.bool (!(coordP q))) w) := by
  obtain ⟨⟨x, y⟩, ⟨z, t⟩⟩ := q
  have c1 := fun w => isCoord_any (x, y) w
  have c2 := fun w => isCoord_any (z, t) w
  simp only at c1 c2
  show Calls _ _ #[.agg #[.int .i64 x, .int .i64 y, .int .i64 z, .int .i64 t]] w (Ret (.bool (!(coordR (x, y) && coordR (z, t)))) w)
  generalize coordR (x, y) = U at *
  generalize coordR (z, t) = V at *
  have hB : Below w.heap.size w (w.alloc (.cells #[.int .i64 x, .int .i64 y, .int .i64 z, .int .i64 t] 48)) := (Below.refl _ _).alloc (Nat.le_refl _) _
  have x1 : (w.alloc (.cells #[.int .i64 x, .int .i64 y, .int .i64 z, .int .i64 t] 48)).cell? ⟨w.heap.size, 2, none⟩ = some (.int .i64 z) := by simp [go_sem]
  have x2 : (w.alloc (.cells #[.int .i64 x, .int .i64 y, .int .i64 z, .int .i64 t] 48)).cell? ⟨w.heap.size, 3, none⟩ = some (.int .i64 t) := by simp [go_sem]
  have c1' := Lib.hid c1
  have c2' := Lib.hid c2
  have x1' := Lib.hid x1
  have x2' := Lib.hid x2
  clear c1 c2 x1 x2
  cases U
  · rw [Bool.false_and]
    go_enter Tryz.func79, Tryz.ntmps79
    go_wp2_with fail
    refine (c1'.out _).mono ?_
    rintro e w1 ⟨rfl, hB1⟩
    have hb1 := hB.trans (hB1.mono hB.size)
    go_wp2
    go_ret
    exact ⟨rfl, hb1⟩
  · rw [Bool.true_and]
    go_enter Tryz.func79, Tryz.ntmps79
    go_wp2_with fail
    refine (c1'.out _).mono ?_
    rintro e w1 ⟨rfl, hB1⟩
    have hb1 := hB.trans (hB1.mono hB.size)
    have y1 := bkeep hB1 x1'.out
    have y2 := bkeep hB1 x2'.out
    go_wp2_with fail
    refine (c2'.out _).mono ?_
    rintro e w2 ⟨rfl, hB2⟩
    have hb2 := hb1.trans (hB2.mono hb1.size)
    go_wp2
    go_ret
    exact ⟨rfl, hb2⟩

set_option linter.unusedSimpArgs false in
set_option maxHeartbeats 2000000 in
theorem isMap_any (v : Value) (f : List Quad) (w : World) (hv : QuadV w v f) (hm : f.length ≤ 1099511627776) :
    Calls Tryz.prog 64 #[v] w (Ret (.bool (mapB f)) w) := by
  have cc := containsFuncP_any v f 79 #[] (fun q => !(coordP q)) w (enters_of Tryz.func79 (by kernel_rfl) rfl) (fun i w' _ _ => isMap1_any _ w') hv hm
  have cx := fun w' (hB : Below w.heap.size w w') => xsOf_any v f w' (hv.below hB) hm
  obtain ⟨ao, cap, rfl, _, _, H⟩ := hv.form
  have c1 := fun w => within_any (f.length : Int) 2 12 w
  cases hw : inB f.length 2 12
  · rw [hw] at c1
    rw [mapB_no_len hw]
    clear hw cc cx
    generalize f.length = n at *
    have c1' := Lib.hid c1
    clear c1
    clear H
    go_enter Tryz.func64, Tryz.ntmps64
    go_wp2_with fail
    refine (c1'.out _).mono ?_
    rintro e w_ ⟨rfl, rfl⟩
    go_wp2
    go_ret
    exact ⟨rfl, Below.refl _ _⟩
  rw [hw] at c1
  have hw2 := inB_true.1 hw
  have hany : (f.any fun q => !(coordP q)) = !(f.all coordP) := by
    rw [List.all_eq_not_any_not, Bool.not_not]
  rw [hany] at cc
  cases ha : f.all coordP
  · rw [ha] at cc
    rw [show mapB f = false by unfold mapB; rw [ha]; simp]
    clear ha hany hw cx H
    generalize f.length = n at *
    have c1' := Lib.hid c1
    have cc' := Lib.hid cc
    clear c1 cc
    go_enter Tryz.func64, Tryz.ntmps64
    go_wp2_with fail
    refine (c1'.out _).mono ?_
    rintro e w_ ⟨rfl, rfl⟩
    go_wp2_with fail
    refine (cc'.out).mono ?_
    rintro e w1 ⟨rfl, hB1⟩
    go_wp2
    go_ret
    exact ⟨rfl, hB1⟩
  · rw [ha] at cc
    have hb : ∀ i, i < (xsL f).length → BdR (nthR (xsL f) i).1 (nthR (xsL f) i).2 := fun i hi => by
      rw [xsL_len] at hi
      rw [nthR_xsL hi]
      have := all_nth4 ha hi
      unfold coordP at this
      rw [Bool.and_eq_true] at this
      exact good_bd (unitR_good (coordR_unit this.1))
    have ci := fun u w' (hu : RatsV w' u (xsL f)) => isRising_any u (xsL f) w' hu (by rw [xsL_len]; exact hm) hb
    rw [xsL_len] at ci
    have hval : mapB f = (riseK (xsL f) f.length && (decide ((nth4 f 0).1 = (0, 1)) && decide ((nth4 f (f.length - 1)).1 = (1, 1)))) := by
      unfold mapB; rw [hw, ha, Bool.true_and, Bool.true_and]
    rw [hval]
    obtain ⟨b, off, e, p0, p1, _⟩ := H 0 (by omega)
    cases e
    obtain ⟨_, _, e, q0, q1, _⟩ := H (f.length - 1) (by omega)
    cases e
    clear hval ha hany hw H hb
    generalize riseK (xsL f) f.length = K at *
    obtain ⟨n, hn⟩ : ∃ n, f.length = n := ⟨_, rfl⟩
    rw [hn] at hw2 hm hv c1 cc cx q0 q1 ⊢
    obtain ⟨m, hm1⟩ : ∃ m, n - 1 = m := ⟨_, rfl⟩
    rw [hm1] at q0 q1 ⊢
    obtain ⟨⟨⟨p, q⟩, _⟩, hr1⟩ : ∃ r, nth4 f 0 = r := ⟨_, rfl⟩
    obtain ⟨⟨⟨p', q'⟩, _⟩, hr2⟩ : ∃ r, nth4 f m = r := ⟨_, rfl⟩
    rw [hr1] at p0 p1 ⊢
    rw [hr2] at q0 q1 ⊢
    simp only at p0 p1 q0 q1
    rw [Nat.zero_mul, Nat.add_zero] at p0 p1
    have e1 : IntKind.i64.wrap ((n : Int) - 1) = (m : Int) := by rw [IntKind.wrap_i64]; omega
    have e2 : (0 : Int) ≤ (m : Int) := by omega
    have e3 : (m : Int) < (n : Int) := by omega
    have e4 : (0 : Int) ≤ (n : Int) := by omega
    have e5 : (0 : Int) < (n : Int) := by omega
    have e6 : 0 < n := by omega
    have e7 : m < n := by omega
    have at' : ∀ w', Below w.heap.size w w' → (w'.cell? ⟨b, off, none⟩ = some (.int .i64 p) ∧ w'.cell? ⟨b, off + 1, none⟩ = some (.int .i64 q)) ∧ w'.cell? ⟨b, off + m * 4, none⟩ = some (.int .i64 p') ∧ w'.cell? ⟨b, off + m * 4 + 1, none⟩ = some (.int .i64 q') := fun w' h =>
      ⟨⟨bkeep h p0, bkeep h p1⟩, bkeep h q0, bkeep h q1⟩
    clear p0 p1 q0 q1
    obtain ⟨V, hV⟩ : ∃ V, (K && (decide ((p, q) = ((0 : Int), (1 : Int))) && decide ((p', q') = ((1 : Int), (1 : Int))))) = V := ⟨_, rfl⟩
    rw [hV]
    have c1' := Lib.hid c1
    have cc' := Lib.hid cc
    have cx' := Lib.hid cx
    have ci' := Lib.hid ci
    have hn' := Lib.hid hn
    have hm1' := Lib.hid hm1
    have hr1' := Lib.hid hr1
    have hr2' := Lib.hid hr2
    have at'' := Lib.hid at'
    have hV' := Lib.hid hV
    have hv' := Lib.hid hv
    clear c1 cc cx ci hn hm1 hr1 hr2 at' hV hv
    go_enter Tryz.func64, Tryz.ntmps64
    go_wp2_with fail
    refine (c1'.out _).mono ?_
    rintro e w_ ⟨rfl, rfl⟩
    go_wp2_with fail
    refine (cc'.out).mono ?_
    rintro e w1 ⟨rfl, hB1⟩
    have hk1 := hB1.drew
    by_cases h1 : (p, q) = ((0 : Int), (1 : Int))
    rotate_left
    · have hV2 := hV'.out
      rw [decide_eq_false h1, Bool.false_and, Bool.and_false] at hV2
      subst hV2
      clear hV'
      go_wp2_with fail
      refine wp_region_held_drew (S := (fun w' => (w'.cell? ⟨b, off, none⟩ = some (.int .i64 p) ∧ w'.cell? ⟨b, off + 1, none⟩ = some (.int .i64 q)) ∧ w'.cell? ⟨b, off + m * 4, none⟩ = some (.int .i64 p') ∧ w'.cell? ⟨b, off + m * 4 + 1, none⟩ = some (.int .i64 q'))) (by kernel_rfl) (by (try dsimp only); (first | exact at''.out _ hk1 | exact at''.out _ hk2)) (fun hHeld => ?_)
      refine ly_q 0 (v := ?_) hHeld ?_
      try simp only [Act.put, lyA, lyB, lyC]
      refine ly_q 1 (v := ?_) hHeld ?_
      try simp only [Act.put, lyA, lyB, lyC]
      refine ly_q 2 (v := ?_) hHeld ?_
      try simp only [Act.put, lyA, lyB, lyC]
      refine ly_q 3 (v := ?_) hHeld ?_
      try simp only [Act.put, lyA, lyB, lyC]
      refine ly_a 4 (fun KK hKK => ?_)
      go_simp
      refine (zero_any _).mono ?_
      rintro e w2 ⟨rfl, hB2⟩
      have hk2 := hk1.trans (hB2.mono hk1.size)
      try dsimp only
      refine hKK.out _ _ (by (try dsimp only); (first | exact at''.out _ hk1 | exact at''.out _ hk2)) (fun hHeld => ?_)
      clear hKK KK
      try simp only [Act.put, lyA, lyB, lyC]
      refine ly_q 5 (v := .bool false) (hy := by intro wS hSw; (try dsimp only at hSw); go_simp; by_cases ha : p = 0 <;> by_cases hb : q = 1 <;> simp_all) hHeld ?_
      try simp only [Act.put, lyA, lyB, lyC]
      refine ly_q 6 (v := ?_) hHeld ?_
      try simp only [Act.put, lyA, lyB, lyC]
      refine ly_off 7 hHeld ?_
      try simp only [Act.put, lyA, lyB, lyC]
      refine ly_off 8 hHeld ?_
      try simp only [Act.put, lyA, lyB, lyC]
      refine ly_off 9 hHeld ?_
      try simp only [Act.put, lyA, lyB, lyC]
      refine ly_off 10 hHeld ?_
      try simp only [Act.put, lyA, lyB, lyC]
      refine ly_off 11 hHeld ?_
      try simp only [Act.put, lyA, lyB, lyC]
      refine ly_off 12 hHeld ?_
      try simp only [Act.put, lyA, lyB, lyC]
      refine ly_off 13 hHeld ?_
      try simp only [Act.put, lyA, lyB, lyC]
      refine ly_off 14 hHeld ?_
      try simp only [Act.put, lyA, lyB, lyC]
      refine ly_off 15 hHeld ?_
      try simp only [Act.put, lyA, lyB, lyC]
      refine ly_q 16 (v := ?_) hHeld ?_
      try simp only [Act.put, lyA, lyB, lyC]
      refine ly_q 17 (v := ?_) hHeld ?_
      try simp only [Act.put, lyA, lyB, lyC]
      refine ly_off 18 hHeld ?_
      try simp only [Act.put, lyA, lyB, lyC]
      refine ly_off 19 hHeld ?_
      try simp only [Act.put, lyA, lyB, lyC]
      refine ly_off 20 hHeld ?_
      try simp only [Act.put, lyA, lyB, lyC]
      refine ly_q 21 (v := ?_) hHeld ?_
      try simp only [Act.put, lyA, lyB, lyC]
      refine ly_q 22 (v := ?_) hHeld ?_
      try simp only [Act.put, lyA, lyB, lyC]
      refine wpAnyH_done (by kernel_rfl) ?_ _
      go_wp2
      go_ret
      exact ⟨rfl, hk2⟩
    cases h1
    by_cases h2 : (p', q') = ((1 : Int), (1 : Int))
    rotate_left
    · have hV2 := hV'.out
      rw [decide_eq_false h2, Bool.and_false, Bool.and_false] at hV2
      subst hV2
      clear hV'
      go_wp2_with fail
      refine wp_region_held_drew (S := (fun w' => (w'.cell? ⟨b, off, none⟩ = some (.int .i64 0) ∧ w'.cell? ⟨b, off + 1, none⟩ = some (.int .i64 1)) ∧ w'.cell? ⟨b, off + m * 4, none⟩ = some (.int .i64 p') ∧ w'.cell? ⟨b, off + m * 4 + 1, none⟩ = some (.int .i64 q'))) (by kernel_rfl) (by (try dsimp only); (first | exact at''.out _ hk1 | exact at''.out _ hk2 | exact at''.out _ hk3)) (fun hHeld => ?_)
      refine ly_q 0 (v := ?_) hHeld ?_
      try simp only [Act.put, lyA, lyB, lyC]
      refine ly_q 1 (v := ?_) hHeld ?_
      try simp only [Act.put, lyA, lyB, lyC]
      refine ly_q 2 (v := ?_) hHeld ?_
      try simp only [Act.put, lyA, lyB, lyC]
      refine ly_q 3 (v := ?_) hHeld ?_
      try simp only [Act.put, lyA, lyB, lyC]
      refine ly_a 4 (fun KK hKK => ?_)
      go_simp
      refine (zero_any _).mono ?_
      rintro e w2 ⟨rfl, hB2⟩
      have hk2 := hk1.trans (hB2.mono hk1.size)
      try dsimp only
      refine hKK.out _ _ (by (try dsimp only); (first | exact at''.out _ hk1 | exact at''.out _ hk2 | exact at''.out _ hk3)) (fun hHeld => ?_)
      clear hKK KK
      try simp only [Act.put, lyA, lyB, lyC]
      refine ly_q 5 (v := ?_) hHeld ?_
      try simp only [Act.put, lyA, lyB, lyC]
      refine ly_q 6 (v := ?_) hHeld ?_
      try simp only [Act.put, lyA, lyB, lyC]
      refine ly_q 7 (v := ?_) hHeld ?_
      try simp only [Act.put, lyA, lyB, lyC]
      refine ly_q 8 (v := ?_) hHeld ?_
      try simp only [Act.put, lyA, lyB, lyC]
      refine ly_q 9 (v := ?_) hHeld ?_
      try simp only [Act.put, lyA, lyB, lyC]
      refine ly_q 10 (v := ?_) hHeld ?_
      try simp only [Act.put, lyA, lyB, lyC]
      refine ly_q 11 (v := ?_) hHeld ?_
      try simp only [Act.put, lyA, lyB, lyC]
      refine ly_q 12 (v := ?_) hHeld ?_
      try simp only [Act.put, lyA, lyB, lyC]
      refine ly_q 13 (v := ?_) hHeld ?_
      try simp only [Act.put, lyA, lyB, lyC]
      refine ly_a 14 (fun KK hKK => ?_)
      go_simp
      refine (oneRat_any _).mono ?_
      rintro e w3 ⟨rfl, hB3⟩
      have hk3 := hk2.trans (hB3.mono hk2.size)
      try dsimp only
      refine hKK.out _ _ (by (try dsimp only); (first | exact at''.out _ hk1 | exact at''.out _ hk2 | exact at''.out _ hk3)) (fun hHeld => ?_)
      clear hKK KK
      try simp only [Act.put, lyA, lyB, lyC]
      refine ly_q 15 (v := .bool false) (hy := by intro wS hSw; (try dsimp only at hSw); go_simp; by_cases ha : p' = 1 <;> by_cases hb : q' = 1 <;> simp_all) hHeld ?_
      try simp only [Act.put, lyA, lyB, lyC]
      refine ly_q 16 (v := ?_) hHeld ?_
      try simp only [Act.put, lyA, lyB, lyC]
      refine ly_q 17 (v := ?_) hHeld ?_
      try simp only [Act.put, lyA, lyB, lyC]
      refine ly_off 18 hHeld ?_
      try simp only [Act.put, lyA, lyB, lyC]
      refine ly_off 19 hHeld ?_
      try simp only [Act.put, lyA, lyB, lyC]
      refine ly_off 20 hHeld ?_
      try simp only [Act.put, lyA, lyB, lyC]
      refine ly_q 21 (v := ?_) hHeld ?_
      try simp only [Act.put, lyA, lyB, lyC]
      refine ly_q 22 (v := ?_) hHeld ?_
      try simp only [Act.put, lyA, lyB, lyC]
      refine wpAnyH_done (by kernel_rfl) ?_ _
      go_wp2
      go_ret
      exact ⟨rfl, hk3⟩
    cases h2
    have hV2 := hV'.out
    rw [decide_eq_true rfl, decide_eq_true rfl, Bool.and_true, Bool.and_true] at hV2
    subst hV2
    clear hV'
    go_wp2_with fail
    refine wp_region_held_drew (S := (fun w' => (w'.cell? ⟨b, off, none⟩ = some (.int .i64 0) ∧ w'.cell? ⟨b, off + 1, none⟩ = some (.int .i64 1)) ∧ w'.cell? ⟨b, off + m * 4, none⟩ = some (.int .i64 1) ∧ w'.cell? ⟨b, off + m * 4 + 1, none⟩ = some (.int .i64 1))) (by kernel_rfl) (by (try dsimp only); (first | exact at''.out _ hk1 | exact at''.out _ hk2 | exact at''.out _ hk3 | exact at''.out _ hk4 | exact at''.out _ hk5)) (fun hHeld => ?_)
    refine ly_q 0 (v := ?_) hHeld ?_
    try simp only [Act.put, lyA, lyB, lyC]
    refine ly_q 1 (v := ?_) hHeld ?_
    try simp only [Act.put, lyA, lyB, lyC]
    refine ly_q 2 (v := ?_) hHeld ?_
    try simp only [Act.put, lyA, lyB, lyC]
    refine ly_q 3 (v := ?_) hHeld ?_
    try simp only [Act.put, lyA, lyB, lyC]
    refine ly_a 4 (fun KK hKK => ?_)
    go_simp
    refine (zero_any _).mono ?_
    rintro e w2 ⟨rfl, hB2⟩
    have hk2 := hk1.trans (hB2.mono hk1.size)
    try dsimp only
    refine hKK.out _ _ (by (try dsimp only); (first | exact at''.out _ hk1 | exact at''.out _ hk2 | exact at''.out _ hk3 | exact at''.out _ hk4 | exact at''.out _ hk5)) (fun hHeld => ?_)
    clear hKK KK
    try simp only [Act.put, lyA, lyB, lyC]
    refine ly_q 5 (v := ?_) hHeld ?_
    try simp only [Act.put, lyA, lyB, lyC]
    refine ly_q 6 (v := ?_) hHeld ?_
    try simp only [Act.put, lyA, lyB, lyC]
    refine ly_q 7 (v := ?_) hHeld ?_
    try simp only [Act.put, lyA, lyB, lyC]
    refine ly_q 8 (v := ?_) hHeld ?_
    try simp only [Act.put, lyA, lyB, lyC]
    refine ly_q 9 (v := ?_) hHeld ?_
    try simp only [Act.put, lyA, lyB, lyC]
    refine ly_q 10 (v := ?_) hHeld ?_
    try simp only [Act.put, lyA, lyB, lyC]
    refine ly_q 11 (v := ?_) hHeld ?_
    try simp only [Act.put, lyA, lyB, lyC]
    refine ly_q 12 (v := ?_) hHeld ?_
    try simp only [Act.put, lyA, lyB, lyC]
    refine ly_q 13 (v := ?_) hHeld ?_
    try simp only [Act.put, lyA, lyB, lyC]
    refine ly_a 14 (fun KK hKK => ?_)
    go_simp
    refine (oneRat_any _).mono ?_
    rintro e w3 ⟨rfl, hB3⟩
    have hk3 := hk2.trans (hB3.mono hk2.size)
    try dsimp only
    refine hKK.out _ _ (by (try dsimp only); (first | exact at''.out _ hk1 | exact at''.out _ hk2 | exact at''.out _ hk3 | exact at''.out _ hk4 | exact at''.out _ hk5)) (fun hHeld => ?_)
    clear hKK KK
    try simp only [Act.put, lyA, lyB, lyC]
    refine ly_q 15 (v := ?_) hHeld ?_
    try simp only [Act.put, lyA, lyB, lyC]
    refine ly_q 16 (v := ?_) hHeld ?_
    try simp only [Act.put, lyA, lyB, lyC]
    refine ly_q 17 (v := ?_) hHeld ?_
    try simp only [Act.put, lyA, lyB, lyC]
    refine ly_q 18 (v := ?_) hHeld ?_
    try simp only [Act.put, lyA, lyB, lyC]
    refine ly_a 19 (fun KK hKK => ?_)
    go_simp
    refine (cx'.out _ hk3).mono ?_
    rintro e w4 ⟨u, rfl, hu, hB4⟩
    have hk4 := hk3.trans (hB4.mono hk3.size)
    have hu4 := Lib.hid hu.read
    clear hu
    try dsimp only
    refine hKK.out _ _ (by (try dsimp only); (first | exact at''.out _ hk1 | exact at''.out _ hk2 | exact at''.out _ hk3 | exact at''.out _ hk4 | exact at''.out _ hk5)) (fun hHeld => ?_)
    clear hKK KK
    try simp only [Act.put, lyA, lyB, lyC]
    refine ly_a 20 (fun KK hKK => ?_)
    go_simp
    refine (ci'.out u _ hu4.out).mono ?_
    rintro e w5 ⟨rfl, hB5⟩
    have hk5 := hk4.trans (hB5.mono hk4.size)
    try dsimp only
    refine hKK.out _ _ (by (try dsimp only); (first | exact at''.out _ hk1 | exact at''.out _ hk2 | exact at''.out _ hk3 | exact at''.out _ hk4 | exact at''.out _ hk5)) (fun hHeld => ?_)
    clear hKK KK
    try simp only [Act.put, lyA, lyB, lyC]
    refine ly_q 21 (v := ?_) hHeld ?_
    try simp only [Act.put, lyA, lyB, lyC]
    refine ly_q 22 (v := ?_) hHeld ?_
    try simp only [Act.put, lyA, lyB, lyC]
    refine wpAnyH_done (by kernel_rfl) ?_ _
    go_wp2
    go_ret
    exact ⟨rfl, hk5⟩

end Go.Proofs.YtjkgilenhoomoaaGreat

namespace Go.Proofs.YtjkgilenhoomoaaGreat
open Go.RowKit

/-- A valid interval. -/
def ivB (i : Quad) : Bool := unitR i.1.1 i.1.2 && unitR i.2.1 i.2.2 && ltB i.1.1 i.1.2 i.2.1 i.2.2
/-- A list of intervals. -/
def ivsB (xs : List Quad) : Bool := xs.all ivB && inB xs.length 1 8
theorem ivB_true {i : Quad} (h : ivB i = true) : unitR i.1.1 i.1.2 = true ∧ unitR i.2.1 i.2.2 = true ∧ ltB i.1.1 i.1.2 i.2.1 i.2.2 = true := by
  unfold ivB at h
  rw [Bool.and_eq_true, Bool.and_eq_true] at h
  exact ⟨h.1.1, h.1.2, h.2⟩
theorem ivsB_true {xs : List Quad} (h : ivsB xs = true) : (1 ≤ xs.length ∧ xs.length ≤ 8) ∧ ∀ i, i < xs.length → ivB (nth4 xs i) = true := by
  unfold ivsB at h
  rw [Bool.and_eq_true, inB_true] at h
  exact ⟨by omega, fun i hi => all_nth4 h.1 hi⟩
theorem unit_bd {r : Int × Int} (h : unitR r.1 r.2 = true) : BdR r.1 r.2 := good_bd (unitR_good h)

theorem RatsV.two (w : World) (a b : Int × Int) : RatsV (w.alloc (.cells #[.int .i64 a.1, .int .i64 a.2, .int .i64 b.1, .int .i64 b.2] 42)) (.slice (some ⟨w.heap.size, 0, none⟩) 2 2) [a, b] := by
  refine RatsV.mk (xs := [a, b]) ⟨Nat.le_refl _, fun e => by cases e⟩ (by simp [maxLen]) (fun i hi => ?_)
  have : i = 0 ∨ i = 1 := by simp at hi; omega
  refine ⟨_, _, rfl, ?_⟩
  rcases this with rfl | rfl
  · refine ⟨?_, ?_⟩ <;> rw [World.cell?_alloc_at _ _ _ _ rfl] <;> simp [nthR]
  · refine ⟨?_, ?_⟩ <;> rw [World.cell?_alloc_at _ _ _ _ rfl] <;> simp [nthR]

set_option maxHeartbeats 800000 in
theorem isInterval_any (i : Quad) (w : World) : Calls Tryz.prog 87 #[quadV i] w (Ret (.bool (ivB i)) w) := by
  have c1 := fun w' v h => areUnits_any v [i.1, i.2] w' h (by simp)
  have hu : unitsB [i.1, i.2] = (unitR i.1.1 i.1.2 && unitR i.2.1 i.2.2) := by simp [unitsB]
  rw [hu] at c1
  have c2 := fun w (h : (unitR i.1.1 i.1.2 && unitR i.2.1 i.2.2) = true) => less_any i.1.1 i.1.2 i.2.1 i.2.2 w (unit_bd (by rw [Bool.and_eq_true] at h; exact h.1)) (unit_bd (by rw [Bool.and_eq_true] at h; exact h.2))
  unfold ivB
  generalize (unitR i.1.1 i.1.2 && unitR i.2.1 i.2.2) = U at *
  generalize ltB i.1.1 i.1.2 i.2.1 i.2.2 = L at *
  obtain ⟨⟨x, y⟩, ⟨z, t⟩⟩ := i
  show Calls _ _ #[.agg #[.int .i64 x, .int .i64 y, .int .i64 z, .int .i64 t]] w _
  simp only at c1 c2
  have hB : Below w.heap.size w (w.alloc (.cells #[.int .i64 x, .int .i64 y, .int .i64 z, .int .i64 t] 44)) := (Below.refl _ _).alloc (Nat.le_refl _) _
  obtain ⟨w0, hw0⟩ : ∃ W, w.alloc (.cells #[.int .i64 x, .int .i64 y, .int .i64 z, .int .i64 t] 44) = W := ⟨_, rfl⟩
  have hx : (w0.cell? ⟨w.heap.size, 0, none⟩ = some (.int .i64 x) ∧ w0.cell? ⟨w.heap.size, 1, none⟩ = some (.int .i64 y)) ∧ w0.cell? ⟨w.heap.size, 2, none⟩ = some (.int .i64 z) ∧ w0.cell? ⟨w.heap.size, 3, none⟩ = some (.int .i64 t) := by
    rw [← hw0]; simp [go_sem]
  have hz0 : w.heap.size + 1 = w0.heap.size := by rw [← hw0]; simp
  rw [hw0] at hB
  have hr := RatsV.two w0 (x, y) (z, t)
  have hB1 : Below w0.heap.size w0 (w0.alloc (.cells #[.int .i64 x, .int .i64 y, .int .i64 z, .int .i64 t] 42)) := (Below.refl _ _).alloc (Nat.le_refl _) _
  have c1' := Lib.hid c1
  have c2' := Lib.hid c2
  have hw0' := Lib.hid hw0
  have hr' := Lib.hid hr
  have hx' := Lib.hid hx
  have hB1' := Lib.hid hB1
  have hu' := Lib.hid hu
  clear c1 c2 hw0 hr hx hB1 hu
  have hz0' := Lib.hid hz0
  clear hz0
  go_enter Tryz.func87, Tryz.ntmps87
  go_wp2_with fail
  rw [hw0'.out, hz0'.out]
  refine (c1'.out _ _ hr'.out).mono ?_
  rintro e w1 ⟨rfl, hB2⟩
  have hb2 := hB1'.out.trans (hB2.mono hB1'.out.size)
  have hbf := hB.trans (hb2.mono hB.size)
  cases U
  · go_wp2
    go_ret
    exact ⟨rfl, hbf⟩
  · have y0 := bkeep hb2 hx'.out.1.1
    have y1 := bkeep hb2 hx'.out.1.2
    have y2 := bkeep hb2 hx'.out.2.1
    have y3 := bkeep hb2 hx'.out.2.2
    go_wp2_with fail
    refine (c2'.out _ (by simp)).mono ?_
    rintro e w2 ⟨rfl, hB3⟩
    have hbg := hbf.trans (hB3.mono hbf.size)
    go_wp2
    go_ret
    exact ⟨rfl, hbg⟩
set_option maxHeartbeats 800000 in
theorem ivGood_any (i : Quad) (w : World) : Calls Tryz.prog 43 #[quadV i] w (Ret (.bool (ivB i)) w) := by
  have c1 := fun w => raUnit_any i.1.1 i.1.2 w
  have c2 := fun w => raUnit_any i.2.1 i.2.2 w
  have c3 := fun w (h1 : unitR i.1.1 i.1.2 = true) (h2 : unitR i.2.1 i.2.2 = true) => raCmp_any i.1.1 i.1.2 i.2.1 i.2.2 w (unit_bd h1) (unit_bd h2)
  have hl := cmpN_lt i.1.1 i.1.2 i.2.1 i.2.2
  unfold ivB
  rw [← hl]
  generalize unitR i.1.1 i.1.2 = U at *
  generalize unitR i.2.1 i.2.2 = V at *
  generalize cmpN i.1.1 i.1.2 i.2.1 i.2.2 = C at *
  clear hl
  obtain ⟨⟨x, y⟩, ⟨z, t⟩⟩ := i
  show Calls _ _ #[.agg #[.int .i64 x, .int .i64 y, .int .i64 z, .int .i64 t]] w _
  simp only at c1 c2 c3
  obtain ⟨w0, hw0⟩ : ∃ W, w.alloc (.cells #[.int .i64 x, .int .i64 y, .int .i64 z, .int .i64 t] 44) = W := ⟨_, rfl⟩
  have hB : Below w.heap.size w w0 := by rw [← hw0]; exact (Below.refl _ _).alloc (Nat.le_refl _) _
  have hx : (w0.cell? ⟨w.heap.size, 0, none⟩ = some (.int .i64 x) ∧ w0.cell? ⟨w.heap.size, 1, none⟩ = some (.int .i64 y)) ∧ w0.cell? ⟨w.heap.size, 2, none⟩ = some (.int .i64 z) ∧ w0.cell? ⟨w.heap.size, 3, none⟩ = some (.int .i64 t) := by
    rw [← hw0]; simp [go_sem]
  have c1' := Lib.hid c1
  have c2' := Lib.hid c2
  have c3' := Lib.hid c3
  have hw0' := Lib.hid hw0
  have hx' := Lib.hid hx
  clear c1 c2 c3 hw0 hx
  cases U
  · rw [Bool.false_and, Bool.false_and]
    go_enter Tryz.func43, Tryz.ntmps43
    go_wp2_with fail
    rw [hw0'.out]
    go_wp2_with fail
    refine (c1'.out _).mono ?_
    rintro e w1 ⟨rfl, hB1⟩
    have hb1 := hB.trans (hB1.mono hB.size)
    go_wp2
    go_ret
    exact ⟨rfl, hb1⟩
  · rw [Bool.true_and]
    cases V
    · rw [Bool.false_and]
      go_enter Tryz.func43, Tryz.ntmps43
      go_wp2_with fail
      rw [hw0'.out]
      go_wp2_with fail
      refine (c1'.out _).mono ?_
      rintro e w1 ⟨rfl, hB1⟩
      have hb1 := hB.trans (hB1.mono hB.size)
      have y2 := bkeep hB1 hx'.out.2.1
      have y3 := bkeep hB1 hx'.out.2.2
      go_wp2_with fail
      refine (c2'.out _).mono ?_
      rintro e w2 ⟨rfl, hB2⟩
      have hb2 := hb1.trans (hB2.mono hb1.size)
      go_wp2
      go_ret
      exact ⟨rfl, hb2⟩
    · rw [Bool.true_and]
      go_enter Tryz.func43, Tryz.ntmps43
      go_wp2_with fail
      rw [hw0'.out]
      go_wp2_with fail
      refine (c1'.out _).mono ?_
      rintro e w1 ⟨rfl, hB1⟩
      have hb1 := hB.trans (hB1.mono hB.size)
      have y2 := bkeep hB1 hx'.out.2.1
      have y3 := bkeep hB1 hx'.out.2.2
      go_wp2_with fail
      refine (c2'.out _).mono ?_
      rintro e w2 ⟨rfl, hB2⟩
      have hb2 := hb1.trans (hB2.mono hb1.size)
      have hk2 := hB1.trans (hB2.mono hB1.size)
      have z0 := bkeep hk2 hx'.out.1.1
      have z1 := bkeep hk2 hx'.out.1.2
      have z2 := bkeep hk2 hx'.out.2.1
      have z3 := bkeep hk2 hx'.out.2.2
      clear y2 y3
      go_wp2_with fail
      refine (c3'.out _ (by simp) (by simp)).mono ?_
      rintro e w3 ⟨rfl, hB3⟩
      have hb3 := hb2.trans (hB3.mono hb2.size)
      go_wp2
      go_ret
      exact ⟨rfl, hb3⟩

set_option maxHeartbeats 400000 in
theorem areIntervals1_any (i : Quad) (w : World) : Calls Tryz.prog 86 #[quadV i] w (Ret (.bool (!(ivB i))) w) := by
  have c1 := fun w => isInterval_any i w
  generalize ivB i = U at *
  obtain ⟨⟨x, y⟩, ⟨z, t⟩⟩ := i
  have hB : Below w.heap.size w (w.alloc (.cells #[.int .i64 x, .int .i64 y, .int .i64 z, .int .i64 t] 44)) := (Below.refl _ _).alloc (Nat.le_refl _) _
  show Calls _ _ #[.agg #[.int .i64 x, .int .i64 y, .int .i64 z, .int .i64 t]] w _
  have c1' := Lib.hid c1
  clear c1
  go_enter Tryz.func86, Tryz.ntmps86
  go_wp2_with fail
  refine (c1'.out _).mono ?_
  rintro e w1 ⟨rfl, hB1⟩
  have hb1 := hB.trans (hB1.mono hB.size)
  go_wp2
  go_ret
  exact ⟨rfl, hb1⟩
theorem areIntervals_any (v : Value) (xs : List Quad) (w : World) (hv : QuadV w v xs) (hm : xs.length ≤ 1099511627776) :
    Calls Tryz.prog 65 #[v] w (Ret (.bool (ivsB xs)) w) := by
  have cc := containsFuncI_any v xs 86 #[] (fun q => !(ivB q)) w (enters_of Tryz.func86 (by kernel_rfl) rfl) (fun i w' _ _ => areIntervals1_any _ w') hv hm
  have hany : (xs.any fun q => !(ivB q)) = !(xs.all ivB) := by rw [List.all_eq_not_any_not, Bool.not_not]
  rw [hany] at cc
  obtain ⟨ao, cap, rfl, _, _, _⟩ := hv.form
  have c1 := fun w => within_any (xs.length : Int) 1 8 w
  unfold ivsB
  rw [Bool.and_comm]
  generalize xs.all ivB = A at *
  generalize inB xs.length 1 8 = L at *
  generalize xs.length = n at *
  clear hany hv
  have c1' := Lib.hid c1
  have cc' := Lib.hid cc
  clear c1 cc
  cases L
  · rw [Bool.false_and]
    go_enter Tryz.func65, Tryz.ntmps65
    go_wp2_with fail
    refine (c1'.out _).mono ?_
    rintro e w_ ⟨rfl, rfl⟩
    go_wp2
    go_ret
    exact ⟨rfl, Below.refl _ _⟩
  · rw [Bool.true_and]
    go_enter Tryz.func65, Tryz.ntmps65
    go_wp2_with fail
    refine (c1'.out _).mono ?_
    rintro e w_ ⟨rfl, rfl⟩
    go_wp2_with fail
    refine (cc'.out).mono ?_
    rintro e w1 ⟨rfl, hB1⟩
    go_wp2
    go_ret
    exact ⟨by simp, hB1⟩

set_option maxHeartbeats 800000 in
theorem ivList_any (v : Value) (xs : List Quad) (w : World) (hv : QuadV w v xs) (hm : xs.length ≤ 1099511627776) :
    Calls Tryz.prog 26 #[v] w (Ret (.bool (ivsB xs)) w) := by
  obtain ⟨ao, cap, rfl, _, _, H⟩ := hv.form
  have c1 := fun w => l1In_any (xs.length : Int) 1 8 w
  have hno : ∀ k, k < xs.length → ivB (nth4 xs k) = false → ivsB xs = false := fun k hk h => by
    have : xs.all ivB = false := by
      rw [List.all_eq_false]
      exact ⟨nth4 xs k, by rw [nth4_eq hk]; exact List.getElem_mem hk, by rw [h]; simp⟩
    unfold ivsB; rw [this]; rfl
  have hyes : (∀ k, k < xs.length → ivB (nth4 xs k) = true) → ivsB xs = inB xs.length 1 8 := fun h => by
    have : xs.all ivB = true := by
      rw [List.all_eq_true]
      intro x hx
      obtain ⟨i, hi, rfl⟩ := List.getElem_of_mem hx
      have := h i hi
      rw [nth4_eq hi] at this; exact this
    unfold ivsB; rw [this]; rfl
  obtain ⟨n, hn⟩ : ∃ n, xs.length = n := ⟨_, rfl⟩
  rw [hn] at hm hv H c1 hno hyes ⊢
  generalize ivsB xs = R at *
  have c1' := Lib.hid c1
  have hno' := Lib.hid hno
  have hyes' := Lib.hid hyes
  have hn' := Lib.hid hn
  have hv' := Lib.hid hv
  have H' := Lib.hid H
  clear c1 hno hyes hn hv H
  go_enter Tryz.func26, Tryz.ntmps26
  go_wp2
  go_loopw [7] (fun i wr => ∃ k : Nat, k ≤ n ∧ i = .int .i64 k ∧ Hid (∀ j, j < k → ivB (nth4 xs j) = true) ∧ Below w.heap.size w wr) (fun i _ => n - (intOf i).toNat)
  case atStart => exact ⟨0, Nat.zero_le _, rfl, Lib.hid (fun j hj => absurd hj (Nat.not_lt_zero j)), Below.refl _ _⟩
  case round =>
    obtain ⟨k, hk, rfl, hu, hB⟩ := hrel
    by_cases hlt : k < n
    · obtain ⟨b, off, rfl, d0, d1, d2, d3⟩ := H'.out k hlt
      have l0 := World.block_lt_of_cell? w _ d0
      simp only at l0
      rw [← hB.cell (p := ⟨b, off + k * 4, none⟩) l0] at d0
      rw [← hB.cell (p := ⟨b, off + k * 4 + 1, none⟩) l0] at d1
      rw [← hB.cell (p := ⟨b, off + k * 4 + 2, none⟩) l0] at d2
      rw [← hB.cell (p := ⟨b, off + k * 4 + 3, none⟩) l0] at d3
      have c2 := fun w => ivGood_any (nth4 xs k) w
      have hn1 := hno'.out k hlt
      have hu2 : ivB (nth4 xs k) = true → ∀ j, j < k + 1 → ivB (nth4 xs j) = true := fun h j hj => by
        rcases Nat.lt_succ_iff_lt_or_eq.1 hj with h1 | rfl
        · exact hu.out j h1
        · exact h
      generalize ivB (nth4 xs k) = U at *
      obtain ⟨⟨⟨x, y⟩, ⟨z, t⟩⟩, hq⟩ : ∃ r, nth4 xs k = r := ⟨_, rfl⟩
      rw [hq] at d0 d1 d2 d3 c2
      simp only at d0 d1 d2 d3 c2
      have hB1 : Below w.heap.size w (wr.alloc (.cells #[.int .i64 x, .int .i64 y, .int .i64 z, .int .i64 t] 44)) := hB.alloc hB.size _
      have c2' := Lib.hid c2
      have hn1' := Lib.hid hn1
      have hu2' := Lib.hid hu2
      have hq' := Lib.hid hq
      clear c2 hn1 hu2 hq
      cases U
      · have hR := hn1'.out rfl
        have hR' := Lib.hid hR
        clear hR
        go_wp2_with fail
        refine (c2'.out _).mono ?_
        rintro e w2 ⟨rfl, hB2⟩
        have hb2 := hB1.trans (hB2.mono hB1.size)
        go_wp2
        go_ret
        exact ⟨by rw [hR'.out]; rfl, hb2⟩
      · have hu3 := Lib.hid (hu2'.out rfl)
        go_wp2_with fail
        refine (c2'.out _).mono ?_
        rintro e w2 ⟨rfl, hB2⟩
        have hb2 := hB1.trans (hB2.mono hB1.size)
        go_wp2
        go_roundw
        case rel => exact ⟨k + 1, by omega, by go_num, hu3, hb2⟩
        case measure => simp [intOf]; omega
    · obtain rfl : n = k := by omega
      have hR := hyes'.out hu.out
      have hR' := Lib.hid hR
      clear hR
      clear H'
      go_wp2_with fail
      refine (c1'.out _).mono ?_
      rintro e w_ ⟨rfl, rfl⟩
      go_wp2
      go_ret
      exact ⟨by rw [hR'.out]; rfl, hB⟩

end Go.Proofs.YtjkgilenhoomoaaGreat

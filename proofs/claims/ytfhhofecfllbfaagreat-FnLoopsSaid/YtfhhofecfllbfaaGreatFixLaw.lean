/- The fixed fractions of a map: both ways to tell them. Plain laws, no program in sight. -/
import Derived.Test.YtfhhofecfllbfaaGreatPkM
import Derived.Test.YtfhhofecfllbfaaGreatPkI
namespace Go.Proofs.YtfhhofecfllbfaaGreat
open Go.RowKit
def fxN (p q : Quad) : Int := p.2.1 * q.1.1 * (q.2.2 * p.1.2) - q.2.1 * p.1.1 * (p.2.2 * q.1.2)
def fxM (p q : Quad) : Int := (q.1.1 * p.1.2 - p.1.1 * q.1.2) * (p.2.2 * q.2.2) - (q.2.1 * p.2.2 - p.2.1 * q.2.2) * (p.1.2 * q.1.2)
def fxZ (p q : Quad) : Int × Int := (mkR (fxN p q) (fxM p q)).1
def dY (p : Quad) : Int := cmpN p.1.1 p.1.2 p.2.1 p.2.2
def fxC (p q : Quad) : Bool := decide (dY p * dY q < 0)
theorem mkR_den (x y : Int) (h : (mkR x y).2 = true) (h0 : y ≠ 0) : (mkR x y).1.1.natAbs ≤ x.natAbs ∧ (mkR x y).1.2.natAbs ≤ y.natAbs ∧ 1 ≤ (mkR x y).1.2 := by
 obtain ⟨h1, _, h3, h4, h5⟩ := low_spec (x := x) h0
 unfold mkR at h ⊢
 split
 ·exact ⟨h4, h5, h1⟩
 ·rename_i q; rw [if_neg q] at h; cases h
theorem prod4 {a b c d : Int} (ha : 0 ≤ a ∧ a ≤ 100) (hb : 0 ≤ b ∧ b ≤ 100) (hc : 0 ≤ c ∧ c ≤ 100) (hd : 0 ≤ d ∧ d ≤ 100) : 0 ≤ a * b * (c * d) ∧ a * b * (c * d) ≤ 100000000 := by
 have h1 := mul_bd ha hb
 have h2 := mul_bd hc hd
 have h3 := mul_bd h1 h2
 omega
theorem fx_qv {p q : Quad} (h1 : coordR p.1 = true) (h2 : coordR p.2 = true) (h3 : coordR q.1 = true) (h4 : coordR q.2 = true) :
  (fxN p q : Rat) = (qv p.2 * qv q.1 - qv q.2 * qv p.1) * ((p.1.2 : Rat) * p.2.2 * q.1.2 * q.2.2) ∧ (fxM p q : Rat) = ((qv q.1 - qv p.1) - (qv q.2 - qv p.2)) * ((p.1.2 : Rat) * p.2.2 * q.1.2 * q.2.2) := by
 have n1 := ratC_ne (d := p.1.2) (by have := (coordR_bd h1).1; omega)
 have n2 := ratC_ne (d := p.2.2) (by have := (coordR_bd h2).1; omega)
 have n3 := ratC_ne (d := q.1.2) (by have := (coordR_bd h3).1; omega)
 have n4 := ratC_ne (d := q.2.2) (by have := (coordR_bd h4).1; omega)
 unfold fxN fxM qv
 push_cast
 constructor <;> grind
theorem fxM_bd {p q : Quad} (h1 : coordR p.1 = true) (h2 : coordR p.2 = true) (h3 : coordR q.1 = true) (h4 : coordR q.2 = true) : (-100000000 ≤ fxN p q ∧ fxN p q ≤ 100000000) ∧ (-400000000 ≤ fxM p q ∧ fxM p q ≤ 400000000) := by
 obtain ⟨a1, a2, a3⟩ := coordR_bd h1
 obtain ⟨b1, b2, b3⟩ := coordR_bd h2
 obtain ⟨c1, c2, c3⟩ := coordR_bd h3
 obtain ⟨d1, d2, d3⟩ := coordR_bd h4
 have e1 := prod4 (a := p.2.1) (b := q.1.1) (c := q.2.2) (d := p.1.2) (by omega) (by omega) (by omega) (by omega)
 have e2 := prod4 (a := q.2.1) (b := p.1.1) (c := p.2.2) (d := q.1.2) (by omega) (by omega) (by omega) (by omega)
 have e3 := prod4 (a := q.1.1) (b := p.1.2) (c := p.2.2) (d := q.2.2) (by omega) (by omega) (by omega) (by omega)
 have e4 := prod4 (a := p.1.1) (b := q.1.2) (c := p.2.2) (d := q.2.2) (by omega) (by omega) (by omega) (by omega)
 have e5 := prod4 (a := q.2.1) (b := p.2.2) (c := p.1.2) (d := q.1.2) (by omega) (by omega) (by omega) (by omega)
 have e6 := prod4 (a := p.2.1) (b := q.2.2) (c := p.1.2) (d := q.1.2) (by omega) (by omega) (by omega) (by omega)
 unfold fxN fxM
 rw [Int.sub_mul, Int.sub_mul]
 omega
theorem dY_lt {p : Quad} (h1 : goodR p.1.1 p.1.2 = true) (h2 : goodR p.2.1 p.2.2 = true) : (dY p < 0 ↔ qv p.1 < qv p.2) ∧ (0 < dY p ↔ qv p.2 < qv p.1) := by
 have e : dY p = cY (p.2, p.1) p.2 := rfl
 rw [e]
 exact ⟨cY_lt (p := (p.2, p.1)) h1 h2, cY_gt (p := (p.2, p.1)) h1 h2⟩
theorem fxC_iff {p q : Quad} (h1 : goodR p.1.1 p.1.2 = true) (h2 : goodR p.2.1 p.2.2 = true) (h3 : goodR q.1.1 q.1.2 = true) (h4 : goodR q.2.1 q.2.2 = true) :
  fxC p q = true ↔ (qv p.1 < qv p.2 ∧ qv q.2 < qv q.1) ∨ (qv p.2 < qv p.1 ∧ qv q.1 < qv q.2) := by
 rw [← (dY_lt h1 h2).1, ← (dY_lt h1 h2).2, ← (dY_lt h3 h4).1, ← (dY_lt h3 h4).2]
 unfold fxC
 rw [decide_eq_true_iff]
 have b1 := cmpN_bd p.1.1 p.1.2 p.2.1 p.2.2
 have b2 := cmpN_bd q.1.1 q.1.2 q.2.1 q.2.2
 have e1 : cmpN p.1.1 p.1.2 p.2.1 p.2.2 = dY p := rfl
 have e2 : cmpN q.1.1 q.1.2 q.2.1 q.2.2 = dY q := rfl
 rw [e1] at b1
 rw [e2] at b2
 generalize dY p = a at *
 generalize dY q = b at *
 rcases (by omega : a = -1 ∨ a = 0 ∨ a = 1) with rfl | rfl | rfl <;> omega
theorem fx_ok {p q : Quad} (h1 : coordR p.1 = true) (h2 : coordR p.2 = true) (h3 : coordR q.1 = true) (h4 : coordR q.2 = true) (hc : fxC p q = true) :
  fxM p q ≠ 0 ∧ mkR (fxN p q) (fxM p q) = (fxZ p q, true) ∧ goodR (fxZ p q).1 (fxZ p q).2 = true ∧ qv (fxZ p q) * ((qv q.1 - qv p.1) - (qv q.2 - qv p.2)) = qv p.2 * qv q.1 - qv q.2 * qv p.1 ∧ (qv q.1 - qv p.1) - (qv q.2 - qv p.2) ≠ 0 := by
 have hcr := (fxC_iff (unitR_good (coordR_unit h1)) (unitR_good (coordR_unit h2)) (unitR_good (coordR_unit h3)) (unitR_good (coordR_unit h4))).1 hc
 obtain ⟨e1, e2⟩ := fx_qv h1 h2 h3 h4
 obtain ⟨b1, b2⟩ := fxM_bd h1 h2 h3 h4
 have n1 := ratC_ne (d := p.1.2) (by have := (coordR_bd h1).1; omega)
 have n2 := ratC_ne (d := p.2.2) (by have := (coordR_bd h2).1; omega)
 have n3 := ratC_ne (d := q.1.2) (by have := (coordR_bd h3).1; omega)
 have n4 := ratC_ne (d := q.2.2) (by have := (coordR_bd h4).1; omega)
 have hb : (qv q.1 - qv p.1) - (qv q.2 - qv p.2) ≠ 0 := by grind
 have hM : fxM p q ≠ 0 := by
  intro e
  rw [e] at e2
  have : ((qv q.1 - qv p.1) - (qv q.2 - qv p.2)) * ((p.1.2 : Rat) * p.2.2 * q.1.2 * q.2.2) = 0 := by rw [← e2]; rfl
  grind
 have hok := mkR_ok (x := fxN p q) hM (by omega) (by omega)
 have hg := mkR_good hok
 refine ⟨hM, ?_, hg, ?_, hb⟩
 ·unfold fxZ
  rw [← hok]
 ·have hv := mkR_qv hM hok
  have hMr := ratC_ne hM
  have e3 : qv (fxZ p q) * (fxM p q : Rat) = (fxN p q : Rat) := by
   unfold fxZ
   rw [hv, Rat.div_mul_cancel hMr]
  rw [e1, e2] at e3
  generalize qv (fxZ p q) = z at *
  have : (z * (qv q.1 - qv p.1 - (qv q.2 - qv p.2)) - (qv p.2 * qv q.1 - qv q.2 * qv p.1)) * ((p.1.2 : Rat) * p.2.2 * q.1.2 * q.2.2) = 0 := by grind
  grind
theorem fx_impl {p q : Quad} (h1 : coordR p.1 = true) (h2 : coordR p.2 = true) (h3 : coordR q.1 = true) (h4 : coordR q.2 = true) (hc : fxC p q = true) {one two : Int}
  (ho : one = (p.1.1 * p.2.2 - p.2.1 * p.1.2).natAbs * q.1.2 * q.2.2) (ht : two = (q.1.1 * q.2.2 - q.2.1 * q.1.2).natAbs * p.1.2 * p.2.2) :
  p.1.2 * q.1.2 * (one + two) ≠ 0 ∧ mkR (p.1.1 * q.1.2 * two + q.1.1 * p.1.2 * one) (p.1.2 * q.1.2 * (one + two)) = (fxZ p q, true) := by
 have hcr := (fxC_iff (unitR_good (coordR_unit h1)) (unitR_good (coordR_unit h2)) (unitR_good (coordR_unit h3)) (unitR_good (coordR_unit h4))).1 hc
 obtain ⟨_, _, hg, hz, hb⟩ := fx_ok h1 h2 h3 h4 hc
 have p1 := ratC_pos (d := p.1.2) (by have := (coordR_bd h1).1; omega)
 have p2 := ratC_pos (d := p.2.2) (by have := (coordR_bd h2).1; omega)
 have p3 := ratC_pos (d := q.1.2) (by have := (coordR_bd h3).1; omega)
 have p4 := ratC_pos (d := q.2.2) (by have := (coordR_bd h4).1; omega)
 have e1 : ((p.1.1 * p.2.2 - p.2.1 * p.1.2 : Int) : Rat) = (qv p.1 - qv p.2) * ((p.1.2 : Rat) * p.2.2) := by unfold qv; push_cast; grind
 have e2 : ((q.1.1 * q.2.2 - q.2.1 * q.1.2 : Int) : Rat) = (qv q.1 - qv q.2) * ((q.1.2 : Rat) * q.2.2) := by unfold qv; push_cast; grind
 have hP : (p.1.1 : Rat) = qv p.1 * p.1.2 := by unfold qv; rw [Rat.div_mul_cancel (by grind)]
 have hQ : (q.1.1 : Rat) = qv q.1 * q.1.2 := by unfold qv; rw [Rat.div_mul_cancel (by grind)]
 generalize (p.1.1 * p.2.2 - p.2.1 * p.1.2) = A at *
 generalize (q.1.1 * q.2.2 - q.2.1 * q.1.2) = B at *
 have hD : 0 < (p.1.2 : Rat) * p.2.2 := Rat.mul_pos p1 p2
 have hE : 0 < (q.1.2 : Rat) * q.2.2 := Rat.mul_pos p3 p4
 have hDE : 0 < ((p.1.2 : Rat) * p.2.2) * ((q.1.2 : Rat) * q.2.2) := Rat.mul_pos hD hE
 have hcase : ∃ s t : Rat, 0 < s ∧ 0 < t ∧ ((A.natAbs : Int) : Rat) = s * ((p.1.2 : Rat) * p.2.2) ∧ ((B.natAbs : Int) : Rat) = t * ((q.1.2 : Rat) * q.2.2) ∧ ((s = qv p.1 - qv p.2 ∧ t = qv q.2 - qv q.1) ∨ (s = qv p.2 - qv p.1 ∧ t = qv q.1 - qv q.2)) := by
  rcases hcr with ⟨c1, c2⟩ | ⟨c1, c2⟩
  ·have hA : A < 0 := by
    have : 0 < (qv p.2 - qv p.1) * ((p.1.2 : Rat) * p.2.2) := Rat.mul_pos (by grind) hD
    have : (A : Rat) < 0 := by grind
    exact_mod_cast this
   have hB : 0 < B := by
    have : 0 < (qv q.1 - qv q.2) * ((q.1.2 : Rat) * q.2.2) := Rat.mul_pos (by grind) hE
    have : (0 : Rat) < (B : Rat) := by grind
    exact_mod_cast this
   refine ⟨qv p.2 - qv p.1, qv q.1 - qv q.2, by grind, by grind, ?_, ?_, .inr ⟨rfl, rfl⟩⟩
   ·rw [show ((A.natAbs : Nat) : Int) = -A by omega]; push_cast; grind
   ·rw [show ((B.natAbs : Nat) : Int) = B by omega]; grind
  ·have hA : 0 < A := by
    have : 0 < (qv p.1 - qv p.2) * ((p.1.2 : Rat) * p.2.2) := Rat.mul_pos (by grind) hD
    have : (0 : Rat) < (A : Rat) := by grind
    exact_mod_cast this
   have hB : B < 0 := by
    have : 0 < (qv q.2 - qv q.1) * ((q.1.2 : Rat) * q.2.2) := Rat.mul_pos (by grind) hE
    have : (B : Rat) < 0 := by grind
    exact_mod_cast this
   refine ⟨qv p.1 - qv p.2, qv q.2 - qv q.1, by grind, by grind, ?_, ?_, .inl ⟨rfl, rfl⟩⟩
   ·rw [show ((A.natAbs : Nat) : Int) = A by omega]; grind
   ·rw [show ((B.natAbs : Nat) : Int) = -B by omega]; push_cast; grind
 obtain ⟨s, t, s0, t0, hA, hB, hst⟩ := hcase
 have r1 : (one : Rat) = s * (((p.1.2 : Rat) * p.2.2) * ((q.1.2 : Rat) * q.2.2)) := by
  rw [ho, Rat.intCast_mul, Rat.intCast_mul, hA]; grind
 have r2 : (two : Rat) = t * (((p.1.2 : Rat) * p.2.2) * ((q.1.2 : Rat) * q.2.2)) := by
  rw [ht, Rat.intCast_mul, Rat.intCast_mul, hB]; grind
 generalize ((p.1.2 : Rat) * p.2.2) * ((q.1.2 : Rat) * q.2.2) = W at *
 have hs : 0 < (s + t) * W := Rat.mul_pos (by grind) hDE
 have r3 : ((p.1.2 * q.1.2 * (one + two) : Int) : Rat) = p.1.2 * q.1.2 * ((s + t) * W) := by push_cast; rw [r1, r2]; grind
 have r4 : ((p.1.1 * q.1.2 * two + q.1.1 * p.1.2 * one : Int) : Rat) = p.1.2 * q.1.2 * ((qv p.1 * t + qv q.1 * s) * W) := by push_cast; rw [r1, r2, hP, hQ]; grind
 have hne : p.1.2 * q.1.2 * (one + two) ≠ 0 := by
  intro e
  rw [e] at r3
  have : 0 < (p.1.2 : Rat) * q.1.2 * ((s + t) * W) := Rat.mul_pos (Rat.mul_pos p1 p3) hs
  rw [← r3] at this
  exact absurd this (by decide)
 refine ⟨hne, mkR_is hne hg ?_⟩
 rw [r3, r4]
 have hz2 : qv (fxZ p q) * (s + t) = qv p.1 * t + qv q.1 * s := by
  rcases hst with ⟨rfl, rfl⟩ | ⟨rfl, rfl⟩ <;> grind
 rw [← hz2]
 have hne2 : (p.1.2 : Rat) * q.1.2 * ((s + t) * W) ≠ 0 := by
  have : 0 < (p.1.2 : Rat) * q.1.2 * ((s + t) * W) := Rat.mul_pos (Rat.mul_pos p1 p3) hs
  grind
 rw [show (p.1.2 : Rat) * q.1.2 * (qv (fxZ p q) * (s + t) * W) = qv (fxZ p q) * ((p.1.2 : Rat) * q.1.2 * ((s + t) * W)) by grind, Rat.mul_div_cancel hne2]
theorem mulR_coord {a b : Int × Int} (ha : coordR a = true) (hb : coordR b = true) : (mulR a b).2 = true ∧ (-10000 ≤ (mulR a b).1.1 ∧ (mulR a b).1.1 ≤ 10000) ∧ (1 ≤ (mulR a b).1.2 ∧ (mulR a b).1.2 ≤ 10000) := by
 obtain ⟨h1, h2, h3⟩ := coordR_bd ha
 obtain ⟨h4, h5, h6⟩ := coordR_bd hb
 have b1 : 0 ≤ a.1 * b.1 ∧ a.1 * b.1 ≤ 100 * 100 := mul_bd (by omega) (by omega)
 have b3 : 0 ≤ a.2 * b.2 ∧ a.2 * b.2 ≤ 100 * 100 := mul_bd (by omega) (by omega)
 have b4 : a.2 * b.2 ≠ 0 := Int.mul_ne_zero (by omega) (by omega)
 have hok : (mulR a b).2 = true := mkR_ok b4 (by omega) (by omega)
 obtain ⟨l1, l2, l3⟩ := mkR_den _ _ hok b4
 refine ⟨hok, ?_, ?_⟩
 ·show -10000 ≤ (mkR _ _).1.1 ∧ (mkR _ _).1.1 ≤ 10000
  omega
 ·show 1 ≤ (mkR _ _).1.2 ∧ (mkR _ _).1.2 ≤ 10000
  omega
theorem subR_small {a b : Int × Int} (h1 : -10000 ≤ a.1 ∧ a.1 ≤ 10000) (h2 : 1 ≤ a.2 ∧ a.2 ≤ 10000) (h3 : -10000 ≤ b.1 ∧ b.1 ≤ 10000) (h4 : 1 ≤ b.2 ∧ b.2 ≤ 10000) : (subR a b).2 = true := by
 have m1 : 0 ≤ (a.1.natAbs : Int) * b.2 ∧ (a.1.natAbs : Int) * b.2 ≤ 10000 * 10000 := mul_bd (by omega) (by omega)
 have m2 : 0 ≤ (b.1.natAbs : Int) * a.2 ∧ (b.1.natAbs : Int) * a.2 ≤ 10000 * 10000 := mul_bd (by omega) (by omega)
 have m3 : 0 ≤ a.2 * b.2 ∧ a.2 * b.2 ≤ 10000 * 10000 := mul_bd (by omega) (by omega)
 have e1 : ((a.1 * b.2).natAbs : Int) = (a.1.natAbs : Int) * b.2 := by rw [Int.natAbs_mul, Int.natCast_mul]; congr 1; omega
 have e2 : ((b.1 * a.2).natAbs : Int) = (b.1.natAbs : Int) * a.2 := by rw [Int.natAbs_mul, Int.natCast_mul]; congr 1; omega
 exact mkR_ok (Int.mul_ne_zero (by omega) (by omega)) (by omega) (by omega)
theorem fx_spec {p q : Quad} (h1 : coordR p.1 = true) (h2 : coordR p.2 = true) (h3 : coordR q.1 = true) (h4 : coordR q.2 = true) (hc : fxC p q = true) :
  goodR (mulR p.2 q.1).1.1 (mulR p.2 q.1).1.2 = true ∧ goodR (mulR q.2 p.1).1.1 (mulR q.2 p.1).1.2 = true ∧ goodR (subR (mulR p.2 q.1).1 (mulR q.2 p.1).1).1.1 (subR (mulR p.2 q.1).1 (mulR q.2 p.1).1).1.2 = true ∧
  goodR (subR q.1 p.1).1.1 (subR q.1 p.1).1.2 = true ∧ goodR (subR q.2 p.2).1.1 (subR q.2 p.2).1.2 = true ∧ goodR (subR (subR q.1 p.1).1 (subR q.2 p.2).1).1.1 (subR (subR q.1 p.1).1 (subR q.2 p.2).1).1.2 = true ∧
  (subR (subR q.1 p.1).1 (subR q.2 p.2).1).1.1 ≠ 0 ∧ divR (subR (mulR p.2 q.1).1 (mulR q.2 p.1).1).1 (subR (subR q.1 p.1).1 (subR q.2 p.2).1).1 = (fxZ p q, true) := by
 obtain ⟨_, _, hg, hz, hb⟩ := fx_ok h1 h2 h3 h4 hc
 have g1 := unitR_good (coordR_unit h1)
 have g2 := unitR_good (coordR_unit h2)
 have g3 := unitR_good (coordR_unit h3)
 have g4 := unitR_good (coordR_unit h4)
 obtain ⟨a1, a2, a3⟩ := mulR_coord h2 h3
 obtain ⟨b1, b2, b3⟩ := mulR_coord h4 h1
 obtain ⟨c1, c2, c3⟩ := subR_coord h3 h1
 obtain ⟨d1, d2, d3⟩ := subR_coord h4 h2
 obtain ⟨ga, va⟩ := mulR_qv g2 g3 a1
 obtain ⟨gb, vb⟩ := mulR_qv g4 g1 b1
 obtain ⟨gc, vc⟩ := subR_qv g3 g1 c1
 obtain ⟨gd, vd⟩ := subR_qv g4 g2 d1
 have t1 := subR_small a2 a3 b2 b3
 have t2 := subR_small c2 c3 d2 d3
 obtain ⟨gt, vt⟩ := subR_qv ga gb t1
 obtain ⟨gu, vu⟩ := subR_qv gc gd t2
 rw [va, vb] at vt
 rw [vc, vd] at vu
 have hne : (subR (subR q.1 p.1).1 (subR q.2 p.2).1).1.1 ≠ 0 := by
  intro e
  rw [← vu] at hb
  apply hb
  unfold qv
  rw [e, Rat.div_def]
  simp
 refine ⟨ga, gb, gt, gc, gd, gu, hne, ?_⟩
 have hdt := good_den gt
 have hdu := good_den gu
 unfold divR
 rw [if_neg hne]
 refine mkR_is (Int.mul_ne_zero (by omega) hne) hg ?_
 rw [← vt, ← vu] at hz
 rw [← vu] at hb
 generalize subR (mulR p.2 q.1).1 (mulR q.2 p.1).1 = S at *
 generalize subR (subR q.1 p.1).1 (subR q.2 p.2).1 = U at *
 have n1 := ratC_ne (d := S.1.2) (by omega)
 have n2 := ratC_ne (d := U.1.2) (by omega)
 have n3 := ratC_ne hne
 have e1 : qv (fxZ p q) = qv S.1 / qv U.1 := by rw [← hz, Rat.mul_div_cancel hb]
 rw [e1]
 unfold qv
 push_cast
 grind
def fxPts (f : List Quad) (k : Nat) : List (Int × Int) := ((List.range k).filter fun i => decide ((nth4 f i).1 = (nth4 f i).2)).map fun i => (nth4 f i).1
def fxCrs (f : List Quad) (k : Nat) : List (Int × Int) := ((List.range k).filter fun i => fxC (nth4 f i) (nth4 f (i + 1))).map fun i => fxZ (nth4 f i) (nth4 f (i + 1))
theorem fxPts_step (f : List Quad) (k : Nat) : fxPts f (k + 1) = if (nth4 f k).1 = (nth4 f k).2 then fxPts f k ++ [(nth4 f k).1] else fxPts f k := by
 unfold fxPts
 rw [List.range_succ, List.filter_append, List.map_append]
 by_cases h : (nth4 f k).1 = (nth4 f k).2
 ·rw [if_pos h]; simp [h]
 ·rw [if_neg h]; simp [h]
theorem fxCrs_step (f : List Quad) (k : Nat) : fxCrs f (k + 1) = if fxC (nth4 f k) (nth4 f (k + 1)) = true then fxCrs f k ++ [fxZ (nth4 f k) (nth4 f (k + 1))] else fxCrs f k := by
 unfold fxCrs
 rw [List.range_succ, List.filter_append, List.map_append]
 cases h : fxC (nth4 f k) (nth4 f (k + 1)) <;> simp [h]
theorem fxPts_len (f : List Quad) (k : Nat) : (fxPts f k).length ≤ k := by
 unfold fxPts
 rw [List.length_map]
 exact Nat.le_trans (List.length_filter_le _ _) (by simp)
theorem fxCrs_len (f : List Quad) (k : Nat) : (fxCrs f k).length ≤ k := by
 unfold fxCrs
 rw [List.length_map]
 exact Nat.le_trans (List.length_filter_le _ _) (by simp)
def fxRaw (f : List Quad) : List (Int × Int) := fxPts f f.length ++ fxCrs f (f.length - 1)
theorem fxRaw_mem {f : List Quad} {x : Int × Int} : x ∈ fxRaw f ↔ (∃ i, i < f.length ∧ (nth4 f i).1 = (nth4 f i).2 ∧ x = (nth4 f i).1) ∨ ∃ i, i + 1 < f.length ∧ fxC (nth4 f i) (nth4 f (i + 1)) = true ∧ x = fxZ (nth4 f i) (nth4 f (i + 1)) := by
 unfold fxRaw fxPts fxCrs
 simp only [List.mem_append, List.mem_map, List.mem_filter, List.mem_range, decide_eq_true_iff]
 constructor
 ·rintro (⟨i, ⟨a, b⟩, c⟩ | ⟨i, ⟨a, b⟩, c⟩)
  ·exact .inl ⟨i, a, b, c.symm⟩
  ·exact .inr ⟨i, by omega, b, c.symm⟩
 ·rintro (⟨i, a, b, c⟩ | ⟨i, a, b, c⟩)
  ·exact .inl ⟨i, ⟨a, b⟩, c.symm⟩
  ·exact .inr ⟨i, ⟨by omega, b⟩, c.symm⟩
theorem fxRaw_good {f : List Quad} (hf : MapP f) : ∀ x, x ∈ fxRaw f → goodR x.1 x.2 = true := by
 intro x hx
 rcases fxRaw_mem.1 hx with ⟨i, a, b, rfl⟩ | ⟨i, a, b, rfl⟩
 ·exact unitR_good (coordR_unit (hf.coord i a).1)
 ·exact (fx_ok (hf.coord i (by omega)).1 (hf.coord i (by omega)).2 (hf.coord (i + 1) a).1 (hf.coord (i + 1) a).2 b).2.2.1
def fxL (f : List Quad) : List (Int × Int) := mergeL [] (fxRaw f)
theorem fxL_rise {f : List Quad} (hf : MapP f) : RiseL (fxL f) ∧ ∀ x, x ∈ fxL f ↔ x ∈ fxRaw f := by
 obtain ⟨h1, h2⟩ := merge_rise (fxRaw f) (xs := []) List.Pairwise.nil (fun y h => by cases h) (fxRaw_good hf)
 exact ⟨h1, fun x => by rw [show fxL f = mergeL [] (fxRaw f) from rfl, h2]; simp⟩
theorem fxL_sorted {f : List Quad} (hf : MapP f) {ys : List (Int × Int)} (hp : ys.Pairwise fun a b => qv a ≤ qv b) (hm : ∀ x, x ∈ ys ↔ x ∈ fxRaw f) : cmpL ys = fxL f :=
 sort_merge hp (fun x => by rw [hm]; simp) List.Pairwise.nil (fun y h => by cases h) (fxRaw_good hf)
theorem fxL_put {f : List Quad} (hf : MapP f) {l : List (Int × Int)} (hr : RiseL l) (hm : ∀ x, x ∈ l ↔ x ∈ fxRaw f) : l = fxL f :=
 rise_ext hr (fxL_rise hf).1 fun x => by rw [hm, (fxL_rise hf).2]
def fxS (f : List Quad) (k : Nat) (l : List (Int × Int)) : List (Int × Int) :=
 putIf (fxC (nth4 f k) (nth4 f (k + 1))) (putIf (decide ((nth4 f (k + 1)).1 = (nth4 f (k + 1)).2)) (putIf (decide ((nth4 f k).1 = (nth4 f k).2)) l (nth4 f k).1) (nth4 f (k + 1)).1) (fxZ (nth4 f k) (nth4 f (k + 1)))
def fxG (f : List Quad) : Nat → List (Int × Int)
 | 0 => []
 | k + 1 => fxS f k (fxG f k)
theorem fxG_law {f : List Quad} (hf : MapP f) : ∀ k, k + 1 ≤ f.length →
  GoodL (fxG f k) ∧ (fxG f k).length ≤ 3 * k ∧ (1 ≤ k → ∀ x, x ∈ fxG f k ↔ (∃ i, i ≤ k ∧ (nth4 f i).1 = (nth4 f i).2 ∧ x = (nth4 f i).1) ∨ ∃ i, i < k ∧ fxC (nth4 f i) (nth4 f (i + 1)) = true ∧ x = fxZ (nth4 f i) (nth4 f (i + 1))) := by
 intro k
 induction k with
 | zero => exact fun _ => ⟨⟨List.Pairwise.nil, fun x h => by cases h⟩, by simp [fxG], fun h => absurd h (by omega)⟩
 | succ k ih =>
   intro hk
   obtain ⟨h1, h2, h3⟩ := ih (by omega)
   have c0 := hf.coord k (by omega)
   have c1 := hf.coord (k + 1) (by omega)
   have hE : fxG f (k + 1) = fxS f k (fxG f k) := rfl
   obtain ⟨i1, i2, i3⟩ := h1.putIf (unitR_good (coordR_unit c0.1)) (decide ((nth4 f k).1 = (nth4 f k).2))
   obtain ⟨j1, j2, j3⟩ := i1.putIf (unitR_good (coordR_unit c1.1)) (decide ((nth4 f (k + 1)).1 = (nth4 f (k + 1)).2))
   have hl : GoodL (fxG f (k + 1)) ∧ (fxG f (k + 1)).length ≤ 3 * (k + 1) ∧ ∀ x, x ∈ fxG f (k + 1) ↔ ((x ∈ fxG f k ∨ ((nth4 f k).1 = (nth4 f k).2 ∧ x = (nth4 f k).1)) ∨ ((nth4 f (k + 1)).1 = (nth4 f (k + 1)).2 ∧ x = (nth4 f (k + 1)).1)) ∨ (fxC (nth4 f k) (nth4 f (k + 1)) = true ∧ x = fxZ (nth4 f k) (nth4 f (k + 1))) := by
    rw [hE]
    unfold fxS
    cases hc : fxC (nth4 f k) (nth4 f (k + 1))
    ·have e : ∀ (l : List (Int × Int)) (x : Int × Int), putIf false l x = l := fun l x => rfl
     rw [e]
     exact ⟨j1, by omega, fun x => by rw [j2, i2, decide_eq_true_iff, decide_eq_true_iff]; simp⟩
    ·have hg := (fx_ok c0.1 c0.2 c1.1 c1.2 hc).2.2.1
     obtain ⟨l1, l2, l3⟩ := j1.putIf hg true
     exact ⟨l1, by omega, fun x => by rw [l2, j2, i2, decide_eq_true_iff, decide_eq_true_iff]⟩
   refine ⟨hl.1, hl.2.1, fun _ x => ?_⟩
   rw [hl.2.2]
   constructor
   ·rintro (((h | ⟨a, b⟩) | ⟨a, b⟩) | ⟨a, b⟩)
    ·by_cases hk : k = 0
     ·subst hk; cases h
     ·rcases (h3 (by omega) x).1 h with ⟨i, a, b, c⟩ | ⟨i, a, b, c⟩
      ·exact .inl ⟨i, by omega, b, c⟩
      ·exact .inr ⟨i, by omega, b, c⟩
    ·exact .inl ⟨k, by omega, a, b⟩
    ·exact .inl ⟨k + 1, by omega, a, b⟩
    ·exact .inr ⟨k, by omega, a, b⟩
   ·rintro (⟨i, a, b, c⟩ | ⟨i, a, b, c⟩)
    ·by_cases e : i = k + 1
     ·subst e; exact .inl (.inr ⟨b, c⟩)
     ·by_cases e2 : i = k
      ·subst e2; exact .inl (.inl (.inr ⟨b, c⟩))
      ·exact .inl (.inl (.inl ((h3 (by omega) x).2 (.inl ⟨i, by omega, b, c⟩))))
    ·by_cases e2 : i = k
     ·subst e2; exact .inr ⟨b, c⟩
     ·exact .inl (.inl (.inl ((h3 (by omega) x).2 (.inr ⟨i, by omega, b, c⟩))))
theorem fxG_end {f : List Quad} (hf : MapP f) {k : Nat} (hk : k + 1 = f.length) (h1 : 1 ≤ k) : fxG f k = fxL f := by
 obtain ⟨a, _, c⟩ := fxG_law hf k (by omega)
 refine fxL_put hf a.rise fun x => ?_
 rw [c h1, fxRaw_mem]
 constructor
 ·rintro (⟨i, a, b, c⟩ | ⟨i, a, b, c⟩)
  ·exact .inl ⟨i, by omega, b, c⟩
  ·exact .inr ⟨i, by omega, b, c⟩
 ·rintro (⟨i, a, b, c⟩ | ⟨i, a, b, c⟩)
  ·exact .inl ⟨i, by omega, b, c⟩
  ·exact .inr ⟨i, by omega, b, c⟩
end Go.Proofs.YtfhhofecfllbfaaGreat

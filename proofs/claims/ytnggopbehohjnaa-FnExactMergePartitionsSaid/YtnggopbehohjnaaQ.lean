/- Fractions as rational numbers. Plain laws, no program in sight. -/
import Derived.Test.YtnggopbehohjnaaCalc
namespace Go.Proofs.Ytnggopbehohjnaa
open Go.RowKit

/-- The number that a fraction is. -/
def qv (r : Int × Int) : Rat := (r.1 : Rat) / (r.2 : Rat)
theorem ratC_pos {d : Int} (h : 1 ≤ d) : (0 : Rat) < (d : Rat) := by
  have : (0 : Int) < d := by omega
  exact_mod_cast this
theorem ratC_ne {d : Int} (h : d ≠ 0) : (d : Rat) ≠ 0 := by exact_mod_cast h
theorem rat_div_le {a b c : Rat} (hb : 0 < b) : a / b ≤ c ↔ a ≤ c * b := by rw [← Rat.not_lt, ← Rat.not_lt, Rat.lt_div_iff hb]
theorem rat_le_div {a b c : Rat} (hb : 0 < b) : a ≤ c / b ↔ a * b ≤ c := by rw [← Rat.not_lt, ← Rat.not_lt, Rat.div_lt_iff hb]
theorem goodR_all {n d : Int} (h : goodR n d = true) : (1 ≤ d ∧ d ≤ 1000000000) ∧ (-1000000000 ≤ n ∧ n ≤ 1000000000) ∧ Nat.gcd n.natAbs d.natAbs = 1 := by
  have h1 := goodR_bd h
  unfold goodR gcdI at h
  simp only [Bool.and_eq_true, decide_eq_true_iff] at h
  exact ⟨h1.1, h1.2, by have := h.2; omega⟩
theorem goodR_of {n d : Int} (h1 : 1 ≤ d ∧ d ≤ 1000000000) (h2 : -1000000000 ≤ n ∧ n ≤ 1000000000) (h3 : Nat.gcd n.natAbs d.natAbs = 1) : goodR n d = true := by
  unfold goodR gcdI
  simp only [Bool.and_eq_true, decide_eq_true_iff, inB_true]
  exact ⟨⟨h1, h2⟩, by rw [h3]; rfl⟩
theorem ltB_qv {a b : Int × Int} (ha : goodR a.1 a.2 = true) (hb : goodR b.1 b.2 = true) : ltB a.1 a.2 b.1 b.2 = true ↔ qv a < qv b := by
  obtain ⟨⟨h1, _⟩, _⟩ := goodR_all ha
  obtain ⟨⟨h2, _⟩, _⟩ := goodR_all hb
  unfold ltB qv
  have e : (b.1 : Rat) / b.2 * a.2 = b.1 * a.2 / b.2 := by rw [Rat.div_def, Rat.div_def]; grind
  rw [decide_eq_true_iff, Rat.div_lt_iff (ratC_pos h1), e, Rat.lt_div_iff (ratC_pos h2)]
  norm_cast
theorem ltB_qvf {a b : Int × Int} (ha : goodR a.1 a.2 = true) (hb : goodR b.1 b.2 = true) : ltB a.1 a.2 b.1 b.2 = false ↔ qv b ≤ qv a := by
  rw [← Bool.not_eq_true, ltB_qv ha hb, Rat.not_lt]
theorem qv_inj {a b : Int × Int} (ha : goodR a.1 a.2 = true) (hb : goodR b.1 b.2 = true) (h : qv a = qv b) : a = b := by
  obtain ⟨⟨h1, _⟩, _, h3⟩ := goodR_all ha
  obtain ⟨⟨h2, _⟩, _, h4⟩ := goodR_all hb
  obtain ⟨n, d⟩ := a
  obtain ⟨m, e⟩ := b
  simp only at h1 h2 h3 h4
  unfold qv at h
  simp only at h
  have hx : n * e = m * d := by
    have h5 : (n : Rat) * e = m * d := by
      have := ratC_ne (d := d) (by omega)
      have := ratC_ne (d := e) (by omega)
      grind
    exact_mod_cast h5
  have hd : d.natAbs ∣ e.natAbs := by
    have h6 : d ∣ n * e := ⟨m, by rw [hx, Int.mul_comm]⟩
    have h7 : d.natAbs ∣ n.natAbs * e.natAbs := by rw [← Int.natAbs_mul]; exact Int.natAbs_dvd_natAbs.2 h6
    exact (Nat.Coprime.symm h3).dvd_of_dvd_mul_left h7
  have he : e.natAbs ∣ d.natAbs := by
    have h6 : e ∣ m * d := ⟨n, by rw [← hx, Int.mul_comm]⟩
    have h7 : e.natAbs ∣ m.natAbs * d.natAbs := by rw [← Int.natAbs_mul]; exact Int.natAbs_dvd_natAbs.2 h6
    exact (Nat.Coprime.symm h4).dvd_of_dvd_mul_left h7
  have hde : d = e := by have := Nat.dvd_antisymm hd he; omega
  subst hde
  have : n = m := Int.eq_of_mul_eq_mul_right (by omega) hx
  rw [this]
/-- What 'lowest terms' does: the number stays. -/
theorem low_spec {x y : Int} (h : y ≠ 0) : 1 ≤ lowD x y ∧ lowN x y * y = x * lowD x y ∧ Nat.gcd (lowN x y).natAbs (lowD x y).natAbs = 1 ∧ (lowN x y).natAbs ≤ x.natAbs ∧ (lowD x y).natAbs ≤ y.natAbs := by
  have hg : 0 < Nat.gcd x.natAbs y.natAbs := Nat.gcd_pos_of_pos_right _ (by omega)
  obtain ⟨g, hgg⟩ : ∃ g, Nat.gcd x.natAbs y.natAbs = g := ⟨_, rfl⟩
  rw [hgg] at hg
  have hgx : (g : Int) ∣ x := Int.ofNat_dvd_left.2 (by rw [← hgg]; exact Nat.gcd_dvd_left _ _)
  have hgy : (g : Int) ∣ y := Int.ofNat_dvd_left.2 (by rw [← hgg]; exact Nat.gcd_dvd_right _ _)
  obtain ⟨a, ha⟩ := hgx
  obtain ⟨b, hb⟩ := hgy
  have hg0 : (g : Int) ≠ 0 := by omega
  have hga : Nat.gcd a.natAbs b.natAbs = 1 := by
    have h1 : Nat.gcd (g * a.natAbs) (g * b.natAbs) = g := by
      have e1 : x.natAbs = g * a.natAbs := by rw [ha, Int.natAbs_mul]; simp
      have e2 : y.natAbs = g * b.natAbs := by rw [hb, Int.natAbs_mul]; simp
      rw [← e1, ← e2]; exact hgg
    rw [Nat.gcd_mul_left] at h1
    exact Nat.eq_of_mul_eq_mul_left hg (by rw [h1, Nat.mul_one])
  have ex : x.natAbs = g * a.natAbs := by rw [ha, Int.natAbs_mul]; simp
  have ey : y.natAbs = g * b.natAbs := by rw [hb, Int.natAbs_mul]; simp
  have lx : a.natAbs ≤ x.natAbs := by rw [ex]; exact Nat.le_mul_of_pos_left _ hg
  have ly : b.natAbs ≤ y.natAbs := by rw [ey]; exact Nat.le_mul_of_pos_left _ hg
  have hb0 : b ≠ 0 := fun e => h (by rw [hb, e, Int.mul_zero])
  have ta : x.tdiv g = a := by rw [ha]; exact Int.mul_tdiv_cancel_left _ hg0
  have tb : y.tdiv g = b := by rw [hb]; exact Int.mul_tdiv_cancel_left _ hg0
  unfold lowN lowD gcdI
  rw [hgg]
  by_cases q : y < 0
  · rw [if_pos q, if_pos q, Int.tdiv_neg, Int.tdiv_neg, ta, tb]
    have hbn : b < 0 := by
      apply Decidable.byContradiction
      intro r
      have : 0 ≤ (g : Int) * b := Int.mul_nonneg (by omega) (by omega)
      omega
    refine ⟨by omega, by rw [ha, hb]; grind, by rw [Int.natAbs_neg, Int.natAbs_neg]; exact hga, by rw [Int.natAbs_neg]; exact lx, by rw [Int.natAbs_neg]; exact ly⟩
  · rw [if_neg q, if_neg q, ta, tb]
    have hbn : 0 < b := by
      apply Decidable.byContradiction
      intro r
      have : 0 ≤ (g : Int) * (-b) := Int.mul_nonneg (by omega) (by omega)
      have : (g : Int) * (-b) = -(g * b) := by grind
      omega
    exact ⟨by omega, by rw [ha, hb]; grind, hga, lx, ly⟩
theorem mkR_good {x y : Int} (h : (mkR x y).2 = true) : goodR (mkR x y).1.1 (mkR x y).1.2 = true := by
  unfold mkR at h ⊢
  split
  · rename_i hg; exact hg
  · rename_i hg; rw [if_neg hg] at h; cases h
theorem mkR_qv {x y : Int} (h0 : y ≠ 0) (h : (mkR x y).2 = true) : qv (mkR x y).1 = (x : Rat) / (y : Rat) := by
  obtain ⟨h1, h2, _⟩ := low_spec (x := x) h0
  unfold mkR at h ⊢
  split
  · rename_i hg
    show (lowN x y : Rat) / (lowD x y : Rat) = _
    have h3 : (lowN x y : Rat) * y = x * lowD x y := by exact_mod_cast h2
    have := ratC_ne (d := lowD x y) (by omega)
    have := ratC_ne h0
    grind
  · rename_i hg; rw [if_neg hg] at h; cases h
theorem mkR_ok {x y : Int} (h0 : y ≠ 0) (hx : -1000000000 ≤ x ∧ x ≤ 1000000000) (hy : -1000000000 ≤ y ∧ y ≤ 1000000000) : (mkR x y).2 = true := by
  obtain ⟨h1, _, h3, h4, h5⟩ := low_spec (x := x) h0
  unfold mkR
  rw [if_pos (goodR_of (by omega) (by omega) h3)]
/-- Each fraction in lowest terms of small size is told. -/
theorem mkR_is {x y : Int} {r : Int × Int} (h0 : y ≠ 0) (hr : goodR r.1 r.2 = true) (h : qv r = (x : Rat) / (y : Rat)) : mkR x y = (r, true) := by
  obtain ⟨h1, h2, h3, _⟩ := low_spec (x := x) h0
  obtain ⟨⟨h5, h6⟩, h7, h8⟩ := goodR_all hr
  obtain ⟨n, d⟩ := r
  simp only at h5 h6 h7 h8
  have hx : lowN x y * d = n * lowD x y := by
    have e1 : (lowN x y : Rat) * y = x * lowD x y := by exact_mod_cast h2
    have e2 : (n : Rat) / d = (x : Rat) / (y : Rat) := h
    have e3 : (lowN x y : Rat) * d = n * lowD x y := by
      have := ratC_ne (d := d) (by omega)
      have := ratC_ne h0
      grind
    exact_mod_cast e3
  have hd : (lowD x y).natAbs ∣ d.natAbs := by
    have h9 : lowD x y ∣ lowN x y * d := ⟨n, by rw [hx, Int.mul_comm]⟩
    have h10 : (lowD x y).natAbs ∣ (lowN x y).natAbs * d.natAbs := by rw [← Int.natAbs_mul]; exact Int.natAbs_dvd_natAbs.2 h9
    exact (Nat.Coprime.symm h3).dvd_of_dvd_mul_left h10
  have he : d.natAbs ∣ (lowD x y).natAbs := by
    have h9 : d ∣ n * lowD x y := ⟨lowN x y, by rw [← hx, Int.mul_comm]⟩
    have h10 : d.natAbs ∣ n.natAbs * (lowD x y).natAbs := by rw [← Int.natAbs_mul]; exact Int.natAbs_dvd_natAbs.2 h9
    exact (Nat.Coprime.symm h8).dvd_of_dvd_mul_left h10
  have e1 : lowD x y = d := by have := Nat.dvd_antisymm hd he; omega
  have e2 : lowN x y = n := by rw [e1] at hx; exact Int.eq_of_mul_eq_mul_right (by omega) hx
  unfold mkR
  rw [e1, e2, if_pos (by exact hr)]

def mulR (a b : Int × Int) : (Int × Int) × Bool := mkR (a.1 * b.1) (a.2 * b.2)
def divR (a b : Int × Int) : (Int × Int) × Bool := if b.1 = 0 then ((0, 0), false) else mkR (a.1 * b.2) (a.2 * b.1)
theorem mulR_comm (a b : Int × Int) : mulR a b = mulR b a := by
  unfold mulR
  rw [Int.mul_comm a.1, Int.mul_comm a.2]
theorem good_den {r : Int × Int} (h : goodR r.1 r.2 = true) : 1 ≤ r.2 := (goodR_all h).1.1
theorem den_ne {a b : Int × Int} (ha : goodR a.1 a.2 = true) (hb : goodR b.1 b.2 = true) : a.2 * b.2 ≠ 0 := by
  have h1 := good_den ha
  have h2 := good_den hb
  exact Int.mul_ne_zero (by omega) (by omega)
theorem addR_qv {a b : Int × Int} (ha : goodR a.1 a.2 = true) (hb : goodR b.1 b.2 = true) (h : (addR a b).2 = true) : goodR (addR a b).1.1 (addR a b).1.2 = true ∧ qv (addR a b).1 = qv a + qv b := by
  refine ⟨mkR_good h, ?_⟩
  show qv (mkR _ _).1 = _
  rw [mkR_qv (den_ne ha hb) h]
  have := ratC_ne (d := a.2) (by have := good_den ha; omega)
  have := ratC_ne (d := b.2) (by have := good_den hb; omega)
  unfold qv
  push_cast
  grind
theorem subR_qv {a b : Int × Int} (ha : goodR a.1 a.2 = true) (hb : goodR b.1 b.2 = true) (h : (subR a b).2 = true) : goodR (subR a b).1.1 (subR a b).1.2 = true ∧ qv (subR a b).1 = qv a - qv b := by
  refine ⟨mkR_good h, ?_⟩
  show qv (mkR _ _).1 = _
  rw [mkR_qv (den_ne ha hb) h]
  have := ratC_ne (d := a.2) (by have := good_den ha; omega)
  have := ratC_ne (d := b.2) (by have := good_den hb; omega)
  unfold qv
  push_cast
  grind
theorem mulR_qv {a b : Int × Int} (ha : goodR a.1 a.2 = true) (hb : goodR b.1 b.2 = true) (h : (mulR a b).2 = true) : goodR (mulR a b).1.1 (mulR a b).1.2 = true ∧ qv (mulR a b).1 = qv a * qv b := by
  refine ⟨mkR_good h, ?_⟩
  show qv (mkR _ _).1 = _
  rw [mkR_qv (den_ne ha hb) h]
  have := ratC_ne (d := a.2) (by have := good_den ha; omega)
  have := ratC_ne (d := b.2) (by have := good_den hb; omega)
  unfold qv
  push_cast
  grind
theorem divR_qv {a b : Int × Int} (ha : goodR a.1 a.2 = true) (hb : goodR b.1 b.2 = true) (h : (divR a b).2 = true) : goodR (divR a b).1.1 (divR a b).1.2 = true ∧ qv (divR a b).1 = qv a / qv b ∧ b.1 ≠ 0 := by
  unfold divR at h ⊢
  by_cases q : b.1 = 0
  · rw [if_pos q] at h; cases h
  · rw [if_neg q] at h ⊢
    have h1 := good_den ha
    refine ⟨mkR_good h, ?_, q⟩
    rw [mkR_qv (Int.mul_ne_zero (by omega) q) h]
    have := ratC_ne (d := a.2) (by omega)
    have := ratC_ne (d := b.2) (by have := good_den hb; omega)
    have := ratC_ne q
    unfold qv
    push_cast
    grind
theorem unitR_qv {r : Int × Int} : unitR r.1 r.2 = true ↔ goodR r.1 r.2 = true ∧ 0 ≤ qv r ∧ qv r ≤ 1 := by
  unfold unitR
  rw [Bool.and_eq_true, inB_true]
  constructor
  · rintro ⟨h1, h2, h3⟩
    have hp := ratC_pos (good_den h1)
    refine ⟨h1, ?_, ?_⟩
    · unfold qv; rw [rat_le_div hp]
      rw [Rat.zero_mul]; exact_mod_cast h2
    · unfold qv; rw [rat_div_le hp]
      rw [Rat.one_mul]; exact_mod_cast h3
  · rintro ⟨h1, h2, h3⟩
    have hp := ratC_pos (good_den h1)
    unfold qv at h2 h3
    rw [rat_le_div hp, Rat.zero_mul] at h2
    rw [rat_div_le hp, Rat.one_mul] at h3
    exact ⟨h1, by exact_mod_cast h2, by exact_mod_cast h3⟩

end Go.Proofs.Ytnggopbehohjnaa

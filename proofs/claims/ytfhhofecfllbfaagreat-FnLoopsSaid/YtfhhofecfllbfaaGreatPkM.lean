/- Several texts in one: ShrLaw UnitLaw ShrImg ShrI0. No conditions but those that each theorem states. -/
import Derived.Test.YtfhhofecfllbfaaGreatPkI
import Derived.Test.YtfhhofecfllbfaaGreatPkK
import Derived.Test.YtfhhofecfllbfaaGreatPkL
import Derived.Test.YtfhhofecfllbfaaGreatPkJ
namespace Go.Proofs.YtfhhofecfllbfaaGreat
open Go.RowKit
theorem cY_lt {p : Quad} {y : Int × Int} (hp : goodR p.2.1 p.2.2 = true) (hy : goodR y.1 y.2 = true) : cY p y < 0 ↔ qv p.2 < qv y := by
 have h := cmpN_lt p.2.1 p.2.2 y.1 y.2
 rw [← ltB_qv hp hy, ← h, decide_eq_true_iff]; rfl
theorem cY_gt {p : Quad} {y : Int × Int} (hp : goodR p.2.1 p.2.2 = true) (hy : goodR y.1 y.2 = true) : 0 < cY p y ↔ qv y < qv p.2 := by
 have h := cmpN_le p.2.1 p.2.2 y.1 y.2
 rw [← ltB_qv hy hp]
 have e : cmpN p.2.1 p.2.2 y.1 y.2 = cY p y := rfl
 rw [e] at h
 by_cases q : cY p y ≤ 0
 ·rw [decide_eq_true q] at h
  have : ltB y.1 y.2 p.2.1 p.2.2 = false := by simpa using h.symm
  rw [this]
  exact ⟨fun r => by omega, fun r => by cases r⟩
 ·rw [decide_eq_false q] at h
  have : ltB y.1 y.2 p.2.1 p.2.2 = true := by simpa using h.symm
  rw [this]
  exact ⟨fun _ => rfl, fun _ => by omega⟩
theorem cross_iff {p q : Quad} {y : Int × Int} (hp : goodR p.2.1 p.2.2 = true) (hq : goodR q.2.1 q.2.2 = true) (hy : goodR y.1 y.2 = true) :
  crossB p q y = true ↔ (qv p.2 < qv y ∧ qv y < qv q.2) ∨ (qv q.2 < qv y ∧ qv y < qv p.2) := by
 rw [← cY_lt hp hy, ← cY_lt hq hy, ← cY_gt hp hy, ← cY_gt hq hy]
 unfold crossB
 rw [decide_eq_true_iff]
 have h1 := cmpN_bd p.2.1 p.2.2 y.1 y.2
 have h2 := cmpN_bd q.2.1 q.2.2 y.1 y.2
 have e1 : cmpN p.2.1 p.2.2 y.1 y.2 = cY p y := rfl
 have e2 : cmpN q.2.1 q.2.2 y.1 y.2 = cY q y := rfl
 rw [e1] at h1
 rw [e2] at h2
 generalize cY p y = a at *
 generalize cY q y = b at *
 rcases (by omega : a = -1 ∨ a = 0 ∨ a = 1) with rfl | rfl | rfl <;> omega
theorem back_at {f : List Quad} (hf : MapP f) {y : Int × Int} (hy : goodR y.1 y.2 = true) {i : Nat} (hi : i + 1 < f.length) (hc : crossB (nth4 f i) (nth4 f (i + 1)) y = true) (hb : backOk (nth4 f i) (nth4 f (i + 1)) y = true) :
  (qv (nth4 f i).1 < qv (backZ (nth4 f i) (nth4 f (i + 1)) y) ∧ qv (backZ (nth4 f i) (nth4 f (i + 1)) y) < qv (nth4 f (i + 1)).1) ∧ unitR (backZ (nth4 f i) (nth4 f (i + 1)) y).1 (backZ (nth4 f i) (nth4 f (i + 1)) y).2 = true ∧ atOk f (backZ (nth4 f i) (nth4 f (i + 1)) y) = true ∧ atZ f (backZ (nth4 f i) (nth4 f (i + 1)) y) = y := by
 obtain ⟨c1, c2⟩ := hf.coord i (by omega)
 obtain ⟨c3, c4⟩ := hf.coord (i + 1) hi
 have g1 := unitR_good (coordR_unit c1)
 have g2 := unitR_good (coordR_unit c2)
 have g3 := unitR_good (coordR_unit c3)
 have g4 := unitR_good (coordR_unit c4)
 have hl := hf.rise i hi
 obtain ⟨_, s1, s2, _⟩ := slope_ok c1 c2 c3 c4 hl
 have hlt := (ltB_qv g1 g3).1 hl
 have hcr := (cross_iff g2 g4 hy).1 hc
 have hs0 := cross_slope c1 c2 c3 c4 hl hc
 obtain ⟨x, hx⟩ : ∃ x, backZ (nth4 f i) (nth4 f (i + 1)) y = x := ⟨_, rfl⟩
 have hxg : goodR x.1 x.2 = true := by rw [← hx]; exact backZ_good _ _ _
 rw [hx]
 unfold backOk at hb
 simp only [Bool.and_eq_true] at hb
 obtain ⟨o1, o2, o3⟩ := hb
 unfold backZ at hx
 rw [orZ_ok o1] at o2 o3 hx
 obtain ⟨k1, v1⟩ := subR_qv hy g2 o1
 rw [orZ_ok o2] at o3 hx
 obtain ⟨k2, v2, _⟩ := divR_qv k1 s1 o2
 rw [orZ_ok o3] at hx
 obtain ⟨k3, v3⟩ := addR_qv g1 k2 o3
 rw [hx, v2, v1] at v3
 have hsne : qv (slopeR (nth4 f i) (nth4 f (i + 1))) ≠ 0 := by
  have hd := good_den s1
  intro e
  have h1 : qv (slopeR (nth4 f i) (nth4 f (i + 1))) * ((slopeR (nth4 f i) (nth4 f (i + 1))).2 : Rat) = ((slopeR (nth4 f i) (nth4 f (i + 1))).1 : Rat) := Rat.div_mul_cancel (ratC_ne (by omega))
  rw [e, Rat.zero_mul] at h1
  exact ratC_ne hs0 h1.symm
 have hM : qv (divR (subR y (nth4 f i).2).1 (slopeR (nth4 f i) (nth4 f (i + 1)))).1 * qv (slopeR (nth4 f i) (nth4 f (i + 1))) = qv y - qv (nth4 f i).2 := by
  rw [v2, v1, Rat.div_mul_cancel hsne]
 have hMx : qv (divR (subR y (nth4 f i).2).1 (slopeR (nth4 f i) (nth4 f (i + 1)))).1 = qv x - qv (nth4 f i).1 := by rw [v3, v2, v1]; grind
 have hmid : qv (nth4 f i).1 < qv x ∧ qv x < qv (nth4 f (i + 1)).1 := by
  rw [hMx, s2] at hM
  generalize qv (nth4 f i).1 = X at *
  generalize qv (nth4 f (i + 1)).1 = X' at *
  generalize qv (nth4 f i).2 = P at *
  generalize qv (nth4 f (i + 1)).2 = Q at *
  generalize qv x = z at *
  generalize qv y = Y at *
  have hd : X' - X ≠ 0 := by grind
  have e : (z - X) * (Q - P) = (Y - P) * (X' - X) := by
   have e1 : (Q - P) / (X' - X) * (X' - X) = Q - P := Rat.div_mul_cancel hd
   have e2 : (z - X) * ((Q - P) / (X' - X)) * (X' - X) = (Y - P) * (X' - X) := by rw [hM]
   grind
  have hpos : 0 < X' - X := by grind
  rcases hcr with ⟨a1, a2⟩ | ⟨a1, a2⟩
  ·have hq : 0 < Q - P := by grind
   constructor
   ·apply Rat.not_le.1
    intro h
    have b1 : 0 ≤ (X - z) * (Q - P) := Rat.mul_nonneg (by grind) (by grind)
    have b2 : 0 < (Y - P) * (X' - X) := Rat.mul_pos (by grind) hpos
    grind
   ·apply Rat.not_le.1
    intro h
    have b1 : 0 ≤ (z - X') * (Q - P) := Rat.mul_nonneg (by grind) (by grind)
    have b2 : 0 < (Q - Y) * (X' - X) := Rat.mul_pos (by grind) hpos
    grind
  ·have hq : 0 < P - Q := by grind
   constructor
   ·apply Rat.not_le.1
    intro h
    have b1 : 0 ≤ (X - z) * (P - Q) := Rat.mul_nonneg (by grind) (by grind)
    have b2 : 0 < (P - Y) * (X' - X) := Rat.mul_pos (by grind) hpos
    grind
   ·apply Rat.not_le.1
    intro h
    have b1 : 0 ≤ (z - X') * (P - Q) := Rat.mul_nonneg (by grind) (by grind)
    have b2 : 0 < (Y - Q) * (X' - X) := Rat.mul_pos (by grind) hpos
    grind
 refine ⟨hmid, mid_unit hf hxg hi (by grind) (by grind), ?_⟩
 have hp := piece_mid hf hxg hi hmid.1 hmid.2
 unfold atOk atZ
 rw [hp]
 have e1 := subR_is hxg g1 k2 hMx
 have e2 := mulR_is s1 k2 k1 (r := (subR y (nth4 f i).2).1) (by rw [v1, ← hM]; grind)
 have e3 := addR_is g2 k1 hy (by rw [v1]; grind)
 unfold lineOk lineZ
 rw [e1]
 have z1 : orZ ((divR (subR y (nth4 f i).2).1 (slopeR (nth4 f i) (nth4 f (i + 1)))).1, true) = (divR (subR y (nth4 f i).2).1 (slopeR (nth4 f i) (nth4 f (i + 1)))).1 := rfl
 rw [z1, e2]
 have z2 : orZ ((subR y (nth4 f i).2).1, true) = (subR y (nth4 f i).2).1 := rfl
 rw [z2, e3]
 exact ⟨rfl, rfl⟩
theorem rise_nth {l : List (Int × Int)} (h : RiseL l) {a b : Nat} (hab : a < b) (hb : b < l.length) : qv (nthR l a) < qv (nthR l b) := by
 rw [nthR_eq hb, nthR_eq (Nat.lt_trans hab hb)]
 exact List.pairwise_iff_getElem.1 h a b (Nat.lt_trans hab hb) hb hab
theorem mulR_zero {s : Int × Int} (hs : goodR s.1 s.2 = true) : mulR s (0, 1) = ((0, 1), true) := mulR_is hs good_zero good_zero (by rw [qv_zero]; grind)
theorem addR_zero {p : Int × Int} (hp : goodR p.1 p.2 = true) : addR p (0, 1) = (p, true) := addR_is hp good_zero hp (by rw [qv_zero]; grind)
theorem orZ_bad {r : (Int × Int) × Bool} (h : r.2 = false) : orZ r = (0, 1) := by unfold orZ; rw [if_neg (by rw [h]; decide)]
theorem lineZ_bad {p : Quad} {s x : Int × Int} (hp : goodR p.2.1 p.2.2 = true) (hs : goodR s.1 s.2 = true) (h : lineOk p s x = false) : lineZ p s x = p.2 ∨ lineZ p s x = (0, 1) := by
 unfold lineOk at h
 unfold lineZ
 cases h1 : (subR x p.1).2
 ·rw [orZ_bad h1, mulR_zero hs]
  show orZ (addR p.2 (0, 1)) = p.2 ∨ _
  rw [addR_zero hp]
  exact .inl rfl
 ·rw [h1] at h
  cases h2 : (mulR s (orZ (subR x p.1))).2
  ·rw [orZ_bad h2, addR_zero hp]
   exact .inl rfl
  ·rw [h2] at h
   exact .inr (orZ_bad (by simpa using h))
theorem zero_unit : unitR (0, 1).1 (0, 1).2 = true := by decide
theorem atZ_unit {f : List Quad} (hf : MapP f) {x : Int × Int} (hx : unitR x.1 x.2 = true) : unitR (atZ f x).1 (atZ f x).2 = true := by
 cases h : atOk f x
 ·obtain ⟨h1, _, _⟩ := piece_in hf hx
  obtain ⟨c1, c2⟩ := hf.coord (pieceN f x) (by omega)
  obtain ⟨c3, c4⟩ := hf.coord (pieceN f x + 1) h1
  have gs := (slope_ok c1 c2 c3 c4 (hf.rise _ h1)).2.1
  rcases lineZ_bad (unitR_good (coordR_unit c2)) gs h with e | e
  ·unfold atZ; rw [e]; exact coordR_unit c2
  ·unfold atZ; rw [e]; exact zero_unit
 ·exact at_unit hf hx h
theorem backZ_unit {f : List Quad} (hf : MapP f) {y : Int × Int} (hy : goodR y.1 y.2 = true) {i : Nat} (hi : i + 1 < f.length) (hc : crossB (nth4 f i) (nth4 f (i + 1)) y = true) : unitR (backZ (nth4 f i) (nth4 f (i + 1)) y).1 (backZ (nth4 f i) (nth4 f (i + 1)) y).2 = true := by
 cases h : backOk (nth4 f i) (nth4 f (i + 1)) y
 ·obtain ⟨c1, c2⟩ := hf.coord i (by omega)
  obtain ⟨c3, c4⟩ := hf.coord (i + 1) hi
  have hl := hf.rise i hi
  have gs := (slope_ok c1 c2 c3 c4 hl).2.1
  have hs0 := cross_slope c1 c2 c3 c4 hl hc
  have hdz : divR (0, 1) (slopeR (nth4 f i) (nth4 f (i + 1))) = ((0, 1), true) := by
   unfold divR
   rw [if_neg hs0]
   refine mkR_is (Int.mul_ne_zero (by decide) hs0) good_zero ?_
   rw [qv_zero, Int.zero_mul, Rat.div_def]
   simp
  unfold backOk at h
  unfold backZ
  cases h1 : (subR y (nth4 f i).2).2
  ·rw [orZ_bad h1, hdz]
   show unitR (orZ (addR (nth4 f i).1 (0, 1))).1 (orZ (addR (nth4 f i).1 (0, 1))).2 = true
   rw [addR_zero (unitR_good (coordR_unit c1))]
   exact coordR_unit c1
  ·rw [h1] at h
   cases h2 : (divR (orZ (subR y (nth4 f i).2)) (slopeR (nth4 f i) (nth4 f (i + 1)))).2
   ·rw [orZ_bad h2, addR_zero (unitR_good (coordR_unit c1))]
    exact coordR_unit c1
   ·rw [h2] at h
    rw [orZ_bad (by simpa using h)]
    exact zero_unit
 ·exact (back_at hf hy hi hc h).2.1
theorem befR_unit {f : List Quad} (hf : MapP f) {y : Int × Int} (hy : goodR y.1 y.2 = true) : ∀ x, x ∈ befR f y → unitR x.1 x.2 = true := by
 intro x hx
 obtain ⟨i, hi, h | h⟩ := befL_mem.1 (((befR_rise hf y).2 x).1 hx)
 ·unfold bpL at h
  split at h
  ·rw [List.mem_singleton.1 h]
   exact coordR_unit (hf.coord i hi).1
  ·cases h
 ·unfold crL at h
  split at h
  ·rename_i e
   unfold crAt at e
   rw [Bool.and_eq_true, decide_eq_true_iff] at e
   obtain ⟨e0, e1⟩ := e
   obtain ⟨j, rfl⟩ : ∃ j, i = j + 1 := ⟨i - 1, by omega⟩
   rw [show j + 1 - 1 = j from rfl] at e1 h
   rw [List.mem_singleton.1 h]
   exact backZ_unit hf hy hi e1
  ·cases h
theorem mergeL_len0 (ys xs : List (Int × Int)) : (mergeL xs ys).length ≤ xs.length + ys.length := (mergeL_len ys xs).2
theorem befR_len (f : List Quad) (y : Int × Int) : (befR f y).length ≤ 2 * f.length := by
 have h1 := mergeL_len0 (befL f y f.length) []
 have h2 := befL_len f y f.length
 show (mergeL [] (befL f y f.length)).length ≤ _
 simp only [List.length_nil, Nat.zero_add] at h1
 omega
theorem HasR.kept {w w' : World} {B g : Nat} {v : Value} {xs : List (Int × Int)} (h : HasR w B v xs) (hg : w.grownBy w' (some g)) (hlt : g < B) : HasR w' B v xs := ⟨h.1, GrowR.kept h.2 hg hlt⟩
def BoxW (w : World) (b : Nat) (q : Quad) : Prop := BoxQ w b q ∧ w.frozen? ⟨b, 0, none⟩ = false ∧ w.frozen? ⟨b, 1, none⟩ = false ∧ w.frozen? ⟨b, 2, none⟩ = false ∧ w.frozen? ⟨b, 3, none⟩ = false
theorem BoxW.grown {w w' : World} {b : Nat} {q : Quad} {r : Option Nat} (h : BoxW w b q) (hg : w.grownBy w' r) (hr : r ≠ some b) : BoxW w' b q :=
 ⟨h.1.grown hg hr, gfrozen hg h.1.1 h.2.1 hr, gfrozen hg h.1.2.1 h.2.2.1 hr, gfrozen hg h.1.2.2.1 h.2.2.2.1 hr, gfrozen hg h.1.2.2.2 h.2.2.2.2 hr⟩
def set4 (w : World) (b : Nat) (q : Quad) : World := (((w.setCell ⟨b, 0, none⟩ (.int .i64 q.1.1)).setCell ⟨b, 1, none⟩ (.int .i64 q.1.2)).setCell ⟨b, 2, none⟩ (.int .i64 q.2.1)).setCell ⟨b, 3, none⟩ (.int .i64 q.2.2)
theorem wp_append_ratsU {o : Oper} {a : Act} {w : World} {KK : Act → World → Prop} {Q : Exit → Act → World → Prop} (s x : Operand)
  (ho : o.op = .call { callee := .builtin .append, args := #[s, x], argTypes := #[26, 26] }) (B : Nat) (v u : Value) (xs ys : List (Int × Int)) (hs : a.eval s = v)
  (hx : a.eval x = u) (hown : GrowR w B v xs) (hu : RatsV w u ys) (hl : xs.length + ys.length ≤ 4398046511104) (hB : B ≤ w.heap.size)
  (h : ∀ v' w', GrowR w' B v' (xs ++ ys) → w.grownBy w' v.ownBlock → KK (a.put o.dst v') w') : o.wp Tryz.prog a w KK Q := by
 obtain ⟨ao, cap, rfl, ⟨hcap, hnil⟩, _, _⟩ := hu.form
 cases ao with
 | none =>
   obtain rfl := hnil rfl
   have : ys = [] := List.eq_nil_of_length_eq_zero (by omega)
   subst this
   exact wp_append_rats0 s x ho B v xs hs hx hown (h v w (by rw [List.append_nil]; exact hown) (World.grownBy.refl _ _))
 | some ad => exact wp_append_rats s x ho B v ad _ _ xs ys hs hx hown hu hl hB h
end Go.Proofs.YtfhhofecfllbfaaGreat

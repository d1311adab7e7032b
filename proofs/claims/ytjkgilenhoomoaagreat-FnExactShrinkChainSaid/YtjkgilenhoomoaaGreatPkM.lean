/- Several texts in one: ShrLaw UnitLaw ShrImg ShrI0. No conditions but those that each theorem states. -/
import Derived.Test.YtjkgilenhoomoaaGreatPkI
import Derived.Test.YtjkgilenhoomoaaGreatPkK
import Derived.Test.YtjkgilenhoomoaaGreatPkL
import Derived.Test.YtjkgilenhoomoaaGreatPkJ

namespace Go.Proofs.YtjkgilenhoomoaaGreat
open Go.RowKit

theorem cY_lt {p : Quad} {y : Int × Int} (hp : goodR p.2.1 p.2.2 = true) (hy : goodR y.1 y.2 = true) : cY p y < 0 ↔ qv p.2 < qv y := by
  have h := cmpN_lt p.2.1 p.2.2 y.1 y.2
  rw [← ltB_qv hp hy, ← h, decide_eq_true_iff]; rfl
theorem cY_gt {p : Quad} {y : Int × Int} (hp : goodR p.2.1 p.2.2 = true) (hy : goodR y.1 y.2 = true) : 0 < cY p y ↔ qv y < qv p.2 := by
  have h := cmpN_le p.2.1 p.2.2 y.1 y.2
  rw [← ltB_qv hy hp]
  have e : cmpN p.2.1 p.2.2 y.1 y.2 = cY p y := rfl
  rw [e] at h
  by_cases q : cY p y ≤ 0
  · rw [decide_eq_true q] at h
    have : ltB y.1 y.2 p.2.1 p.2.2 = false := by simpa using h.symm
    rw [this]
    exact ⟨fun r => by omega, fun r => by cases r⟩
  · rw [decide_eq_false q] at h
    have : ltB y.1 y.2 p.2.1 p.2.2 = true := by simpa using h.symm
    rw [this]
    exact ⟨fun _ => rfl, fun _ => by omega⟩
theorem cross_iff {p q : Quad} {y : Int × Int} (hp : goodR p.2.1 p.2.2 = true) (hq : goodR q.2.1 q.2.2 = true) (hy : goodR y.1 y.2 = true) :
    crossB p q y = true ↔ (qv p.2 < qv y ∧ qv y < qv q.2) ∨ (qv q.2 < qv y ∧ qv y < qv p.2) := by
  rw [← cY_lt hp hy, ← cY_lt hq hy, ← cY_gt hp hy, ← cY_gt hq hy]
  unfold crossB
  rw [decide_eq_true_iff]
  have h1 := cmpN_bd p.2.1 p.2.2 y.1 y.2
  have h2 := cmpN_bd q.2.1 q.2.2 y.1 y.2
  have e1 : cmpN p.2.1 p.2.2 y.1 y.2 = cY p y := rfl
  have e2 : cmpN q.2.1 q.2.2 y.1 y.2 = cY q y := rfl
  rw [e1] at h1
  rw [e2] at h2
  generalize cY p y = a at *
  generalize cY q y = b at *
  rcases (by omega : a = -1 ∨ a = 0 ∨ a = 1) with rfl | rfl | rfl <;> omega
/-- Where a piece crosses a value, the map has that value, and every part of it is told. -/
theorem back_at {f : List Quad} (hf : MapP f) {y : Int × Int} (hy : goodR y.1 y.2 = true) {i : Nat} (hi : i + 1 < f.length) (hc : crossB (nth4 f i) (nth4 f (i + 1)) y = true) (hb : backOk (nth4 f i) (nth4 f (i + 1)) y = true) :
    (qv (nth4 f i).1 < qv (backZ (nth4 f i) (nth4 f (i + 1)) y) ∧ qv (backZ (nth4 f i) (nth4 f (i + 1)) y) < qv (nth4 f (i + 1)).1) ∧ unitR (backZ (nth4 f i) (nth4 f (i + 1)) y).1 (backZ (nth4 f i) (nth4 f (i + 1)) y).2 = true ∧ atOk f (backZ (nth4 f i) (nth4 f (i + 1)) y) = true ∧ atZ f (backZ (nth4 f i) (nth4 f (i + 1)) y) = y := by
  obtain ⟨c1, c2⟩ := hf.coord i (by omega)
  obtain ⟨c3, c4⟩ := hf.coord (i + 1) hi
  have g1 := unitR_good (coordR_unit c1)
  have g2 := unitR_good (coordR_unit c2)
  have g3 := unitR_good (coordR_unit c3)
  have g4 := unitR_good (coordR_unit c4)
  have hl := hf.rise i hi
  obtain ⟨_, s1, s2, _⟩ := slope_ok c1 c2 c3 c4 hl
  have hlt := (ltB_qv g1 g3).1 hl
  have hcr := (cross_iff g2 g4 hy).1 hc
  have hs0 := cross_slope c1 c2 c3 c4 hl hc
  obtain ⟨x, hx⟩ : ∃ x, backZ (nth4 f i) (nth4 f (i + 1)) y = x := ⟨_, rfl⟩
  have hxg : goodR x.1 x.2 = true := by rw [← hx]; exact backZ_good _ _ _
  rw [hx]
  unfold backOk at hb
  simp only [Bool.and_eq_true] at hb
  obtain ⟨o1, o2, o3⟩ := hb
  unfold backZ at hx
  rw [orZ_ok o1] at o2 o3 hx
  obtain ⟨k1, v1⟩ := subR_qv hy g2 o1
  rw [orZ_ok o2] at o3 hx
  obtain ⟨k2, v2, _⟩ := divR_qv k1 s1 o2
  rw [orZ_ok o3] at hx
  obtain ⟨k3, v3⟩ := addR_qv g1 k2 o3
  rw [hx, v2, v1] at v3
  have hsne : qv (slopeR (nth4 f i) (nth4 f (i + 1))) ≠ 0 := by
    have hd := good_den s1
    intro e
    have h1 : qv (slopeR (nth4 f i) (nth4 f (i + 1))) * ((slopeR (nth4 f i) (nth4 f (i + 1))).2 : Rat) = ((slopeR (nth4 f i) (nth4 f (i + 1))).1 : Rat) := Rat.div_mul_cancel (ratC_ne (by omega))
    rw [e, Rat.zero_mul] at h1
    exact ratC_ne hs0 h1.symm
  have hM : qv (divR (subR y (nth4 f i).2).1 (slopeR (nth4 f i) (nth4 f (i + 1)))).1 * qv (slopeR (nth4 f i) (nth4 f (i + 1))) = qv y - qv (nth4 f i).2 := by
    rw [v2, v1, Rat.div_mul_cancel hsne]
  have hMx : qv (divR (subR y (nth4 f i).2).1 (slopeR (nth4 f i) (nth4 f (i + 1)))).1 = qv x - qv (nth4 f i).1 := by rw [v3, v2, v1]; grind
  have hmid : qv (nth4 f i).1 < qv x ∧ qv x < qv (nth4 f (i + 1)).1 := by
    rw [hMx, s2] at hM
    generalize qv (nth4 f i).1 = X at *
    generalize qv (nth4 f (i + 1)).1 = X' at *
    generalize qv (nth4 f i).2 = P at *
    generalize qv (nth4 f (i + 1)).2 = Q at *
    generalize qv x = z at *
    generalize qv y = Y at *
    have hd : X' - X ≠ 0 := by grind
    have e : (z - X) * (Q - P) = (Y - P) * (X' - X) := by
      have e1 : (Q - P) / (X' - X) * (X' - X) = Q - P := Rat.div_mul_cancel hd
      have e2 : (z - X) * ((Q - P) / (X' - X)) * (X' - X) = (Y - P) * (X' - X) := by rw [hM]
      grind
    have hpos : 0 < X' - X := by grind
    rcases hcr with ⟨a1, a2⟩ | ⟨a1, a2⟩
    · have hq : 0 < Q - P := by grind
      constructor
      · apply Rat.not_le.1
        intro h
        have b1 : 0 ≤ (X - z) * (Q - P) := Rat.mul_nonneg (by grind) (by grind)
        have b2 : 0 < (Y - P) * (X' - X) := Rat.mul_pos (by grind) hpos
        grind
      · apply Rat.not_le.1
        intro h
        have b1 : 0 ≤ (z - X') * (Q - P) := Rat.mul_nonneg (by grind) (by grind)
        have b2 : 0 < (Q - Y) * (X' - X) := Rat.mul_pos (by grind) hpos
        grind
    · have hq : 0 < P - Q := by grind
      constructor
      · apply Rat.not_le.1
        intro h
        have b1 : 0 ≤ (X - z) * (P - Q) := Rat.mul_nonneg (by grind) (by grind)
        have b2 : 0 < (P - Y) * (X' - X) := Rat.mul_pos (by grind) hpos
        grind
      · apply Rat.not_le.1
        intro h
        have b1 : 0 ≤ (z - X') * (P - Q) := Rat.mul_nonneg (by grind) (by grind)
        have b2 : 0 < (Y - Q) * (X' - X) := Rat.mul_pos (by grind) hpos
        grind
  refine ⟨hmid, mid_unit hf hxg hi (by grind) (by grind), ?_⟩
  have hp := piece_mid hf hxg hi hmid.1 hmid.2
  unfold atOk atZ
  rw [hp]
  have e1 := subR_is hxg g1 k2 hMx
  have e2 := mulR_is s1 k2 k1 (r := (subR y (nth4 f i).2).1) (by rw [v1, ← hM]; grind)
  have e3 := addR_is g2 k1 hy (by rw [v1]; grind)
  unfold lineOk lineZ
  rw [e1]
  have z1 : orZ ((divR (subR y (nth4 f i).2).1 (slopeR (nth4 f i) (nth4 f (i + 1)))).1, true) = (divR (subR y (nth4 f i).2).1 (slopeR (nth4 f i) (nth4 f (i + 1)))).1 := rfl
  rw [z1, e2]
  have z2 : orZ ((subR y (nth4 f i).2).1, true) = (subR y (nth4 f i).2).1 := rfl
  rw [z2, e3]
  exact ⟨rfl, rfl⟩
/-- At all that the list names, the map has that value. -/
theorem bef_at {f : List Quad} (hf : MapP f) {y : Int × Int} (hy : goodR y.1 y.2 = true) (hok : befOk f y f.length = true) {x : Int × Int} (hx : x ∈ befR f y) : unitR x.1 x.2 = true ∧ atOk f x = true ∧ atZ f x = y := by
  obtain ⟨i, hi, h | h⟩ := befL_mem.1 (((befR_rise hf y).2 x).1 hx)
  · unfold bpL at h
    split at h
    · rename_i e
      rw [List.mem_singleton.1 h]
      obtain ⟨a, b⟩ := at_point hf hi
      exact ⟨coordR_unit (hf.coord i hi).1, a, by rw [b, e]⟩
    · cases h
  · unfold crL at h
    split at h
    · rename_i e
      have hb : backOk (nth4 f (i - 1)) (nth4 f i) y = true := by
        unfold befOk at hok
        rw [List.all_eq_true] at hok
        have := hok i (List.mem_range.2 hi)
        rw [e] at this
        simpa using this
      unfold crAt at e
      rw [Bool.and_eq_true, decide_eq_true_iff] at e
      obtain ⟨e0, e1⟩ := e
      obtain ⟨j, rfl⟩ : ∃ j, i = j + 1 := ⟨i - 1, by omega⟩
      rw [show j + 1 - 1 = j from rfl] at e1 hb h
      rw [List.mem_singleton.1 h]
      exact (back_at hf hy hi e1 hb).2
    · cases h

def isEndB (k : Quad) (y : Int × Int) : Bool := decide (y = k.1) || decide (y = k.2)
def shrEnds (f : List Quad) (i k : Quad) : List (Int × Int) := (if isEndB k (atZ f i.1) = true then [i.1] else []) ++ (if isEndB k (atZ f i.2) = true then [i.2] else [])
/-- What the program gathers. -/
def shrRaw (f : List Quad) (i k : Quad) : List (Int × Int) := (befR f k.1 ++ befR f k.2).filter (inI i) ++ shrEnds f i k
def shrL (f : List Quad) (i k : Quad) : List (Int × Int) := mergeL [] (shrRaw f i k)
def shrOk (f : List Quad) (i k : Quad) : Bool := befOk f k.1 f.length && befOk f k.2 f.length && (atOk f i.1 && atOk f i.2)
theorem shrOk_iff {f : List Quad} {i k : Quad} : shrOk f i k = true ↔ befOk f k.1 f.length = true ∧ befOk f k.2 f.length = true ∧ atOk f i.1 = true ∧ atOk f i.2 = true := by
  unfold shrOk
  simp only [Bool.and_eq_true, and_assoc]
theorem befR_good {f : List Quad} (hf : MapP f) (y : Int × Int) : ∀ x, x ∈ befR f y → goodR x.1 x.2 = true := fun x hx => befL_good hf (Nat.le_refl _) x (((befR_rise hf y).2 x).1 hx)
theorem shrEnds_mem {f : List Quad} {i k : Quad} {x : Int × Int} : x ∈ shrEnds f i k ↔ (x = i.1 ∧ isEndB k (atZ f i.1) = true) ∨ (x = i.2 ∧ isEndB k (atZ f i.2) = true) := by
  unfold shrEnds
  rw [List.mem_append]
  constructor
  · rintro (h | h) <;> split at h
    · rename_i e; exact .inl ⟨List.mem_singleton.1 h, e⟩
    · cases h
    · rename_i e; exact .inr ⟨List.mem_singleton.1 h, e⟩
    · cases h
  · rintro (⟨h, e⟩ | ⟨h, e⟩)
    · exact .inl (by rw [if_pos e, h]; exact List.mem_singleton.2 rfl)
    · exact .inr (by rw [if_pos e, h]; exact List.mem_singleton.2 rfl)
theorem shrRaw_mem {f : List Quad} {i k : Quad} {x : Int × Int} : x ∈ shrRaw f i k ↔ ((x ∈ befR f k.1 ∨ x ∈ befR f k.2) ∧ inI i x = true) ∨ x ∈ shrEnds f i k := by
  unfold shrRaw
  rw [List.mem_append, List.mem_filter, List.mem_append]
theorem shrRaw_good {f : List Quad} (hf : MapP f) {i k : Quad} (hi : ivB i = true) : ∀ x, x ∈ shrRaw f i k → goodR x.1 x.2 = true := by
  obtain ⟨i1, i2, _⟩ := ivB_true hi
  intro x hx
  rcases shrRaw_mem.1 hx with ⟨h | h, _⟩ | h
  · exact befR_good hf _ x h
  · exact befR_good hf _ x h
  · rcases shrEnds_mem.1 h with ⟨rfl, _⟩ | ⟨rfl, _⟩
    · exact unitR_good i1
    · exact unitR_good i2
theorem shrL_rise {f : List Quad} (hf : MapP f) {i k : Quad} (hi : ivB i = true) : RiseL (shrL f i k) ∧ ∀ x, x ∈ shrL f i k ↔ x ∈ shrRaw f i k := by
  obtain ⟨h1, h2⟩ := merge_rise (shrRaw f i k) (xs := []) List.Pairwise.nil (fun y h => by cases h) (shrRaw_good hf hi)
  exact ⟨h1, fun x => by rw [show shrL f i k = mergeL [] (shrRaw f i k) from rfl, h2]; simp⟩
theorem shrL_sorted {f : List Quad} (hf : MapP f) {i k : Quad} (hi : ivB i = true) {ys : List (Int × Int)} (hp : ys.Pairwise fun a b => qv a ≤ qv b) (hm : ∀ x, x ∈ ys ↔ x ∈ shrRaw f i k) : cmpL ys = shrL f i k :=
  sort_merge hp (fun x => by rw [hm]; simp) List.Pairwise.nil (fun y h => by cases h) (shrRaw_good hf hi)
theorem shrL_put {f : List Quad} (hf : MapP f) {i k : Quad} (hi : ivB i = true) {l : List (Int × Int)} (hr : RiseL l) (hm : ∀ x, x ∈ l ↔ x ∈ shrRaw f i k) : l = shrL f i k :=
  rise_ext hr (shrL_rise hf hi).1 fun x => by rw [hm, (shrL_rise hf hi).2]
theorem inI_qv {i : Quad} {x : Int × Int} (h1 : goodR i.1.1 i.1.2 = true) (h2 : goodR i.2.1 i.2.2 = true) (hx : goodR x.1 x.2 = true) : inI i x = true ↔ qv i.1 ≤ qv x ∧ qv x ≤ qv i.2 := by
  unfold inI
  rw [Bool.and_eq_true, Bool.not_eq_true', Bool.not_eq_true', ltB_qvf hx h1, ltB_qvf h2 hx]
theorem isEndB_iff {k : Quad} {y : Int × Int} : isEndB k y = true ↔ y = k.1 ∨ y = k.2 := by
  unfold isEndB
  rw [Bool.or_eq_true, decide_eq_true_iff, decide_eq_true_iff]
/-- All of them lie in the interval, and the map has an end of the other one there. -/
theorem shr_mem {f : List Quad} (hf : MapP f) {i k : Quad} (hi : ivB i = true) (hk : ivB k = true) (hok : shrOk f i k = true) {x : Int × Int} (hx : x ∈ shrL f i k) :
    unitR x.1 x.2 = true ∧ (qv i.1 ≤ qv x ∧ qv x ≤ qv i.2) ∧ atOk f x = true ∧ (atZ f x = k.1 ∨ atZ f x = k.2) := by
  obtain ⟨o1, o2, o3, o4⟩ := shrOk_iff.1 hok
  obtain ⟨i1, i2, i3⟩ := ivB_true hi
  obtain ⟨k1, k2, k3⟩ := ivB_true hk
  have hlt := (ltB_qv (unitR_good i1) (unitR_good i2)).1 i3
  rcases shrRaw_mem.1 (((shrL_rise hf hi).2 x).1 hx) with ⟨h | h, hin⟩ | h
  · obtain ⟨a, b, c⟩ := bef_at hf (unitR_good k1) o1 h
    exact ⟨a, (inI_qv (unitR_good i1) (unitR_good i2) (unitR_good a)).1 hin, b, .inl c⟩
  · obtain ⟨a, b, c⟩ := bef_at hf (unitR_good k2) o2 h
    exact ⟨a, (inI_qv (unitR_good i1) (unitR_good i2) (unitR_good a)).1 hin, b, .inr c⟩
  · rcases shrEnds_mem.1 h with ⟨rfl, e⟩ | ⟨rfl, e⟩
    · exact ⟨i1, ⟨by grind, by grind⟩, o3, isEndB_iff.1 e⟩
    · exact ⟨i2, ⟨by grind, by grind⟩, o4, isEndB_iff.1 e⟩

/-- The first n from n on, among r of them, that has D. -/
def fstN (D : Nat → Bool) : Nat → Nat → Option Nat
  | 0, _ => none
  | r + 1, n => if D n = true then some n else fstN D r (n + 1)
theorem fstN_some {D : Nat → Bool} : ∀ {r n m : Nat}, fstN D r n = some m → n ≤ m ∧ m < n + r ∧ D m = true := by
  intro r
  induction r with
  | zero => intro n m h; cases h
  | succ r ih =>
    intro n m h
    unfold fstN at h
    split at h
    · rename_i q; cases h; exact ⟨Nat.le_refl _, by omega, q⟩
    · obtain ⟨a, b, c⟩ := ih h
      exact ⟨by omega, by omega, c⟩
def shrD (f : List Quad) (l : List (Int × Int)) (n : Nat) : Bool := !(decide (atZ f (nthR l (n - 1)) = atZ f (nthR l n)))
def shrF (l : List (Int × Int)) : Option Nat → Quad × Bool
  | some n => ((nthR l (n - 1), nthR l n), true)
  | none => (((0, 0), (0, 0)), false)
/-- The first interval within i whose values are exactly those of k. -/
def shrR (f : List Quad) (i k : Quad) : Quad × Bool := shrF (shrL f i k) (fstN (shrD f (shrL f i k)) ((shrL f i k).length - 1) 1)
theorem rise_nth {l : List (Int × Int)} (h : RiseL l) {a b : Nat} (hab : a < b) (hb : b < l.length) : qv (nthR l a) < qv (nthR l b) := by
  rw [nthR_eq hb, nthR_eq (Nat.lt_trans hab hb)]
  exact List.pairwise_iff_getElem.1 h a b (Nat.lt_trans hab hb) hb hab
theorem shr_at {f : List Quad} (hf : MapP f) {i k : Quad} (hi : ivB i = true) (hk : ivB k = true) (hok : shrOk f i k = true) (hs : (shrR f i k).2 = true) :
    ivB (shrR f i k).1 = true ∧ (qv i.1 ≤ qv (shrR f i k).1.1 ∧ qv (shrR f i k).1.2 ≤ qv i.2) ∧ (atOk f (shrR f i k).1.1 = true ∧ atOk f (shrR f i k).1.2 = true) ∧
    ((atZ f (shrR f i k).1.1 = k.1 ∧ atZ f (shrR f i k).1.2 = k.2) ∨ (atZ f (shrR f i k).1.1 = k.2 ∧ atZ f (shrR f i k).1.2 = k.1)) ∧
    ∀ x, x ∈ shrL f i k → qv x ≤ qv (shrR f i k).1.1 ∨ qv (shrR f i k).1.2 ≤ qv x := by
  unfold shrR at *
  obtain ⟨hr, _⟩ := shrL_rise hf (k := k) hi
  have hat := fun x hx => shr_mem hf hi hk hok (x := x) hx
  generalize hL : shrL f i k = L at *
  cases hn : fstN (shrD f L) (L.length - 1) 1 with
  | none => rw [hn] at hs; cases hs
  | some n =>
    obtain ⟨n1, n2, n3⟩ := fstN_some hn
    have hin := fun j (h : j < L.length) => hat (nthR L j) (by rw [nthR_eq h]; exact List.getElem_mem h)
    obtain ⟨a1, a2, a3, a4⟩ := hin (n - 1) (by omega)
    obtain ⟨b1, b2, b3, b4⟩ := hin n (by omega)
    have hlt := rise_nth hr (a := n - 1) (b := n) (by omega) (by omega)
    show ivB (nthR L (n - 1), nthR L n) = true ∧ _
    refine ⟨?_, ⟨a2.1, b2.2⟩, ⟨a3, b3⟩, ?_, ?_⟩
    · unfold ivB
      rw [Bool.and_eq_true, Bool.and_eq_true]
      exact ⟨⟨a1, b1⟩, (ltB_qv (unitR_good a1) (unitR_good b1)).2 hlt⟩
    · unfold shrD at n3
      have hne : atZ f (nthR L (n - 1)) ≠ atZ f (nthR L n) := by simpa using n3
      show (atZ f (nthR L (n - 1)) = k.1 ∧ atZ f (nthR L n) = k.2) ∨ (atZ f (nthR L (n - 1)) = k.2 ∧ atZ f (nthR L n) = k.1)
      grind
    · intro x hx
      obtain ⟨j, hj, rfl⟩ := List.getElem_of_mem hx
      show qv L[j] ≤ qv (nthR L (n - 1)) ∨ qv (nthR L n) ≤ qv L[j]
      rw [← nthR_eq hj]
      rcases Nat.lt_trichotomy j n with h | h | h
      · refine .inl ?_
        by_cases e : j = n - 1
        · rw [e]; grind
        · exact Rat.le_of_lt (rise_nth hr (by omega) (by omega))
      · rw [h]; exact .inr (by grind)
      · exact .inr (Rat.le_of_lt (rise_nth hr h hj))
/-- What covers an interval covers those within. -/
theorem cov_sub {f : List Quad} (hf : MapP f) {i k m : Quad} (hk : ivB k = true) (hm : ivB m = true) (h1 : qv k.1 ≤ qv m.1) (h2 : qv m.2 ≤ qv k.2) (h : covB f i k = true) : covB f i m = true := by
  obtain ⟨k1, k2, _⟩ := ivB_true hk
  obtain ⟨m1, m2, _⟩ := ivB_true hm
  obtain ⟨s1, s2⟩ := imS_good hf i.1 i.2 f.length (Nat.le_refl _)
  unfold covB at h ⊢
  rw [Bool.and_eq_true, Bool.not_eq_true', Bool.not_eq_true', ltB_qvf (unitR_good k1) s1, ltB_qvf s2 (unitR_good k2)] at h
  rw [Bool.and_eq_true, Bool.not_eq_true', Bool.not_eq_true', ltB_qvf (unitR_good m1) s1, ltB_qvf s2 (unitR_good m2)]
  grind
/-- The parts of the list, as loops gather them. -/
def shrP (i : Quad) (L : List (Int × Int)) (k : Nat) : List (Int × Int) := (L.take k).filter (inI i)
theorem shrP_step {i : Quad} {L : List (Int × Int)} {k : Nat} (h : k < L.length) : shrP i L (k + 1) = if inI i (nthR L k) = true then shrP i L k ++ [nthR L k] else shrP i L k := by
  unfold shrP
  rw [List.take_add_one, List.getElem?_eq_getElem h, List.filter_append, ← nthR_eq h]
  cases hb : inI i (nthR L k) <;> simp [hb]
theorem shrP_len (i : Quad) (L : List (Int × Int)) (k : Nat) : (shrP i L k).length ≤ L.length := by
  unfold shrP
  refine Nat.le_trans (List.length_filter_le _ _) ?_
  rw [List.length_take]
  omega
def endN (i : Quad) (m : Nat) : Int × Int := if m = 0 then i.1 else i.2
def shrE (f : List Quad) (i k : Quad) : Nat → List (Int × Int)
  | 0 => []
  | m + 1 => if isEndB k (atZ f (endN i m)) = true then shrE f i k m ++ [endN i m] else shrE f i k m
theorem shrE_two (f : List Quad) (i k : Quad) : shrE f i k 2 = shrEnds f i k := by
  unfold shrEnds shrE shrE
  show (if isEndB k (atZ f i.2) = true then (if isEndB k (atZ f i.1) = true then shrE f i k 0 ++ [i.1] else shrE f i k 0) ++ [i.2] else (if isEndB k (atZ f i.1) = true then shrE f i k 0 ++ [i.1] else shrE f i k 0)) = _
  have h0 : shrE f i k 0 = [] := rfl
  rw [h0]
  cases isEndB k (atZ f i.1) <;> cases isEndB k (atZ f i.2) <;> simp
theorem shrE_step (f : List Quad) (i k : Quad) (m : Nat) : shrE f i k (m + 1) = if isEndB k (atZ f (endN i m)) = true then shrE f i k m ++ [endN i m] else shrE f i k m := rfl
theorem shrE_len (f : List Quad) (i k : Quad) (m : Nat) : (shrE f i k m).length ≤ m := by
  induction m with
  | zero => exact Nat.le_refl _
  | succ m ih =>
    rw [shrE_step]
    split
    · rw [List.length_append]; simp; omega
    · omega
theorem shrRaw_eq (f : List Quad) (i k : Quad) {n : Nat} (hn : (befR f k.1 ++ befR f k.2).length ≤ n) : shrP i (befR f k.1 ++ befR f k.2) n ++ shrE f i k 2 = shrRaw f i k := by
  unfold shrP shrRaw
  rw [List.take_of_length_le hn, shrE_two]
/-- What has gone wrong so far. -/
def shrB (f : List Quad) (i k : Quad) : Nat → Bool
  | 0 => !(befOk f k.1 f.length) || !(befOk f k.2 f.length)
  | m + 1 => shrB f i k m || !(atOk f (endN i m))
theorem shrB_two (f : List Quad) (i k : Quad) : shrB f i k 2 = !(shrOk f i k) := by
  unfold shrB shrB shrB shrOk endN
  simp
  cases befOk f k.1 f.length <;> cases befOk f k.2 f.length <;> cases atOk f i.1 <;> cases atOk f i.2 <;> rfl
theorem fstN_yes {D : Nat → Bool} {r n : Nat} (h : D n = true) : fstN D (r + 1) n = some n := by unfold fstN; rw [if_pos h]
theorem fstN_no {D : Nat → Bool} {r n : Nat} (h : D n = false) : fstN D (r + 1) n = fstN D r (n + 1) := by
  show (if D n = true then _ else _) = _
  rw [if_neg (by rw [h]; decide)]
/-- The shrunk interval, where all can be told. -/
def shrV (f : List Quad) (i k : Quad) : Quad × Bool := if shrOk f i k = true then shrR f i k else (((0, 0), (0, 0)), false)
theorem shrV_bad {f : List Quad} {i k : Quad} (h : shrOk f i k = false) : shrV f i k = (((0, 0), (0, 0)), false) := by unfold shrV; rw [if_neg (by rw [h]; decide)]
theorem shrV_ok {f : List Quad} {i k : Quad} (h : shrOk f i k = true) : shrV f i k = shrR f i k := by unfold shrV; rw [if_pos h]
theorem shrV_true {f : List Quad} {i k : Quad} (h : (shrV f i k).2 = true) : shrOk f i k = true ∧ (shrR f i k).2 = true ∧ shrV f i k = shrR f i k := by
  cases ho : shrOk f i k
  · rw [shrV_bad ho] at h; cases h
  · rw [shrV_ok ho] at h ⊢
    exact ⟨rfl, h, rfl⟩
end Go.Proofs.YtjkgilenhoomoaaGreat

namespace Go.Proofs.YtjkgilenhoomoaaGreat
open Go.RowKit

theorem mulR_zero {s : Int × Int} (hs : goodR s.1 s.2 = true) : mulR s (0, 1) = ((0, 1), true) := mulR_is hs good_zero good_zero (by rw [qv_zero]; grind)
theorem addR_zero {p : Int × Int} (hp : goodR p.1 p.2 = true) : addR p (0, 1) = (p, true) := addR_is hp good_zero hp (by rw [qv_zero]; grind)
theorem orZ_bad {r : (Int × Int) × Bool} (h : r.2 = false) : orZ r = (0, 1) := by unfold orZ; rw [if_neg (by rw [h]; decide)]
theorem lineZ_bad {p : Quad} {s x : Int × Int} (hp : goodR p.2.1 p.2.2 = true) (hs : goodR s.1 s.2 = true) (h : lineOk p s x = false) : lineZ p s x = p.2 ∨ lineZ p s x = (0, 1) := by
  unfold lineOk at h
  unfold lineZ
  cases h1 : (subR x p.1).2
  · rw [orZ_bad h1, mulR_zero hs]
    show orZ (addR p.2 (0, 1)) = p.2 ∨ _
    rw [addR_zero hp]
    exact .inl rfl
  · rw [h1] at h
    cases h2 : (mulR s (orZ (subR x p.1))).2
    · rw [orZ_bad h2, addR_zero hp]
      exact .inl rfl
    · rw [h2] at h
      exact .inr (orZ_bad (by simpa using h))
theorem zero_unit : unitR (0, 1).1 (0, 1).2 = true := by decide
/-- What stands for a value is a fraction of 0..1, told or not. -/
theorem atZ_unit {f : List Quad} (hf : MapP f) {x : Int × Int} (hx : unitR x.1 x.2 = true) : unitR (atZ f x).1 (atZ f x).2 = true := by
  cases h : atOk f x
  · obtain ⟨h1, _, _⟩ := piece_in hf hx
    obtain ⟨c1, c2⟩ := hf.coord (pieceN f x) (by omega)
    obtain ⟨c3, c4⟩ := hf.coord (pieceN f x + 1) h1
    have gs := (slope_ok c1 c2 c3 c4 (hf.rise _ h1)).2.1
    rcases lineZ_bad (unitR_good (coordR_unit c2)) gs h with e | e
    · unfold atZ; rw [e]; exact coordR_unit c2
    · unfold atZ; rw [e]; exact zero_unit
  · exact at_unit hf hx h
theorem backZ_unit {f : List Quad} (hf : MapP f) {y : Int × Int} (hy : goodR y.1 y.2 = true) {i : Nat} (hi : i + 1 < f.length) (hc : crossB (nth4 f i) (nth4 f (i + 1)) y = true) : unitR (backZ (nth4 f i) (nth4 f (i + 1)) y).1 (backZ (nth4 f i) (nth4 f (i + 1)) y).2 = true := by
  cases h : backOk (nth4 f i) (nth4 f (i + 1)) y
  · obtain ⟨c1, c2⟩ := hf.coord i (by omega)
    obtain ⟨c3, c4⟩ := hf.coord (i + 1) hi
    have hl := hf.rise i hi
    have gs := (slope_ok c1 c2 c3 c4 hl).2.1
    have hs0 := cross_slope c1 c2 c3 c4 hl hc
    have hdz : divR (0, 1) (slopeR (nth4 f i) (nth4 f (i + 1))) = ((0, 1), true) := by
      unfold divR
      rw [if_neg hs0]
      refine mkR_is (Int.mul_ne_zero (by decide) hs0) good_zero ?_
      rw [qv_zero, Int.zero_mul, Rat.div_def]
      simp
    unfold backOk at h
    unfold backZ
    cases h1 : (subR y (nth4 f i).2).2
    · rw [orZ_bad h1, hdz]
      show unitR (orZ (addR (nth4 f i).1 (0, 1))).1 (orZ (addR (nth4 f i).1 (0, 1))).2 = true
      rw [addR_zero (unitR_good (coordR_unit c1))]
      exact coordR_unit c1
    · rw [h1] at h
      cases h2 : (divR (orZ (subR y (nth4 f i).2)) (slopeR (nth4 f i) (nth4 f (i + 1)))).2
      · rw [orZ_bad h2, addR_zero (unitR_good (coordR_unit c1))]
        exact coordR_unit c1
      · rw [h2] at h
        rw [orZ_bad (by simpa using h)]
        exact zero_unit
  · exact (back_at hf hy hi hc h).2.1
/-- All that the list of a value names is of 0..1, told or not. -/
theorem befR_unit {f : List Quad} (hf : MapP f) {y : Int × Int} (hy : goodR y.1 y.2 = true) : ∀ x, x ∈ befR f y → unitR x.1 x.2 = true := by
  intro x hx
  obtain ⟨i, hi, h | h⟩ := befL_mem.1 (((befR_rise hf y).2 x).1 hx)
  · unfold bpL at h
    split at h
    · rw [List.mem_singleton.1 h]
      exact coordR_unit (hf.coord i hi).1
    · cases h
  · unfold crL at h
    split at h
    · rename_i e
      unfold crAt at e
      rw [Bool.and_eq_true, decide_eq_true_iff] at e
      obtain ⟨e0, e1⟩ := e
      obtain ⟨j, rfl⟩ : ∃ j, i = j + 1 := ⟨i - 1, by omega⟩
      rw [show j + 1 - 1 = j from rfl] at e1 h
      rw [List.mem_singleton.1 h]
      exact backZ_unit hf hy hi e1
    · cases h
theorem shrRaw_unit {f : List Quad} (hf : MapP f) {i k : Quad} (hi : ivB i = true) (hk : ivB k = true) : ∀ x, x ∈ shrRaw f i k → unitR x.1 x.2 = true := by
  obtain ⟨i1, i2, _⟩ := ivB_true hi
  obtain ⟨k1, k2, _⟩ := ivB_true hk
  intro x hx
  rcases shrRaw_mem.1 hx with ⟨h | h, _⟩ | h
  · exact befR_unit hf (unitR_good k1) x h
  · exact befR_unit hf (unitR_good k2) x h
  · rcases shrEnds_mem.1 h with ⟨rfl, _⟩ | ⟨rfl, _⟩
    · exact i1
    · exact i2
theorem mergeL_len0 (ys xs : List (Int × Int)) : (mergeL xs ys).length ≤ xs.length + ys.length := (mergeL_len ys xs).2
theorem befR_len (f : List Quad) (y : Int × Int) : (befR f y).length ≤ 2 * f.length := by
  have h1 := mergeL_len0 (befL f y f.length) []
  have h2 := befL_len f y f.length
  show (mergeL [] (befL f y f.length)).length ≤ _
  simp only [List.length_nil, Nat.zero_add] at h1
  omega
end Go.Proofs.YtjkgilenhoomoaaGreat

namespace Go.Proofs.YtjkgilenhoomoaaGreat
open Go.RowKit

/-- A segment that goes from below y to above y at b crosses y before b. -/
theorem cross_before {X X' Y Y' b v y : Rat} (h : X < X') (h0 : X < b) (h1 : b ≤ X') (hv : v * (X' - X) = Y * (X' - b) + Y' * (b - X)) (h2 : Y < y) (h3 : y < v) :
    y < Y' ∧ ∀ x, y * (X' - X) = Y * (X' - x) + Y' * (x - X) → x < b := by
  have p0 : 0 < (v - Y) * (X' - X) := Rat.mul_pos (by grind) (by grind)
  have hup : 0 < Y' - Y := by
    apply Rat.not_le.1
    intro q
    have : 0 ≤ (Y - Y') * (b - X) := Rat.mul_nonneg (by grind) (by grind)
    grind
  have hge : v ≤ Y' := by
    apply Rat.not_lt.1
    intro q
    have p1 : 0 < (v - Y') * (X' - X) := Rat.mul_pos (by grind) (by grind)
    have p2 : 0 ≤ (Y' - Y) * (X' - b) := Rat.mul_nonneg (by grind) (by grind)
    grind
  refine ⟨by grind, fun x hx => ?_⟩
  apply Rat.not_le.1
  intro q
  have p1 : 0 < (v - y) * (X' - X) := Rat.mul_pos (by grind) (by grind)
  have p2 : 0 ≤ (Y' - Y) * (x - b) := Rat.mul_nonneg (by grind) (by grind)
  grind
/-- The fractions that the list of y names. -/
theorem bef_pt {f : List Quad} (hf : MapP f) {y : Int × Int} {j : Nat} (hj : j < f.length) (h : (nth4 f j).2 = y) : (nth4 f j).1 ∈ befR f y :=
  ((befR_rise hf y).2 _).2 (befL_mem.2 ⟨j, hj, .inl (by unfold bpL; rw [if_pos h]; exact List.mem_singleton.2 rfl)⟩)
theorem bef_cross {f : List Quad} (hf : MapP f) {y : Int × Int} (hy : goodR y.1 y.2 = true) (hok : befOk f y f.length = true) {j : Nat} (hj : j + 1 < f.length) (hc : crossB (nth4 f j) (nth4 f (j + 1)) y = true) :
    ∃ x, x ∈ befR f y ∧ (qv (nth4 f j).1 < qv x ∧ qv x < qv (nth4 f (j + 1)).1) ∧ qv y * (qv (nth4 f (j + 1)).1 - qv (nth4 f j).1) = qv (nth4 f j).2 * (qv (nth4 f (j + 1)).1 - qv x) + qv (nth4 f (j + 1)).2 * (qv x - qv (nth4 f j).1) := by
  have hca : crAt f y (j + 1) = true := by unfold crAt; rw [show j + 1 - 1 = j from rfl, hc]; simp
  have hb : backOk (nth4 f j) (nth4 f (j + 1)) y = true := by
    unfold befOk at hok
    rw [List.all_eq_true] at hok
    have := hok (j + 1) (List.mem_range.2 hj)
    rw [hca] at this
    simpa using this
  obtain ⟨h1, h2, h3, h4⟩ := back_at hf hy hj hc hb
  refine ⟨_, ((befR_rise hf y).2 _).2 (befL_mem.2 ⟨j + 1, hj, .inr (by unfold crL; rw [if_pos hca]; exact List.mem_singleton.2 rfl)⟩), h1, ?_⟩
  have := at_piece hf h2 h3 hj (by grind) (by grind)
  rw [h4] at this
  exact this
/-- Where the map never has the value y between a and b, its points there lie on the side of both ends. -/
theorem one_side {f : List Quad} (hf : MapP f) {a b y : Int × Int} (hy : goodR y.1 y.2 = true) (hok : befOk f y f.length = true) (ha : unitR a.1 a.2 = true) (hb : unitR b.1 b.2 = true) (oa : atOk f a = true) (ob : atOk f b = true)
    (hn : ∀ x, x ∈ befR f y → qv a < qv x → qv x < qv b → False) : ∀ j, j < f.length → qv a < qv (nth4 f j).1 → qv (nth4 f j).1 < qv b →
    qv (nth4 f j).2 ≠ qv y ∧ (qv (nth4 f j).2 < qv y → qv (atZ f b) ≤ qv y ∧ qv (atZ f a) ≤ qv y) ∧ (qv y < qv (nth4 f j).2 → qv y ≤ qv (atZ f b) ∧ qv y ≤ qv (atZ f a)) := by
  have gX := fun j (h : j < f.length) => unitR_good (coordR_unit (hf.coord j h).1)
  have gY := fun j (h : j < f.length) => unitR_good (coordR_unit (hf.coord j h).2)
  have hne : ∀ j, j < f.length → qv a < qv (nth4 f j).1 → qv (nth4 f j).1 < qv b → qv (nth4 f j).2 ≠ qv y := fun j hj h1 h2 e =>
    hn _ (bef_pt hf hj (qv_inj (gY j hj) hy e)) h1 h2
  have hcr : ∀ j, j + 1 < f.length → ((qv (nth4 f j).2 < qv y ∧ qv y < qv (nth4 f (j + 1)).2) ∨ (qv (nth4 f (j + 1)).2 < qv y ∧ qv y < qv (nth4 f j).2)) →
      ∃ x, (qv (nth4 f j).1 < x ∧ x < qv (nth4 f (j + 1)).1) ∧ ¬ (qv a < x ∧ x < qv b) ∧ qv y * (qv (nth4 f (j + 1)).1 - qv (nth4 f j).1) = qv (nth4 f j).2 * (qv (nth4 f (j + 1)).1 - x) + qv (nth4 f (j + 1)).2 * (x - qv (nth4 f j).1) := fun j hj h => by
    obtain ⟨x, h1, h2, h3⟩ := bef_cross hf hy hok hj ((cross_iff (gY j (by omega)) (gY (j + 1) hj) hy).2 h)
    exact ⟨qv x, h2, fun q => hn x h1 q.1 q.2, h3⟩
  obtain ⟨_, a0, a1⟩ := unitR_qv.1 ha
  obtain ⟨_, b0, b1⟩ := unitR_qv.1 hb
  have hR : ∀ m j, f.length ≤ j + m → j < f.length → qv a < qv (nth4 f j).1 → qv (nth4 f j).1 < qv b → (qv (nth4 f j).2 < qv y → qv (atZ f b) ≤ qv y) ∧ (qv y < qv (nth4 f j).2 → qv y ≤ qv (atZ f b)) := by
    intro m
    induction m with
    | zero => intro j h1 h2; omega
    | succ m ih =>
      intro j h1 h2 h3 h4
      have hj1 : j + 1 < f.length := by
        apply Decidable.byContradiction
        intro q
        have : j = f.length - 1 := by omega
        rw [this, hf.last, qv_one] at h4
        grind
      have hx := x_rise hf (j + 1) j (by omega) hj1
      have hc := hcr j hj1
      rcases Rat.le_total (a := qv b) (b := qv (nth4 f (j + 1)).1) with q | q
      · have hp := at_piece hf hb ob hj1 (by grind) q
        constructor
        · intro h5
          apply Rat.not_lt.1
          intro h6
          obtain ⟨c1, c2⟩ := cross_before hx h4 q hp h5 h6
          obtain ⟨x, x1, x2, x3⟩ := hc (.inl ⟨h5, c1⟩)
          exact x2 ⟨by grind, c2 x x3⟩
        · intro h5
          apply Rat.not_lt.1
          intro h6
          obtain ⟨c1, c2⟩ := cross_before (Y := -(qv (nth4 f j).2)) (Y' := -(qv (nth4 f (j + 1)).2)) (v := -(qv (atZ f b))) (y := -(qv y)) hx h4 q (by grind) (by grind) (by grind)
          obtain ⟨x, x1, x2, x3⟩ := hc (.inr ⟨by grind, h5⟩)
          exact x2 ⟨by grind, c2 x (by grind)⟩
      · rcases Rat.le_iff_lt_or_eq.1 q with q | q
        · obtain ⟨i1, i2⟩ := ih (j + 1) (by omega) hj1 (by grind) q
          have hn1 := hne (j + 1) hj1 (by grind) q
          constructor
          · intro h5
            refine i1 ?_
            apply Rat.not_le.1
            intro h6
            obtain ⟨x, x1, x2, x3⟩ := hc (.inl ⟨h5, by grind⟩)
            exact x2 ⟨by grind, by grind⟩
          · intro h5
            refine i2 ?_
            apply Rat.not_le.1
            intro h6
            obtain ⟨x, x1, x2, x3⟩ := hc (.inr ⟨by grind, h5⟩)
            exact x2 ⟨by grind, by grind⟩
        · have hp := at_piece hf hb ob hj1 (by grind) (by grind)
          have hq : qv b ≤ qv (nth4 f (j + 1)).1 := by grind
          constructor
          · intro h5
            apply Rat.not_lt.1
            intro h6
            obtain ⟨c1, c2⟩ := cross_before hx h4 hq hp h5 h6
            obtain ⟨x, x1, x2, x3⟩ := hc (.inl ⟨h5, c1⟩)
            exact x2 ⟨by grind, c2 x x3⟩
          · intro h5
            apply Rat.not_lt.1
            intro h6
            obtain ⟨c1, c2⟩ := cross_before (Y := -(qv (nth4 f j).2)) (Y' := -(qv (nth4 f (j + 1)).2)) (v := -(qv (atZ f b))) (y := -(qv y)) hx h4 hq (by grind) (by grind) (by grind)
            obtain ⟨x, x1, x2, x3⟩ := hc (.inr ⟨by grind, h5⟩)
            exact x2 ⟨by grind, c2 x (by grind)⟩
  have hL : ∀ j, j < f.length → qv a < qv (nth4 f j).1 → qv (nth4 f j).1 < qv b → (qv (nth4 f j).2 < qv y → qv (atZ f a) ≤ qv y) ∧ (qv y < qv (nth4 f j).2 → qv y ≤ qv (atZ f a)) := by
    intro j
    induction j with
    | zero =>
      intro h2 h3
      rw [hf.first, qv_zero] at h3
      grind
    | succ j ih =>
      intro h2 h3 h4
      have hx := x_rise hf (j + 1) j (by omega) h2
      have hc := hcr j h2
      by_cases q : qv a < qv (nth4 f j).1
      · obtain ⟨i1, i2⟩ := ih (by omega) q (by grind)
        have hn1 := hne j (by omega) q (by grind)
        constructor
        · intro h5
          refine i1 ?_
          apply Rat.not_le.1
          intro h6
          obtain ⟨x, x1, x2, x3⟩ := hc (.inr ⟨h5, by grind⟩)
          exact x2 ⟨by grind, by grind⟩
        · intro h5
          refine i2 ?_
          apply Rat.not_le.1
          intro h6
          obtain ⟨x, x1, x2, x3⟩ := hc (.inl ⟨by grind, h5⟩)
          exact x2 ⟨by grind, by grind⟩
      · have q' : qv (nth4 f j).1 ≤ qv a := Rat.not_lt.1 q
        have hp := at_piece hf ha oa h2 q' (by grind)
        constructor
        · intro h5
          apply Rat.not_lt.1
          intro h6
          obtain ⟨c1, c2⟩ := cross_before (X := -(qv (nth4 f (j + 1)).1)) (X' := -(qv (nth4 f j).1)) (Y := qv (nth4 f (j + 1)).2) (Y' := qv (nth4 f j).2) (b := -(qv a)) (v := qv (atZ f a)) (y := qv y) (by grind) (by grind) (by grind) (by grind) h5 h6
          obtain ⟨x, x1, x2, x3⟩ := hc (.inr ⟨h5, c1⟩)
          have := c2 (-x) (by grind)
          exact x2 ⟨by grind, by grind⟩
        · intro h5
          apply Rat.not_lt.1
          intro h6
          obtain ⟨c1, c2⟩ := cross_before (X := -(qv (nth4 f (j + 1)).1)) (X' := -(qv (nth4 f j).1)) (Y := -(qv (nth4 f (j + 1)).2)) (Y' := -(qv (nth4 f j).2)) (b := -(qv a)) (v := -(qv (atZ f a))) (y := -(qv y)) (by grind) (by grind) (by grind) (by grind) (by grind) (by grind)
          obtain ⟨x, x1, x2, x3⟩ := hc (.inl ⟨by grind, h5⟩)
          have := c2 (-x) (by grind)
          exact x2 ⟨by grind, by grind⟩
  exact fun j h1 h2 h3 => ⟨hne j h1 h2 h3, fun q => ⟨(hR f.length j (by omega) h1 h2 h3).1 q, (hL j h1 h2 h3).1 q⟩, fun q => ⟨(hR f.length j (by omega) h1 h2 h3).2 q, (hL j h1 h2 h3).2 q⟩⟩
theorem midB_qv {a b : Int × Int} {p : Quad} (ha : goodR a.1 a.2 = true) (hb : goodR b.1 b.2 = true) (hp : goodR p.1.1 p.1.2 = true) : midB a b p = true ↔ qv a < qv p.1 ∧ qv p.1 < qv b := by
  unfold midB
  rw [Bool.and_eq_true, ltB_qv ha hp, ltB_qv hp hb]
/-- The shrunk interval is mapped onto k. -/
theorem shr_img {f : List Quad} (hf : MapP f) {i k : Quad} (hi : ivB i = true) (hk : ivB k = true) (hok : shrOk f i k = true) (hs : (shrR f i k).2 = true) :
    imS f (shrR f i k).1.1 (shrR f i k).1.2 f.length = k := by
  obtain ⟨o1, o2, o3, o4⟩ := shrOk_iff.1 hok
  obtain ⟨i1, i2, i3⟩ := ivB_true hi
  obtain ⟨k1, k2, k3⟩ := ivB_true hk
  obtain ⟨h1, h2, h3, h4, h5⟩ := shr_at hf hi hk hok hs
  generalize (shrR f i k).1 = Z at *
  obtain ⟨z1, z2, z3⟩ := ivB_true h1
  have hklt := (ltB_qv (unitR_good k1) (unitR_good k2)).1 k3
  have hmem : ∀ y, (y = k.1 ∨ y = k.2) → ∀ x, x ∈ befR f y → qv Z.1 < qv x → qv x < qv Z.2 → False := fun y hy x hx l1 l2 => by
    have hxg := befR_good hf y x hx
    have hor : x ∈ befR f k.1 ∨ x ∈ befR f k.2 := by
      rcases hy with rfl | rfl
      · exact .inl hx
      · exact .inr hx
    have := h5 x (((shrL_rise hf hi).2 x).2 (shrRaw_mem.2 (.inl ⟨hor, (inI_qv (unitR_good i1) (unitR_good i2) hxg).2 ⟨by grind, by grind⟩⟩)))
    grind
  have sA := one_side hf (unitR_good k1) o1 z1 z2 h3.1 h3.2 (hmem k.1 (.inl rfl))
  have sB := one_side hf (unitR_good k2) o2 z1 z2 h3.1 h3.2 (hmem k.2 (.inr rfl))
  have hm : ∀ n, n ≤ f.length → imS f Z.1 Z.2 n = (k.1, k.2) := by
    intro n
    induction n with
    | zero =>
      intro _
      rw [imS_zero]
      rcases h4 with ⟨e1, e2⟩ | ⟨e1, e2⟩
      · rw [e1, e2]
        unfold lessR greatR
        rw [if_neg (by rw [ltB_qv (unitR_good k2) (unitR_good k1)]; grind), if_pos k3]
      · rw [e1, e2]
        unfold lessR greatR
        rw [if_pos k3, if_neg (by rw [ltB_qv (unitR_good k2) (unitR_good k1)]; grind)]
    | succ n ih =>
      intro hn
      have gY := unitR_good (coordR_unit (hf.coord n (by omega)).2)
      cases hmd : midB Z.1 Z.2 (nth4 f n) with
      | false => rw [imS_no hmd]; exact ih (by omega)
      | true =>
        rw [imS_yes hmd, ih (by omega)]
        obtain ⟨l1, l2⟩ := (midB_qv (unitR_good z1) (unitR_good z2) (unitR_good (coordR_unit (hf.coord n (by omega)).1))).1 hmd
        obtain ⟨a1, a2, a3⟩ := sA n (by omega) l1 l2
        obtain ⟨b1, b2, b3⟩ := sB n (by omega) l1 l2
        have hlo : qv k.1 ≤ qv (nth4 f n).2 := by
          apply Rat.not_lt.1
          intro q
          obtain ⟨c1, c2⟩ := a2 q
          rcases h4 with ⟨e1, e2⟩ | ⟨e1, e2⟩
          · rw [e2] at c1; grind
          · rw [e1] at c2; grind
        have hhi : qv (nth4 f n).2 ≤ qv k.2 := by
          apply Rat.not_lt.1
          intro q
          obtain ⟨c1, c2⟩ := b3 q
          rcases h4 with ⟨e1, e2⟩ | ⟨e1, e2⟩
          · rw [e1] at c2; grind
          · rw [e2] at c1; grind
        unfold lessR greatR
        rw [if_neg (by rw [ltB_qv gY (unitR_good k1)]; grind), if_neg (by rw [ltB_qv (unitR_good k2) gY]; grind)]
  exact hm _ (Nat.le_refl _)
end Go.Proofs.YtjkgilenhoomoaaGreat

namespace Go.Proofs.YtjkgilenhoomoaaGreat
open Go.RowKit

theorem HasR.kept {w w' : World} {B g : Nat} {v : Value} {xs : List (Int × Int)} (h : HasR w B v xs) (hg : w.grownBy w' (some g)) (hlt : g < B) : HasR w' B v xs := ⟨h.1, GrowR.kept h.2 hg hlt⟩

theorem CalcAt.mark {w : World} {g : Nat} {b : Bool} (h : CalcAt w g b) : CalcAt (w.setCell ⟨g, 0, none⟩ (.bool true)) g true := ⟨by simp [go_sem, h.1], by simp [go_sem, h.2]⟩
/-- A box that may be written. -/
def BoxW (w : World) (b : Nat) (q : Quad) : Prop := BoxQ w b q ∧ w.frozen? ⟨b, 0, none⟩ = false ∧ w.frozen? ⟨b, 1, none⟩ = false ∧ w.frozen? ⟨b, 2, none⟩ = false ∧ w.frozen? ⟨b, 3, none⟩ = false
theorem BoxW.grown {w w' : World} {b : Nat} {q : Quad} {r : Option Nat} (h : BoxW w b q) (hg : w.grownBy w' r) (hr : r ≠ some b) : BoxW w' b q :=
  ⟨h.1.grown hg hr, gfrozen hg h.1.1 h.2.1 hr, gfrozen hg h.1.2.1 h.2.2.1 hr, gfrozen hg h.1.2.2.1 h.2.2.2.1 hr, gfrozen hg h.1.2.2.2 h.2.2.2.2 hr⟩
theorem BoxW.mark {w : World} {g b : Nat} {q : Quad} (h : BoxW w b q) (hne : b ≠ g) (u : Value) : BoxW (w.setCell ⟨g, 0, none⟩ u) b q := h.grown (grownBy_setCell_some w g 0 u) (fun e => hne (Option.some.inj e).symm)
def set4 (w : World) (b : Nat) (q : Quad) : World := (((w.setCell ⟨b, 0, none⟩ (.int .i64 q.1.1)).setCell ⟨b, 1, none⟩ (.int .i64 q.1.2)).setCell ⟨b, 2, none⟩ (.int .i64 q.2.1)).setCell ⟨b, 3, none⟩ (.int .i64 q.2.2)
theorem BoxW.set4 {w : World} {b : Nat} {q : Quad} (h : BoxW w b q) (r : Quad) : BoxW (YtjkgilenhoomoaaGreat.set4 w b r) b r := by
  obtain ⟨⟨h0, h1, h2, h3⟩, f0, f1, f2, f3⟩ := h
  unfold YtjkgilenhoomoaaGreat.set4
  exact ⟨⟨by simp [go_sem, h0], by simp [go_sem, h1], by simp [go_sem, h2], by simp [go_sem, h3]⟩, by simp [go_sem, f0], by simp [go_sem, f1], by simp [go_sem, f2], by simp [go_sem, f3]⟩
theorem CalcAt.set4 {w : World} {g b : Nat} {bd : Bool} (h : CalcAt w g bd) (hne : b ≠ g) (r : Quad) : CalcAt (YtjkgilenhoomoaaGreat.set4 w b r) g bd := by
  unfold YtjkgilenhoomoaaGreat.set4
  exact (((h.set hne _).set hne _).set hne _).set hne _
theorem grow_set4 {w w' : World} {g : Nat} (h : w.grownBy w' (some g)) {b : Nat} (hb : w.heap.size ≤ b) (r : Quad) : w.grownBy (YtjkgilenhoomoaaGreat.set4 w' b r) (some g) := by
  unfold YtjkgilenhoomoaaGreat.set4
  exact grow_set (grow_set (grow_set (grow_set h hb _) hb _) hb _) hb _
theorem grow_mark {w w' : World} {g : Nat} (h : w.grownBy w' (some g)) (u : Value) : w.grownBy (w'.setCell ⟨g, 0, none⟩ u) (some g) := h.trans (grownBy_setCell_some w' g 0 u)

set_option linter.unusedSimpArgs false in
set_option maxHeartbeats 1600000 in
theorem shrink1_any (k : Quad) (y : Int × Int) (b : Nat) (w : World) (hb : BoxQ w b k) :
    Calls Tryz.prog 34 #[.agg #[.int .i64 y.1, .int .i64 y.2], .pointer (some ⟨b, 0, none⟩)] w (Ret (.bool (isEndB k y)) w) := by
  unfold isEndB
  have hlt := hb.lt
  obtain ⟨b0, b1, b2, b3⟩ := hb
  obtain ⟨⟨k0, k1⟩, ⟨k2, k3⟩⟩ := k
  obtain ⟨y0, y1⟩ := y
  simp only at b0 b1 b2 b3 ⊢
  have hB1 := fun o => (Below.refl w.heap.size w).alloc (Nat.le_refl _) o
  have hB1' := Lib.hid hB1; clear hB1
  by_cases h0 : y0 = k0 ∧ y1 = k1
  · obtain ⟨rfl, rfl⟩ := h0
    go_enter Tryz.func34, Tryz.ntmps34
    go_wp2
    go_ret
    exact ⟨by simp, hB1'.out _⟩
  · have hd : decide ((y0, y1) = (k0, k1)) = false := decide_eq_false (fun e => h0 (Prod.mk.inj e))
    have hne : ¬ y0 = k0 ∨ y0 = k0 ∧ ¬ y1 = k1 := by
      by_cases h : y0 = k0
      · exact .inr ⟨h, fun e => h0 ⟨h, e⟩⟩
      · exact .inl h
    rw [hd, Bool.false_or]
    clear h0
    by_cases h2 : y0 = k2 ∧ y1 = k3
    · obtain ⟨rfl, rfl⟩ := h2
      rcases hne with hne | ⟨rfl, hne⟩
      · go_enter Tryz.func34, Tryz.ntmps34
        go_wp2
        go_ret
        exact ⟨by simp, hB1'.out _⟩
      · go_enter Tryz.func34, Tryz.ntmps34
        go_wp2
        go_ret
        exact ⟨by simp, hB1'.out _⟩
    · have hd2 : decide ((y0, y1) = (k2, k3)) = false := decide_eq_false (fun e => h2 (Prod.mk.inj e))
      have hne2 : ¬ y0 = k2 ∨ y0 = k2 ∧ ¬ y1 = k3 := by
        by_cases h : y0 = k2
        · exact .inr ⟨h, fun e => h2 ⟨h, e⟩⟩
        · exact .inl h
      rw [hd2]
      clear h2
      rcases hne with hne | ⟨rfl, hne⟩ <;> rcases hne2 with hne2 | ⟨rfl, hne2⟩
      all_goals
        go_enter Tryz.func34, Tryz.ntmps34
        go_wp2
        go_ret
        exact ⟨rfl, hB1'.out _⟩
theorem wp_append_ratsU {o : Oper} {a : Act} {w : World} {KK : Act → World → Prop} {Q : Exit → Act → World → Prop} (s x : Operand)
    (ho : o.op = .call { callee := .builtin .append, args := #[s, x], argTypes := #[67, 67] }) (B : Nat) (v u : Value) (xs ys : List (Int × Int)) (hs : a.eval s = v)
    (hx : a.eval x = u) (hown : GrowR w B v xs) (hu : RatsV w u ys) (hl : xs.length + ys.length ≤ 4398046511104) (hB : B ≤ w.heap.size)
    (h : ∀ v' w', GrowR w' B v' (xs ++ ys) → w.grownBy w' v.ownBlock → KK (a.put o.dst v') w') : o.wp Tryz.prog a w KK Q := by
  obtain ⟨ao, cap, rfl, ⟨hcap, hnil⟩, _, _⟩ := hu.form
  cases ao with
  | none =>
    obtain rfl := hnil rfl
    have : ys = [] := List.eq_nil_of_length_eq_zero (by omega)
    subst this
    exact wp_append_rats0 s x ho B v xs hs hx hown (h v w (by rw [List.append_nil]; exact hown) (World.grownBy.refl _ _))
  | some ad => exact wp_append_rats s x ho B v ad _ _ xs ys hs hx hown hu hl hB h
end Go.Proofs.YtjkgilenhoomoaaGreat

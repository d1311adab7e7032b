/- The composition of two maps, and powers of a map. Plain laws, no program in sight. -/
import Derived.Test.YtfhhofecfllbfaaGreatPkM
import Derived.Test.YtfhhofecfllbfaaGreatPkI
import Derived.Test.YtfhhofecfllbfaaGreatSimple
namespace Go.Proofs.YtfhhofecfllbfaaGreat
open Go.RowKit

/-- The places of a composition, as the program gathers them. -/
def cmB (f g : List Quad) (k : Nat) : List (Int × Int) := (List.range k).flatMap fun i => befR g (nth4 f i).1
def cmRaw (f g : List Quad) (k : Nat) : List (Int × Int) := xsL g ++ cmB f g k
def cmXs (f g : List Quad) : List (Int × Int) := mergeL [] (cmRaw f g f.length)
theorem cmB_step (f g : List Quad) (k : Nat) : cmB f g (k + 1) = cmB f g k ++ befR g (nth4 f k).1 := by simp [cmB, List.range_succ]
theorem cmRaw_step (f g : List Quad) (k : Nat) : cmRaw f g (k + 1) = cmRaw f g k ++ befR g (nth4 f k).1 := by unfold cmRaw; rw [cmB_step, List.append_assoc]
theorem cmB_len (f g : List Quad) (k : Nat) : (cmB f g k).length ≤ 2 * g.length * k := by
  induction k with
  | zero => simp [cmB]
  | succ k ih =>
    rw [cmB_step, List.length_append, Nat.mul_succ]
    have := befR_len g (nth4 f k).1
    omega
theorem cmRaw_len {f g : List Quad} (hf : MapP f) (hg : MapP g) {k : Nat} (hk : k ≤ f.length) : (cmRaw f g k).length ≤ 300 := by
  unfold cmRaw
  rw [List.length_append, xsL_len]
  have h1 := cmB_len f g k
  have h2 := hf.len.2
  have h3 := hg.len.2
  have h4 : 2 * g.length * k ≤ 24 * 12 := Nat.mul_le_mul (by omega) (by omega)
  omega
theorem mem_cmB {f g : List Quad} {k : Nat} {x : Int × Int} : x ∈ cmB f g k ↔ ∃ i, i < k ∧ x ∈ befR g (nth4 f i).1 := by
  unfold cmB
  simp only [List.mem_flatMap, List.mem_range]
theorem xsL_unit {g : List Quad} (hg : MapP g) : ∀ x, x ∈ xsL g → unitR x.1 x.2 = true := by
  intro x hx
  obtain ⟨i, hi, rfl⟩ := List.getElem_of_mem hx
  rw [xsL_len] at hi
  rw [← nthR_eq, nthR_xsL hi]
  exact coordR_unit (hg.coord i hi).1
theorem cmRaw_unit {f g : List Quad} (hf : MapP f) (hg : MapP g) {k : Nat} (hk : k ≤ f.length) : ∀ x, x ∈ cmRaw f g k → unitR x.1 x.2 = true := by
  intro x hx
  unfold cmRaw at hx
  rcases List.mem_append.1 hx with h | h
  · exact xsL_unit hg x h
  · obtain ⟨i, hi, h⟩ := mem_cmB.1 h
    exact befR_unit hg (unitR_good (coordR_unit (hf.coord i (by omega)).1)) x h
theorem cmXs_rise {f g : List Quad} (hf : MapP f) (hg : MapP g) : RiseL (cmXs f g) ∧ ∀ x, x ∈ cmXs f g ↔ x ∈ cmRaw f g f.length := by
  obtain ⟨h1, h2⟩ := merge_rise (cmRaw f g f.length) (xs := []) List.Pairwise.nil (fun y h => by cases h) (fun x hx => unitR_good (cmRaw_unit hf hg (Nat.le_refl _) x hx))
  exact ⟨h1, fun x => by rw [show cmXs f g = mergeL [] (cmRaw f g f.length) from rfl, h2]; simp⟩
theorem cmXs_sorted {f g : List Quad} (hf : MapP f) (hg : MapP g) {ys : List (Int × Int)} (hp : ys.Pairwise fun a b => qv a ≤ qv b) (hm : ∀ x, x ∈ ys ↔ x ∈ cmRaw f g f.length) : cmpL ys = cmXs f g :=
  sort_merge hp (fun x => by rw [hm]; simp) List.Pairwise.nil (fun y h => by cases h) (fun x hx => unitR_good (cmRaw_unit hf hg (Nat.le_refl _) x hx))
theorem cmXs_put {f g : List Quad} (hf : MapP f) (hg : MapP g) {l : List (Int × Int)} (hr : RiseL l) (hm : ∀ x, x ∈ l ↔ x ∈ cmRaw f g f.length) : l = cmXs f g :=
  rise_ext hr (cmXs_rise hf hg).1 fun x => by rw [hm, (cmXs_rise hf hg).2]
theorem cmXs_unit {f g : List Quad} (hf : MapP f) (hg : MapP g) : ∀ x, x ∈ cmXs f g → unitR x.1 x.2 = true := fun x hx => cmRaw_unit hf hg (Nat.le_refl _) x (((cmXs_rise hf hg).2 x).1 hx)
theorem xsL_rise {g : List Quad} (hg : MapP g) : RiseL (xsL g) := by
  unfold RiseL
  rw [List.pairwise_iff_getElem]
  intro i j hi hj hij
  rw [xsL_len] at hi hj
  rw [← nthR_eq, ← nthR_eq, nthR_xsL hi, nthR_xsL hj]
  exact x_rise hg j i hij hj
/-- The reference's list after k points. -/
def cmM (f g : List Quad) : Nat → List (Int × Int)
  | 0 => xsL g
  | k + 1 => mergeL (cmM f g k) (befR g (nth4 f k).1)
theorem cmM_law {f g : List Quad} (hf : MapP f) (hg : MapP g) : ∀ k, k ≤ f.length → GoodL (cmM f g k) ∧ (∀ x, x ∈ cmM f g k ↔ x ∈ cmRaw f g k) ∧ (cmM f g k).length ≤ 12 + 24 * k := by
  intro k
  induction k with
  | zero =>
    intro _
    refine ⟨⟨xsL_rise hg, fun x hx => unitR_good (xsL_unit hg x hx)⟩, fun x => ?_, ?_⟩
    · show x ∈ xsL g ↔ x ∈ xsL g ++ cmB f g 0
      simp [cmB]
    · show (xsL g).length ≤ _
      rw [xsL_len]
      have := hg.len.2
      omega
  | succ k ih =>
    intro hk
    obtain ⟨h1, h2, h3⟩ := ih (by omega)
    have hb := fun x hx => unitR_good (befR_unit hg (unitR_good (coordR_unit (hf.coord k (by omega)).1)) x hx)
    obtain ⟨a, b⟩ := merge_rise (befR g (nth4 f k).1) h1.rise h1.good hb
    have hE : cmM f g (k + 1) = mergeL (cmM f g k) (befR g (nth4 f k).1) := rfl
    rw [hE]
    refine ⟨⟨a, fun x hx => ?_⟩, fun x => ?_, ?_⟩
    · rcases (b x).1 hx with h | h
      · exact h1.good x h
      · exact hb x h
    · rw [b, h2, cmRaw_step, List.mem_append]
    · have h4 := mergeL_len0 (befR g (nth4 f k).1) (cmM f g k)
      have h5 := befR_len g (nth4 f k).1
      have := hg.len.2
      omega
theorem cmM_end {f g : List Quad} (hf : MapP f) (hg : MapP g) : cmM f g f.length = cmXs f g := by
  obtain ⟨a, b, _⟩ := cmM_law hf hg f.length (Nat.le_refl _)
  exact cmXs_put hf hg a.rise b
theorem cmXs_len {f g : List Quad} (hf : MapP f) (hg : MapP g) : 2 ≤ (cmXs f g).length ∧ (cmXs f g).length ≤ 300 := by
  constructor
  · have h0 : (0, 1) ∈ cmXs f g := ((cmXs_rise hf hg).2 _).2 (by
      unfold cmRaw
      refine List.mem_append_left _ ?_
      have := hg.len.1
      rw [← hg.first, ← nthR_xsL (by omega), nthR_eq (by rw [xsL_len]; omega)]
      exact List.getElem_mem _)
    have h1 : (1, 1) ∈ cmXs f g := ((cmXs_rise hf hg).2 _).2 (by
      unfold cmRaw
      refine List.mem_append_left _ ?_
      have := hg.len.1
      rw [← hg.last, ← nthR_xsL (by omega), nthR_eq (by rw [xsL_len]; omega)]
      exact List.getElem_mem _)
    generalize cmXs f g = l at *
    match l with
    | [] => cases h0
    | [a] =>
      have e1 := List.mem_singleton.1 h0
      have e2 := List.mem_singleton.1 h1
      rw [← e1] at e2
      exact absurd e2 (by decide)
    | _ :: _ :: _ => simp
  · have h1 := mergeL_len0 (cmRaw f g f.length) []
    have h2 := cmRaw_len hf hg (Nat.le_refl f.length)
    show (mergeL [] (cmRaw f g f.length)).length ≤ 300
    simp only [List.length_nil, Nat.zero_add] at h1
    omega
def cmBef (f g : List Quad) (k : Nat) : Bool := (List.range k).all fun i => befOk g (nth4 f i).1 g.length
theorem cmBef_step (f g : List Quad) (k : Nat) : cmBef f g (k + 1) = (cmBef f g k && befOk g (nth4 f k).1 g.length) := by simp [cmBef, List.range_succ, List.all_append]
theorem cmBef_false {f g : List Quad} {k n : Nat} (h : k < n) (hb : befOk g (nth4 f k).1 g.length = false) : cmBef f g n = false := by
  unfold cmBef
  rw [List.all_eq_false]
  exact ⟨k, List.mem_range.2 h, by rw [hb]; simp⟩
/-- Is the value of f at that of g told, at the first k places? -/
def cmAt (f g : List Quad) (xs : List (Int × Int)) (k : Nat) : Bool := (List.range k).all fun i => atOk g (nthR xs i) && atOk f (atZ g (nthR xs i))
theorem cmAt_step (f g : List Quad) (xs : List (Int × Int)) (k : Nat) : cmAt f g xs (k + 1) = (cmAt f g xs k && (atOk g (nthR xs k) && atOk f (atZ g (nthR xs k)))) := by simp [cmAt, List.range_succ, List.all_append]
theorem cmAt_false {f g : List Quad} {xs : List (Int × Int)} {k n : Nat} (h : k < n) (hb : (atOk g (nthR xs k) && atOk f (atZ g (nthR xs k))) = false) : cmAt f g xs n = false := by
  unfold cmAt
  rw [List.all_eq_false]
  exact ⟨k, List.mem_range.2 h, by rw [hb]; simp⟩
def cmPt (f g : List Quad) (x : Int × Int) : Quad := (x, atZ f (atZ g x))
def cmPts (f g : List Quad) : List Quad := (cmXs f g).map (cmPt f g)
theorem cmPts_len (f g : List Quad) : (cmPts f g).length = (cmXs f g).length := by simp [cmPts]
theorem nth4_cmPts {f g : List Quad} {i : Nat} (h : i < (cmXs f g).length) : nth4 (cmPts f g) i = cmPt f g (nthR (cmXs f g) i) := by
  rw [nth4_eq (by rw [cmPts_len]; exact h), nthR_eq h]; simp [cmPts]
/-- Are the denominators of a point those of coordinates? -/
def fineP (p : Quad) : Bool := decide (p.1.2 ≤ 100) && decide (p.2.2 ≤ 100)
theorem cmPt_unit {f g : List Quad} (hf : MapP f) (hg : MapP g) {i : Nat} (h : i < (cmXs f g).length) : unitR (nth4 (cmPts f g) i).1.1 (nth4 (cmPts f g) i).1.2 = true ∧ unitR (nth4 (cmPts f g) i).2.1 (nth4 (cmPts f g) i).2.2 = true := by
  have hx := cmXs_unit hf hg (nthR (cmXs f g) i) (by rw [nthR_eq h]; exact List.getElem_mem h)
  rw [nth4_cmPts h]
  exact ⟨hx, atZ_unit hf (atZ_unit hg hx)⟩
/-- Of units, the fine ones are the coordinates. -/
theorem fine_coord {p : Quad} (h1 : unitR p.1.1 p.1.2 = true) (h2 : unitR p.2.1 p.2.2 = true) : coordP p = fineP p := by
  unfold coordP coordR fineP
  rw [h1, h2]
  simp
theorem cmPts_line {f g : List Quad} (hf : MapP f) (hg : MapP g) (h : (cmPts f g).all fineP = true) : LineP (cmPts f g) := by
  obtain ⟨l1, l2⟩ := cmXs_len hf hg
  refine ⟨by rw [cmPts_len]; omega, fun i hi => ?_, fun i hi => ?_⟩
  · have hi2 := hi
    rw [cmPts_len] at hi2
    obtain ⟨u1, u2⟩ := cmPt_unit hf hg hi2
    have := all_nth4 h hi
    rw [← fine_coord u1 u2] at this
    unfold coordP at this
    rw [Bool.and_eq_true] at this
    exact this
  · rw [cmPts_len] at hi
    obtain ⟨u1, _⟩ := cmPt_unit hf hg (i := i) (by omega)
    obtain ⟨u2, _⟩ := cmPt_unit hf hg hi
    rw [ltB_qv (unitR_good u1) (unitR_good u2), nth4_cmPts (by omega), nth4_cmPts hi]
    exact rise_nth (cmXs_rise hf hg).1 (by omega) hi
/-- The composition of two maps, if there is one. -/
def cmIf (s : List Quad) : List Quad × Bool := if mapB s = true then (s, true) else ([], false)
def cmR (f g : List Quad) : List Quad × Bool := if cmBef f g f.length = true ∧ cmAt f g (cmXs f g) (cmXs f g).length = true ∧ (cmPts f g).all fineP = true then cmIf (smL (cmPts f g)) else ([], false)
theorem cmIf_map {s : List Quad} (h : (cmIf s).2 = true) : mapB (cmIf s).1 = true := by
  unfold cmIf at h ⊢
  split
  · rename_i q; exact q
  · rename_i q; rw [if_neg q] at h; cases h
theorem cmR_map {f g : List Quad} (h : (cmR f g).2 = true) : mapB (cmR f g).1 = true := by
  unfold cmR at h ⊢
  split
  · rename_i q; rw [if_pos q] at h; exact cmIf_map h
  · rename_i q; rw [if_neg q] at h; cases h
theorem cmR_no {f g : List Quad} (h : (cmR f g).2 = false) : cmR f g = ([], false) := by
  unfold cmR cmIf at h ⊢
  split
  · rename_i q
    rw [if_pos q] at h
    split
    · rename_i q2; rw [if_pos q2] at h; cases h
    · rfl
  · rfl
def cmId : List Quad := [((0, 1), (0, 1)), ((1, 1), (1, 1))]
/-- The map that is f, k times. -/
def cmW (f : List Quad) : Nat → List Quad × Bool
  | 0 => (cmId, true)
  | k + 1 => if (cmW f k).2 = true then cmR f (cmW f k).1 else ([], false)
theorem cmW_map (f : List Quad) : ∀ k, (cmW f k).2 = true → mapB (cmW f k).1 = true := by
  intro k
  induction k with
  | zero => intro _; show mapB cmId = true; decide
  | succ k ih =>
    intro h
    have hE : cmW f (k + 1) = if (cmW f k).2 = true then cmR f (cmW f k).1 else ([], false) := rfl
    rw [hE] at h ⊢
    split
    · rename_i q; rw [if_pos q] at h; exact cmR_map h
    · rename_i q; rw [if_neg q] at h; cases h
theorem cmW_no {f : List Quad} : ∀ {k n : Nat}, k ≤ n → (cmW f k).2 = false → cmW f n = ([], false) := by
  intro k n h
  induction n with
  | zero =>
    intro h2
    obtain rfl : k = 0 := by omega
    cases h2
  | succ n ih =>
    intro h2
    have hE : cmW f (n + 1) = if (cmW f n).2 = true then cmR f (cmW f n).1 else ([], false) := rfl
    by_cases e : k = n + 1
    · subst e
      rw [hE] at h2 ⊢
      split
      · rename_i q; rw [if_pos q] at h2; exact cmR_no h2
      · rfl
    · rw [hE, ih (by omega) h2]
      rfl
end Go.Proofs.YtfhhofecfllbfaaGreat

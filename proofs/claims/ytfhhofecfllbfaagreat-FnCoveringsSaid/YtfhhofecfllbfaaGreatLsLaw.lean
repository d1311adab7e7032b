/- The least absolute slope in an interval. Plain laws, no program in sight. -/
import Derived.Test.YtfhhofecfllbfaaGreatPkE
import Derived.Test.YtfhhofecfllbfaaGreatPkK
namespace Go.Proofs.YtfhhofecfllbfaaGreat
open Go.RowKit

/-- Has the piece from p to q more than a point in common with i? -/
def lsB (i p q : Quad) : Bool := ltB p.1.1 p.1.2 i.2.1 i.2.2 && ltB i.1.1 i.1.2 q.1.1 q.1.2
def absR (s : Int × Int) : Int × Int := ((s.1.natAbs : Int), s.2)
def lsL (f : List Quad) (i : Quad) : Nat → List (Int × Int)
  | 0 => []
  | k + 1 => if lsB i (nth4 f k) (nth4 f (k + 1)) = true then lsL f i k ++ [absR (slopeR (nth4 f k) (nth4 f (k + 1)))] else lsL f i k
theorem lsL_step (f : List Quad) (i : Quad) (k : Nat) : lsL f i (k + 1) = if lsB i (nth4 f k) (nth4 f (k + 1)) = true then lsL f i k ++ [absR (slopeR (nth4 f k) (nth4 f (k + 1)))] else lsL f i k := rfl
theorem lsL_len (f : List Quad) (i : Quad) (k : Nat) : (lsL f i k).length ≤ k := by
  induction k with
  | zero => exact Nat.le_refl _
  | succ k ih =>
    rw [lsL_step]
    split
    · rw [List.length_append]; simp; omega
    · omega
theorem absR_good {s : Int × Int} (h : goodR s.1 s.2 = true) : goodR (absR s).1 (absR s).2 = true := by
  obtain ⟨h1, h2, h3⟩ := goodR_all h
  exact goodR_of h1 (by show -1000000000 ≤ (s.1.natAbs : Int) ∧ (s.1.natAbs : Int) ≤ 1000000000; omega) (by show Nat.gcd (s.1.natAbs : Int).natAbs s.2.natAbs = 1; rw [Int.natAbs_natCast]; exact h3)
theorem lsL_good {f : List Quad} (hf : MapP f) (i : Quad) : ∀ k, k + 1 ≤ f.length → ∀ x, x ∈ lsL f i k → goodR x.1 x.2 = true ∧ 0 ≤ x.1 := by
  intro k
  induction k with
  | zero => intro _ x hx; cases hx
  | succ k ih =>
    intro hk x hx
    rw [lsL_step] at hx
    split at hx
    · rcases List.mem_append.1 hx with h | h
      · exact ih (by omega) x h
      · rw [List.mem_singleton.1 h]
        exact ⟨absR_good (slope_ok (hf.coord k (by omega)).1 (hf.coord k (by omega)).2 (hf.coord (k + 1) hk).1 (hf.coord (k + 1) hk).2 (hf.rise k hk)).2.1, by show (0 : Int) ≤ ((slopeR (nth4 f k) (nth4 f (k + 1))).1.natAbs : Int); omega⟩
    · exact ih (by omega) x hx
/-- The first least one. -/
def minS (m y : Int × Int) : Int × Int := if ltB y.1 y.2 m.1 m.2 = true then y else m
def minL : List (Int × Int) → Int × Int
  | [] => (-1, 1)
  | x :: t => t.foldl minS x
theorem minL_one (x : Int × Int) : minL [x] = x := rfl
theorem minL_snoc {l : List (Int × Int)} (h : l ≠ []) (y : Int × Int) : minL (l ++ [y]) = minS (minL l) y := by
  match l with
  | [] => exact absurd rfl h
  | x :: t =>
    show (t ++ [y]).foldl minS x = minS (t.foldl minS x) y
    rw [List.foldl_append]; rfl
theorem minL_mem : ∀ l : List (Int × Int), l ≠ [] → minL l ∈ l := by
  intro l
  match l with
  | [] => intro h; exact absurd rfl h
  | x :: t =>
    intro _
    have : ∀ (t : List (Int × Int)) (m : Int × Int), t.foldl minS m = m ∨ t.foldl minS m ∈ t := by
      intro t
      induction t with
      | nil => exact fun m => .inl rfl
      | cons y t ih =>
        intro m
        rw [List.foldl_cons]
        rcases ih (minS m y) with h | h
        · rw [h]
          unfold minS
          split
          · exact .inr (List.mem_cons_self ..)
          · exact .inl rfl
        · exact .inr (List.mem_cons_of_mem _ h)
    rcases this t x with h | h
    · show t.foldl minS x ∈ x :: t
      rw [h]; exact List.mem_cons_self ..
    · exact List.mem_cons_of_mem _ h
/-- Of the first k of a list. -/
theorem minL_take {l : List (Int × Int)} {k : Nat} (h0 : 0 < k) (h : k < l.length) : minL (l.take (k + 1)) = minS (minL (l.take k)) (nthR l k) := by
  rw [List.take_add_one, List.getElem?_eq_getElem h, nthR_eq h]
  exact minL_snoc (fun e => by
    have := congrArg List.length e
    rw [List.length_take, List.length_nil] at this
    omega) _
/-- Some piece has more than a point in common with an interval. -/
theorem lsL_ne {f : List Quad} (hf : MapP f) {i : Quad} (hi : ivB i = true) : lsL f i (f.length - 1) ≠ [] := by
  obtain ⟨i1, i2, i3⟩ := ivB_true hi
  have hlt := (ltB_qv (unitR_good i1) (unitR_good i2)).1 i3
  obtain ⟨_, a0, a1⟩ := unitR_qv.1 i1
  obtain ⟨_, b0, b1⟩ := unitR_qv.1 i2
  have gX := fun j (h : j < f.length) => unitR_good (coordR_unit (hf.coord j h).1)
  have key : ∀ k, k + 1 ≤ f.length → lsL f i k ≠ [] ∨ qv (nth4 f k).1 ≤ qv i.1 := by
    intro k
    induction k with
    | zero => intro _; right; rw [hf.first, qv_zero]; exact a0
    | succ k ih =>
      intro hk
      rw [lsL_step]
      rcases ih (by omega) with h | h
      · left
        split
        · simp
        · exact h
      · by_cases q : qv i.1 < qv (nth4 f (k + 1)).1
        · left
          have hb : lsB i (nth4 f k) (nth4 f (k + 1)) = true := by
            unfold lsB
            rw [Bool.and_eq_true, ltB_qv (gX k (by omega)) (unitR_good i2), ltB_qv (unitR_good i1) (gX (k + 1) hk)]
            grind
          rw [if_pos hb]
          simp
        · right; grind
  have hl := hf.len.1
  rcases key (f.length - 1) (by omega) with h | h
  · exact h
  · rw [hf.last, qv_one] at h
    grind
/-- Both ways to say that intervals have more than a point in common. -/
theorem meet_iff {a b c d : Int × Int} (ha : goodR a.1 a.2 = true) (hb : goodR b.1 b.2 = true) (hc : goodR c.1 c.2 = true) (hd : goodR d.1 d.2 = true) (hab : ltB a.1 a.2 b.1 b.2 = true) (hcd : ltB c.1 c.2 d.1 d.2 = true) :
    ltB (greatR a c).1 (greatR a c).2 (lessR b d).1 (lessR b d).2 = (ltB c.1 c.2 b.1 b.2 && ltB a.1 a.2 d.1 d.2) := by
  rw [Bool.eq_iff_iff, Bool.and_eq_true, ltB_qv hc hb, ltB_qv ha hd]
  have h1 := (ltB_qv ha hb).1 hab
  have h2 := (ltB_qv hc hd).1 hcd
  unfold greatR lessR
  by_cases q1 : ltB a.1 a.2 c.1 c.2 = true
  · rw [if_pos q1]
    rw [ltB_qv ha hc] at q1
    by_cases q2 : ltB d.1 d.2 b.1 b.2 = true
    · rw [if_pos q2, ltB_qv hc hd]
      rw [ltB_qv hd hb] at q2
      grind
    · rw [if_neg q2, ltB_qv hc hb]
      rw [ltB_qv hd hb] at q2
      grind
  · rw [if_neg q1]
    rw [ltB_qv ha hc] at q1
    by_cases q2 : ltB d.1 d.2 b.1 b.2 = true
    · rw [if_pos q2, ltB_qv ha hd]
      rw [ltB_qv hd hb] at q2
      grind
    · rw [if_neg q2, ltB_qv ha hb]
      rw [ltB_qv hd hb] at q2
      grind
def LeastSlope_v (f : List Quad) (i : Quad) : (Int × Int) × Bool := if mapB f = true ∧ ivB i = true then (minL (lsL f i (f.length - 1)), true) else ((0, 0), false)
end Go.Proofs.YtfhhofecfllbfaaGreat

/- The least and the greatest value of a map between two fractions, as the walks build them. -/
import Derived.Test.YtfcanpebagpdbaaGreatImage
import Derived.Test.YtfcanpebagpdbaaGreatPkG
namespace Go.Proofs.YtfcanpebagpdbaaGreat

/-- Does point p lie strictly between a and b? -/
def midB (a b : Int × Int) (p : Quad) : Bool := ltB a.1 a.2 p.1.1 p.1.2 && ltB p.1.1 p.1.2 b.1 b.2
/-- The values after the first k points: the end's, then those of the points between. -/
def imV (f : List Quad) (a b : Int × Int) : Nat → List (Int × Int)
  | 0 => [atZ f b]
  | k + 1 => if midB a b (nth4 f k) = true then imV f a b k ++ [(nth4 f k).2] else imV f a b k
def fold2 (y : Int × Int) : List (Int × Int) → (Int × Int) × (Int × Int) := fun l => l.foldl (fun s z => (lessR s.1 z, greatR s.2 z)) (y, y)
/-- Low and high after the first k points. -/
def imS (f : List Quad) (a b : Int × Int) (k : Nat) : (Int × Int) × (Int × Int) := fold2 (atZ f a) (imV f a b k)
theorem imS_zero (f : List Quad) (a b : Int × Int) : imS f a b 0 = (lessR (atZ f a) (atZ f b), greatR (atZ f a) (atZ f b)) := rfl
theorem imS_yes {f : List Quad} {a b : Int × Int} {k : Nat} (h : midB a b (nth4 f k) = true) : imS f a b (k + 1) = (lessR (imS f a b k).1 (nth4 f k).2, greatR (imS f a b k).2 (nth4 f k).2) := by
  have e : imV f a b (k + 1) = if midB a b (nth4 f k) = true then imV f a b k ++ [(nth4 f k).2] else imV f a b k := rfl
  unfold imS fold2
  rw [e, if_pos h, List.foldl_append]; rfl
theorem imS_no {f : List Quad} {a b : Int × Int} {k : Nat} (h : midB a b (nth4 f k) = false) : imS f a b (k + 1) = imS f a b k := by
  have e : imV f a b (k + 1) = if midB a b (nth4 f k) = true then imV f a b k ++ [(nth4 f k).2] else imV f a b k := rfl
  unfold imS fold2
  rw [e, if_neg (by rw [h]; decide)]
theorem imV_len (f : List Quad) (a b : Int × Int) : ∀ k, 1 ≤ (imV f a b k).length ∧ (imV f a b k).length ≤ k + 1 := by
  intro k
  induction k with
  | zero => exact ⟨Nat.le_refl _, Nat.le_refl _⟩
  | succ k ih =>
    unfold imV
    split
    · rw [List.length_append]; simp; omega
    · omega
theorem imV_good {f : List Quad} (hf : MapP f) (a b : Int × Int) : ∀ k, k ≤ f.length → ∀ y ∈ imV f a b k, goodR y.1 y.2 = true := by
  intro k
  induction k with
  | zero => intro _ y hy; rw [List.mem_singleton.1 hy]; exact atZ_good f b
  | succ k ih =>
    intro hk y hy
    unfold imV at hy
    split at hy
    · rcases List.mem_append.1 hy with h | h
      · exact ih (by omega) y h
      · rw [List.mem_singleton.1 h]; exact unitR_good (coordR_unit (hf.coord k (by omega)).2)
    · exact ih (by omega) y hy
theorem fold2_good (l : List (Int × Int)) : ∀ s : (Int × Int) × (Int × Int), goodR s.1.1 s.1.2 = true → goodR s.2.1 s.2.2 = true → (∀ y ∈ l, goodR y.1 y.2 = true) →
    goodR (l.foldl (fun s z => (lessR s.1 z, greatR s.2 z)) s).1.1 (l.foldl (fun s z => (lessR s.1 z, greatR s.2 z)) s).1.2 = true ∧ goodR (l.foldl (fun s z => (lessR s.1 z, greatR s.2 z)) s).2.1 (l.foldl (fun s z => (lessR s.1 z, greatR s.2 z)) s).2.2 = true := by
  induction l with
  | nil => intro s h1 h2 _; exact ⟨h1, h2⟩
  | cons z l ih =>
    intro s h1 h2 h
    have hz := h z (List.mem_cons_self ..)
    exact ih _ (lessR_good h1 hz) (greatR_good h2 hz) (fun y hy => h y (List.mem_cons_of_mem _ hy))
theorem imS_good {f : List Quad} (hf : MapP f) (a b : Int × Int) (k : Nat) (hk : k ≤ f.length) : goodR (imS f a b k).1.1 (imS f a b k).1.2 = true ∧ goodR (imS f a b k).2.1 (imS f a b k).2.2 = true :=
  fold2_good _ _ (atZ_good f a) (atZ_good f a) (imV_good hf a b k hk)
/-- Both values can be computed. -/
def imgOk (f : List Quad) (a b : Int × Int) : Bool := atOk f a && atOk f b

end Go.Proofs.YtfcanpebagpdbaaGreat

/- The first shortest walk as a value: the way down the least numbers of steps. Plain laws, no program in sight. -/
import Derived.Test.YtblippeklbhepaaLeast
import Derived.Test.YtblippeklbhepaaBfs
namespace Go.Proofs.Ytblippeklbhepaa
open Go.RowKit

/-- The least number of steps, at least one, of a walk from i to b; 0 if there is none. -/
def dTo (g : List (List Int)) (b i : Nat) : Nat := ((List.range 9).find? fun t => decide (1 ≤ t ∧ 0 < pwG g t i b)).getD 0
/-- A walk goes on from x to k with r steps left behind k. -/
def due (g : List (List Int)) (b r x k : Nat) : Bool := decide (0 < ent g x k) && ((decide (r = 0) && decide (k = b)) || (decide (0 < r) && decide (dTo g b k = r)))
/-- The first state where it goes on. -/
def nxt (g : List (List Int)) (b r x : Nat) : Nat := ((List.range g.length).find? (due g b r x)).getD 0
/-- The states behind x. -/
def gpath (g : List (List Int)) (b : Nat) : Nat → Nat → List Nat
  | 0, _ => []
  | r + 1, x => nxt g b r x :: gpath g b r (nxt g b r x)
theorem dTo_min {g : List (List Int)} (hg : graphB g = true) {b i : Nat} (hb : b < g.length) (hi : i < g.length) : (dTo g b i = 0 ∧ ∀ t, 1 ≤ t → ¬ wk (ent g) g.length t i b) ∨ (dTo g b i ≤ g.length ∧ wkMin (ent g) g.length b (dTo g b i) i) := by
  obtain ⟨n1, n8, _, _⟩ := graphB_true hg
  have hpos : ∀ t, (0 < pwG g t i b) ↔ wk (ent g) g.length t i b := fun t => pwG_pos hg hi hb
  unfold dTo
  cases hf : (List.range 9).find? fun t => decide (1 ≤ t ∧ 0 < pwG g t i b) with
  | none =>
    refine .inl ⟨rfl, fun t h1 hw => ?_⟩
    obtain ⟨s, _, hs⟩ := wkMin_of t h1 hw
    have hl := wkMin_len hb s i hi hs
    have := List.find?_eq_none.1 hf s (List.mem_range.2 (by omega))
    exact this (decide_eq_true ⟨hs.1, (hpos s).2 hs.2.1⟩)
  | some r =>
    have h1 : 1 ≤ r ∧ 0 < pwG g r i b := by
      have := List.find?_some hf
      simpa using this
    obtain ⟨s, hsr, hs⟩ := wkMin_of r h1.1 ((hpos r).1 h1.2)
    have hl := wkMin_len hb s i hi hs
    have hsr2 : s = r := by
      obtain ⟨_, pre, post, e, hn⟩ := List.find?_eq_some_iff_append.1 hf
      apply Decidable.byContradiction
      intro q
      have hlt : s < r := by omega
      have hmem : s ∈ pre := by
        have hmem : s ∈ List.range 9 := List.mem_range.2 (by omega)
        have hsort : (List.range 9).Pairwise (· < ·) := List.pairwise_lt_range
        rw [e] at hmem hsort
        rcases List.mem_append.1 hmem with h2 | h2
        · exact h2
        · exfalso
          rcases List.mem_cons.1 h2 with rfl | h2
          · omega
          · have := (List.pairwise_append.1 hsort).2.1
            have := (List.pairwise_cons.1 this).1 s h2
            omega
      have := hn s hmem
      rw [decide_eq_true ⟨hs.1, (hpos s).2 hs.2.1⟩] at this
      exact absurd this (by decide)
    subst hsr2
    exact .inr ⟨hl, hs⟩
theorem dTo_eq {g : List (List Int)} (hg : graphB g = true) {b i : Nat} (hb : b < g.length) (hi : i < g.length) {t : Nat} (h : wkMin (ent g) g.length b t i) : dTo g b i = t := by
  rcases dTo_min hg hb hi with ⟨_, h2⟩ | ⟨_, h2⟩
  · exact absurd h.2.1 (h2 t h.1)
  · exact wkMin_unique h2 h
theorem due_iff {g : List (List Int)} (hg : graphB g = true) {b r x k : Nat} (hb : b < g.length) (hk : k < g.length) : due g b r x k = true ↔ 0 < ent g x k ∧ ((r = 0 ∧ k = b) ∨ wkMin (ent g) g.length b r k) := by
  unfold due
  simp only [Bool.and_eq_true, Bool.or_eq_true, decide_eq_true_iff]
  constructor
  · rintro ⟨h1, h2 | ⟨h2, h3⟩⟩
    · exact ⟨h1, .inl h2⟩
    · refine ⟨h1, .inr ?_⟩
      rcases dTo_min hg hb hk with ⟨h4, _⟩ | ⟨_, h4⟩
      · omega
      · rw [h3] at h4; exact h4
  · rintro ⟨h1, h2 | h2⟩
    · exact ⟨h1, .inl h2⟩
    · exact ⟨h1, .inr ⟨h2.1, dTo_eq hg hb hk h2⟩⟩
theorem nxt_spec {g : List (List Int)} (hg : graphB g = true) {b r x : Nat} (hb : b < g.length) (h : wkMin (ent g) g.length b (r + 1) x) :
    nxt g b r x < g.length ∧ due g b r x (nxt g b r x) = true ∧ ∀ k, k < nxt g b r x → due g b r x k = false := by
  obtain ⟨k, hk, h1, h2⟩ := wkMin_due hb h
  have hd := (due_iff hg (x := x) hb hk).2 ⟨h1, h2⟩
  unfold nxt
  cases hf : (List.range g.length).find? (due g b r x) with
  | none => exact absurd hd (List.find?_eq_none.1 hf k (List.mem_range.2 hk))
  | some y =>
    obtain ⟨h3, pre, post, e, hn⟩ := List.find?_eq_some_iff_append.1 hf
    have hmem : y ∈ List.range g.length := by rw [e]; simp
    refine ⟨List.mem_range.1 hmem, h3, fun z hz => ?_⟩
    have hz0 : z < y := hz
    have hmz : z ∈ List.range g.length := List.mem_range.2 (by have := List.mem_range.1 hmem; omega)
    have hsort : (List.range g.length).Pairwise (· < ·) := List.pairwise_lt_range
    rw [e] at hmz hsort
    rcases List.mem_append.1 hmz with h2 | h2
    · have := hn z h2
      simpa using this
    · exfalso
      rcases List.mem_cons.1 h2 with rfl | h2
      · exact Nat.lt_irrefl _ hz
      · have := (List.pairwise_append.1 hsort).2.1
        have := (List.pairwise_cons.1 this).1 z h2
        have hz' : z < y := hz
        omega
theorem gpath_down {g : List (List Int)} (hg : graphB g = true) {a b : Nat} (ha : a < g.length) (hb : b < g.length) : ∀ r x u, DownI (ent g) g.length a b x u r → ∃ p, Least (ent g) g.length a b p ∧ b :: p = (gpath g b r x).reverse ++ (x :: u) := by
  intro r
  induction r with
  | zero =>
    intro x u h
    obtain ⟨rfl, h2⟩ := h.least
    exact ⟨u, h2, rfl⟩
  | succ r ih =>
    intro x u h
    have hm : wkMin (ent g) g.length b (r + 1) x := by
      rcases h.left with ⟨h1, _⟩ | h1
      · omega
      · exact h1
    obtain ⟨h1, h2, h3⟩ := nxt_spec hg hb hm
    obtain ⟨h4, h5⟩ := (due_iff hg (x := x) hb h1).1 h2
    have hs := h.step ha hb h1 h4 h5 (fun k' hk' hg' hd => by
      have := h3 k' hk'
      rw [(due_iff hg (x := x) hb (by omega)).2 ⟨hg', hd⟩] at this
      exact absurd this (by decide))
    obtain ⟨p, h6, h7⟩ := ih _ _ hs
    refine ⟨p, h6, ?_⟩
    rw [h7]
    show _ = (nxt g b r x :: gpath g b r (nxt g b r x)).reverse ++ (x :: u)
    rw [List.reverse_cons, List.append_assoc]; rfl
/-- The least word is the way down. -/
theorem least_path {g : List (List Int)} (hg : graphB g = true) {a b : Nat} (ha : a < g.length) (hb : b < g.length) {p : List Nat} (h : Least (ent g) g.length a b p) : (b :: p).reverse = a :: gpath g b (dTo g b a) a ∧ 0 < dTo g b a := by
  have hw := (rwk_wk ha _ _ h.walk).1
  have hp : 1 ≤ p.length := by
    cases hp : p with
    | nil => exact absurd hp h.ne
    | cons => simp
  rcases dTo_min hg hb ha with ⟨_, h2⟩ | ⟨_, h2⟩
  · exact absurd hw (h2 _ hp)
  · obtain ⟨q, h3, h4⟩ := gpath_down hg ha hb _ _ _ (DownI.start ha hb h2)
    rw [h.unique h3, h4]
    exact ⟨by simp, h2.1⟩
theorem gpath_len {g : List (List Int)} {b : Nat} : ∀ r x, (gpath g b r x).length = r := by
  intro r
  induction r with
  | zero => intro _; rfl
  | succ r ih => intro x; show (_ :: gpath g b r _).length = _; rw [List.length_cons, ih]
theorem dTo_le (g : List (List Int)) (b i : Nat) : dTo g b i ≤ 8 := by
  unfold dTo
  cases hf : (List.range 9).find? fun t => decide (1 ≤ t ∧ 0 < pwG g t i b) with
  | none => exact Nat.zero_le _
  | some r =>
    have := List.mem_range.1 (List.mem_of_find?_eq_some hf)
    show r ≤ 8
    omega

/-- A list of states as ints. -/
def natL (l : List Nat) : List Int := l.map fun (k : Nat) => (k : Int)
theorem natL_len (l : List Nat) : (natL l).length = l.length := by simp [natL]
theorem natL_snoc (l : List Nat) (k : Nat) : natL (l ++ [k]) = natL l ++ [(k : Int)] := by simp [natL]
def walkAsked (g : List (List Int)) (x y : Int) : Bool := graphB g && inB x 0 ((g.length : Int) - 1) && inB y 0 ((g.length : Int) - 1)
/-- What both ShortestWalk functions return. -/
def ShortestWalk_v (g : List (List Int)) (x y : Int) : List Int × Bool :=
  if walkAsked g x y = true ∧ 0 < dTo g y.toNat x.toNat then (natL (x.toNat :: gpath g y.toNat (dTo g y.toNat x.toNat) x.toNat), true) else ([], false)
theorem ShortestWalk_len (g : List (List Int)) (x y : Int) : szIntS (ShortestWalk_v g x y).1 ≤ 1099511627776 := by
  unfold ShortestWalk_v szIntS
  split
  · show (natL _).length ≤ _
    rw [natL_len, List.length_cons, gpath_len]
    have := dTo_le g y.toNat x.toNat
    omega
  · simp
theorem ShortestWalk_no {g : List (List Int)} {x y : Int} (h : walkAsked g x y = false) : ShortestWalk_v g x y = ([], false) := by
  unfold ShortestWalk_v; rw [if_neg (by rw [h]; simp)]
theorem ShortestWalk_none {g : List (List Int)} {a b : Nat} (h : dTo g b a = 0) : ShortestWalk_v g a b = ([], false) := by
  unfold ShortestWalk_v; rw [if_neg (by simp [h])]
theorem ShortestWalk_some {g : List (List Int)} {a b : Nat} (h : walkAsked g a b = true) (h2 : 0 < dTo g b a) : ShortestWalk_v g a b = (natL (a :: gpath g b (dTo g b a) a), true) := by
  unfold ShortestWalk_v; rw [if_pos (by simpa [h] using h2)]; simp

end Go.Proofs.Ytblippeklbhepaa

/- Words on slices of slices of ints, as YtblippeklbhepaaLib has for slices of ints. -/
import Derived.Test.YtblippeklbhepaaInts
import Derived.Test.YtblippeklbhepaaFuncs
namespace Go.Proofs.Ytblippeklbhepaa
open Go.RowKit

/-- Row i. -/
def row (xss : List (List Int)) (i : Nat) : List Int := (xss[i]?).getD []
theorem row_eq {xss : List (List Int)} {i : Nat} (h : i < xss.length) : row xss i = xss[i] := by simp [row, List.getElem?_eq_getElem h]
/-- How many values they hold. -/
def szIntSS (xss : List (List Int)) : Nat := xss.length + (xss.map List.length).sum
/-- How many numbers a mark writes. -/
def cntIntSS (xss : List (List Int)) : Nat := (xss.map List.length).sum
theorem cntIntSS_le (xss : List (List Int)) : cntIntSS xss ≤ 4 * szIntSS xss := by unfold cntIntSS szIntSS; omega
theorem row_len_le {xss : List (List Int)} {i : Nat} (h : i < xss.length) : (row xss i).length ≤ cntIntSS xss := by
  induction xss generalizing i with
  | nil => simp at h
  | cons x xss ih =>
    simp only [cntIntSS, List.map_cons, List.sum_cons]
    rcases i with _ | i
    · simp [row]
    · have := ih (i := i) (by simpa using h)
      simp only [row, List.getElem?_cons_succ] at this ⊢
      unfold cntIntSS at this; omega

/-- A slice value that reads as these rows. -/
def RowsV (w : World) (v : Value) (xss : List (List Int)) : Prop :=
  ∃ ao cap, v = .slice ao xss.length cap ∧ (xss.length ≤ cap ∧ (ao = none → cap = 0)) ∧ cap ≤ maxLen ∧ ∀ i, i < xss.length → ∃ b off u, ao = some ⟨b, off, none⟩ ∧ w.cell? ⟨b, off + i, none⟩ = some u ∧ IntsV w u (row xss i)

theorem RowsV.below {w w' : World} {v : Value} {xss : List (List Int)} (h : RowsV w v xss) (hB : Below w.heap.size w w') : RowsV w' v xss := by
  obtain ⟨ao, cap, rfl, h1, h2, h⟩ := h
  refine ⟨ao, cap, rfl, h1, h2, fun i hi => ?_⟩
  obtain ⟨b, off, u, e, hc, hu⟩ := h i hi
  exact ⟨b, off, u, e, by rw [hB.cell (World.block_lt_of_cell? w _ hc)]; exact hc, hu.below hB⟩

/-- Rows that are each the call's own, in blocks of [B, E), no two in one block, none in block g. -/
def RowSet (w : World) (B E g : Nat) (us : List Value) (xss : List (List Int)) : Prop :=
  us.length = xss.length ∧ ∃ lo hi : Nat → Nat, ∀ i, i < us.length → B ≤ lo i ∧ hi i ≤ E ∧ (g < lo i ∨ hi i ≤ g) ∧ (∃ u, us[i]? = some u ∧ Own w (lo i) (hi i) u (row xss i)) ∧ ∀ j, j < us.length → j ≠ i → hi i ≤ lo j ∨ hi j ≤ lo i

/-- A slice of slices of the call's own. -/
def OwnSS (w : World) (B E : Nat) (v : Value) (xss : List (List Int)) : Prop :=
  (xss = [] ∧ ∃ ao cap, v = .slice ao 0 cap ∧ cap ≤ maxLen ∧ (ao = none → cap = 0)) ∨
  ∃ g cap us, v = .slice (some ⟨g, 0, none⟩) xss.length cap ∧ B ≤ g ∧ g < E ∧ w.ownsRow B 39 1 v xss.length us ∧ RowSet w B E g us xss

theorem OwnSS.nil (w : World) (B E : Nat) : OwnSS w B E (.slice none 0 0) [] := .inl ⟨rfl, none, 0, rfl, by simp [maxLen], fun _ => rfl⟩

theorem OwnSS.read {w : World} {B E : Nat} {v : Value} {xss : List (List Int)} (h : OwnSS w B E v xss) : RowsV w v xss := by
  rcases h with ⟨rfl, ao, cap, rfl, hc, hz⟩ | ⟨g, cap, us, rfl, h1, h2, h3, h4, lo, hi, h5⟩
  · exact ⟨ao, cap, rfl, ⟨Nat.zero_le _, hz⟩, hc, fun i hi => absurd hi (Nat.not_lt_zero i)⟩
  · have hcap : xss.length ≤ cap ∧ cap ≤ maxLen := by
      rcases h3.2 with ⟨h4, _⟩ | ⟨g', cap', cur, e', h4, h5, h6, h7, _⟩
      · simp at h4
      · simp only [Value.slice.injEq, Option.some.injEq, Addr.mk.injEq, and_true, true_and] at e'
        omega
    refine ⟨some ⟨g, 0, none⟩, cap, rfl, ⟨hcap.1, fun e => by cases e⟩, hcap.2, fun i hi' => ?_⟩
    obtain ⟨-, -, -, ⟨u, hu, ho⟩, -⟩ := h5 i (by omega)
    refine ⟨g, 0, u, rfl, ?_, ho.read⟩
    rw [Nat.zero_add, World.ownsRow.cellAt h3 i (by omega)]
    simp [hu]

theorem Try.infoInts : (Try.prog.info? 39).map (fun i => (i.zero, i.size, i.bytes)) = some (some (.slice none 0 0), 1, 24) := by kernel_rfl

/-! How a set of rows is made and filled. -/
theorem RowSet.nils (w : World) {B E g : Nat} (n : Nat) (hB : B ≤ g) (hE : g < E) : RowSet w B E g (List.replicate n (.slice none 0 0)) (List.replicate n []) := by
  refine ⟨by simp, fun _ => g + 1, fun _ => g + 1, fun i hi => ⟨show B ≤ g + 1 by omega, show g + 1 ≤ E by omega, .inl (show g < g + 1 by omega), ⟨.slice none 0 0, ?_, ?_⟩, fun j _ _ => .inl (Nat.le_refl _)⟩⟩
  · rw [List.length_replicate] at hi; simp [hi]
  · rw [List.length_replicate] at hi
    have : row (List.replicate n ([] : List Int)) i = [] := by simp [row, hi]
    rw [this]; exact Own.nil _ _ _
theorem RowSet.turned {w w' : World} {B E g B' E' : Nat} {us : List Value} {xss : List (List Int)} (h : RowSet w B E g us xss) (ht : Turned B' E' w w') (hd : (g ≤ B' ∧ E' ≤ g + 1) ∨ E ≤ B' ∨ E' ≤ B) : RowSet w' B E g us xss := by
  obtain ⟨h1, lo, hi, H⟩ := h
  refine ⟨h1, lo, hi, fun i hi' => ?_⟩
  obtain ⟨a, b, c, ⟨u, hu, ho⟩, d⟩ := H i hi'
  exact ⟨a, b, c, ⟨u, hu, ho.turned ht (by omega)⟩, d⟩
theorem RowSet.below {w w' : World} {B E g E' : Nat} {us : List Value} {xss : List (List Int)} (h : RowSet w B E g us xss) (hB : Below E' w w') (hE : E ≤ E') : RowSet w' B E g us xss := by
  obtain ⟨h1, lo, hi, H⟩ := h
  refine ⟨h1, lo, hi, fun i hi' => ?_⟩
  obtain ⟨a, b, c, ⟨u, hu, ho⟩, d⟩ := H i hi'
  exact ⟨a, b, c, ⟨u, hu, ho.below hB (by omega)⟩, d⟩
theorem RowSet.mono {w : World} {B E g B' E' : Nat} {us : List Value} {xss : List (List Int)} (h : RowSet w B E g us xss) (hB : B' ≤ B) (hE : E ≤ E') : RowSet w B' E' g us xss := by
  obtain ⟨h1, lo, hi, H⟩ := h
  refine ⟨h1, lo, hi, fun i hi' => ?_⟩
  obtain ⟨a, b, c, d, e⟩ := H i hi'
  exact ⟨by omega, by omega, c, d, e⟩
theorem RowSet.set {w : World} {B E g a b j : Nat} {us : List Value} {xss : List (List Int)} {u : Value} {ys : List Int} (h : RowSet w B E g us xss) (hu : Own w a b u ys) (hE : E ≤ a) (hBa : B ≤ a) (hab : a ≤ b) (hg : g < a) :
    RowSet w B b g (us.set j u) (xss.set j ys) := by
  obtain ⟨h1, lo, hi, H⟩ := h
  refine ⟨by simp [h1], fun i => if i = j then a else lo i, fun i => if i = j then b else hi i, fun i hi' => ?_⟩
  rw [List.length_set] at hi'
  obtain ⟨p, q, r, ⟨u', hu', ho⟩, t⟩ := H i hi'
  by_cases e : i = j
  · subst e
    simp only [if_true]
    refine ⟨hBa, Nat.le_refl _, .inl hg, ⟨u, by simp [hi'], ?_⟩, fun k hk hne => ?_⟩
    · have : row (xss.set i ys) i = ys := by simp [row, ← h1, hi']
      rw [this]; exact hu
    · rw [List.length_set] at hk
      rw [if_neg hne, if_neg hne]
      have := (H k hk).2.1
      right; omega
  · simp only [if_neg e]
    refine ⟨p, by omega, r, ⟨u', by rw [List.getElem?_set_ne (by omega)]; exact hu', ?_⟩, fun k hk hne => ?_⟩
    · have : row (xss.set j ys) i = row xss i := by simp [row, List.getElem?_set_ne (show j ≠ i by omega)]
      rw [this]; exact ho
    · rw [List.length_set] at hk
      by_cases e2 : k = j
      · rw [if_pos e2, if_pos e2]; left; omega
      · rw [if_neg e2, if_neg e2]; exact t k hk hne

/-- A row of slices at the head of block g, all that a walk wants of it. -/
def RowsAt (w : World) (B g n cap : Nat) (us : List Value) : Prop := w.ownsRow B 39 1 (.slice (some ⟨g, 0, none⟩) n cap) n us
theorem RowsAt.len {w : World} {B g n cap : Nat} {us : List Value} (h : RowsAt w B g n cap us) : us.length = n := by simpa using h.1
theorem RowsAt.cell {w : World} {B g n cap : Nat} {us : List Value} (h : RowsAt w B g n cap us) {j : Nat} {u : Value} (hu : us[j]? = some u) : w.cell? ⟨g, j, none⟩ = some u := by
  have hj := (List.getElem?_eq_some_iff.1 hu).1
  rw [World.ownsRow.cellAt h j (by have := h.len; omega)]; simp [hu]
theorem RowsAt.frozen {w : World} {B g n cap : Nat} {us : List Value} (h : RowsAt w B g n cap us) (j : Nat) : w.frozen? ⟨g, j, none⟩ = false := World.ownsRow.frozenAt h j
theorem RowsAt.stored {w : World} {B g n cap : Nat} {us : List Value} (h : RowsAt w B g n cap us) (j : Nat) (u : Value) : RowsAt (w.setCell ⟨g, j, none⟩ u) B g n cap (us.set j u) := (World.ownsRow.stored h j u).1
theorem RowsAt.below {w w' : World} {B E g n cap : Nat} {us : List Value} (h : RowsAt w B g n cap us) (hB : Below E w w') (hE : g < E) : RowsAt w' B g n cap us := by
  refine ⟨h.1, ?_⟩
  rcases h.2 with h3 | ⟨g', cap', cur, e', h4, h5, h6⟩
  · exact .inl h3
  · refine .inr ⟨g', cap', cur, e', h4, ?_, h6⟩
    simp only [Value.slice.injEq, Option.some.injEq, Addr.mk.injEq, and_true, true_and] at e'
    rw [hB.block g' (by omega)]; exact h5
theorem RowsAt.lt {w : World} {B g n cap : Nat} {us : List Value} (h : RowsAt w B g n cap us) : B ≤ g ∧ g < w.heap.size := World.ownsRow.lt h g rfl
theorem RowsAt.own {w : World} {B g n cap : Nat} {us : List Value} {xss : List (List Int)} (h : RowsAt w B g n cap us) (hr : RowSet w B w.heap.size g us xss) : OwnSS w B w.heap.size (.slice (some ⟨g, 0, none⟩) n cap) xss := by
  have e : xss.length = n := by rw [← hr.1]; exact h.len
  subst e
  exact .inr ⟨g, cap, us, rfl, h.lt.1, h.lt.2, h, hr⟩
/-- 'make([][]int, n)': n times nil. -/
theorem rows_made {w w1 : World} {B n : Nat} (h : w1.ownsRow B 39 1 (.slice (some ⟨w.heap.size, 0, none⟩) n n) n (madeCells #[Value.slice none 0 0] n).toList) : RowsAt w1 B w.heap.size n n (List.replicate n (.slice none 0 0)) := by
  unfold RowsAt; rw [← toList_madeCells_one]; exact h

theorem mat_fill (xss : List (List Int)) (n k : Nat) (hk : k < n) (hn : xss.length = n) : (xss.take k ++ List.replicate (n - k) []).set k (row xss k) = xss.take (k + 1) ++ List.replicate (n - (k + 1)) [] := by
  have h1 : n - k = (n - (k + 1)) + 1 := by omega
  have e2 : min k xss.length = k := by omega
  have h2 : xss.take (k + 1) = xss.take k ++ [row xss k] := by rw [List.take_add_one, List.getElem?_eq_getElem (by omega), row_eq (by omega)]; rfl
  rw [h1, List.replicate_succ, List.set_append_right _ _ (by rw [List.length_take]; omega), List.length_take, e2, Nat.sub_self, h2, List.append_assoc]; rfl



theorem RowSet.turn {w : World} {B E g j : Nat} {us : List Value} {xss : List (List Int)} (h : RowSet w B E g us xss) (hj : j < us.length) :
    ∃ a b u, us[j]? = some u ∧ Own w a b u (row xss j) ∧ B ≤ a ∧ b ≤ E ∧ (g < a ∨ b ≤ g) ∧ ∀ w' ys, Own w' a b u ys → Turned a b w w' → RowSet w' B E g us (xss.set j ys) := by
  obtain ⟨h1, lo, hi, H⟩ := h
  obtain ⟨p, q, r, ⟨u, hu, ho⟩, t⟩ := H j hj
  refine ⟨lo j, hi j, u, hu, ho, p, q, r, fun w' ys hy ht => ⟨by simp [h1], lo, hi, fun i hi' => ?_⟩⟩
  obtain ⟨p', q', r', ⟨u', hu', ho'⟩, t'⟩ := H i hi'
  refine ⟨p', q', r', ?_, t'⟩
  by_cases e : i = j
  · subst e
    refine ⟨u, hu, ?_⟩
    have : row (xss.set i ys) i = ys := by simp [row, ← h1, hi']
    rw [this]; exact hy
  · refine ⟨u', hu', ?_⟩
    have : row (xss.set j ys) i = row xss i := by simp [row, List.getElem?_set_ne (show j ≠ i by omega)]
    rw [this]
    exact ho'.turned ht (t i hi' e).symm
theorem RowsAt.turned {w w' : World} {B g n cap a b : Nat} {us : List Value} (h : RowsAt w B g n cap us) (ht : Turned a b w w') (hg : g < a ∨ b ≤ g) : RowsAt w' B g n cap us := by
  refine ⟨h.1, ?_⟩
  rcases h.2 with h3 | ⟨g', cap', cur, e', h4, h5, h6⟩
  · exact .inl h3
  · refine .inr ⟨g', cap', cur, e', h4, ?_, h6⟩
    simp only [Value.slice.injEq, Option.some.injEq, Addr.mk.injEq, and_true, true_and] at e'
    rw [ht.block g' (by omega)]; exact h5




theorem OwnSS.below {w w' : World} {B E E' : Nat} {v : Value} {xss : List (List Int)} (h : OwnSS w B E v xss) (hB : Below E' w w') (hE : E ≤ E') : OwnSS w' B E v xss := by
  rcases h with h | ⟨g, cap, us, rfl, h1, h2, h3, h4⟩
  · exact .inl h
  · exact .inr ⟨g, cap, us, rfl, h1, h2, RowsAt.below h3 hB (by omega), h4.below hB hE⟩
theorem OwnSS.mono {w : World} {B E B' E' : Nat} {v : Value} {xss : List (List Int)} (h : OwnSS w B E v xss) (hB : B' ≤ B) (hE : E ≤ E') : OwnSS w B' E' v xss := by
  rcases h with h | ⟨g, cap, us, rfl, h1, h2, h3, h4⟩
  · exact .inl h
  · exact .inr ⟨g, cap, us, rfl, by omega, by omega, h3.mono hB, h4.mono hB hE⟩
theorem OwnSS.turned {w w' : World} {B E B' E' : Nat} {v : Value} {xss : List (List Int)} (h : OwnSS w B E v xss) (ht : Turned B' E' w w') (hd : E ≤ B' ∨ E' ≤ B) : OwnSS w' B E v xss := by
  rcases h with h | ⟨g, cap, us, rfl, h1, h2, h3, h4⟩
  · exact .inl h
  · exact .inr ⟨g, cap, us, rfl, h1, h2, RowsAt.turned h3 ht (by omega), h4.turned ht (by omega)⟩

end Go.Proofs.Ytblippeklbhepaa

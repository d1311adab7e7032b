/- Words on slices of bools in memory, and on tables of them: as YtblippeklbhepaaLib and YtblippeklbhepaaTab have them for ints (printed by boolify.py). No conditions. -/
import Derived.Test.YtblippeklbhepaaTab
namespace Go.Proofs.Ytblippeklbhepaa
open Go.RowKit

theorem Try.infoBool : (Try.prog.info? 4).map (fun i => (i.zero, i.size, i.bytes)) = some (some (.bool false), 1, 1) := by kernel_rfl
theorem Try.infoBools : (Try.prog.info? 94).map (fun i => (i.zero, i.size, i.bytes)) = some (some (.slice none 0 0), 1, 24) := by kernel_rfl

/-- Element i of a list of ints, 0 beyond its end; a word that no rule opens. -/
def nthB (xs : List Bool) (i : Nat) : Bool := xs[i]?.getD false

theorem nth_eqB {xs : List Bool} {i : Nat} (h : i < xs.length) : nthB xs i = xs[i] := by unfold nthB; rw [List.getElem?_eq_getElem h]; rfl

theorem nth_memB {xs : List Bool} {i : Nat} (h : i < xs.length) : nthB xs i ∈ xs := by rw [nth_eqB h]; exact List.getElem_mem h

theorem take_nthB {xs : List Bool} {k : Nat} (h : k < xs.length) : xs.take (k + 1) = xs.take k ++ [nthB xs k] := by
  rw [List.take_add_one, List.getElem?_eq_getElem h, nth_eqB h]; rfl

/-- A slice value that reads as these ints. -/
def BoolsV (w : World) (v : Value) (xs : List Bool) : Prop :=
  ∃ ao cap, v = .slice ao xs.length cap ∧ (xs.length ≤ cap ∧ (ao = none → cap = 0)) ∧ cap ≤ maxLen ∧ ∀ i, i < xs.length → ∃ b off, ao = some ⟨b, off, none⟩ ∧ w.cell? ⟨b, off + i, none⟩ = some (.bool (nthB xs i))

theorem BoolsV.below {w w' : World} {v : Value} {xs : List Bool} (h : BoolsV w v xs) (hB : Below w.heap.size w w') : BoolsV w' v xs := by
  obtain ⟨ao, cap, rfl, h1, h2, h⟩ := h
  refine ⟨ao, cap, rfl, h1, h2, fun i hi => ?_⟩
  obtain ⟨b, off, e, hc⟩ := h i hi
  exact ⟨b, off, e, by rw [hB.cell (World.block_lt_of_cell? w _ hc)]; exact hc⟩

/-- A slice of the call's own: its block lies in [B, E); or it has no elements. -/
def OwnB (w : World) (B E : Nat) (v : Value) (xs : List Bool) : Prop :=
  (xs = [] ∧ ∃ ao cap, v = .slice ao 0 cap ∧ cap ≤ maxLen ∧ (ao = none → cap = 0)) ∨
  ∃ g cap, v = .slice (some ⟨g, 0, none⟩) xs.length cap ∧ B ≤ g ∧ g < E ∧ w.ownsRow B 4 1 v xs.length (xs.map (Value.bool))

theorem OwnB.mono {w : World} {B E B' E' : Nat} {v : Value} {xs : List Bool} (h : OwnB w B E v xs) (hB : B' ≤ B) (hE : E ≤ E') : OwnB w B' E' v xs := by
  rcases h with h | ⟨g, cap, e, h1, h2, h3⟩
  · exact .inl h
  · exact .inr ⟨g, cap, e, by omega, by omega, h3.mono hB⟩

theorem OwnB.below {w w' : World} {B E E' : Nat} {v : Value} {xs : List Bool} (h : OwnB w B E v xs) (hB : Below E' w w') (hE : E ≤ E') : OwnB w' B E v xs := by
  rcases h with h | ⟨g, cap, e, h1, h2, h3⟩
  · exact .inl h
  · refine .inr ⟨g, cap, e, h1, h2, h3.1, ?_⟩
    rcases h3.2 with h3 | ⟨g', cap', cur, e', h4, h5, h6⟩
    · exact .inl h3
    · refine .inr ⟨g', cap', cur, e', h4, ?_, h6⟩
      subst e
      simp only [Value.slice.injEq, Option.some.injEq, Addr.mk.injEq, and_true, true_and] at e'
      rw [hB.block g' (by omega)]; exact h5

theorem OwnB.row {w : World} {B : Nat} {v : Value} {n : Nat} {xs : List Bool} (h : w.ownsRow B 4 1 v n (xs.map (Value.bool))) : OwnB w B w.heap.size v xs := by
  have hn : xs.length = n := by simpa using h.1
  subst hn
  rcases h.2 with ⟨rfl, h0⟩ | ⟨g, cap, cur, rfl, h1, h2, h3, h4, h5, h6⟩
  · exact .inl ⟨List.eq_nil_of_length_eq_zero h0, none, 0, by simp, by simp [maxLen], fun _ => rfl⟩
  · exact .inr ⟨g, cap, rfl, h1, (Array.getElem?_eq_some_iff.1 h2).1, h⟩

theorem ownsRow_nthB {w : World} {B g n cap : Nat} {xs : List Bool} (h : w.ownsRow B 4 1 (.slice (some ⟨g, 0, none⟩) n cap) n (xs.map (Value.bool))) {j : Nat} (hj : j < n) : w.cell? ⟨g, j, none⟩ = some (.bool (nthB xs j)) := by
  have hl : xs.length = n := by simpa using h.1
  rw [World.ownsRow.cellAt h j (by omega)]
  have hj' : j < xs.length := by omega
  simp [nthB, List.getElem?_eq_getElem hj']

theorem OwnB.read {w : World} {B E : Nat} {v : Value} {xs : List Bool} (h : OwnB w B E v xs) : BoolsV w v xs := by
  rcases h with ⟨rfl, ao, cap, rfl, hc, hz⟩ | ⟨g, cap, rfl, h1, h2, h3⟩
  · exact ⟨ao, cap, rfl, ⟨Nat.zero_le _, hz⟩, hc, fun i hi => absurd hi (Nat.not_lt_zero i)⟩
  · have hcap : xs.length ≤ cap ∧ cap ≤ maxLen := by
      rcases h3.2 with ⟨h4, _⟩ | ⟨g', cap', cur, e', h4, h5, h6, h7, _⟩
      · simp at h4
      · simp only [Value.slice.injEq, Option.some.injEq, Addr.mk.injEq, and_true, true_and] at e'
        omega
    refine ⟨some ⟨g, 0, none⟩, cap, rfl, ⟨hcap.1, fun e => by cases e⟩, hcap.2, fun i hi => ⟨g, 0, rfl, ?_⟩⟩
    rw [Nat.zero_add]
    exact ownsRow_nthB h3 hi

/-- A row of ints at the head of block g, all that a walk wants of it. -/
def RowAtB (w : World) (B g n cap : Nat) (xs : List Bool) : Prop := w.ownsRow B 4 1 (.slice (some ⟨g, 0, none⟩) n cap) n (xs.map (Value.bool))

theorem RowAtB.cell {w : World} {B g n cap : Nat} {xs : List Bool} (h : RowAtB w B g n cap xs) {j : Nat} (hj : j < n) : w.cell? ⟨g, j, none⟩ = some (.bool (nthB xs j)) := ownsRow_nthB h hj

theorem RowAtB.frozen {w : World} {B g n cap : Nat} {xs : List Bool} (h : RowAtB w B g n cap xs) (j : Nat) : w.frozen? ⟨g, j, none⟩ = false := World.ownsRow.frozenAt h j

theorem RowAtB.stored {w : World} {B g n cap : Nat} {xs : List Bool} (h : RowAtB w B g n cap xs) (j : Nat) (x : Bool) : RowAtB (w.setCell ⟨g, j, none⟩ (.bool x)) B g n cap (xs.set j x) := by
  have := (World.ownsRow.stored h j (.bool x)).1
  unfold RowAtB; rw [List.map_set]; exact this

theorem RowAtB.lt {w : World} {B g n cap : Nat} {xs : List Bool} (h : RowAtB w B g n cap xs) : B ≤ g ∧ g < w.heap.size := World.ownsRow.lt h g rfl

theorem RowAtB.len {w : World} {B g n cap : Nat} {xs : List Bool} (h : RowAtB w B g n cap xs) : xs.length = n := by simpa using h.1

theorem RowAtB.own {w : World} {B g n cap : Nat} {xs : List Bool} (h : RowAtB w B g n cap xs) : OwnB w B w.heap.size (.slice (some ⟨g, 0, none⟩) n cap) xs := OwnB.row h

theorem RowAtB.ints {w : World} {B g n cap : Nat} {xs : List Bool} (h : RowAtB w B g n cap xs) : BoolsV w (.slice (some ⟨g, 0, none⟩) n cap) xs := h.own.read

theorem RowAtB.kept {w w' : World} {B g n cap : Nat} {xs : List Bool} {row : Option Nat} (h : RowAtB w B g n cap xs) (hg : w.grownBy w' row) (hr : row ≠ some g) : RowAtB w' B g n cap xs :=
  World.ownsRow.kept h hg (.inr (by simpa [Value.ownBlock] using fun e => hr e.symm))

theorem RowAtB.below {w w' : World} {B E g n cap : Nat} {xs : List Bool} (h : RowAtB w B g n cap xs) (hB : Below E w w') (hE : g < E) : RowAtB w' B g n cap xs := by
  refine ⟨h.1, ?_⟩
  rcases h.2 with h3 | ⟨g', cap', cur, e', h4, h5, h6⟩
  · exact .inl h3
  · refine .inr ⟨g', cap', cur, e', h4, ?_, h6⟩
    simp only [Value.slice.injEq, Option.some.injEq, Addr.mk.injEq, and_true, true_and] at e'
    rw [hB.block g' (by omega)]; exact h5

/-- 'make([]int, n)': n zeros. -/
theorem row_madeB {w w1 : World} {B n : Nat} (h : w1.ownsRow B 4 1 (.slice (some ⟨w.heap.size, 0, none⟩) n n) n (madeCells #[Value.bool false] n).toList) : RowAtB w1 B w.heap.size n n (List.replicate n false) := by
  unfold RowAtB; rw [List.map_replicate, ← toList_madeCells_one]; exact h

/-- A slice of the call's own that is appended to: nil, or a row from block B on. -/
def GrowB (w : World) (B : Nat) (v : Value) (xs : List Bool) : Prop := w.ownsRow B 4 1 v xs.length (xs.map (Value.bool))

theorem GrowB.nil (w : World) (B : Nat) : GrowB w B (.slice none 0 0) [] := World.ownsRow_nil w B 4 1

theorem GrowB.own {w : World} {B : Nat} {v : Value} {xs : List Bool} (h : GrowB w B v xs) : OwnB w B w.heap.size v xs := OwnB.row h

theorem GrowB.read {w : World} {B : Nat} {v : Value} {xs : List Bool} (h : GrowB w B v xs) : BoolsV w v xs := h.own.read

theorem GrowB.form {w : World} {B : Nat} {v : Value} {xs : List Bool} (h : GrowB w B v xs) (hn : 0 < xs.length) : ∃ g cap, v = .slice (some ⟨g, 0, none⟩) xs.length cap ∧ RowAtB w B g xs.length cap xs := by
  rcases h.2 with ⟨rfl, h0⟩ | ⟨g, cap, cur, rfl, h1, h2, h3, h4, h5, h6⟩
  · omega
  · exact ⟨g, cap, rfl, h⟩

theorem GrowB.below {w w' : World} {B : Nat} {v : Value} {xs : List Bool} (h : GrowB w B v xs) (hB : Below w.heap.size w w') : GrowB w' B v xs := by
  refine ⟨h.1, ?_⟩
  rcases h.2 with h3 | ⟨g', cap', cur, e', h4, h5, h6⟩
  · exact .inl h3
  · exact .inr ⟨g', cap', cur, e', h4, by rw [hB.block g' (Array.getElem?_eq_some_iff.1 h5).1]; exact h5, h6⟩

theorem GrowB.belowB {w0 w w' : World} {B : Nat} {v : Value} {xs : List Bool} {b : Nat} (h : GrowB w B v xs) (hb : Below b w0 w) (hB : b ≤ B) (hsz : b ≤ w.heap.size) (hg : w.grownBy w' v.ownBlock) : Below b w0 w' :=
  hb.grown hg hsz (fun k hk => by have := (World.ownsRow.lt h k hk).1; omega)

theorem wpList_append_intB {ops : Array Oper} {rest : List Oper} {o : Oper} {a : Act} {w : World} {Q : Exit → Act → World → Prop} (hgd : o.guard = none) (s x : Operand)
    (ho : o.op = .call { callee := .builtin .append, args := #[s, x], argTypes := #[94, 94] }) (B : Nat) (v : Value) (xs : List Bool) (z : Bool) (c : Nat) (hs : a.eval s = v)
    (hx : a.eval x = .slice (some ⟨w.heap.size, 0, none⟩) 1 c) (hown : GrowB w B v xs) (hl : xs.length ≤ 1099511627776) (hB : B ≤ w.heap.size)
    (h : ∀ v' w', GrowB w' B v' (xs ++ [z]) → w.grownBy w' v.ownBlock → wpList Try.prog ops Q rest (a.put o.dst v') w') : wpList Try.prog ops Q (o :: rest) a (w.alloc (.cells #[.bool z] 4)) := by
  obtain ⟨i, hi, hz0, hz1, hz2⟩ := info_parts Try.infoBool
  refine wpList_append_own _ hgd s x 94 ho B 4 i (.bool false) 1 1 Try.underlying94 hi hz0 hz1 hz2 rfl (by decide) v xs.length _ hs (World.ownsRow.alloc hown _) ⟨w.heap.size, 0, none⟩ 1 c [.bool z] hx rfl (cell_one_new _ _ _) (by simp [Value.oneCell']) (by unfold maxLen; omega) (by omega) (by simp; omega) ?_
  intro v' w' h1 h2 _
  refine h v' w' (by unfold GrowB; rw [List.map_append, List.length_append]; exact h1) ((World.grownBy_alloc _ _ _).trans h2)

theorem OwnB.turned {w w' : World} {B E B' E' : Nat} {v : Value} {xs : List Bool} (h : OwnB w B E v xs) (ht : Turned B' E' w w') (hd : E ≤ B' ∨ E' ≤ B) : OwnB w' B E v xs := by
  rcases h with h | ⟨g, cap, e, h1, h2, h3⟩
  · exact .inl h
  · refine .inr ⟨g, cap, e, h1, h2, h3.1, ?_⟩
    rcases h3.2 with h3 | ⟨g', cap', cur, e', h4, h5, h6⟩
    · exact .inl h3
    · refine .inr ⟨g', cap', cur, e', h4, ?_, h6⟩
      subst e
      simp only [Value.slice.injEq, Option.some.injEq, Addr.mk.injEq, and_true, true_and] at e'
      rw [ht.block g' (by omega)]; exact h5

/-- A row of slices at the head of block g, all that a walk wants of it. -/
def RowsAtB (w : World) (B g n cap : Nat) (us : List Value) : Prop := w.ownsRow B 94 1 (.slice (some ⟨g, 0, none⟩) n cap) n us

theorem RowsAtB.len {w : World} {B g n cap : Nat} {us : List Value} (h : RowsAtB w B g n cap us) : us.length = n := by simpa using h.1

theorem RowsAtB.cell {w : World} {B g n cap : Nat} {us : List Value} (h : RowsAtB w B g n cap us) {j : Nat} {u : Value} (hu : us[j]? = some u) : w.cell? ⟨g, j, none⟩ = some u := by
  have hj := (List.getElem?_eq_some_iff.1 hu).1
  rw [World.ownsRow.cellAt h j (by have := h.len; omega)]; simp [hu]

theorem RowsAtB.frozen {w : World} {B g n cap : Nat} {us : List Value} (h : RowsAtB w B g n cap us) (j : Nat) : w.frozen? ⟨g, j, none⟩ = false := World.ownsRow.frozenAt h j

theorem RowsAtB.stored {w : World} {B g n cap : Nat} {us : List Value} (h : RowsAtB w B g n cap us) (j : Nat) (u : Value) : RowsAtB (w.setCell ⟨g, j, none⟩ u) B g n cap (us.set j u) := (World.ownsRow.stored h j u).1

theorem RowsAtB.below {w w' : World} {B E g n cap : Nat} {us : List Value} (h : RowsAtB w B g n cap us) (hB : Below E w w') (hE : g < E) : RowsAtB w' B g n cap us := by
  refine ⟨h.1, ?_⟩
  rcases h.2 with h3 | ⟨g', cap', cur, e', h4, h5, h6⟩
  · exact .inl h3
  · refine .inr ⟨g', cap', cur, e', h4, ?_, h6⟩
    simp only [Value.slice.injEq, Option.some.injEq, Addr.mk.injEq, and_true, true_and] at e'
    rw [hB.block g' (by omega)]; exact h5

theorem RowsAtB.lt {w : World} {B g n cap : Nat} {us : List Value} (h : RowsAtB w B g n cap us) : B ≤ g ∧ g < w.heap.size := World.ownsRow.lt h g rfl

/-- 'make([][]int, n)': n times nil. -/
theorem rows_madeB {w w1 : World} {B n : Nat} (h : w1.ownsRow B 94 1 (.slice (some ⟨w.heap.size, 0, none⟩) n n) n (madeCells #[Value.slice none 0 0] n).toList) : RowsAtB w1 B w.heap.size n n (List.replicate n (.slice none 0 0)) := by
  unfold RowsAtB; rw [← toList_madeCells_one]; exact h

theorem RowsAtB.turned {w w' : World} {B g n cap a b : Nat} {us : List Value} (h : RowsAtB w B g n cap us) (ht : Turned a b w w') (hg : g < a ∨ b ≤ g) : RowsAtB w' B g n cap us := by
  refine ⟨h.1, ?_⟩
  rcases h.2 with h3 | ⟨g', cap', cur, e', h4, h5, h6⟩
  · exact .inl h3
  · refine .inr ⟨g', cap', cur, e', h4, ?_, h6⟩
    simp only [Value.slice.injEq, Option.some.injEq, Addr.mk.injEq, and_true, true_and] at e'
    rw [ht.block g' (by omega)]; exact h5

/-- The list of f 0 .. f (n - 1). -/
def lstB (n : Nat) (f : Nat → Bool) : List Bool := (List.range n).map f

theorem lst_lenB (n : Nat) (f : Nat → Bool) : (lstB n f).length = n := by simp [lstB]

theorem nth_lstB {n i : Nat} {f : Nat → Bool} (h : i < n) : nthB (lstB n f) i = f i := by
  rw [nth_eqB (by rw [lst_lenB]; exact h)]; simp [lstB]

theorem lst_congrB {n : Nat} {f g : Nat → Bool} (h : ∀ i, i < n → f i = g i) : lstB n f = lstB n g := by
  unfold lstB; apply List.map_congr_left; intro i hi; exact h i (List.mem_range.1 hi)

theorem lst_setB (n j : Nat) (f : Nat → Bool) (x : Bool) : (lstB n f).set j x = lstB n (fun k => if k = j then x else f k) := by
  apply List.ext_getElem
  · simp [lstB]
  · intro i h1 h2
    simp only [lstB, List.getElem_set, List.getElem_map, List.getElem_range]
    by_cases e : j = i
    · subst e; simp
    · rw [if_neg e, if_neg (fun h => e h.symm)]

theorem lst_succB (n : Nat) (f : Nat → Bool) : lstB (n + 1) f = lstB n f ++ [f n] := by simp [lstB, List.range_succ]

/-- The entry (i, j) turned. -/
def updB (f : Nat → Nat → Bool) (i j : Nat) (x : Bool) : Nat → Nat → Bool := fun a c => if a = i ∧ c = j then x else f a c

theorem upd_rowB (f : Nat → Nat → Bool) (m i j : Nat) (x : Bool) : lstB m (updB f i j x i) = (lstB m (f i)).set j x := by
  rw [lst_setB]; exact lst_congrB fun k _ => by unfold updB; simp

theorem upd_neB {f : Nat → Nat → Bool} {i j a : Nat} {x : Bool} (h : a ≠ i) : updB f i j x a = f a := by
  funext c; unfold updB; rw [if_neg (fun q => h q.1)]

/-- A table of the call's own in blocks of [B, E): the rows' slices at the head of block g, each row in a block of its own. -/
structure MatTB (w : World) (B E g n cap m : Nat) (rb rc : Nat → Nat) (f : Nat → Nat → Bool) : Prop where
  outer : RowsAtB w B g n cap (rowsOf rb rc n m)
  rows : ∀ i, i < n → RowAtB w B (rb i) m (rc i) (lstB m (f i))
  inj : ∀ i j, i < n → j < n → rb i = rb j → i = j
  top : g < E ∧ ∀ i, i < n → rb i < E

theorem typesApartB {w : World} {B B' g r n cap m c : Nat} {us : List Value} {xs : List Bool} (h : RowsAtB w B g n cap us) (k : RowAtB w B' r m c xs) : r ≠ g := by
  rintro rfl
  rcases h.2 with ⟨h, _⟩ | ⟨g1, _, cur, e1, _, h1, _⟩
  · cases h
  rcases k.2 with ⟨k, _⟩ | ⟨g2, _, cur2, e2, _, h2, _⟩
  · cases k
  simp only [Value.slice.injEq, Option.some.injEq, Addr.mk.injEq, and_true, true_and] at e1 e2
  obtain ⟨rfl, _⟩ := e1
  obtain ⟨rfl, _⟩ := e2
  rw [h1] at h2
  simp at h2

theorem MatTB.ne {w : World} {B E g n cap m : Nat} {rb rc : Nat → Nat} {f : Nat → Nat → Bool} (h : MatTB w B E g n cap m rb rc f) {i : Nat} (hi : i < n) : rb i ≠ g := typesApartB h.outer (h.rows i hi)

theorem MatTB.ptr {w : World} {B E g n cap m : Nat} {rb rc : Nat → Nat} {f : Nat → Nat → Bool} (h : MatTB w B E g n cap m rb rc f) {i : Nat} (hi : i < n) : w.cell? ⟨g, i, none⟩ = some (.slice (some ⟨rb i, 0, none⟩) m (rc i)) := h.outer.cell (rowsOf_get hi)

theorem MatTB.cell {w : World} {B E g n cap m : Nat} {rb rc : Nat → Nat} {f : Nat → Nat → Bool} (h : MatTB w B E g n cap m rb rc f) {i j : Nat} (hi : i < n) (hj : j < m) : w.cell? ⟨rb i, j, none⟩ = some (.bool (f i j)) := by
  rw [(h.rows i hi).cell hj, nth_lstB hj]

theorem MatTB.frozen {w : World} {B E g n cap m : Nat} {rb rc : Nat → Nat} {f : Nat → Nat → Bool} (h : MatTB w B E g n cap m rb rc f) {i : Nat} (hi : i < n) (j : Nat) : w.frozen? ⟨rb i, j, none⟩ = false := (h.rows i hi).frozen j

theorem MatTB.block {w : World} {B E g n cap m : Nat} {rb rc : Nat → Nat} {f : Nat → Nat → Bool} (h : MatTB w B E g n cap m rb rc f) {i : Nat} (hi : i < n) : B ≤ rb i ∧ rb i < E := ⟨(h.rows i hi).lt.1, h.top.2 i hi⟩

theorem RowAtB.turned {w w' : World} {B g n cap a b : Nat} {xs : List Bool} (h : RowAtB w B g n cap xs) (ht : Turned a b w w') (hg : g < a ∨ b ≤ g) : RowAtB w' B g n cap xs := by
  refine ⟨h.1, ?_⟩
  rcases h.2 with h3 | ⟨g', cap', cur, e', h4, h5, h6⟩
  · exact .inl h3
  · refine .inr ⟨g', cap', cur, e', h4, ?_, h6⟩
    simp only [Value.slice.injEq, Option.some.injEq, Addr.mk.injEq, and_true, true_and] at e'
    rw [ht.block g' (by omega)]; exact h5

theorem RowAtB.mono {w : World} {B B' g n cap : Nat} {xs : List Bool} (h : RowAtB w B g n cap xs) (hB : B' ≤ B) : RowAtB w B' g n cap xs := World.ownsRow.mono h hB

theorem MatTB.below {w w' : World} {B E g n cap m E' : Nat} {rb rc : Nat → Nat} {f : Nat → Nat → Bool} (h : MatTB w B E g n cap m rb rc f) (hB : Below E' w w') (hE : E ≤ E') : MatTB w' B E g n cap m rb rc f :=
  ⟨h.outer.below hB (Nat.lt_of_lt_of_le h.top.1 hE), fun i hi => (h.rows i hi).below hB (Nat.lt_of_lt_of_le (h.top.2 i hi) hE), h.inj, h.top⟩

theorem MatTB.turned {w w' : World} {B E g n cap m a b : Nat} {rb rc : Nat → Nat} {f : Nat → Nat → Bool} (h : MatTB w B E g n cap m rb rc f) (ht : Turned a b w w') (hd : E ≤ a ∨ b ≤ B) : MatTB w' B E g n cap m rb rc f :=
  ⟨h.outer.turned ht (by have := h.top.1; have := h.outer.lt.1; omega), fun i hi => (h.rows i hi).turned ht (by have := h.block hi; omega), h.inj, h.top⟩

theorem MatTB.mono {w : World} {B E g n cap m B' E' : Nat} {rb rc : Nat → Nat} {f : Nat → Nat → Bool} (h : MatTB w B E g n cap m rb rc f) (hB : B' ≤ B) (hE : E ≤ E') : MatTB w B' E' g n cap m rb rc f :=
  ⟨World.ownsRow.mono h.outer hB, fun i hi => (h.rows i hi).mono hB, h.inj, Nat.lt_of_lt_of_le h.top.1 hE, fun i hi => Nat.lt_of_lt_of_le (h.top.2 i hi) hE⟩

theorem MatTB.congr {w : World} {B E g n cap m : Nat} {rb rc : Nat → Nat} {f f' : Nat → Nat → Bool} (h : MatTB w B E g n cap m rb rc f) (hf : ∀ i j, i < n → j < m → f i j = f' i j) : MatTB w B E g n cap m rb rc f' :=
  ⟨h.outer, fun i hi => by rw [← lst_congrB fun j hj => hf i j hi hj]; exact h.rows i hi, h.inj, h.top⟩

theorem MatTB.stored {w : World} {B E g n cap m : Nat} {rb rc : Nat → Nat} {f : Nat → Nat → Bool} (h : MatTB w B E g n cap m rb rc f) {i : Nat} (hi : i < n) (j : Nat) (x : Bool) : MatTB (w.setCell ⟨rb i, j, none⟩ (.bool x)) B E g n cap m rb rc (updB f i j x) := by
  have ht : Turned (rb i) (rb i + 1) w (w.setCell ⟨rb i, j, none⟩ (.bool x)) := (Turned.refl _ _ w).setCell (p := ⟨rb i, j, none⟩) (Nat.le_refl _) (Nat.lt_succ_self _) _
  refine ⟨h.outer.turned ht (by have := h.ne hi; omega), fun k hk => ?_, h.inj, h.top⟩
  by_cases e : k = i
  · subst e
    rw [upd_rowB]; exact (h.rows k hk).stored j x
  · rw [upd_neB e]
    exact (h.rows k hk).turned ht (by have : rb k ≠ rb i := fun q => e (h.inj k i hk hi q); omega)

theorem MatTB.turn {w w0 : World} {B E g n cap m : Nat} {rb rc : Nat → Nat} {f : Nat → Nat → Bool} (h : MatTB w B E g n cap m rb rc f) {i : Nat} (hi : i < n) (j : Nat) (x : Bool) (ht : Turned B E w0 w) : Turned B E w0 (w.setCell ⟨rb i, j, none⟩ (.bool x)) :=
  ht.setCell (p := ⟨rb i, j, none⟩) (h.block hi).1 (h.block hi).2 _

/-- A slice of the call's own that is not empty lies at the head of a block. -/
theorem OwnB.at {w : World} {B E : Nat} {v : Value} {xs : List Bool} {n : Nat} (h : OwnB w B E v xs) (hn : xs.length = n) (h0 : 0 < n) : ∃ g cap, v = .slice (some ⟨g, 0, none⟩) n cap ∧ B ≤ g ∧ g < E ∧ RowAtB w B g n cap xs := by
  subst hn
  rcases h with ⟨rfl, _⟩ | ⟨g, cap, rfl, h1, h2, h3⟩
  · exact absurd h0 (by simp)
  · exact ⟨g, cap, rfl, h1, h2, h3⟩

/-- A table of the call's own of which the first k rows have been laid; the other ones are nil. -/
structure MatPB (w : World) (B E g n cap k m : Nat) (rb rc : Nat → Nat) (f : Nat → Nat → Bool) : Prop where
  outer : RowsAtB w B g n cap (rowsOf rb rc k m ++ List.replicate (n - k) (.slice none 0 0))
  rows : ∀ i, i < k → RowAtB w B (rb i) m (rc i) (lstB m (f i))
  inj : ∀ i j, i < k → j < k → rb i = rb j → i = j
  top : g < E ∧ ∀ i, i < k → rb i < E

theorem MatPB.zero {w : World} {B g n m : Nat} (h : RowsAtB w B g n n (List.replicate n (.slice none 0 0))) (rb rc : Nat → Nat) (f : Nat → Nat → Bool) : MatPB w B w.heap.size g n n 0 m rb rc f :=
  ⟨by simpa [rowsOf] using h, fun i hi => absurd hi (Nat.not_lt_zero i), fun i _ hi => absurd hi (Nat.not_lt_zero i), h.lt.2, fun i hi => absurd hi (Nat.not_lt_zero i)⟩

theorem MatPB.all {w : World} {B E g n cap m : Nat} {rb rc : Nat → Nat} {f : Nat → Nat → Bool} (h : MatPB w B E g n cap n m rb rc f) : MatTB w B E g n cap m rb rc f :=
  ⟨by simpa using h.outer, h.rows, h.inj, h.top⟩

theorem MatPB.below {w w' : World} {B E g n cap k m E' : Nat} {rb rc : Nat → Nat} {f : Nat → Nat → Bool} (h : MatPB w B E g n cap k m rb rc f) (hB : Below E' w w') (hE : E ≤ E') : MatPB w' B E g n cap k m rb rc f :=
  ⟨h.outer.below hB (Nat.lt_of_lt_of_le h.top.1 hE), fun i hi => (h.rows i hi).below hB (Nat.lt_of_lt_of_le (h.top.2 i hi) hE), h.inj, h.top⟩

theorem MatPB.cell {w : World} {B E g n cap k m : Nat} {rb rc : Nat → Nat} {f : Nat → Nat → Bool} (h : MatPB w B E g n cap k m rb rc f) (hk : k < n) : w.cell? ⟨g, k, none⟩ = some (.slice none 0 0) :=
  h.outer.cell (by rw [List.getElem?_append_right (by rw [rowsOf_len]; exact Nat.le_refl _), rowsOf_len, Nat.sub_self, List.getElem?_replicate, if_pos (by omega)])

theorem MatPB.frozen {w : World} {B E g n cap k m : Nat} {rb rc : Nat → Nat} {f : Nat → Nat → Bool} (h : MatPB w B E g n cap k m rb rc f) (j : Nat) : w.frozen? ⟨g, j, none⟩ = false := h.outer.frozen j

theorem MatPB.congr {w : World} {B E g n cap k m : Nat} {rb rc : Nat → Nat} {f f' : Nat → Nat → Bool} (h : MatPB w B E g n cap k m rb rc f) (hf : ∀ i j, i < k → j < m → f i j = f' i j) : MatPB w B E g n cap k m rb rc f' :=
  ⟨h.outer, fun i hi => by rw [← lst_congrB fun j hj => hf i j hi hj]; exact h.rows i hi, h.inj, h.top⟩

end Go.Proofs.Ytblippeklbhepaa

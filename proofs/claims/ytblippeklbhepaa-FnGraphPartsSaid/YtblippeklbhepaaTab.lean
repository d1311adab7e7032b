/- Tables of the call's own, each row in a block of its own; graphs that came in, entry by entry. No conditions. -/
import Derived.Test.YtblippeklbhepaaMat
namespace Go.Proofs.Ytblippeklbhepaa
open Go.RowKit

/-- The list of f 0 .. f (n - 1). -/
def lst (n : Nat) (f : Nat → Int) : List Int := (List.range n).map f
theorem lst_len (n : Nat) (f : Nat → Int) : (lst n f).length = n := by simp [lst]
theorem nth_lst {n i : Nat} {f : Nat → Int} (h : i < n) : nth (lst n f) i = f i := by
  rw [nth_eq (by rw [lst_len]; exact h)]; simp [lst]
theorem lst_congr {n : Nat} {f g : Nat → Int} (h : ∀ i, i < n → f i = g i) : lst n f = lst n g := by
  unfold lst; apply List.map_congr_left; intro i hi; exact h i (List.mem_range.1 hi)
theorem lst_set (n j : Nat) (f : Nat → Int) (x : Int) : (lst n f).set j x = lst n (fun k => if k = j then x else f k) := by
  apply List.ext_getElem
  · simp [lst]
  · intro i h1 h2
    simp only [lst, List.getElem_set, List.getElem_map, List.getElem_range]
    by_cases e : j = i
    · subst e; simp
    · rw [if_neg e, if_neg (fun h => e h.symm)]
theorem eq_lst {xs : List Int} {n : Nat} (h : xs.length = n) : xs = lst n (nth xs) := by
  subst h
  apply List.ext_getElem
  · simp [lst]
  · intro i h1 h2; simp [lst, nth_eq h1]
theorem lst_zero (n : Nat) : List.replicate n (0 : Int) = lst n (fun _ => 0) := by
  apply List.ext_getElem
  · simp [lst]
  · intro i h1 h2; simp [lst]
theorem lst_succ (n : Nat) (f : Nat → Int) : lst (n + 1) f = lst n f ++ [f n] := by simp [lst, List.range_succ]

/-- The table of n rows of m entries f i j. -/
def tab (n m : Nat) (f : Nat → Nat → Int) : List (List Int) := (List.range n).map fun i => lst m (f i)
theorem tab_len (n m : Nat) (f : Nat → Nat → Int) : (tab n m f).length = n := by simp [tab]
theorem tab_row {n m i : Nat} {f : Nat → Nat → Int} (h : i < n) : row (tab n m f) i = lst m (f i) := by simp [row, tab, h]
theorem tab_congr {n m : Nat} {f g : Nat → Nat → Int} (h : ∀ i j, i < n → j < m → f i j = g i j) : tab n m f = tab n m g := by
  unfold tab; apply List.map_congr_left; intro i hi; exact lst_congr fun j hj => h i j (List.mem_range.1 hi) hj
def ent (g : List (List Int)) (i j : Nat) : Int := nth (row g i) j
theorem ent_tab {n m i j : Nat} {f : Nat → Nat → Int} (hi : i < n) (hj : j < m) : ent (tab n m f) i j = f i j := by
  unfold ent; rw [tab_row hi, nth_lst hj]
theorem eq_tab {g : List (List Int)} {n m : Nat} (h : g.length = n) (hr : ∀ i, i < n → (row g i).length = m) : g = tab n m (ent g) := by
  subst h
  apply List.ext_getElem
  · simp [tab]
  · intro i h1 h2
    simp only [tab, List.getElem_map, List.getElem_range]
    rw [← row_eq h1]; exact eq_lst (hr i h1)
theorem cnt_tab (n m : Nat) (f : Nat → Nat → Int) : cntIntSS (tab n m f) = n * m := by
  induction n with
  | zero => simp [tab, cntIntSS]
  | succ n ih =>
    have e : tab (n + 1) m f = tab n m f ++ [lst m (f n)] := by simp [tab, List.range_succ]
    unfold cntIntSS at ih ⊢
    rw [e, List.map_append, List.sum_append, ih, Nat.add_mul]
    simp [lst_len]
theorem sz_tab (n m : Nat) (f : Nat → Nat → Int) : szIntSS (tab n m f) = n + n * m := by
  have := cnt_tab n m f
  unfold szIntSS
  unfold cntIntSS at this
  rw [this, tab_len]

/-- The entry (i, j) turned. -/
def upd (f : Nat → Nat → Int) (i j : Nat) (x : Int) : Nat → Nat → Int := fun a c => if a = i ∧ c = j then x else f a c
theorem upd_row (f : Nat → Nat → Int) (m i j : Nat) (x : Int) : lst m (upd f i j x i) = (lst m (f i)).set j x := by
  rw [lst_set]; exact lst_congr fun k _ => by unfold upd; simp
theorem upd_ne {f : Nat → Nat → Int} {i j a : Nat} {x : Int} (h : a ≠ i) : upd f i j x a = f a := by
  funext c; unfold upd; rw [if_neg (fun q => h q.1)]

/-- The slices of the rows of a table of the call's own. -/
def rowsOf (rb rc : Nat → Nat) (n m : Nat) : List Value := (List.range n).map fun i => .slice (some ⟨rb i, 0, none⟩) m (rc i)
theorem rowsOf_get {rb rc : Nat → Nat} {n m i : Nat} (h : i < n) : (rowsOf rb rc n m)[i]? = some (.slice (some ⟨rb i, 0, none⟩) m (rc i)) := by simp [rowsOf, h]
theorem rowsOf_len (rb rc : Nat → Nat) (n m : Nat) : (rowsOf rb rc n m).length = n := by simp [rowsOf]
theorem rowsOf_congr {rb rc rb' rc' : Nat → Nat} {n m : Nat} (h : ∀ i, i < n → rb i = rb' i ∧ rc i = rc' i) : rowsOf rb rc n m = rowsOf rb' rc' n m := by
  unfold rowsOf; apply List.map_congr_left; intro i hi; rw [(h i (List.mem_range.1 hi)).1, (h i (List.mem_range.1 hi)).2]
theorem rowsOf_succ (rb rc : Nat → Nat) (n m : Nat) : rowsOf rb rc (n + 1) m = rowsOf rb rc n m ++ [.slice (some ⟨rb n, 0, none⟩) m (rc n)] := by simp [rowsOf, List.range_succ]

/-- A table of the call's own in blocks of [B, E): the rows' slices at the head of block g, each row in a block of its own. -/
structure MatT (w : World) (B E g n cap m : Nat) (rb rc : Nat → Nat) (f : Nat → Nat → Int) : Prop where
  outer : RowsAt w B g n cap (rowsOf rb rc n m)
  rows : ∀ i, i < n → RowAt w B (rb i) m (rc i) (lst m (f i))
  inj : ∀ i j, i < n → j < n → rb i = rb j → i = j
  top : g < E ∧ ∀ i, i < n → rb i < E

theorem typesApart {w : World} {B B' g r n cap m c : Nat} {us : List Value} {xs : List Int} (h : RowsAt w B g n cap us) (k : RowAt w B' r m c xs) : r ≠ g := by
  rintro rfl
  rcases h.2 with ⟨h, _⟩ | ⟨g1, _, cur, e1, _, h1, _⟩
  · cases h
  rcases k.2 with ⟨k, _⟩ | ⟨g2, _, cur2, e2, _, h2, _⟩
  · cases k
  simp only [Value.slice.injEq, Option.some.injEq, Addr.mk.injEq, and_true, true_and] at e1 e2
  obtain ⟨rfl, _⟩ := e1
  obtain ⟨rfl, _⟩ := e2
  rw [h1] at h2
  simp at h2

theorem MatT.ne {w : World} {B E g n cap m : Nat} {rb rc : Nat → Nat} {f : Nat → Nat → Int} (h : MatT w B E g n cap m rb rc f) {i : Nat} (hi : i < n) : rb i ≠ g := typesApart h.outer (h.rows i hi)
theorem MatT.ptr {w : World} {B E g n cap m : Nat} {rb rc : Nat → Nat} {f : Nat → Nat → Int} (h : MatT w B E g n cap m rb rc f) {i : Nat} (hi : i < n) : w.cell? ⟨g, i, none⟩ = some (.slice (some ⟨rb i, 0, none⟩) m (rc i)) := h.outer.cell (rowsOf_get hi)
theorem MatT.cell {w : World} {B E g n cap m : Nat} {rb rc : Nat → Nat} {f : Nat → Nat → Int} (h : MatT w B E g n cap m rb rc f) {i j : Nat} (hi : i < n) (hj : j < m) : w.cell? ⟨rb i, j, none⟩ = some (.int .i64 (f i j)) := by
  rw [(h.rows i hi).cell hj, nth_lst hj]
theorem MatT.frozen {w : World} {B E g n cap m : Nat} {rb rc : Nat → Nat} {f : Nat → Nat → Int} (h : MatT w B E g n cap m rb rc f) {i : Nat} (hi : i < n) (j : Nat) : w.frozen? ⟨rb i, j, none⟩ = false := (h.rows i hi).frozen j
theorem MatT.block {w : World} {B E g n cap m : Nat} {rb rc : Nat → Nat} {f : Nat → Nat → Int} (h : MatT w B E g n cap m rb rc f) {i : Nat} (hi : i < n) : B ≤ rb i ∧ rb i < E := ⟨(h.rows i hi).lt.1, h.top.2 i hi⟩

theorem RowAt.turned {w w' : World} {B g n cap a b : Nat} {xs : List Int} (h : RowAt w B g n cap xs) (ht : Turned a b w w') (hg : g < a ∨ b ≤ g) : RowAt w' B g n cap xs := by
  refine ⟨h.1, ?_⟩
  rcases h.2 with h3 | ⟨g', cap', cur, e', h4, h5, h6⟩
  · exact .inl h3
  · refine .inr ⟨g', cap', cur, e', h4, ?_, h6⟩
    simp only [Value.slice.injEq, Option.some.injEq, Addr.mk.injEq, and_true, true_and] at e'
    rw [ht.block g' (by omega)]; exact h5
theorem RowAt.mono {w : World} {B B' g n cap : Nat} {xs : List Int} (h : RowAt w B g n cap xs) (hB : B' ≤ B) : RowAt w B' g n cap xs := World.ownsRow.mono h hB

theorem MatT.below {w w' : World} {B E g n cap m E' : Nat} {rb rc : Nat → Nat} {f : Nat → Nat → Int} (h : MatT w B E g n cap m rb rc f) (hB : Below E' w w') (hE : E ≤ E') : MatT w' B E g n cap m rb rc f :=
  ⟨h.outer.below hB (Nat.lt_of_lt_of_le h.top.1 hE), fun i hi => (h.rows i hi).below hB (Nat.lt_of_lt_of_le (h.top.2 i hi) hE), h.inj, h.top⟩
theorem MatT.turned {w w' : World} {B E g n cap m a b : Nat} {rb rc : Nat → Nat} {f : Nat → Nat → Int} (h : MatT w B E g n cap m rb rc f) (ht : Turned a b w w') (hd : E ≤ a ∨ b ≤ B) : MatT w' B E g n cap m rb rc f :=
  ⟨h.outer.turned ht (by have := h.top.1; have := h.outer.lt.1; omega), fun i hi => (h.rows i hi).turned ht (by have := h.block hi; omega), h.inj, h.top⟩
theorem MatT.mono {w : World} {B E g n cap m B' E' : Nat} {rb rc : Nat → Nat} {f : Nat → Nat → Int} (h : MatT w B E g n cap m rb rc f) (hB : B' ≤ B) (hE : E ≤ E') : MatT w B' E' g n cap m rb rc f :=
  ⟨World.ownsRow.mono h.outer hB, fun i hi => (h.rows i hi).mono hB, h.inj, Nat.lt_of_lt_of_le h.top.1 hE, fun i hi => Nat.lt_of_lt_of_le (h.top.2 i hi) hE⟩
theorem MatT.congr {w : World} {B E g n cap m : Nat} {rb rc : Nat → Nat} {f f' : Nat → Nat → Int} (h : MatT w B E g n cap m rb rc f) (hf : ∀ i j, i < n → j < m → f i j = f' i j) : MatT w B E g n cap m rb rc f' :=
  ⟨h.outer, fun i hi => by rw [← lst_congr fun j hj => hf i j hi hj]; exact h.rows i hi, h.inj, h.top⟩
theorem MatT.stored {w : World} {B E g n cap m : Nat} {rb rc : Nat → Nat} {f : Nat → Nat → Int} (h : MatT w B E g n cap m rb rc f) {i : Nat} (hi : i < n) (j : Nat) (x : Int) : MatT (w.setCell ⟨rb i, j, none⟩ (.int .i64 x)) B E g n cap m rb rc (upd f i j x) := by
  have ht : Turned (rb i) (rb i + 1) w (w.setCell ⟨rb i, j, none⟩ (.int .i64 x)) := (Turned.refl _ _ w).setCell (p := ⟨rb i, j, none⟩) (Nat.le_refl _) (Nat.lt_succ_self _) _
  refine ⟨h.outer.turned ht (by have := h.ne hi; omega), fun k hk => ?_, h.inj, h.top⟩
  by_cases e : k = i
  · subst e
    rw [upd_row]; exact (h.rows k hk).stored j x
  · rw [upd_ne e]
    exact (h.rows k hk).turned ht (by have : rb k ≠ rb i := fun q => e (h.inj k i hk hi q); omega)
theorem MatT.turn {w w0 : World} {B E g n cap m : Nat} {rb rc : Nat → Nat} {f : Nat → Nat → Int} (h : MatT w B E g n cap m rb rc f) {i : Nat} (hi : i < n) (j : Nat) (x : Int) (ht : Turned B E w0 w) : Turned B E w0 (w.setCell ⟨rb i, j, none⟩ (.int .i64 x)) :=
  ht.setCell (p := ⟨rb i, j, none⟩) (h.block hi).1 (h.block hi).2 _

theorem MatT.own {w : World} {B E g n cap m : Nat} {rb rc : Nat → Nat} {f : Nat → Nat → Int} (h : MatT w B E g n cap m rb rc f) : OwnSS w B E (.slice (some ⟨g, 0, none⟩) n cap) (tab n m f) := by
  refine .inr ⟨g, cap, rowsOf rb rc n m, by rw [tab_len], h.outer.lt.1, h.top.1, by rw [tab_len]; exact h.outer, by rw [rowsOf_len, tab_len], rb, fun i => rb i + 1, fun i hi => ?_⟩
  rw [rowsOf_len] at hi
  refine ⟨(h.block hi).1, (h.block hi).2, by have := h.ne hi; show g < rb i ∨ rb i + 1 ≤ g; omega, ⟨_, rowsOf_get hi, ?_⟩, fun j hj hne => ?_⟩
  · rw [tab_row hi]
    have hr := h.rows i hi
    have e : m = (lst m (f i)).length := (lst_len _ _).symm
    have hr' : RowAt w (rb i) (rb i) m (rc i) (lst m (f i)) := by
      refine ⟨hr.1, ?_⟩
      rcases hr.2 with h3 | ⟨g', cap', cur, e', h4, h5, h6⟩
      · exact .inl h3
      · refine .inr ⟨g', cap', cur, e', ?_, h5, h6⟩
        simp only [Value.slice.injEq, Option.some.injEq, Addr.mk.injEq, and_true] at e'
        omega
    have ho := hr'.own
    rcases ho with ho | ⟨g', cap', e', h1, h2, h3⟩
    · exact .inl ho
    · refine .inr ⟨g', cap', e', h1, ?_, h3⟩
      simp only [Value.slice.injEq, Option.some.injEq, Addr.mk.injEq, and_true] at e'
      show g' < rb i + 1
      omega
  · rw [rowsOf_len] at hj
    have : rb j ≠ rb i := fun q => hne (h.inj j i hj hi q)
    show rb i + 1 ≤ rb j ∨ rb j + 1 ≤ rb i
    omega
theorem MatT.read {w : World} {B E g n cap m : Nat} {rb rc : Nat → Nat} {f : Nat → Nat → Int} (h : MatT w B E g n cap m rb rc f) : RowsV w (.slice (some ⟨g, 0, none⟩) n cap) (tab n m f) := h.own.read

/-- A table of the call's own to which rows are appended: nil, or a table. -/
structure GrowT (w : World) (B E : Nat) (v : Value) (k m : Nat) (rb rc : Nat → Nat) (f : Nat → Nat → Int) : Prop where
  outer : w.ownsRow B 39 1 v k (rowsOf rb rc k m)
  rows : ∀ i, i < k → RowAt w B (rb i) m (rc i) (lst m (f i))
  inj : ∀ i j, i < k → j < k → rb i = rb j → i = j
  top : (∀ g, v.ownBlock = some g → g < E) ∧ ∀ i, i < k → rb i < E

theorem GrowT.nil (w : World) (B E m : Nat) (rb rc : Nat → Nat) (f : Nat → Nat → Int) : GrowT w B E (.slice none 0 0) 0 m rb rc f :=
  ⟨World.ownsRow_nil w B 39 1, fun i hi => absurd hi (Nat.not_lt_zero i), fun i _ hi => absurd hi (Nat.not_lt_zero i), (fun g h => by cases h), fun i hi => absurd hi (Nat.not_lt_zero i)⟩
theorem GrowT.form {w : World} {B E : Nat} {v : Value} {k m : Nat} {rb rc : Nat → Nat} {f : Nat → Nat → Int} (h : GrowT w B E v k m rb rc f) (hk : 0 < k) : ∃ g cap, v = .slice (some ⟨g, 0, none⟩) k cap ∧ MatT w B E g k cap m rb rc f := by
  obtain ⟨g, cap, rfl⟩ : ∃ g cap, v = .slice (some ⟨g, 0, none⟩) k cap := by
    rcases h.outer.2 with ⟨_, h0⟩ | ⟨g, cap, _, e, _⟩
    · omega
    · exact ⟨g, cap, e⟩
  exact ⟨g, cap, rfl, h.outer, h.rows, h.inj, h.top.1 g rfl, h.top.2⟩
theorem MatT.grow {w : World} {B E g n cap m : Nat} {rb rc : Nat → Nat} {f : Nat → Nat → Int} (h : MatT w B E g n cap m rb rc f) : GrowT w B E (.slice (some ⟨g, 0, none⟩) n cap) n m rb rc f :=
  ⟨h.outer, h.rows, h.inj, (fun g' e => by cases e; exact h.top.1), h.top.2⟩
theorem GrowT.kept {w w' : World} {B E : Nat} {v : Value} {k m : Nat} {rb rc : Nat → Nat} {f : Nat → Nat → Int} (h : GrowT w B E v k m rb rc f) (hB : Below E w w') : GrowT w' B E v k m rb rc f := by
  refine ⟨⟨h.outer.1, ?_⟩, fun i hi => (h.rows i hi).below hB (h.top.2 i hi), h.inj, h.top⟩
  rcases h.outer.2 with h3 | ⟨g', cap', cur, e', h4, h5, h6⟩
  · exact .inl h3
  · exact .inr ⟨g', cap', cur, e', h4, by rw [hB.block g' (h.top.1 g' (by subst e'; rfl))]; exact h5, h6⟩

theorem wpList_append_row {ops : Array Oper} {rest : List Oper} {o : Oper} {a : Act} {w : World} {Q : Exit → Act → World → Prop} (hgd : o.guard = none) (s x : Operand)
    (ho : o.op = .call { callee := .builtin .append, args := #[s, x], argTypes := #[23, 23] }) (B E : Nat) (v : Value) (k m r c cc : Nat) (rb rc : Nat → Nat) (f : Nat → Nat → Int) (h' : Nat → Int) (hs : a.eval s = v)
    (hx : a.eval x = .slice (some ⟨w.heap.size, 0, none⟩) 1 cc) (hown : GrowT w B E v k m rb rc f) (hr : RowAt w B r m c (lst m h')) (hE : E ≤ r) (hl : k ≤ 1099511627776) (hB : B ≤ w.heap.size)
    (h : ∀ v' w', GrowT w' B w'.heap.size v' (k + 1) m (fun i => if i = k then r else rb i) (fun i => if i = k then c else rc i) (fun i => if i = k then h' else f i) → w.grownBy w' v.ownBlock → wpList Try.prog ops Q rest (a.put o.dst v') w') :
    wpList Try.prog ops Q (o :: rest) a (w.alloc (.cells #[.slice (some ⟨r, 0, none⟩) m c] 39)) := by
  obtain ⟨i, hi, hz0, hz1, hz2⟩ := info_parts Try.infoInts
  have hne : ∀ j, j < k → rb j ≠ r := fun j hj => by have := hown.top.2 j hj; omega
  refine wpList_append_own _ hgd s x 23 ho B 39 i (.slice none 0 0) 1 24 Try.underlying23 hi hz0 hz1 hz2 rfl (by decide) v k _ hs (World.ownsRow.alloc hown.outer _) ⟨w.heap.size, 0, none⟩ 1 cc [.slice (some ⟨r, 0, none⟩) m c] hx rfl (cell_one_new _ _ _) (by simp [Value.oneCell']) (by unfold maxLen; omega) (by omega) (by simp; omega) ?_
  intro v' w' h1 h2 _
  have h3 : w.grownBy w' v.ownBlock := (World.grownBy_alloc _ _ _).trans h2
  have hvr : ∀ j, j < k → v.ownBlock ≠ some (rb j) := fun j hj e => by
    rcases hown.outer.2 with ⟨rfl, _⟩ | ⟨g, cap, _, rfl, _⟩
    · cases e
    · cases e
      exact typesApart hown.outer (hown.rows j hj) rfl
  refine h v' w' ⟨?_, fun j hj => ?_, fun i j hi hj e => ?_, ⟨fun g hg => ?_, fun i hi => ?_⟩⟩ h3
  · rw [rowsOf_succ]
    rw [show rowsOf (fun i => if i = k then r else rb i) (fun i => if i = k then c else rc i) k m = rowsOf rb rc k m from rowsOf_congr fun j hj => by rw [if_neg (by omega), if_neg (by omega)]; exact ⟨rfl, rfl⟩]
    simpa using h1
  · by_cases e : j = k
    · subst e
      simp only [if_true]
      exact hr.kept h3 (fun e => by have := hown.top.1 r e; omega)
    · simp only [if_neg e]
      exact (hown.rows j (by omega)).kept h3 (hvr j (by omega))
  · by_cases ei : i = k
    · by_cases ej : j = k
      · omega
      · rw [if_pos ei, if_neg ej] at e
        exact absurd e.symm (hne j (by omega))
    · by_cases ej : j = k
      · rw [if_neg ei, if_pos ej] at e
        exact absurd e (hne i (by omega))
      · rw [if_neg ei, if_neg ej] at e
        exact hown.inj i j (by omega) (by omega) e
  · exact (World.ownsRow.lt h1 g hg).2
  · have hsz := h3.size
    by_cases e : i = k
    · rw [if_pos e]; have := hr.lt.2; omega
    · rw [if_neg e]; have := (hown.rows i (by omega)).lt.2; omega

/-- A table of n rows of m entries that came in: the rows' slices from off on in block b. -/
def GR (w : World) (b off n m : Nat) (ro rof rc : Nat → Nat) (f : Nat → Nat → Int) : Prop :=
  ∀ i, i < n → w.cell? ⟨b, off + i, none⟩ = some (.slice (some ⟨ro i, rof i, none⟩) m (rc i)) ∧ (m ≤ rc i ∧ rc i ≤ maxLen) ∧ ∀ j, j < m → w.cell? ⟨ro i, rof i + j, none⟩ = some (.int .i64 (f i j))
theorem GR.below {w w' : World} {b off n m : Nat} {ro rof rc : Nat → Nat} {f : Nat → Nat → Int} (h : GR w b off n m ro rof rc f) (hB : Below w.heap.size w w') : GR w' b off n m ro rof rc f := fun i hi => by
  obtain ⟨h1, h2, h3⟩ := h i hi
  refine ⟨?_, h2, fun j hj => ?_⟩
  · rw [hB.cell (World.block_lt_of_cell? w _ h1)]; exact h1
  · rw [hB.cell (World.block_lt_of_cell? w _ (h3 j hj))]; exact h3 j hj
theorem GR.ints {w : World} {b off n m : Nat} {ro rof rc : Nat → Nat} {f : Nat → Nat → Int} (h : GR w b off n m ro rof rc f) {i : Nat} (hi : i < n) : IntsV w (.slice (some ⟨ro i, rof i, none⟩) m (rc i)) (lst m (f i)) := by
  obtain ⟨h1, h2, h3⟩ := h i hi
  refine ⟨_, _, by rw [lst_len], ⟨by rw [lst_len]; exact h2.1, fun e => by cases e⟩, h2.2, fun j hj => ?_⟩
  rw [lst_len] at hj
  exact ⟨_, _, rfl, by rw [nth_lst hj]; exact h3 j hj⟩

/-- Rows of one length at least 1, at least one row: entry by entry. -/
theorem RowsV.gr {w : World} {v : Value} {g : List (List Int)} {n m : Nat} (h : RowsV w v g) (hn : g.length = n) (h0 : 0 < n) (hm : 0 < m) (hr : ∀ i, i < n → (row g i).length = m) :
    ∃ b off cap ro rof rc, v = .slice (some ⟨b, off, none⟩) n cap ∧ n ≤ cap ∧ cap ≤ maxLen ∧ GR w b off n m ro rof rc (ent g) := by
  subst hn
  obtain ⟨ao, cap, rfl, hc, hm', H⟩ := h
  obtain ⟨b, off, _, rfl, _, _⟩ := H 0 h0
  have hx : ∀ i, ∃ q : Nat × Nat × Nat, i < g.length → w.cell? ⟨b, off + i, none⟩ = some (.slice (some ⟨q.1, q.2.1, none⟩) m q.2.2) ∧ (m ≤ q.2.2 ∧ q.2.2 ≤ maxLen) ∧ ∀ j, j < m → w.cell? ⟨q.1, q.2.1 + j, none⟩ = some (.int .i64 (ent g i j)) := fun i => by
    by_cases hi : i < g.length
    · obtain ⟨b', off', u, e, hc', hu⟩ := H i hi
      cases e
      obtain ⟨uo, ucap, rfl, hc2, hc3, K⟩ := hu
      rw [hr i hi] at hc' hc2 K
      obtain ⟨ub, uoff, rfl, _⟩ := K 0 hm
      refine ⟨⟨ub, uoff, ucap⟩, fun _ => ⟨hc', ⟨hc2.1, hc3⟩, fun j hj => ?_⟩⟩
      obtain ⟨_, _, e, hq⟩ := K j hj
      cases e
      exact hq
    · exact ⟨⟨0, 0, 0⟩, fun h => absurd h hi⟩
  obtain ⟨q, hq⟩ := Classical.axiomOfChoice hx
  exact ⟨b, off, cap, fun i => (q i).1, fun i => (q i).2.1, fun i => (q i).2.2, rfl, hc.1, hm', fun i hi => hq i hi⟩

theorem MatT.gr {w : World} {B E g n cap m : Nat} {rb rc : Nat → Nat} {f : Nat → Nat → Int} (h : MatT w B E g n cap m rb rc f) : GR w g 0 n m rb (fun _ => 0) rc f := fun i hi => by
  refine ⟨by rw [Nat.zero_add]; exact h.ptr hi, ?_, fun j hj => by rw [Nat.zero_add]; exact h.cell hi hj⟩
  rcases (h.rows i hi).2 with ⟨h4, _⟩ | ⟨g', cap', cur, e', h4, h5, h6, h7, _⟩
  · simp at h4
  · simp only [Value.slice.injEq, Option.some.injEq, Addr.mk.injEq, and_true, true_and] at e'
    omega

/-- A slice of the call's own that is not empty lies at the head of a block. -/
theorem Own.at {w : World} {B E : Nat} {v : Value} {xs : List Int} {n : Nat} (h : Own w B E v xs) (hn : xs.length = n) (h0 : 0 < n) : ∃ g cap, v = .slice (some ⟨g, 0, none⟩) n cap ∧ B ≤ g ∧ g < E ∧ RowAt w B g n cap xs := by
  subst hn
  rcases h with ⟨rfl, _⟩ | ⟨g, cap, rfl, h1, h2, h3⟩
  · exact absurd h0 (by simp)
  · exact ⟨g, cap, rfl, h1, h2, h3⟩

/-- A table of the call's own of which the first k rows have been laid; the other ones are nil. -/
structure MatP (w : World) (B E g n cap k m : Nat) (rb rc : Nat → Nat) (f : Nat → Nat → Int) : Prop where
  outer : RowsAt w B g n cap (rowsOf rb rc k m ++ List.replicate (n - k) (.slice none 0 0))
  rows : ∀ i, i < k → RowAt w B (rb i) m (rc i) (lst m (f i))
  inj : ∀ i j, i < k → j < k → rb i = rb j → i = j
  top : g < E ∧ ∀ i, i < k → rb i < E
theorem MatP.zero {w : World} {B g n m : Nat} (h : RowsAt w B g n n (List.replicate n (.slice none 0 0))) (rb rc : Nat → Nat) (f : Nat → Nat → Int) : MatP w B w.heap.size g n n 0 m rb rc f :=
  ⟨by simpa [rowsOf] using h, fun i hi => absurd hi (Nat.not_lt_zero i), fun i _ hi => absurd hi (Nat.not_lt_zero i), h.lt.2, fun i hi => absurd hi (Nat.not_lt_zero i)⟩
theorem MatP.all {w : World} {B E g n cap m : Nat} {rb rc : Nat → Nat} {f : Nat → Nat → Int} (h : MatP w B E g n cap n m rb rc f) : MatT w B E g n cap m rb rc f :=
  ⟨by simpa using h.outer, h.rows, h.inj, h.top⟩
theorem MatP.below {w w' : World} {B E g n cap k m E' : Nat} {rb rc : Nat → Nat} {f : Nat → Nat → Int} (h : MatP w B E g n cap k m rb rc f) (hB : Below E' w w') (hE : E ≤ E') : MatP w' B E g n cap k m rb rc f :=
  ⟨h.outer.below hB (Nat.lt_of_lt_of_le h.top.1 hE), fun i hi => (h.rows i hi).below hB (Nat.lt_of_lt_of_le (h.top.2 i hi) hE), h.inj, h.top⟩
theorem MatP.cell {w : World} {B E g n cap k m : Nat} {rb rc : Nat → Nat} {f : Nat → Nat → Int} (h : MatP w B E g n cap k m rb rc f) (hk : k < n) : w.cell? ⟨g, k, none⟩ = some (.slice none 0 0) :=
  h.outer.cell (by rw [List.getElem?_append_right (by rw [rowsOf_len]; exact Nat.le_refl _), rowsOf_len, Nat.sub_self, List.getElem?_replicate, if_pos (by omega)])
theorem MatP.frozen {w : World} {B E g n cap k m : Nat} {rb rc : Nat → Nat} {f : Nat → Nat → Int} (h : MatP w B E g n cap k m rb rc f) (j : Nat) : w.frozen? ⟨g, j, none⟩ = false := h.outer.frozen j
theorem MatP.put {w : World} {B E E' g n cap k m r c : Nat} {rb rc : Nat → Nat} {f : Nat → Nat → Int} {h' : Nat → Int} (h : MatP w B E g n cap k m rb rc f) (hk : k < n) (hr : RowAt w B r m c (lst m h')) (h1 : E ≤ r) (h2 : r < E') :
    MatP (w.setCell ⟨g, k, none⟩ (.slice (some ⟨r, 0, none⟩) m c)) B E' g n cap (k + 1) m (fun i => if i = k then r else rb i) (fun i => if i = k then c else rc i) (fun i => if i = k then h' else f i) := by
  have hgr := h.top.1
  have ht : Turned g (g + 1) w (w.setCell ⟨g, k, none⟩ (.slice (some ⟨r, 0, none⟩) m c)) := (Turned.refl _ _ w).setCell (p := ⟨g, k, none⟩) (Nat.le_refl _) (Nat.lt_succ_self _) _
  have hne : ∀ i, i < k → rb i ≠ g := fun i hi => typesApart h.outer (h.rows i hi)
  refine ⟨?_, fun j hj => ?_, fun i j hi hj e => ?_, by omega, fun i hi => ?_⟩
  · have := h.outer.stored k (.slice (some ⟨r, 0, none⟩) m c)
    rw [show (rowsOf rb rc k m ++ List.replicate (n - k) (Value.slice none 0 0)).set k (Value.slice (some ⟨r, 0, none⟩) m c) = rowsOf (fun i => if i = k then r else rb i) (fun i => if i = k then c else rc i) (k + 1) m ++ List.replicate (n - (k + 1)) (.slice none 0 0) by
      rw [rowsOf_succ, show rowsOf (fun i => if i = k then r else rb i) (fun i => if i = k then c else rc i) k m = rowsOf rb rc k m from rowsOf_congr fun j hj => by rw [if_neg (by omega), if_neg (by omega)]; exact ⟨rfl, rfl⟩]
      rw [show n - k = (n - (k + 1)) + 1 by omega, List.replicate_succ, List.set_append_right _ _ (by rw [rowsOf_len]; exact Nat.le_refl _), rowsOf_len, Nat.sub_self, List.append_assoc]
      simp] at this
    exact this
  · by_cases e : j = k
    · subst e
      simp only [if_true]
      exact hr.turned ht (by omega)
    · simp only [if_neg e]
      exact (h.rows j (by omega)).turned ht (by have := hne j (by omega); omega)
  · have hlt : ∀ i, i < k + 1 → i ≠ k → rb i ≠ r := fun i hi he => by have := h.top.2 i (by omega); omega
    by_cases ei : i = k
    · by_cases ej : j = k
      · omega
      · rw [if_pos ei, if_neg ej] at e
        exact absurd e.symm (hlt j hj ej)
    · by_cases ej : j = k
      · rw [if_neg ei, if_pos ej] at e
        exact absurd e (hlt i hi ei)
      · rw [if_neg ei, if_neg ej] at e
        exact h.inj i j (by omega) (by omega) e
  · by_cases e : i = k
    · rw [if_pos e]; exact h2
    · rw [if_neg e]; have := h.top.2 i (by omega); omega

theorem MatP.congr {w : World} {B E g n cap k m : Nat} {rb rc : Nat → Nat} {f f' : Nat → Nat → Int} (h : MatP w B E g n cap k m rb rc f) (hf : ∀ i j, i < k → j < m → f i j = f' i j) : MatP w B E g n cap k m rb rc f' :=
  ⟨h.outer, fun i hi => by rw [← lst_congr fun j hj => hf i j hi hj]; exact h.rows i hi, h.inj, h.top⟩
theorem GrowT.congr {w : World} {B E : Nat} {v : Value} {k m : Nat} {rb rc : Nat → Nat} {f f' : Nat → Nat → Int} (h : GrowT w B E v k m rb rc f) (hf : ∀ i j, i < k → j < m → f i j = f' i j) : GrowT w B E v k m rb rc f' :=
  ⟨h.outer, fun i hi => by rw [← lst_congr fun j hj => hf i j hi hj]; exact h.rows i hi, h.inj, h.top⟩

/-- It returns a new table of n rows of m entries f i j. -/
def RetM (n m : Nat) (f : Nat → Nat → Int) (w : World) (e : Ending) (w' : World) : Prop :=
  ∃ g cap rb rc, e = .returned (.slice (some ⟨g, 0, none⟩) n cap) ∧ MatT w' w.heap.size w'.heap.size g n cap m rb rc f ∧ Below w.heap.size w w'

end Go.Proofs.Ytblippeklbhepaa

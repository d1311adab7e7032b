/- Words on slices of ints in memory (read; owned by the call), and what a step of the world leaves of them. No conditions. -/
import Derived.Test.YtgpabfbnbmbmeaaDoorRows
import Derived.Test.YtgpabfbnbmbmeaaDoorHold
import Derived.WalkKit
import Derived.WalkSpells
import Derived.WalkLawsBesides
import Derived.Lib.Hide
import Derived.Deep.OwnRows
import Derived.Deep.Onto
import Derived.Maps.AppendAt
import Derived.BigQuiet
import Derived.Deep.QuietTactic
import Derived.Shelf.Abstract
import Derived.Laws.AppendOwnNone
namespace Go.Proofs.YtgpabfbnbmbmeaaDoor
open Go.RowKit

theorem Tryd.infoInt : (Tryd.prog.info? 3).map (fun i => (i.zero, i.size, i.bytes)) = some (some (.int .i64 0), 1, 8) := by kernel_rfl

/-- Element i of a list of ints, 0 beyond its end; a word that no rule opens. -/
def nth (xs : List Int) (i : Nat) : Int := xs[i]?.getD 0

theorem nth_eq {xs : List Int} {i : Nat} (h : i < xs.length) : nth xs i = xs[i] := by unfold nth; rw [List.getElem?_eq_getElem h]; rfl
theorem nth_mem {xs : List Int} {i : Nat} (h : i < xs.length) : nth xs i ∈ xs := by rw [nth_eq h]; exact List.getElem_mem h
theorem take_nth {xs : List Int} {k : Nat} (h : k < xs.length) : xs.take (k + 1) = xs.take k ++ [nth xs k] := by
  rw [List.take_add_one, List.getElem?_eq_getElem h, nth_eq h]; rfl

/-- The number is an int64. -/
def I64 (n : Int) : Prop := -9223372036854775808 ≤ n ∧ n ≤ 9223372036854775807

/-- How many values a list holds. -/
def szIntS (xs : List Int) : Nat := xs.length
/-- How many numbers a mark writes. -/
def cntIntS (xs : List Int) : Nat := xs.length
theorem cntIntS_le (xs : List Int) : cntIntS xs ≤ 4 * szIntS xs := by unfold cntIntS szIntS; omega

/-- A slice value that reads as these ints. -/
def IntsV (w : World) (v : Value) (xs : List Int) : Prop :=
  ∃ ao cap, v = .slice ao xs.length cap ∧ (xs.length ≤ cap ∧ (ao = none → cap = 0)) ∧ cap ≤ maxLen ∧ ∀ i, i < xs.length → ∃ b off, ao = some ⟨b, off, none⟩ ∧ w.cell? ⟨b, off + i, none⟩ = some (.int .i64 (nth xs i))

theorem IntsV.below {w w' : World} {v : Value} {xs : List Int} (h : IntsV w v xs) (hB : Below w.heap.size w w') : IntsV w' v xs := by
  obtain ⟨ao, cap, rfl, h1, h2, h⟩ := h
  refine ⟨ao, cap, rfl, h1, h2, fun i hi => ?_⟩
  obtain ⟨b, off, e, hc⟩ := h i hi
  exact ⟨b, off, e, by rw [hB.cell (World.block_lt_of_cell? w _ hc)]; exact hc⟩

theorem IntsV.drew {w : World} {v : Value} {xs : List Int} (h : IntsV w v xs) : IntsV w.drew v xs := h.below ((Below.refl _ _).drew)

/-- A slice of the call's own: its block lies in [B, E); or it has no elements. -/
def Own (w : World) (B E : Nat) (v : Value) (xs : List Int) : Prop :=
  (xs = [] ∧ ∃ ao cap, v = .slice ao 0 cap ∧ cap ≤ maxLen ∧ (ao = none → cap = 0)) ∨
  ∃ g cap, v = .slice (some ⟨g, 0, none⟩) xs.length cap ∧ B ≤ g ∧ g < E ∧ w.ownsRow B 3 1 v xs.length (xs.map (Value.int .i64))

theorem Own.mono {w : World} {B E B' E' : Nat} {v : Value} {xs : List Int} (h : Own w B E v xs) (hB : B' ≤ B) (hE : E ≤ E') : Own w B' E' v xs := by
  rcases h with h | ⟨g, cap, e, h1, h2, h3⟩
  · exact .inl h
  · exact .inr ⟨g, cap, e, by omega, by omega, h3.mono hB⟩

theorem Own.kept {w w' : World} {B E : Nat} {v : Value} {xs : List Int} {row : Option Nat} (h : Own w B E v xs) (hg : w.grownBy w' row) (hr : ∀ g, row = some g → g < B ∨ E ≤ g) : Own w' B E v xs := by
  rcases h with h | ⟨g, cap, e, h1, h2, h3⟩
  · exact .inl h
  · refine .inr ⟨g, cap, e, h1, h2, h3.kept hg ?_⟩
    subst e
    right
    intro e
    have := hr g e.symm
    omega

theorem Own.below {w w' : World} {B E E' : Nat} {v : Value} {xs : List Int} (h : Own w B E v xs) (hB : Below E' w w') (hE : E ≤ E') : Own w' B E v xs := by
  rcases h with h | ⟨g, cap, e, h1, h2, h3⟩
  · exact .inl h
  · refine .inr ⟨g, cap, e, h1, h2, h3.1, ?_⟩
    rcases h3.2 with h3 | ⟨g', cap', cur, e', h4, h5, h6⟩
    · exact .inl h3
    · refine .inr ⟨g', cap', cur, e', h4, ?_, h6⟩
      subst e
      simp only [Value.slice.injEq, Option.some.injEq, Addr.mk.injEq, and_true, true_and] at e'
      rw [hB.block g' (by omega)]; exact h5

theorem Own.row {w : World} {B : Nat} {v : Value} {n : Nat} {xs : List Int} (h : w.ownsRow B 3 1 v n (xs.map (Value.int .i64))) : Own w B w.heap.size v xs := by
  have hn : xs.length = n := by simpa using h.1
  subst hn
  rcases h.2 with ⟨rfl, h0⟩ | ⟨g, cap, cur, rfl, h1, h2, h3, h4, h5, h6⟩
  · exact .inl ⟨List.eq_nil_of_length_eq_zero h0, none, 0, by simp, by simp [maxLen], fun _ => rfl⟩
  · exact .inr ⟨g, cap, rfl, h1, (Array.getElem?_eq_some_iff.1 h2).1, h⟩

theorem Own.nil (w : World) (B E : Nat) : Own w B E (.slice none 0 0) [] := .inl ⟨rfl, none, 0, rfl, by simp [maxLen], fun _ => rfl⟩

theorem ownsRow_nth {w : World} {B g n cap : Nat} {xs : List Int} (h : w.ownsRow B 3 1 (.slice (some ⟨g, 0, none⟩) n cap) n (xs.map (Value.int .i64))) {j : Nat} (hj : j < n) : w.cell? ⟨g, j, none⟩ = some (.int .i64 (nth xs j)) := by
  have hl : xs.length = n := by simpa using h.1
  rw [World.ownsRow.cellAt h j (by omega)]
  have hj' : j < xs.length := by omega
  simp [nth, List.getElem?_eq_getElem hj']

theorem Own.read {w : World} {B E : Nat} {v : Value} {xs : List Int} (h : Own w B E v xs) : IntsV w v xs := by
  rcases h with ⟨rfl, ao, cap, rfl, hc, hz⟩ | ⟨g, cap, rfl, h1, h2, h3⟩
  · exact ⟨ao, cap, rfl, ⟨Nat.zero_le _, hz⟩, hc, fun i hi => absurd hi (Nat.not_lt_zero i)⟩
  · have hcap : xs.length ≤ cap ∧ cap ≤ maxLen := by
      rcases h3.2 with ⟨h4, _⟩ | ⟨g', cap', cur, e', h4, h5, h6, h7, _⟩
      · simp at h4
      · simp only [Value.slice.injEq, Option.some.injEq, Addr.mk.injEq, and_true, true_and] at e'
        omega
    refine ⟨some ⟨g, 0, none⟩, cap, rfl, ⟨hcap.1, fun e => by cases e⟩, hcap.2, fun i hi => ⟨g, 0, rfl, ?_⟩⟩
    rw [Nat.zero_add]
    exact ownsRow_nth h3 hi

/-- A row of ints at the head of block g, all that a walk wants of it. -/
def RowAt (w : World) (B g n cap : Nat) (xs : List Int) : Prop := w.ownsRow B 3 1 (.slice (some ⟨g, 0, none⟩) n cap) n (xs.map (Value.int .i64))

theorem RowAt.cell {w : World} {B g n cap : Nat} {xs : List Int} (h : RowAt w B g n cap xs) {j : Nat} (hj : j < n) : w.cell? ⟨g, j, none⟩ = some (.int .i64 (nth xs j)) := ownsRow_nth h hj
theorem RowAt.frozen {w : World} {B g n cap : Nat} {xs : List Int} (h : RowAt w B g n cap xs) (j : Nat) : w.frozen? ⟨g, j, none⟩ = false := World.ownsRow.frozenAt h j
theorem RowAt.stored {w : World} {B g n cap : Nat} {xs : List Int} (h : RowAt w B g n cap xs) (j : Nat) (x : Int) : RowAt (w.setCell ⟨g, j, none⟩ (.int .i64 x)) B g n cap (xs.set j x) := by
  have := (World.ownsRow.stored h j (.int .i64 x)).1
  unfold RowAt; rw [List.map_set]; exact this
theorem RowAt.lt {w : World} {B g n cap : Nat} {xs : List Int} (h : RowAt w B g n cap xs) : B ≤ g ∧ g < w.heap.size := World.ownsRow.lt h g rfl
theorem RowAt.len {w : World} {B g n cap : Nat} {xs : List Int} (h : RowAt w B g n cap xs) : xs.length = n := by simpa using h.1
theorem RowAt.own {w : World} {B g n cap : Nat} {xs : List Int} (h : RowAt w B g n cap xs) : Own w B w.heap.size (.slice (some ⟨g, 0, none⟩) n cap) xs := Own.row h
theorem RowAt.ints {w : World} {B g n cap : Nat} {xs : List Int} (h : RowAt w B g n cap xs) : IntsV w (.slice (some ⟨g, 0, none⟩) n cap) xs := h.own.read
theorem RowAt.kept {w w' : World} {B g n cap : Nat} {xs : List Int} {row : Option Nat} (h : RowAt w B g n cap xs) (hg : w.grownBy w' row) (hr : row ≠ some g) : RowAt w' B g n cap xs :=
  World.ownsRow.kept h hg (.inr (by simpa [Value.ownBlock] using fun e => hr e.symm))
theorem RowAt.below {w w' : World} {B E g n cap : Nat} {xs : List Int} (h : RowAt w B g n cap xs) (hB : Below E w w') (hE : g < E) : RowAt w' B g n cap xs := by
  refine ⟨h.1, ?_⟩
  rcases h.2 with h3 | ⟨g', cap', cur, e', h4, h5, h6⟩
  · exact .inl h3
  · refine .inr ⟨g', cap', cur, e', h4, ?_, h6⟩
    simp only [Value.slice.injEq, Option.some.injEq, Addr.mk.injEq, and_true, true_and] at e'
    rw [hB.block g' (by omega)]; exact h5

/-- 'make([]int, n)': n zeros. -/
theorem row_made {w w1 : World} {B n : Nat} (h : w1.ownsRow B 3 1 (.slice (some ⟨w.heap.size, 0, none⟩) n n) n (madeCells #[Value.int .i64 0] n).toList) : RowAt w1 B w.heap.size n n (List.replicate n 0) := by
  unfold RowAt; rw [List.map_replicate, ← toList_madeCells_one]; exact h

theorem below_made {B : Nat} {w0 w w' : World} (h : Below B w0 w) (hB : B ≤ w.heap.size) (hg : w.grownBy w' none) : Below B w0 w' := h.grown hg hB (fun j hj => by cases hj)

/-- A slice of the call's own that is appended to: nil, or a row from block B on. -/
def Grow (w : World) (B : Nat) (v : Value) (xs : List Int) : Prop := w.ownsRow B 3 1 v xs.length (xs.map (Value.int .i64))

theorem Grow.nil (w : World) (B : Nat) : Grow w B (.slice none 0 0) [] := World.ownsRow_nil w B 3 1
theorem Grow.own {w : World} {B : Nat} {v : Value} {xs : List Int} (h : Grow w B v xs) : Own w B w.heap.size v xs := Own.row h
theorem Grow.read {w : World} {B : Nat} {v : Value} {xs : List Int} (h : Grow w B v xs) : IntsV w v xs := h.own.read
theorem Grow.drew {w : World} {B : Nat} {v : Value} {xs : List Int} (h : Grow w B v xs) : Grow w.drew B v xs := h
theorem Grow.form {w : World} {B : Nat} {v : Value} {xs : List Int} (h : Grow w B v xs) (hn : 0 < xs.length) : ∃ g cap, v = .slice (some ⟨g, 0, none⟩) xs.length cap ∧ RowAt w B g xs.length cap xs := by
  rcases h.2 with ⟨rfl, h0⟩ | ⟨g, cap, cur, rfl, h1, h2, h3, h4, h5, h6⟩
  · omega
  · exact ⟨g, cap, rfl, h⟩
theorem Grow.below {w w' : World} {B : Nat} {v : Value} {xs : List Int} (h : Grow w B v xs) (hB : Below w.heap.size w w') : Grow w' B v xs := by
  refine ⟨h.1, ?_⟩
  rcases h.2 with h3 | ⟨g', cap', cur, e', h4, h5, h6⟩
  · exact .inl h3
  · exact .inr ⟨g', cap', cur, e', h4, by rw [hB.block g' (Array.getElem?_eq_some_iff.1 h5).1]; exact h5, h6⟩
theorem Grow.belowB {w0 w w' : World} {B : Nat} {v : Value} {xs : List Int} {b : Nat} (h : Grow w B v xs) (hb : Below b w0 w) (hB : b ≤ B) (hsz : b ≤ w.heap.size) (hg : w.grownBy w' v.ownBlock) : Below b w0 w' :=
  hb.grown hg hsz (fun k hk => by have := (World.ownsRow.lt h k hk).1; omega)

theorem wpList_append_int {ops : Array Oper} {rest : List Oper} {o : Oper} {a : Act} {w : World} {Q : Exit → Act → World → Prop} (hgd : o.guard = none) (s x : Operand)
    (ho : o.op = .call { callee := .builtin .append, args := #[s, x], argTypes := #[22, 22] }) (B : Nat) (v : Value) (xs : List Int) (z : Int) (c : Nat) (hs : a.eval s = v)
    (hx : a.eval x = .slice (some ⟨w.heap.size, 0, none⟩) 1 c) (hown : Grow w B v xs) (hl : xs.length ≤ 1099511627776) (hB : B ≤ w.heap.size)
    (h : ∀ v' w', Grow w' B v' (xs ++ [z]) → w.grownBy w' v.ownBlock → wpList Tryd.prog ops Q rest (a.put o.dst v') w') : wpList Tryd.prog ops Q (o :: rest) a (w.alloc (.cells #[.int .i64 z] 3)) := by
  obtain ⟨i, hi, hz0, hz1, hz2⟩ := info_parts Tryd.infoInt
  refine wpList_append_own _ hgd s x 22 ho B 3 i (.int .i64 0) 1 8 Tryd.underlying22 hi hz0 hz1 hz2 rfl (by decide) v xs.length _ hs (World.ownsRow.alloc hown _) ⟨w.heap.size, 0, none⟩ 1 c [.int .i64 z] hx rfl (cell_one_new _ _ _) (by simp [Value.oneCell']) (by unfold maxLen; omega) (by omega) (by simp; omega) ?_
  intro v' w' h1 h2 _
  refine h v' w' (by unfold Grow; rw [List.map_append, List.length_append]; exact h1) ((World.grownBy_alloc _ _ _).trans h2)

theorem wpList_append_ints {ops : Array Oper} {rest : List Oper} {o : Oper} {a : Act} {w : World} {Q : Exit → Act → World → Prop} (hgd : o.guard = none) (s x : Operand)
    (ho : o.op = .call { callee := .builtin .append, args := #[s, x], argTypes := #[22, 22] }) (B : Nat) (v u : Value) (xs ys : List Int) (hs : a.eval s = v)
    (hx : a.eval x = u) (hown : Grow w B v xs) (hu : IntsV w u ys) (hl : xs.length + ys.length ≤ 4398046511104) (hB : B ≤ w.heap.size)
    (h : ∀ v' w', Grow w' B v' (xs ++ ys) → w.grownBy w' v.ownBlock → wpList Tryd.prog ops Q rest (a.put o.dst v') w') : wpList Tryd.prog ops Q (o :: rest) a w := by
  obtain ⟨i, hi, hz0, hz1, hz2⟩ := info_parts Tryd.infoInt
  obtain ⟨ao, cap, rfl, ⟨_, hnil⟩, _, H⟩ := hu
  cases ao with
  | none =>
    obtain rfl := hnil rfl
    have : ys = [] := by
      cases ys with
      | nil => rfl
      | cons y ys => obtain ⟨b, off, e, _⟩ := H 0 (by simp); cases e
    subst this
    refine wpList_append_own_none hgd s x 22 ho B 3 i 1 Tryd.underlying22 hi v xs.length _ hs hown hx ?_
    exact h v w (by rw [List.append_nil]; exact hown) (World.grownBy.refl _ _)
  | some ad =>
    refine wpList_append_own _ hgd s x 22 ho B 3 i (.int .i64 0) 1 8 Tryd.underlying22 hi hz0 hz1 hz2 rfl (by decide) v xs.length _ hs hown ad ys.length cap (ys.map (Value.int .i64)) hx (by simp) ?_ ?_ (by unfold maxLen; omega) (by omega) hB ?_
    · intro j u hj
      have hj' : j < ys.length := by
        have := (List.getElem?_eq_some_iff.1 hj).1
        simpa using this
      obtain ⟨b, off, e, hc⟩ := H j hj'
      cases e
      rw [Addr.add_lit, hc]
      rw [List.getElem?_map, List.getElem?_eq_getElem hj'] at hj
      rw [nth_eq hj']; exact hj
    · intro u hu
      obtain ⟨_, _, rfl⟩ := List.mem_map.1 hu
      rfl
    · intro v' w' h1 h2 _
      refine h v' w' (by unfold Grow; rw [List.map_append, List.length_append]; exact h1) h2

/-- '[]int{}': a new row of no cells. -/
theorem Grow.empty (w : World) {B : Nat} (hB : B ≤ w.heap.size) : Grow (w.alloc (.cells #[] 3)) B (.slice (some ⟨w.heap.size, 0, none⟩) 0 0) [] :=
  World.ownsRow_made w #[] 0 hB (Nat.zero_le _) rfl

/-- Blocks of [B, E) alone may have turned; nothing has been laid. -/
structure Turned (B E : Nat) (w w' : World) : Prop where
  os : w'.os = w.os
  tape : w'.tape = w.tape
  output : w'.output = w.output
  size : w'.heap.size = w.heap.size
  block : ∀ k, (k < B ∨ E ≤ k) → w'.heap[k]? = w.heap[k]?

theorem Turned.refl (B E : Nat) (w : World) : Turned B E w w := ⟨rfl, rfl, rfl, rfl, fun _ _ => rfl⟩
theorem Turned.trans {B E : Nat} {a b c : World} (h : Turned B E a b) (k : Turned B E b c) : Turned B E a c :=
  ⟨k.os.trans h.os, k.tape.trans h.tape, k.output.trans h.output, k.size.trans h.size, fun i hi => (k.block i hi).trans (h.block i hi)⟩
theorem Turned.mono {B E B' E' : Nat} {w w' : World} (h : Turned B E w w') (hB : B' ≤ B) (hE : E ≤ E') : Turned B' E' w w' :=
  ⟨h.os, h.tape, h.output, h.size, fun k hk => h.block k (by omega)⟩
theorem Turned.below {B E : Nat} {w w' : World} (h : Turned B E w w') : Below B w w' :=
  ⟨h.os, h.tape, h.output, by rw [h.size]; exact Nat.le_refl _, fun k hk => h.block k (.inl hk)⟩
theorem Turned.setCell {B E : Nat} {w w' : World} (h : Turned B E w w') {p : Addr} (h1 : B ≤ p.block) (h2 : p.block < E) (u : Value) : Turned B E w (w'.setCell p u) :=
  h.trans ⟨rfl, rfl, rfl, by simp [World.setCell], fun k hk => Below.heap_setCell _ _ _ _ (by omega)⟩

theorem Own.turned {w w' : World} {B E B' E' : Nat} {v : Value} {xs : List Int} (h : Own w B E v xs) (ht : Turned B' E' w w') (hd : E ≤ B' ∨ E' ≤ B) : Own w' B E v xs := by
  rcases h with h | ⟨g, cap, e, h1, h2, h3⟩
  · exact .inl h
  · refine .inr ⟨g, cap, e, h1, h2, h3.1, ?_⟩
    rcases h3.2 with h3 | ⟨g', cap', cur, e', h4, h5, h6⟩
    · exact .inl h3
    · refine .inr ⟨g', cap', cur, e', h4, ?_, h6⟩
      subst e
      simp only [Value.slice.injEq, Option.some.injEq, Addr.mk.injEq, and_true, true_and] at e'
      rw [ht.block g' (by omega)]; exact h5

/-! The ends of calls. -/
/-- It returns v; all that was there is as it was. -/
def Ret (v : Value) (w : World) (e : Ending) (w' : World) : Prop := e = .returned v ∧ Below w.heap.size w w'
/-- It returns new memory that holds x. -/
def RetO {α : Type} (O : World → Nat → Nat → Value → α → Prop) (x : α) (w : World) (e : Ending) (w' : World) : Prop := ∃ v, e = .returned v ∧ O w' w.heap.size w'.heap.size v x ∧ Below w.heap.size w w'
/-- It returns new memory that holds r.1, and the bool r.2. -/
def RetOB {α : Type} (O : World → Nat → Nat → Value → α → Prop) (r : α × Bool) (w : World) (e : Ending) (w' : World) : Prop := ∃ v, e = .returned (.tuple #[v, .bool r.2]) ∧ O w' w.heap.size w'.heap.size v r.1 ∧ Below w.heap.size w w'
/-- It returns two pieces of new memory, the second behind the first, and a bool. -/
def RetO2B {α β : Type} (O : World → Nat → Nat → Value → α → Prop) (O' : World → Nat → Nat → Value → β → Prop) (r : α × β × Bool) (w : World) (e : Ending) (w' : World) : Prop :=
  ∃ v v' m, e = .returned (.tuple #[v, v', .bool r.2.2]) ∧ O w' w.heap.size m v r.1 ∧ O' w' m w'.heap.size v' r.2.1 ∧ w.heap.size ≤ m ∧ m ≤ w'.heap.size ∧ Below w.heap.size w w'

end Go.Proofs.YtgpabfbnbmbmeaaDoor

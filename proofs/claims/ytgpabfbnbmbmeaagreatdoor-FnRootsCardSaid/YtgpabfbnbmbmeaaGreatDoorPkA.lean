/- Several texts in one: Hold Lib Funcs PolyIs Signs Wrap Rat Rats Make Ints Flat Calc Q. No conditions but those that each theorem states. -/
import Derived.Test.YtgpabfbnbmbmeaaGreatDoorRows
import Derived.WalkKit
import Derived.WalkSpells
import Derived.BigQuiet
import Derived.Deep.RegionHeld3
import Derived.WalkLawsBesides
import Derived.Lib.Hide
import Derived.Deep.OwnRows
import Derived.Deep.Onto
import Derived.Maps.AppendAt
import Derived.Deep.QuietTactic
import Derived.Shelf.Abstract
import Derived.Laws.AppendOwnNone
import Derived.IntWalk
import Derived.Outline

namespace Go.Proofs.YtgpabfbnbmbmeaaGreatDoor
open Go.RowKit

theorem lyA {α : Type} (l : List α) (i : Nat) (a : α) : l.toArray.setIfInBounds i a = (l.set i a).toArray := List.setIfInBounds_toArray ..
theorem lyB {α : Type} (x : α) (l : List α) (a : α) : (x :: l).set 0 a = a :: l := rfl
theorem lyC {α : Type} (x : α) (l : List α) (i : Nat) (a : α) : (x :: l).set (i + 1) a = x :: l.set i a := rfl
section
variable {P : Program} {ops : Array Oper} {Q : Exit → Act → World → Prop} {md : Region.Mode} {S : World → Prop}
/-- A quiet operation is taken. -/
theorem ly_q (i : Nat) {dst : Option Tmp} {op : Op} {ty : TypeId} {pos : String} {aft : Array Edge} {gd : Option (Nat × Bool)} {v : Value} {fuel : Nat} {listed : Array Bool} {a : Act} {w : World}
    (hS : S w) (h : wpAnyH P md ops Q S fuel (listed.setIfInBounds i true) (a.put dst v) w)
    (hi : ops[i]? = some (Oper.mk dst op ty pos aft gd) := by rfl) (hs : Region.noSelect ops = true := by kernel_rfl) (hf : Region.free md ops listed i = true := by kernel_rfl) (hr : (Region.ready md ops listed).contains i = true := by kernel_rfl)
    (hw : Region.wanted (Oper.mk dst op ty pos aft gd) (yielded ops a.tmps) = true := by kernel_rfl)
    (hy : ∀ w, S w → (execOp a.eval (Oper.mk dst op ty pos aft gd)).run P w = .ok (.value v) w := by intro wS hSw; (try dsimp only at hSw); go_simp; all_goals (with_reducible rfl))
    (hQ : ∀ c a w, Q (.panic c) (a.put dst v) w → Q (.panic c) a w := by exact fun _ _ _ h => h) : wpAnyH P md ops Q S (fuel + 1) listed a w :=
  wpAnyH_take hi hs hf hr hQ (Or.inl ⟨hw, hy⟩) hS h
/-- An operation whose guard is off is passed by. -/
theorem ly_off (i : Nat) {dst : Option Tmp} {op : Op} {ty : TypeId} {pos : String} {aft : Array Edge} {gd : Option (Nat × Bool)} {fuel : Nat} {listed : Array Bool} {a : Act} {w : World}
    (hS : S w) (h : wpAnyH P md ops Q S fuel (listed.setIfInBounds i true) (a.put dst undef) w)
    (hi : ops[i]? = some (Oper.mk dst op ty pos aft gd) := by rfl) (hs : Region.noSelect ops = true := by kernel_rfl) (hf : Region.free md ops listed i = true := by kernel_rfl) (hr : (Region.ready md ops listed).contains i = true := by kernel_rfl)
    (hw : Region.wanted (Oper.mk dst op ty pos aft gd) (yielded ops a.tmps) = false := by kernel_rfl)
    (hQ : ∀ c a w, Q (.panic c) (a.put dst undef) w → Q (.panic c) a w := by exact fun _ _ _ h => h) : wpAnyH P md ops Q S (fuel + 1) listed a w :=
  wpAnyH_take hi hs hf hr hQ (Or.inr ⟨hw, rfl⟩) hS h
/-- The one operation that may come up comes up; behind it S is shown anew. -/
theorem ly_a (i : Nat) {dst : Option Tmp} {op : Op} {ty : TypeId} {pos : String} {aft : Array Edge} {gd : Option (Nat × Bool)} {fuel : Nat} {listed : Array Bool} {a : Act} {w : World}
    (h : ∀ K' : Act → World → Prop, Shut (∀ a w, S w → (S w → wpAnyH P md ops Q S fuel (listed.setIfInBounds i true) a w) → K' a w) → Oper.wp P (Oper.mk dst op ty pos aft gd) a w K' Q)
    (hi : ops[i]? = some (Oper.mk dst op ty pos aft gd) := by rfl) (hr : Region.ready md ops listed = [i] := by kernel_rfl)
    (hw : Region.wanted (Oper.mk dst op ty pos aft gd) (yielded ops a.tmps) = true := by kernel_rfl) : wpAnyH P md ops Q S (fuel + 1) listed a w :=
  wpAnyH_ready hr (by simp) (AllReadyH.cons hi (fun K' hK' => by rw [if_pos hw]; exact h K' hK') AllReadyH.nil)
end
end Go.Proofs.YtgpabfbnbmbmeaaGreatDoor

namespace Go.Proofs.YtgpabfbnbmbmeaaGreatDoor
open Go.RowKit

theorem Tryz.infoInt : (Tryz.prog.info? 3).map (fun i => (i.zero, i.size, i.bytes)) = some (some (.int .i64 0), 1, 8) := by kernel_rfl

/-- Element i of a list of ints, 0 beyond its end; a word that no rule opens. -/
def nth (xs : List Int) (i : Nat) : Int := xs[i]?.getD 0

theorem nth_eq {xs : List Int} {i : Nat} (h : i < xs.length) : nth xs i = xs[i] := by unfold nth; rw [List.getElem?_eq_getElem h]; rfl
theorem nth_mem {xs : List Int} {i : Nat} (h : i < xs.length) : nth xs i ∈ xs := by rw [nth_eq h]; exact List.getElem_mem h
theorem take_nth {xs : List Int} {k : Nat} (h : k < xs.length) : xs.take (k + 1) = xs.take k ++ [nth xs k] := by
  rw [List.take_add_one, List.getElem?_eq_getElem h, nth_eq h]; rfl

/-- The number is an int64. -/
def I64 (n : Int) : Prop := -9223372036854775808 ≤ n ∧ n ≤ 9223372036854775807

/-- How many values a list holds. -/
def szIntS (xs : List Int) : Nat := xs.length
/-- How many numbers a mark writes. -/
def cntIntS (xs : List Int) : Nat := xs.length
theorem cntIntS_le (xs : List Int) : cntIntS xs ≤ 4 * szIntS xs := by unfold cntIntS szIntS; omega

/-- A slice value that reads as these ints. -/
def IntsV (w : World) (v : Value) (xs : List Int) : Prop :=
  ∃ ao cap, v = .slice ao xs.length cap ∧ (xs.length ≤ cap ∧ (ao = none → cap = 0)) ∧ cap ≤ maxLen ∧ ∀ i, i < xs.length → ∃ b off, ao = some ⟨b, off, none⟩ ∧ w.cell? ⟨b, off + i, none⟩ = some (.int .i64 (nth xs i))

theorem IntsV.below {w w' : World} {v : Value} {xs : List Int} (h : IntsV w v xs) (hB : Below w.heap.size w w') : IntsV w' v xs := by
  obtain ⟨ao, cap, rfl, h1, h2, h⟩ := h
  refine ⟨ao, cap, rfl, h1, h2, fun i hi => ?_⟩
  obtain ⟨b, off, e, hc⟩ := h i hi
  exact ⟨b, off, e, by rw [hB.cell (World.block_lt_of_cell? w _ hc)]; exact hc⟩

theorem IntsV.drew {w : World} {v : Value} {xs : List Int} (h : IntsV w v xs) : IntsV w.drew v xs := h.below ((Below.refl _ _).drew)

/-- A slice of the call's own: its block lies in [B, E); or it has no elements. -/
def Own (w : World) (B E : Nat) (v : Value) (xs : List Int) : Prop :=
  (xs = [] ∧ ∃ ao cap, v = .slice ao 0 cap ∧ cap ≤ maxLen ∧ (ao = none → cap = 0)) ∨
  ∃ g cap, v = .slice (some ⟨g, 0, none⟩) xs.length cap ∧ B ≤ g ∧ g < E ∧ w.ownsRow B 3 1 v xs.length (xs.map (Value.int .i64))

theorem Own.mono {w : World} {B E B' E' : Nat} {v : Value} {xs : List Int} (h : Own w B E v xs) (hB : B' ≤ B) (hE : E ≤ E') : Own w B' E' v xs := by
  rcases h with h | ⟨g, cap, e, h1, h2, h3⟩
  · exact .inl h
  · exact .inr ⟨g, cap, e, by omega, by omega, h3.mono hB⟩

theorem Own.kept {w w' : World} {B E : Nat} {v : Value} {xs : List Int} {row : Option Nat} (h : Own w B E v xs) (hg : w.grownBy w' row) (hr : ∀ g, row = some g → g < B ∨ E ≤ g) : Own w' B E v xs := by
  rcases h with h | ⟨g, cap, e, h1, h2, h3⟩
  · exact .inl h
  · refine .inr ⟨g, cap, e, h1, h2, h3.kept hg ?_⟩
    subst e
    right
    intro e
    have := hr g e.symm
    omega

theorem Own.below {w w' : World} {B E E' : Nat} {v : Value} {xs : List Int} (h : Own w B E v xs) (hB : Below E' w w') (hE : E ≤ E') : Own w' B E v xs := by
  rcases h with h | ⟨g, cap, e, h1, h2, h3⟩
  · exact .inl h
  · refine .inr ⟨g, cap, e, h1, h2, h3.1, ?_⟩
    rcases h3.2 with h3 | ⟨g', cap', cur, e', h4, h5, h6⟩
    · exact .inl h3
    · refine .inr ⟨g', cap', cur, e', h4, ?_, h6⟩
      subst e
      simp only [Value.slice.injEq, Option.some.injEq, Addr.mk.injEq, and_true, true_and] at e'
      rw [hB.block g' (by omega)]; exact h5

theorem Own.row {w : World} {B : Nat} {v : Value} {n : Nat} {xs : List Int} (h : w.ownsRow B 3 1 v n (xs.map (Value.int .i64))) : Own w B w.heap.size v xs := by
  have hn : xs.length = n := by simpa using h.1
  subst hn
  rcases h.2 with ⟨rfl, h0⟩ | ⟨g, cap, cur, rfl, h1, h2, h3, h4, h5, h6⟩
  · exact .inl ⟨List.eq_nil_of_length_eq_zero h0, none, 0, by simp, by simp [maxLen], fun _ => rfl⟩
  · exact .inr ⟨g, cap, rfl, h1, (Array.getElem?_eq_some_iff.1 h2).1, h⟩

theorem Own.nil (w : World) (B E : Nat) : Own w B E (.slice none 0 0) [] := .inl ⟨rfl, none, 0, rfl, by simp [maxLen], fun _ => rfl⟩

theorem ownsRow_nth {w : World} {B g n cap : Nat} {xs : List Int} (h : w.ownsRow B 3 1 (.slice (some ⟨g, 0, none⟩) n cap) n (xs.map (Value.int .i64))) {j : Nat} (hj : j < n) : w.cell? ⟨g, j, none⟩ = some (.int .i64 (nth xs j)) := by
  have hl : xs.length = n := by simpa using h.1
  rw [World.ownsRow.cellAt h j (by omega)]
  have hj' : j < xs.length := by omega
  simp [nth, List.getElem?_eq_getElem hj']

theorem Own.read {w : World} {B E : Nat} {v : Value} {xs : List Int} (h : Own w B E v xs) : IntsV w v xs := by
  rcases h with ⟨rfl, ao, cap, rfl, hc, hz⟩ | ⟨g, cap, rfl, h1, h2, h3⟩
  · exact ⟨ao, cap, rfl, ⟨Nat.zero_le _, hz⟩, hc, fun i hi => absurd hi (Nat.not_lt_zero i)⟩
  · have hcap : xs.length ≤ cap ∧ cap ≤ maxLen := by
      rcases h3.2 with ⟨h4, _⟩ | ⟨g', cap', cur, e', h4, h5, h6, h7, _⟩
      · simp at h4
      · simp only [Value.slice.injEq, Option.some.injEq, Addr.mk.injEq, and_true, true_and] at e'
        omega
    refine ⟨some ⟨g, 0, none⟩, cap, rfl, ⟨hcap.1, fun e => by cases e⟩, hcap.2, fun i hi => ⟨g, 0, rfl, ?_⟩⟩
    rw [Nat.zero_add]
    exact ownsRow_nth h3 hi

/-- A row of ints at the head of block g, all that a walk wants of it. -/
def RowAt (w : World) (B g n cap : Nat) (xs : List Int) : Prop := w.ownsRow B 3 1 (.slice (some ⟨g, 0, none⟩) n cap) n (xs.map (Value.int .i64))

theorem RowAt.cell {w : World} {B g n cap : Nat} {xs : List Int} (h : RowAt w B g n cap xs) {j : Nat} (hj : j < n) : w.cell? ⟨g, j, none⟩ = some (.int .i64 (nth xs j)) := ownsRow_nth h hj
theorem RowAt.frozen {w : World} {B g n cap : Nat} {xs : List Int} (h : RowAt w B g n cap xs) (j : Nat) : w.frozen? ⟨g, j, none⟩ = false := World.ownsRow.frozenAt h j
theorem RowAt.stored {w : World} {B g n cap : Nat} {xs : List Int} (h : RowAt w B g n cap xs) (j : Nat) (x : Int) : RowAt (w.setCell ⟨g, j, none⟩ (.int .i64 x)) B g n cap (xs.set j x) := by
  have := (World.ownsRow.stored h j (.int .i64 x)).1
  unfold RowAt; rw [List.map_set]; exact this
theorem RowAt.lt {w : World} {B g n cap : Nat} {xs : List Int} (h : RowAt w B g n cap xs) : B ≤ g ∧ g < w.heap.size := World.ownsRow.lt h g rfl
theorem RowAt.len {w : World} {B g n cap : Nat} {xs : List Int} (h : RowAt w B g n cap xs) : xs.length = n := by simpa using h.1
theorem RowAt.own {w : World} {B g n cap : Nat} {xs : List Int} (h : RowAt w B g n cap xs) : Own w B w.heap.size (.slice (some ⟨g, 0, none⟩) n cap) xs := Own.row h
theorem RowAt.ints {w : World} {B g n cap : Nat} {xs : List Int} (h : RowAt w B g n cap xs) : IntsV w (.slice (some ⟨g, 0, none⟩) n cap) xs := h.own.read
theorem RowAt.kept {w w' : World} {B g n cap : Nat} {xs : List Int} {row : Option Nat} (h : RowAt w B g n cap xs) (hg : w.grownBy w' row) (hr : row ≠ some g) : RowAt w' B g n cap xs :=
  World.ownsRow.kept h hg (.inr (by simpa [Value.ownBlock] using fun e => hr e.symm))
theorem RowAt.below {w w' : World} {B E g n cap : Nat} {xs : List Int} (h : RowAt w B g n cap xs) (hB : Below E w w') (hE : g < E) : RowAt w' B g n cap xs := by
  refine ⟨h.1, ?_⟩
  rcases h.2 with h3 | ⟨g', cap', cur, e', h4, h5, h6⟩
  · exact .inl h3
  · refine .inr ⟨g', cap', cur, e', h4, ?_, h6⟩
    simp only [Value.slice.injEq, Option.some.injEq, Addr.mk.injEq, and_true, true_and] at e'
    rw [hB.block g' (by omega)]; exact h5

/-- 'make([]int, n)': n zeros. -/
theorem row_made {w w1 : World} {B n : Nat} (h : w1.ownsRow B 3 1 (.slice (some ⟨w.heap.size, 0, none⟩) n n) n (madeCells #[Value.int .i64 0] n).toList) : RowAt w1 B w.heap.size n n (List.replicate n 0) := by
  unfold RowAt; rw [List.map_replicate, ← toList_madeCells_one]; exact h

theorem below_made {B : Nat} {w0 w w' : World} (h : Below B w0 w) (hB : B ≤ w.heap.size) (hg : w.grownBy w' none) : Below B w0 w' := h.grown hg hB (fun j hj => by cases hj)

/-- A slice of the call's own that is appended to: nil, or a row from block B on. -/
def Grow (w : World) (B : Nat) (v : Value) (xs : List Int) : Prop := w.ownsRow B 3 1 v xs.length (xs.map (Value.int .i64))

theorem Grow.nil (w : World) (B : Nat) : Grow w B (.slice none 0 0) [] := World.ownsRow_nil w B 3 1
theorem Grow.own {w : World} {B : Nat} {v : Value} {xs : List Int} (h : Grow w B v xs) : Own w B w.heap.size v xs := Own.row h
theorem Grow.read {w : World} {B : Nat} {v : Value} {xs : List Int} (h : Grow w B v xs) : IntsV w v xs := h.own.read
theorem Grow.drew {w : World} {B : Nat} {v : Value} {xs : List Int} (h : Grow w B v xs) : Grow w.drew B v xs := h
theorem Grow.form {w : World} {B : Nat} {v : Value} {xs : List Int} (h : Grow w B v xs) (hn : 0 < xs.length) : ∃ g cap, v = .slice (some ⟨g, 0, none⟩) xs.length cap ∧ RowAt w B g xs.length cap xs := by
  rcases h.2 with ⟨rfl, h0⟩ | ⟨g, cap, cur, rfl, h1, h2, h3, h4, h5, h6⟩
  · omega
  · exact ⟨g, cap, rfl, h⟩
theorem Grow.below {w w' : World} {B : Nat} {v : Value} {xs : List Int} (h : Grow w B v xs) (hB : Below w.heap.size w w') : Grow w' B v xs := by
  refine ⟨h.1, ?_⟩
  rcases h.2 with h3 | ⟨g', cap', cur, e', h4, h5, h6⟩
  · exact .inl h3
  · exact .inr ⟨g', cap', cur, e', h4, by rw [hB.block g' (Array.getElem?_eq_some_iff.1 h5).1]; exact h5, h6⟩
theorem Grow.belowB {w0 w w' : World} {B : Nat} {v : Value} {xs : List Int} {b : Nat} (h : Grow w B v xs) (hb : Below b w0 w) (hB : b ≤ B) (hsz : b ≤ w.heap.size) (hg : w.grownBy w' v.ownBlock) : Below b w0 w' :=
  hb.grown hg hsz (fun k hk => by have := (World.ownsRow.lt h k hk).1; omega)

theorem wpList_append_int {ops : Array Oper} {rest : List Oper} {o : Oper} {a : Act} {w : World} {Q : Exit → Act → World → Prop} (hgd : o.guard = none) (s x : Operand)
    (ho : o.op = .call { callee := .builtin .append, args := #[s, x], argTypes := #[23, 23] }) (B : Nat) (v : Value) (xs : List Int) (z : Int) (c : Nat) (hs : a.eval s = v)
    (hx : a.eval x = .slice (some ⟨w.heap.size, 0, none⟩) 1 c) (hown : Grow w B v xs) (hl : xs.length ≤ 1099511627776) (hB : B ≤ w.heap.size)
    (h : ∀ v' w', Grow w' B v' (xs ++ [z]) → w.grownBy w' v.ownBlock → wpList Tryz.prog ops Q rest (a.put o.dst v') w') : wpList Tryz.prog ops Q (o :: rest) a (w.alloc (.cells #[.int .i64 z] 3)) := by
  obtain ⟨i, hi, hz0, hz1, hz2⟩ := info_parts Tryz.infoInt
  refine wpList_append_own _ hgd s x 23 ho B 3 i (.int .i64 0) 1 8 Tryz.underlying23 hi hz0 hz1 hz2 rfl (by decide) v xs.length _ hs (World.ownsRow.alloc hown _) ⟨w.heap.size, 0, none⟩ 1 c [.int .i64 z] hx rfl (cell_one_new _ _ _) (by simp [Value.oneCell']) (by unfold maxLen; omega) (by omega) (by simp; omega) ?_
  intro v' w' h1 h2 _
  refine h v' w' (by unfold Grow; rw [List.map_append, List.length_append]; exact h1) ((World.grownBy_alloc _ _ _).trans h2)

theorem wpList_append_ints {ops : Array Oper} {rest : List Oper} {o : Oper} {a : Act} {w : World} {Q : Exit → Act → World → Prop} (hgd : o.guard = none) (s x : Operand)
    (ho : o.op = .call { callee := .builtin .append, args := #[s, x], argTypes := #[23, 23] }) (B : Nat) (v u : Value) (xs ys : List Int) (hs : a.eval s = v)
    (hx : a.eval x = u) (hown : Grow w B v xs) (hu : IntsV w u ys) (hl : xs.length + ys.length ≤ 4398046511104) (hB : B ≤ w.heap.size)
    (h : ∀ v' w', Grow w' B v' (xs ++ ys) → w.grownBy w' v.ownBlock → wpList Tryz.prog ops Q rest (a.put o.dst v') w') : wpList Tryz.prog ops Q (o :: rest) a w := by
  obtain ⟨i, hi, hz0, hz1, hz2⟩ := info_parts Tryz.infoInt
  obtain ⟨ao, cap, rfl, ⟨_, hnil⟩, _, H⟩ := hu
  cases ao with
  | none =>
    obtain rfl := hnil rfl
    have : ys = [] := by
      cases ys with
      | nil => rfl
      | cons y ys => obtain ⟨b, off, e, _⟩ := H 0 (by simp); cases e
    subst this
    refine wpList_append_own_none hgd s x 23 ho B 3 i 1 Tryz.underlying23 hi v xs.length _ hs hown hx ?_
    exact h v w (by rw [List.append_nil]; exact hown) (World.grownBy.refl _ _)
  | some ad =>
    refine wpList_append_own _ hgd s x 23 ho B 3 i (.int .i64 0) 1 8 Tryz.underlying23 hi hz0 hz1 hz2 rfl (by decide) v xs.length _ hs hown ad ys.length cap (ys.map (Value.int .i64)) hx (by simp) ?_ ?_ (by unfold maxLen; omega) (by omega) hB ?_
    · intro j u hj
      have hj' : j < ys.length := by
        have := (List.getElem?_eq_some_iff.1 hj).1
        simpa using this
      obtain ⟨b, off, e, hc⟩ := H j hj'
      cases e
      rw [Addr.add_lit, hc]
      rw [List.getElem?_map, List.getElem?_eq_getElem hj'] at hj
      rw [nth_eq hj']; exact hj
    · intro u hu
      obtain ⟨_, _, rfl⟩ := List.mem_map.1 hu
      rfl
    · intro v' w' h1 h2 _
      refine h v' w' (by unfold Grow; rw [List.map_append, List.length_append]; exact h1) h2

/-- '[]int{}': a new row of no cells. -/
theorem Grow.empty (w : World) {B : Nat} (hB : B ≤ w.heap.size) : Grow (w.alloc (.cells #[] 3)) B (.slice (some ⟨w.heap.size, 0, none⟩) 0 0) [] :=
  World.ownsRow_made w #[] 0 hB (Nat.zero_le _) rfl

/-- Blocks of [B, E) alone may have turned; nothing has been laid. -/
structure Turned (B E : Nat) (w w' : World) : Prop where
  os : w'.os = w.os
  tape : w'.tape = w.tape
  output : w'.output = w.output
  size : w'.heap.size = w.heap.size
  block : ∀ k, (k < B ∨ E ≤ k) → w'.heap[k]? = w.heap[k]?

theorem Turned.refl (B E : Nat) (w : World) : Turned B E w w := ⟨rfl, rfl, rfl, rfl, fun _ _ => rfl⟩
theorem Turned.trans {B E : Nat} {a b c : World} (h : Turned B E a b) (k : Turned B E b c) : Turned B E a c :=
  ⟨k.os.trans h.os, k.tape.trans h.tape, k.output.trans h.output, k.size.trans h.size, fun i hi => (k.block i hi).trans (h.block i hi)⟩
theorem Turned.mono {B E B' E' : Nat} {w w' : World} (h : Turned B E w w') (hB : B' ≤ B) (hE : E ≤ E') : Turned B' E' w w' :=
  ⟨h.os, h.tape, h.output, h.size, fun k hk => h.block k (by omega)⟩
theorem Turned.below {B E : Nat} {w w' : World} (h : Turned B E w w') : Below B w w' :=
  ⟨h.os, h.tape, h.output, by rw [h.size]; exact Nat.le_refl _, fun k hk => h.block k (.inl hk)⟩
theorem Turned.setCell {B E : Nat} {w w' : World} (h : Turned B E w w') {p : Addr} (h1 : B ≤ p.block) (h2 : p.block < E) (u : Value) : Turned B E w (w'.setCell p u) :=
  h.trans ⟨rfl, rfl, rfl, by simp [World.setCell], fun k hk => Below.heap_setCell _ _ _ _ (by omega)⟩

theorem Own.turned {w w' : World} {B E B' E' : Nat} {v : Value} {xs : List Int} (h : Own w B E v xs) (ht : Turned B' E' w w') (hd : E ≤ B' ∨ E' ≤ B) : Own w' B E v xs := by
  rcases h with h | ⟨g, cap, e, h1, h2, h3⟩
  · exact .inl h
  · refine .inr ⟨g, cap, e, h1, h2, h3.1, ?_⟩
    rcases h3.2 with h3 | ⟨g', cap', cur, e', h4, h5, h6⟩
    · exact .inl h3
    · refine .inr ⟨g', cap', cur, e', h4, ?_, h6⟩
      subst e
      simp only [Value.slice.injEq, Option.some.injEq, Addr.mk.injEq, and_true, true_and] at e'
      rw [ht.block g' (by omega)]; exact h5

/-! The ends of calls. -/
/-- It returns v; all that was there is as it was. -/
def Ret (v : Value) (w : World) (e : Ending) (w' : World) : Prop := e = .returned v ∧ Below w.heap.size w w'
/-- It returns new memory that holds x. -/
def RetO {α : Type} (O : World → Nat → Nat → Value → α → Prop) (x : α) (w : World) (e : Ending) (w' : World) : Prop := ∃ v, e = .returned v ∧ O w' w.heap.size w'.heap.size v x ∧ Below w.heap.size w w'
/-- It returns new memory that holds r.1, and the bool r.2. -/
def RetOB {α : Type} (O : World → Nat → Nat → Value → α → Prop) (r : α × Bool) (w : World) (e : Ending) (w' : World) : Prop := ∃ v, e = .returned (.tuple #[v, .bool r.2]) ∧ O w' w.heap.size w'.heap.size v r.1 ∧ Below w.heap.size w w'
/-- It returns two pieces of new memory, the second behind the first, and a bool. -/
def RetO2B {α β : Type} (O : World → Nat → Nat → Value → α → Prop) (O' : World → Nat → Nat → Value → β → Prop) (r : α × β × Bool) (w : World) (e : Ending) (w' : World) : Prop :=
  ∃ v v' m, e = .returned (.tuple #[v, v', .bool r.2.2]) ∧ O w' w.heap.size m v r.1 ∧ O' w' m w'.heap.size v' r.2.1 ∧ w.heap.size ≤ m ∧ m ≤ w'.heap.size ∧ Below w.heap.size w w'

end Go.Proofs.YtgpabfbnbmbmeaaGreatDoor

namespace Go.Proofs.YtgpabfbnbmbmeaaGreatDoor
open Go.RowKit

/-- lo ≤ n ≤ hi, as a bool. -/
def inB (n lo hi : Int) : Bool := decide (lo ≤ n) && decide (n ≤ hi)
theorem inB_true {n lo hi : Int} : inB n lo hi = true ↔ lo ≤ n ∧ n ≤ hi := by simp [inB]
theorem inB_false {n lo hi : Int} : inB n lo hi = false ↔ n < lo ∨ hi < n := by
  rw [← Bool.not_eq_true, inB_true]; omega

/-- The call returns v; the world is the same. -/
def Same (v : Value) (w : World) (e : Ending) (w' : World) : Prop := e = .returned v ∧ w = w'
theorem Same.ret {v : Value} {w : World} {e : Ending} {w' : World} (h : Same v w e w') : Ret v w e w' := ⟨h.1, h.2 ▸ Below.refl _ _⟩

theorem l1In_any (n lo hi : Int) (w : World) : Calls Tryz.prog 33 #[.int .i64 n, .int .i64 lo, .int .i64 hi] w (Same (.bool (inB n lo hi)) w) := by
  by_cases h1 : lo ≤ n
  · by_cases h2 : n ≤ hi
    · have : inB n lo hi = true := inB_true.2 ⟨h1, h2⟩
      rw [this]; clear this
      go_enter Tryz.func33, Tryz.ntmps33
      go_wp2
      go_ret
      exact ⟨rfl, rfl⟩
    · have : inB n lo hi = false := inB_false.2 (by omega)
      rw [this]; clear this
      go_enter Tryz.func33, Tryz.ntmps33
      go_wp2
      go_ret
      exact ⟨rfl, rfl⟩
  · have : inB n lo hi = false := inB_false.2 (by omega)
    rw [this]; clear this
    go_enter Tryz.func33, Tryz.ntmps33
    go_wp2
    go_ret
    exact ⟨rfl, rfl⟩

theorem within_any (n lo hi : Int) (w : World) : Calls Tryz.prog 30 #[.int .i64 n, .int .i64 lo, .int .i64 hi] w (Same (.bool (inB n lo hi)) w) := by
  by_cases h1 : lo ≤ n
  · by_cases h2 : n ≤ hi
    · have : inB n lo hi = true := inB_true.2 ⟨h1, h2⟩
      rw [this]; clear this
      go_enter Tryz.func30, Tryz.ntmps30
      go_wp2
      go_ret
      exact ⟨rfl, rfl⟩
    · have : inB n lo hi = false := inB_false.2 (by omega)
      rw [this]; clear this
      go_enter Tryz.func30, Tryz.ntmps30
      go_wp2
      go_ret
      exact ⟨rfl, rfl⟩
  · have : inB n lo hi = false := inB_false.2 (by omega)
    rw [this]; clear this
    go_enter Tryz.func30, Tryz.ntmps30
    go_wp2
    go_ret
    exact ⟨rfl, rfl⟩

/-- All numbers lie within the bounds. -/
def allB (xs : List Int) (lo hi : Int) : Bool := xs.all fun n => inB n lo hi
theorem allB_take {xs : List Int} {lo hi : Int} {k : Nat} (hk : k < xs.length) : allB (xs.take (k + 1)) lo hi = (allB (xs.take k) lo hi && inB (nth xs k) lo hi) := by
  rw [take_nth hk]; simp [allB]
theorem allB_no {xs : List Int} {lo hi : Int} {k : Nat} (hk : k < xs.length) (h : inB (nth xs k) lo hi = false) : allB xs lo hi = false := by
  unfold allB
  rw [List.all_eq_false]
  exact ⟨_, nth_mem hk, by rw [h]; simp⟩

theorem l1All_any (v : Value) (xs : List Int) (lo hi : Int) (w : World) (hv : IntsV w v xs) (hm : xs.length ≤ 1099511627776) :
    Calls Tryz.prog 58 #[v, .int .i64 lo, .int .i64 hi] w (Same (.bool (allB xs lo hi)) w) := by
  obtain ⟨ao, cap, rfl, _, _, H⟩ := hv
  go_enter Tryz.func58, Tryz.ntmps58
  go_wp2
  go_loop [11] (fun i => ∃ k : Nat, k ≤ xs.length ∧ i = .int .i64 k ∧ allB (xs.take k) lo hi = true) (fun i => xs.length - (intOf i).toNat)
  case atStart => exact ⟨0, Nat.zero_le _, rfl, rfl⟩
  case round =>
    obtain ⟨k, hk, rfl, ha⟩ := hrel
    have ha' := Lib.hid ha
    clear ha
    by_cases hlt : k < xs.length
    · obtain ⟨b, off, rfl, hc⟩ := H k hlt
      clear H
      cases hb : inB (nth xs k) lo hi
      · have hb' := Lib.hid hb
        clear hb
        go_wp2_with fail
        refine (l1In_any _ _ _ _).mono ?_
        rintro e w' ⟨rfl, rfl⟩
        rw [hb'.out]
        go_wp2
        go_ret
        exact ⟨by rw [allB_no hlt hb'.out]; rfl, rfl⟩
      · have hb' := Lib.hid hb
        clear hb
        go_wp2_with fail
        refine (l1In_any _ _ _ _).mono ?_
        rintro e w' ⟨rfl, rfl⟩
        rw [hb'.out]
        go_wp2
        go_round
        case rel => exact ⟨k + 1, by omega, by go_num, by rw [allB_take hlt, ha'.out, hb'.out]; rfl⟩
        case measure => simp [intOf]; omega
    · clear H
      obtain rfl : k = xs.length := by omega
      go_wp2
      go_ret
      refine ⟨?_, rfl⟩
      have := ha'.out
      rw [List.take_length] at this
      rw [this]; rfl

/-- The first place at which p holds, or -1. -/
def idxB (p : Int → Bool) (xs : List Int) : Int := match xs.findIdx? p with | some k => (k : Int) | none => -1
theorem idxB_hit {p : Int → Bool} {xs : List Int} {k : Nat} (hk : k < xs.length) (hno : ∀ j, j < k → p (nth xs j) = false) (hy : p (nth xs k) = true) : idxB p xs = k := by
  have : xs.findIdx? p = some k := by
    rw [List.findIdx?_eq_some_iff_getElem]
    refine ⟨hk, by rw [← nth_eq hk]; exact hy, fun j hj => ?_⟩
    rw [← nth_eq (by omega)]; simp [hno j hj]
  simp [idxB, this]
theorem idxB_none {p : Int → Bool} {xs : List Int} (hno : ∀ j, j < xs.length → p (nth xs j) = false) : idxB p xs = -1 := by
  have : xs.findIdx? p = none := by
    rw [List.findIdx?_eq_none_iff]
    intro x hx
    obtain ⟨j, hj, rfl⟩ := List.getElem_of_mem hx
    rw [← nth_eq hj]; exact hno j hj
  simp [idxB, this]
theorem idxB_geq (p : Int → Bool) (xs : List Int) : decide (idxB p xs ≥ 0) = xs.any p := by
  unfold idxB
  cases h : xs.findIdx? p with
  | none =>
    rw [List.findIdx?_eq_none_iff] at h
    have : xs.any p = false := by rw [List.any_eq_false]; intro x hx; rw [h x hx]; simp
    rw [this]; rfl
  | some k =>
    rw [List.findIdx?_eq_some_iff_getElem] at h
    obtain ⟨hk, hp, _⟩ := h
    have : xs.any p = true := by rw [List.any_eq_true]; exact ⟨_, List.getElem_mem hk, hp⟩
    rw [this]; simp

/-- A function value of ints that says p, whatever has been laid since w. -/
def Says (g : FuncId) (cb : Array Value) (p : Int → Bool) (w : World) : Prop :=
  ∀ x w', Below w.heap.size w w' → Calls Tryz.prog g (#[.int .i64 x] ++ cb) w' (Ret (.bool (p x)) w')

theorem indexFunc_any (v : Value) (xs : List Int) (g : FuncId) (cb : Array Value) (p : Int → Bool) (w : World) (eg : Enters Tryz.prog g) (hp : Says g cb p w) (hv : IntsV w v xs) (hm : xs.length ≤ 1099511627776) :
    Calls Tryz.prog 70 #[v, .func (.func g) #[] cb] w (Ret (.int .i64 (idxB p xs)) w) := by
  have heg : ∀ args w, (callFunc g args).run Tryz.prog w = .ok (.enter g args) w := eg
  obtain ⟨ao, cap, rfl, h1, h2, H0⟩ := hv
  have hv : IntsV w (.slice ao xs.length cap) xs := ⟨ao, cap, rfl, h1, h2, H0⟩
  clear H0 h1 h2
  go_enter Tryz.func70, Tryz.ntmps70
  go_wp2
  go_loopw [8] (fun i wr => ∃ k : Nat, k ≤ xs.length ∧ i = .int .i64 k ∧ (∀ j, j < k → p (nth xs j) = false) ∧ Below w.heap.size w wr) (fun i _ => xs.length - (intOf i).toNat)
  case atStart => exact ⟨0, Nat.zero_le _, rfl, fun j hj => absurd hj (Nat.not_lt_zero j), Below.refl _ _⟩
  case round =>
    obtain ⟨k, hk, rfl, hno, hB⟩ := hrel
    have hno' := Lib.hid hno
    clear hno
    by_cases hlt : k < xs.length
    · obtain ⟨ao', cap', e, _, _, H⟩ := hv.below hB
      obtain ⟨rfl, _, rfl⟩ := Value.slice.inj e
      obtain ⟨b, off, rfl, hc⟩ := H k hlt
      have hcall := hp (nth xs k) wr hB
      have hcall' := Lib.hid hcall
      clear H e hcall
      cases hb : p (nth xs k)
      · have hb' := Lib.hid hb
        clear hb
        go_wp2_with fail
        refine (hcall'.out).mono ?_
        rintro e w' ⟨rfl, hB'⟩
        rw [hb'.out]
        go_wp2
        go_roundw
        case rel => exact ⟨k + 1, by omega, by go_num, fun j hj => by
          rcases Nat.lt_succ_iff_lt_or_eq.1 hj with h | rfl
          · exact hno'.out j h
          · exact hb'.out, hB.trans (hB'.mono hB.size)⟩
        case measure => simp [intOf]; omega
      · have hb' := Lib.hid hb
        clear hb
        go_wp2_with fail
        refine (hcall'.out).mono ?_
        rintro e w' ⟨rfl, hB'⟩
        rw [hb'.out]
        go_wp2
        go_ret
        exact ⟨by rw [idxB_hit hlt hno'.out hb'.out]; rfl, hB.trans (hB'.mono hB.size)⟩
    · obtain rfl : k = xs.length := by omega
      go_wp2
      go_ret
      exact ⟨by rw [idxB_none hno'.out]; rfl, hB⟩

theorem containsFunc_any (v : Value) (xs : List Int) (g : FuncId) (cb : Array Value) (p : Int → Bool) (w : World) (eg : Enters Tryz.prog g) (hp : Says g cb p w) (hv : IntsV w v xs) (hm : xs.length ≤ 1099511627776) :
    Calls Tryz.prog 56 #[v, .func (.func g) #[] cb] w (Ret (.bool (xs.any p)) w) := by
  go_enter Tryz.func56, Tryz.ntmps56
  go_wp2_with fail
  refine (indexFunc_any v xs g cb p _ eg hp hv hm).mono ?_
  rintro e w' ⟨rfl, hB⟩
  go_wp2
  go_ret
  refine ⟨?_, hB⟩
  rw [← idxB_geq]; rfl

end Go.Proofs.YtgpabfbnbmbmeaaGreatDoor

namespace Go.Proofs.YtgpabfbnbmbmeaaGreatDoor
open Go.RowKit

/-- The list is a polynomial: at most 9 coefficients of at most a million, the last one not 0. -/
def polyB (xs : List Int) : Bool := decide (xs.length ≤ 9) && allB xs (-1000000) 1000000 && (decide (xs.length = 0) || nth xs (xs.length - 1) != 0)

theorem polyB_len {xs : List Int} (h : 9 < xs.length) : polyB xs = false := by
  have : decide (xs.length ≤ 9) = false := by simp; omega
  simp [polyB, this]
theorem polyB_all {xs : List Int} (h : allB xs (-1000000) 1000000 = false) : polyB xs = false := by simp [polyB, h]
theorem polyB_nil {xs : List Int} (h : xs.length = 0) : polyB xs = true := by
  obtain rfl := List.eq_nil_of_length_eq_zero h; rfl
theorem polyB_last {xs : List Int} (h1 : xs.length ≤ 9) (h2 : allB xs (-1000000) 1000000 = true) (h3 : 0 < xs.length) : polyB xs = (nth xs (xs.length - 1) != 0) := by
  have e1 : decide (xs.length ≤ 9) = true := decide_eq_true h1
  have e2 : decide (xs.length = 0) = false := decide_eq_false (by omega)
  simp only [polyB, e1, e2, h2, Bool.true_and, Bool.and_true, Bool.false_or]

set_option maxHeartbeats 400000 in
theorem poGood_any (v : Value) (xs : List Int) (w : World) (hv : IntsV w v xs) (hm : xs.length ≤ 1099511627776) :
    Calls Tryz.prog 32 #[v] w (Same (.bool (polyB xs)) w) := by
  have hall := l1All_any v xs (-1000000) 1000000 w hv hm
  obtain ⟨ao, cap, rfl, h1, h2, H⟩ := hv
  by_cases hl : xs.length ≤ 9
  · cases ha : allB xs (-1000000) 1000000
    · rw [polyB_all ha]
      rw [ha] at hall
      have hall' := Lib.hid hall
      clear hall ha H
      go_enter Tryz.func32, Tryz.ntmps32
      go_wp2_with fail
      refine hall'.out.mono ?_
      rintro e w' ⟨rfl, rfl⟩
      go_wp2
      go_ret
      exact ⟨rfl, rfl⟩
    · rw [ha] at hall
      have hall' := Lib.hid hall
      clear hall
      by_cases h0 : xs.length = 0
      · rw [polyB_nil h0]
        clear ha H
        obtain ⟨n, hn⟩ : ∃ n, xs.length = n := ⟨_, rfl⟩
        rw [hn] at hl h1 h0 hall' ⊢
        clear hn
        subst h0
        go_enter Tryz.func32, Tryz.ntmps32
        go_wp2_with fail
        refine hall'.out.mono ?_
        rintro e w' ⟨rfl, rfl⟩
        go_wp2
        go_ret
        exact ⟨rfl, rfl⟩
      · rw [polyB_last hl ha (by omega)]
        clear ha
        obtain ⟨b, off, rfl, hc⟩ := H (xs.length - 1) (by omega)
        clear H
        have hx : ∃ x, nth xs (xs.length - 1) = x := ⟨_, rfl⟩
        obtain ⟨x, hx⟩ := hx
        rw [hx] at hc ⊢
        clear hx
        obtain ⟨n, hn⟩ : ∃ n, xs.length = n := ⟨_, rfl⟩
        rw [hn] at hl h1 h0 hall' hc ⊢
        clear hn
        have hz : ((n : Int) == 0) = false := by rw [beq_eq_false_iff_ne]; omega
        go_enter Tryz.func32, Tryz.ntmps32
        go_wp2_with fail
        refine hall'.out.mono ?_
        rintro e w' ⟨rfl, rfl⟩
        go_wp2
        go_ret
        exact ⟨rfl, rfl⟩
  · rw [polyB_len (by omega)]
    clear H hall
    go_enter Tryz.func32, Tryz.ntmps32
    go_wp2
    go_ret
    exact ⟨rfl, rfl⟩

theorem any_not_allB (xs : List Int) (lo hi : Int) : (xs.any fun n => !inB n lo hi) = !allB xs lo hi := by
  simp [allB, List.not_all_eq_any_not]

theorem isPoly1_says (w : World) : Says 57 #[] (fun n => !inB n (-1000000) 1000000) w := by
  intro x w' _
  go_enter Tryz.func57, Tryz.ntmps57
  go_wp2_with fail
  refine (within_any _ _ _ _).mono ?_
  rintro e w' ⟨rfl, rfl⟩
  go_wp2
  go_ret
  exact ⟨rfl, Below.refl _ _⟩

set_option maxHeartbeats 400000 in
theorem isPolynomial_any (v : Value) (xs : List Int) (w : World) (hv : IntsV w v xs) (hm : xs.length ≤ 1099511627776) :
    Calls Tryz.prog 29 #[v] w (Ret (.bool (polyB xs)) w) := by
  have hall := containsFunc_any v xs 57 #[] _ w (enters_of Tryz.func57 (by kernel_rfl) rfl) (isPoly1_says w) hv hm
  rw [any_not_allB] at hall
  obtain ⟨ao, cap, rfl, h1, h2, H⟩ := id hv
  by_cases hl : xs.length ≤ 9
  · cases ha : allB xs (-1000000) 1000000
    · rw [polyB_all ha]
      rw [ha, Bool.not_false] at hall
      have hall' := Lib.hid hall
      clear hall ha H
      go_enter Tryz.func29, Tryz.ntmps29
      go_wp2_with fail
      refine hall'.out.mono ?_
      rintro e w' ⟨rfl, hB⟩
      go_wp2
      go_ret
      exact ⟨rfl, hB⟩
    · rw [ha, Bool.not_true] at hall
      have hall' := Lib.hid hall
      clear hall
      by_cases h0 : xs.length = 0
      · rw [polyB_nil h0]
        clear ha H
        obtain ⟨n, hn⟩ : ∃ n, xs.length = n := ⟨_, rfl⟩
        rw [hn] at hl h1 h0 hall' ⊢
        clear hn hv
        subst h0
        go_enter Tryz.func29, Tryz.ntmps29
        go_wp2_with fail
        refine hall'.out.mono ?_
        rintro e w' ⟨rfl, hB⟩
        go_wp2
        go_ret
        exact ⟨rfl, hB⟩
      · rw [polyB_last hl ha (by omega)]
        clear ha H
        obtain ⟨n, hn⟩ : ∃ n, xs.length = n := ⟨_, rfl⟩
        have hz : ((n : Int) == 0) = false := by rw [beq_eq_false_iff_ne]; omega
        have hv' := Lib.hid hv
        clear hv
        rw [hn] at hl h1 h0 hall' ⊢
        have hn' := Lib.hid hn
        clear hn
        go_enter Tryz.func29, Tryz.ntmps29
        go_wp2_with fail
        refine hall'.out.mono ?_
        rintro e w' ⟨rfl, hB⟩
        obtain ⟨ao', cap', e, _, _, H⟩ := hv'.out.below hB
        rw [hn'.out] at e H
        obtain ⟨rfl, _, rfl⟩ := Value.slice.inj e
        obtain ⟨b, off, rfl, hc⟩ := H (n - 1) (by omega)
        clear H e
        obtain ⟨x, hx⟩ : ∃ x, nth xs (n - 1) = x := ⟨_, rfl⟩
        have hx' := Lib.hid hx
        rw [hx] at hc
        clear hx
        go_wp2
        go_ret
        exact ⟨by rw [hx'.out]; rfl, hB⟩
  · rw [polyB_len (by omega)]
    clear H hall hv
    go_enter Tryz.func29, Tryz.ntmps29
    go_wp2
    go_ret
    exact ⟨rfl, Below.refl _ _⟩

/-- What both IsPolynomial functions return. -/
def IsPolynomial_v (xs : List Int) : Bool := polyB xs


theorem implIsPolynomial_any (v : Value) (xs : List Int) (w : World) (hv : IntsV w v xs) (hm : szIntS xs ≤ 1099511627776) :
    Calls Tryz.prog 20 #[v] w (Ret (.bool (IsPolynomial_v xs)) w) := by
  go_enter Tryz.func20, Tryz.ntmps20
  go_wp2_with fail
  refine (isPolynomial_any v xs w hv hm).mono ?_
  rintro e w' ⟨rfl, hB⟩
  go_wp2
  go_ret
  exact ⟨rfl, hB⟩

theorem poGood_ret (v : Value) (xs : List Int) (w : World) (hv : IntsV w v xs) (hm : xs.length ≤ 1099511627776) :
    Calls Tryz.prog 32 #[v] w (Ret (.bool (polyB xs)) w) := (poGood_any v xs w hv hm).mono fun _ _ h => h.ret
theorem isPolynomial_ret (v : Value) (xs : List Int) (w : World) (hv : IntsV w v xs) (hm : xs.length ≤ 1099511627776) :
    Calls Tryz.prog 29 #[v] w (Ret (.bool (polyB xs)) w) := isPolynomial_any v xs w hv hm

end Go.Proofs.YtgpabfbnbmbmeaaGreatDoor

namespace Go.Proofs.YtgpabfbnbmbmeaaGreatDoor
open Go.RowKit

/-- A number's sign. -/
def sgn (n : Int) : Int := if 0 < n then 1 else if n < 0 then -1 else 0

theorem l1Sign_any (n : Int) (w : World) : Calls Tryz.prog 40 #[.int .i64 n] w (Same (.int .i64 (sgn n)) w) := by
  by_cases h1 : 0 < n
  · have : sgn n = 1 := by unfold sgn; rw [if_pos h1]
    rw [this]; clear this
    go_enter Tryz.func40, Tryz.ntmps40
    go_wp2
    go_ret
    exact ⟨rfl, rfl⟩
  · by_cases h2 : n < 0
    · have : sgn n = -1 := by unfold sgn; rw [if_neg h1, if_pos h2]
      rw [this]; clear this
      go_enter Tryz.func40, Tryz.ntmps40
      go_wp2
      go_ret
      exact ⟨rfl, rfl⟩
    · have : sgn n = 0 := by unfold sgn; rw [if_neg h1, if_neg h2]
      rw [this]; clear this
      go_enter Tryz.func40, Tryz.ntmps40
      go_wp2
      go_ret
      exact ⟨rfl, rfl⟩

/-- One more coefficient: the changes so far, the last one that is not 0. -/
def chgStep (s : Int × Int) (n : Int) : Int × Int := if n = 0 then s else (if s.2 ≠ 0 ∧ ¬ (s.2 < 0 ↔ n < 0) then s.1 + 1 else s.1, n)
/-- After k coefficients: c changes, l the last one that is not 0. -/
def Chg (xs : List Int) (k : Nat) (c l : Int) : Prop := (xs.take k).foldl chgStep (0, 0) = (c, l) ∧ 0 ≤ c ∧ c ≤ k
theorem Chg.start (xs : List Int) : Chg xs 0 0 0 := ⟨rfl, Int.le_refl _, Int.le_refl _⟩
theorem Chg.zero {xs : List Int} {k : Nat} {c l : Int} (h : Chg xs k c l) (hk : k < xs.length) (hx : nth xs k = 0) : Chg xs (k + 1) c l := by
  refine ⟨?_, h.2.1, by have := h.2.2; omega⟩
  rw [take_nth hk, List.foldl_append, h.1, hx]; rfl
theorem Chg.still {xs : List Int} {k : Nat} {c l : Int} (h : Chg xs k c l) (hk : k < xs.length) (hx : nth xs k ≠ 0) (hs : l = 0 ∨ (l < 0 ↔ nth xs k < 0)) : Chg xs (k + 1) c (nth xs k) := by
  refine ⟨?_, h.2.1, by have := h.2.2; omega⟩
  rw [take_nth hk, List.foldl_append, h.1]
  show chgStep (c, l) (nth xs k) = _
  unfold chgStep
  rw [if_neg hx, if_neg (by rintro ⟨h1, h2⟩; rcases hs with h3 | h3; exact h1 h3; exact h2 h3)]
theorem Chg.turn {xs : List Int} {k : Nat} {c l : Int} (h : Chg xs k c l) (hk : k < xs.length) (hx : nth xs k ≠ 0) (h0 : l ≠ 0) (hs : ¬ (l < 0 ↔ nth xs k < 0)) : Chg xs (k + 1) (c + 1) (nth xs k) := by
  refine ⟨?_, by have := h.2.1; omega, by have := h.2.2; omega⟩
  rw [take_nth hk, List.foldl_append, h.1]
  show chgStep (c, l) (nth xs k) = _
  unfold chgStep
  rw [if_neg hx, if_pos ⟨h0, hs⟩]

/-- What both functions return. -/
def SignChanges_v (xs : List Int) : Int × Bool := if polyB xs = true then ((xs.foldl chgStep (0, 0)).1, true) else (0, false)
theorem SignChanges_no {xs : List Int} (h : polyB xs = false) : SignChanges_v xs = (0, false) := by simp [SignChanges_v, h]
theorem SignChanges_yes {xs : List Int} {c l : Int} (h : polyB xs = true) (hc : Chg xs xs.length c l) : SignChanges_v xs = (c, true) := by
  have := hc.1
  rw [List.take_length] at this
  simp [SignChanges_v, h, this]

set_option maxHeartbeats 1000000 in
theorem implSignChanges_any (v : Value) (xs : List Int) (w : World) (hv : IntsV w v xs) (hm : szIntS xs ≤ 1099511627776) :
    Calls Tryz.prog 9 #[v] w (Ret (.tuple #[.int .i64 (SignChanges_v xs).1, .bool (SignChanges_v xs).2]) w) := by
  have hm' : xs.length ≤ 1099511627776 := hm
  clear hm
  have hp := isPolynomial_any v xs w hv hm'
  cases hb : polyB xs
  · rw [SignChanges_no hb]
    rw [hb] at hp
    have hp' := Lib.hid hp
    clear hp hb
    go_enter Tryz.func9, Tryz.ntmps9
    go_wp2_with fail
    refine hp'.out.mono ?_
    rintro e w1 ⟨rfl, hB⟩
    go_wp2
    go_ret2
    exact ⟨rfl, hB⟩
  · rw [hb] at hp
    have hp' := Lib.hid hp
    have hb' := Lib.hid hb
    have hv' := Lib.hid hv
    obtain ⟨ao, cap, rfl, -, -, -⟩ := id hv
    clear hp hb hv
    obtain ⟨n, hn⟩ : ∃ n, xs.length = n := ⟨_, rfl⟩
    rw [hn] at hm' hp' hv' ⊢
    have hn' := Lib.hid hn
    clear hn
    go_enter Tryz.func9, Tryz.ntmps9
    go_wp2_with fail
    refine hp'.out.mono ?_
    rintro e w1 ⟨rfl, hB⟩
    clear hp'
    go_wp2
    go_loop [4, 5, 13] (fun c l i => ∃ (k : Nat) (c' l' : Int), k ≤ n ∧ i = .int .i64 k ∧ c = .int .i64 c' ∧ l = .int .i64 l' ∧ Chg xs k c' l') (fun _ _ i => n - (intOf i).toNat)
    case atStart => exact ⟨0, 0, 0, Nat.zero_le _, rfl, rfl, rfl, Chg.start xs⟩
    case round =>
      obtain ⟨k, c, l, hk, rfl, rfl, rfl, hc⟩ := hrel
      by_cases hlt : k < n
      · obtain ⟨ao', cap', e, -, -, H⟩ := hv'.out.below hB
        rw [hn'.out] at e H
        obtain ⟨rfl, _, rfl⟩ := Value.slice.inj e
        obtain ⟨b, off, rfl, hcell⟩ := H k hlt
        have hkx : k < xs.length := by rw [hn'.out]; exact hlt
        clear H e
        have z0 := fun h => hc.zero hkx h
        have z1 := fun h1 h2 => hc.still hkx h1 h2
        have z2 := fun h1 h2 h3 => hc.turn hkx h1 h2 h3
        have hc1 := hc.2.1
        have hc2 := hc.2.2
        generalize nth xs k = x at hcell z0 z1 z2
        replace z0 := Lib.hid z0
        replace z1 := Lib.hid z1
        replace z2 := Lib.hid z2
        clear hkx
        rcases Int.lt_trichotomy x 0 with hx | rfl | hx
        · have hx0 : (x == 0) = false := by rw [beq_eq_false_iff_ne]; omega
          have dx : decide (x < 0) = true := decide_eq_true hx
          rcases Int.lt_trichotomy l 0 with hl | rfl | hl
          · have hl0 : (l != 0) = true := by rw [bne_iff_ne]; omega
            have dl : decide (l < 0) = true := decide_eq_true hl
            go_wp2
            go_round
            case rel => exact ⟨k + 1, c, x, by omega, by go_num, rfl, rfl, z1.out (by omega) (by omega)⟩
            case measure => simp [intOf]; omega
          · go_wp2
            go_round
            case rel => exact ⟨k + 1, c, x, by omega, by go_num, rfl, rfl, z1.out (by omega) (by omega)⟩
            case measure => simp [intOf]; omega
          · have hl0 : (l != 0) = true := by rw [bne_iff_ne]; omega
            have dl : decide (l < 0) = false := decide_eq_false (by omega)
            go_wp2
            go_round
            case rel => exact ⟨k + 1, c + 1, x, by omega, by go_num, rfl, rfl, z2.out (by omega) (by omega) (by omega)⟩
            case measure => simp [intOf]; omega
        · go_wp2
          go_round
          case rel => exact ⟨k + 1, c, l, by omega, by go_num, rfl, rfl, z0.out rfl⟩
          case measure => simp [intOf]; omega
        · have hx0 : (x == 0) = false := by rw [beq_eq_false_iff_ne]; omega
          have dx : decide (x < 0) = false := decide_eq_false (by omega)
          rcases Int.lt_trichotomy l 0 with hl | rfl | hl
          · have hl0 : (l != 0) = true := by rw [bne_iff_ne]; omega
            have dl : decide (l < 0) = true := decide_eq_true hl
            go_wp2
            go_round
            case rel => exact ⟨k + 1, c + 1, x, by omega, by go_num, rfl, rfl, z2.out (by omega) (by omega) (by omega)⟩
            case measure => simp [intOf]; omega
          · go_wp2
            go_round
            case rel => exact ⟨k + 1, c, x, by omega, by go_num, rfl, rfl, z1.out (by omega) (by omega)⟩
            case measure => simp [intOf]; omega
          · have hl0 : (l != 0) = true := by rw [bne_iff_ne]; omega
            have dl : decide (l < 0) = false := decide_eq_false (by omega)
            go_wp2
            go_round
            case rel => exact ⟨k + 1, c, x, by omega, by go_num, rfl, rfl, z1.out (by omega) (by omega)⟩
            case measure => simp [intOf]; omega
      · obtain rfl : k = n := by omega
        go_wp2
        go_ret2
        refine ⟨?_, hB⟩
        rw [SignChanges_yes hb'.out (by rw [hn'.out]; exact hc)]; rfl

theorem sgn_neg {n : Int} (h : n < 0) : sgn n = -1 := by unfold sgn; rw [if_neg (by omega), if_pos h]
theorem sgn_pos {n : Int} (h : 0 < n) : sgn n = 1 := by unfold sgn; rw [if_pos h]

set_option maxHeartbeats 1000000 in
theorem specSignChanges_any (v : Value) (xs : List Int) (w : World) (hv : IntsV w v xs) (hm : szIntS xs ≤ 1099511627776) :
    Calls Tryz.prog 10 #[v] w (Ret (.tuple #[.int .i64 (SignChanges_v xs).1, .bool (SignChanges_v xs).2]) w) := by
  have hm' : xs.length ≤ 1099511627776 := hm
  clear hm
  have hp := poGood_any v xs w hv hm'
  cases hb : polyB xs
  · rw [SignChanges_no hb]
    rw [hb] at hp
    have hp' := Lib.hid hp
    clear hp hb
    go_enter Tryz.func10, Tryz.ntmps10
    go_wp2_with fail
    refine hp'.out.mono ?_
    rintro e w1 ⟨rfl, rfl⟩
    go_wp2
    go_ret2
    exact ⟨rfl, Below.refl _ _⟩
  · rw [hb] at hp
    have hp' := Lib.hid hp
    have hb' := Lib.hid hb
    have hv' := Lib.hid hv
    obtain ⟨ao, cap, rfl, -, -, -⟩ := id hv
    clear hp hb hv
    obtain ⟨n, hn⟩ : ∃ n, xs.length = n := ⟨_, rfl⟩
    rw [hn] at hm' hp' hv' ⊢
    have hn' := Lib.hid hn
    clear hn
    go_enter Tryz.func10, Tryz.ntmps10
    go_wp2_with fail
    refine hp'.out.mono ?_
    rintro e w1 ⟨rfl, rfl⟩
    clear hp'
    go_wp2
    go_loop [4, 5, 13] (fun c l i => ∃ (k : Nat) (c' l' : Int), k ≤ n ∧ i = .int .i64 k ∧ c = .int .i64 c' ∧ l = .int .i64 (sgn l') ∧ Chg xs k c' l') (fun _ _ i => n - (intOf i).toNat)
    case atStart => exact ⟨0, 0, 0, Nat.zero_le _, rfl, rfl, rfl, Chg.start xs⟩
    case round =>
      obtain ⟨k, c, l, hk, rfl, rfl, rfl, hc⟩ := hrel
      by_cases hlt : k < n
      · obtain ⟨ao', cap', e, -, -, H⟩ := hv'.out
        rw [hn'.out] at e H
        obtain ⟨rfl, _, rfl⟩ := Value.slice.inj e
        obtain ⟨b, off, rfl, hcell⟩ := H k hlt
        have hkx : k < xs.length := by rw [hn'.out]; exact hlt
        clear H e
        have z0 := fun h => hc.zero hkx h
        have z1 := fun h1 h2 => hc.still hkx h1 h2
        have z2 := fun h1 h2 h3 => hc.turn hkx h1 h2 h3
        have hc1 := hc.2.1
        have hc2 := hc.2.2
        generalize nth xs k = x at hcell z0 z1 z2
        replace z0 := Lib.hid z0
        replace z1 := Lib.hid z1
        replace z2 := Lib.hid z2
        clear hkx
        rcases Int.lt_trichotomy x 0 with hx | rfl | hx
        · have hx0 : (x == 0) = false := by rw [beq_eq_false_iff_ne]; omega
          rcases Int.lt_trichotomy l 0 with hl | rfl | hl
          · have sl := sgn_neg hl
            rw [sl]
            go_wp2_with fail
            refine (l1Sign_any _ _).mono ?_
            rintro e w2 ⟨rfl, rfl⟩
            rw [sgn_neg hx]
            go_wp2_with fail
            refine (l1Sign_any _ _).mono ?_
            rintro e w2 ⟨rfl, rfl⟩
            rw [sgn_neg hx]
            go_wp2
            go_round
            case rel => exact ⟨k + 1, c, x, by omega, by go_num, rfl, by rw [sgn_neg hx], z1.out (by omega) (by omega)⟩
            case measure => simp [intOf]; omega
          · rw [show sgn 0 = 0 from rfl]
            go_wp2_with fail
            refine (l1Sign_any _ _).mono ?_
            rintro e w2 ⟨rfl, rfl⟩
            rw [sgn_neg hx]
            go_wp2
            go_round
            case rel => exact ⟨k + 1, c, x, by omega, by go_num, rfl, by rw [sgn_neg hx], z1.out (by omega) (by simp)⟩
            case measure => simp [intOf]; omega
          · have sl := sgn_pos hl
            rw [sl]
            go_wp2_with fail
            refine (l1Sign_any _ _).mono ?_
            rintro e w2 ⟨rfl, rfl⟩
            rw [sgn_neg hx]
            go_wp2_with fail
            refine (l1Sign_any _ _).mono ?_
            rintro e w2 ⟨rfl, rfl⟩
            rw [sgn_neg hx]
            go_wp2
            go_round
            case rel => exact ⟨k + 1, c + 1, x, by omega, by go_num, rfl, by rw [sgn_neg hx], z2.out (by omega) (by omega) (by omega)⟩
            case measure => simp [intOf]; omega
        · go_wp2
          go_round
          case rel => exact ⟨k + 1, c, l, by omega, by go_num, rfl, rfl, z0.out rfl⟩
          case measure => simp [intOf]; omega
        · have hx0 : (x == 0) = false := by rw [beq_eq_false_iff_ne]; omega
          rcases Int.lt_trichotomy l 0 with hl | rfl | hl
          · have sl := sgn_neg hl
            rw [sl]
            go_wp2_with fail
            refine (l1Sign_any _ _).mono ?_
            rintro e w2 ⟨rfl, rfl⟩
            rw [sgn_pos hx]
            go_wp2_with fail
            refine (l1Sign_any _ _).mono ?_
            rintro e w2 ⟨rfl, rfl⟩
            rw [sgn_pos hx]
            go_wp2
            go_round
            case rel => exact ⟨k + 1, c + 1, x, by omega, by go_num, rfl, by rw [sgn_pos hx], z2.out (by omega) (by omega) (by omega)⟩
            case measure => simp [intOf]; omega
          · rw [show sgn 0 = 0 from rfl]
            go_wp2_with fail
            refine (l1Sign_any _ _).mono ?_
            rintro e w2 ⟨rfl, rfl⟩
            rw [sgn_pos hx]
            go_wp2
            go_round
            case rel => exact ⟨k + 1, c, x, by omega, by go_num, rfl, by rw [sgn_pos hx], z1.out (by omega) (by simp)⟩
            case measure => simp [intOf]; omega
          · have sl := sgn_pos hl
            rw [sl]
            go_wp2_with fail
            refine (l1Sign_any _ _).mono ?_
            rintro e w2 ⟨rfl, rfl⟩
            rw [sgn_pos hx]
            go_wp2_with fail
            refine (l1Sign_any _ _).mono ?_
            rintro e w2 ⟨rfl, rfl⟩
            rw [sgn_pos hx]
            go_wp2
            go_round
            case rel => exact ⟨k + 1, c, x, by omega, by go_num, rfl, by rw [sgn_pos hx], z1.out (by omega) (by omega)⟩
            case measure => simp [intOf]; omega
      · obtain rfl : k = n := by omega
        go_wp2
        go_ret2
        refine ⟨?_, Below.refl _ _⟩
        rw [SignChanges_yes hb'.out (by rw [hn'.out]; exact hc)]; rfl

end Go.Proofs.YtgpabfbnbmbmeaaGreatDoor

namespace Go.Proofs.YtgpabfbnbmbmeaaGreatDoor
open Go.RowKit

theorem wrap64_emod (a : Int) : wrap64 a % 18446744073709551616 = a % 18446744073709551616 := by
  unfold wrap64; omega
theorem wrap64_congr {a b : Int} (h : a % 18446744073709551616 = b % 18446744073709551616) : wrap64 a = wrap64 b := by
  unfold wrap64; omega
theorem wrap64_add (a b : Int) : wrap64 (wrap64 a + b) = wrap64 (a + b) := by
  unfold wrap64; omega
theorem wrap64_add' (a b : Int) : wrap64 (a + wrap64 b) = wrap64 (a + b) := by
  unfold wrap64; omega
theorem wrap64_sub (a b : Int) : wrap64 (wrap64 a - b) = wrap64 (a - b) := by
  unfold wrap64; omega
theorem wrap64_sub' (a b : Int) : wrap64 (a - wrap64 b) = wrap64 (a - b) := by
  unfold wrap64; omega
theorem wrap64_mul (a b : Int) : wrap64 (wrap64 a * b) = wrap64 (a * b) := by
  apply wrap64_congr
  rw [Int.mul_emod, wrap64_emod, ← Int.mul_emod]
theorem wrap64_mul' (a b : Int) : wrap64 (a * wrap64 b) = wrap64 (a * b) := by
  rw [Int.mul_comm, wrap64_mul, Int.mul_comm]
theorem wrap64_id {a : Int} (h1 : -9223372036854775808 ≤ a) (h2 : a ≤ 9223372036854775807) : wrap64 a = a := by
  unfold wrap64; omega

end Go.Proofs.YtgpabfbnbmbmeaaGreatDoor

namespace Go.Proofs.YtgpabfbnbmbmeaaGreatDoor
open Go.RowKit

/-- A fraction as a value. -/
abbrev ratV (r : Int × Int) : Value := .agg #[.int .i64 r.1, .int .i64 r.2]

theorem Same.is {v : Value} {w : World} {f : FuncId} {args : Array Value} (h : Calls Tryz.prog f args w (Same v w)) : Calls Tryz.prog f args w (fun e w'' => e = .returned v ∧ w'' = w) := h.mono fun _ _ k => ⟨k.1, k.2.symm⟩

theorem abs_any (n : Int) (w : World) (h : -9223372036854775807 ≤ n ∧ n ≤ 9223372036854775807) : Calls Tryz.prog 35 #[.int .i64 n] w (Same (.int .i64 (n.natAbs : Int)) w) := by
  by_cases h0 : n < 0
  · have e : (n.natAbs : Int) = -n := by omega
    rw [e]
    clear e
    go_enter Tryz.func35, Tryz.ntmps35
    go_wp2
    go_ret
    exact ⟨rfl, rfl⟩
  · have e : (n.natAbs : Int) = n := by omega
    rw [e]
    clear e
    go_enter Tryz.func35, Tryz.ntmps35
    go_wp2
    go_ret
    exact ⟨rfl, rfl⟩
theorem l1Most_is (a b m : Int) (w : World) (hm : m = max a b) : Calls Tryz.prog 37 #[.int .i64 a, .int .i64 b] w (Same (.int .i64 m) w) := by
  by_cases h : b < a
  · obtain rfl : m = a := by omega
    clear hm
    go_enter Tryz.func37, Tryz.ntmps37
    go_wp2
    go_ret
    exact ⟨rfl, rfl⟩
  · obtain rfl : m = b := by omega
    clear hm
    go_enter Tryz.func37, Tryz.ntmps37
    go_wp2
    go_ret
    exact ⟨rfl, rfl⟩
theorem l1Abs_any (n : Int) (w : World) (h : -9223372036854775807 ≤ n ∧ n ≤ 9223372036854775807) : Calls Tryz.prog 38 #[.int .i64 n] w (Same (.int .i64 (n.natAbs : Int)) w) := by
  obtain ⟨m, hm⟩ : ∃ m, (n.natAbs : Int) = m := ⟨_, rfl⟩
  have hm2 : m = max n (-n) := by omega
  rw [hm]
  have hm' := Lib.hid hm
  have hm2' := Lib.hid hm2
  clear hm hm2
  go_enter Tryz.func38, Tryz.ntmps38
  go_wp2_with fail
  refine (l1Most_is _ _ m _ hm2'.out).mono ?_
  rintro e w_ ⟨rfl, rfl⟩
  go_wp2
  go_ret
  exact ⟨rfl, rfl⟩
/-- The greatest common divisor. -/
def gcdI (a b : Int) : Int := (Nat.gcd a.natAbs b.natAbs : Nat)
theorem raCommon_any (a b : Nat) (w : World) (ha : a ≤ 9223372036854775807) (hb : b ≤ 9223372036854775807) : Calls Tryz.prog 60 #[.int .i64 a, .int .i64 b] w (Same (.int .i64 (Nat.gcd a b : Nat)) w) := by
  obtain ⟨G, hG⟩ : ∃ G, Nat.gcd a b = G := ⟨_, rfl⟩
  rw [hG]
  have hG' := Lib.hid hG
  clear hG
  go_enter Tryz.func60, Tryz.ntmps60
  go_wp2
  go_loop [0, 1] (fun x y => ∃ p q : Nat, p ≤ 9223372036854775807 ∧ q ≤ 9223372036854775807 ∧ x = .int .i64 p ∧ y = .int .i64 q ∧ Hid (Nat.gcd p q = G)) (fun _ y => (intOf y).toNat)
  case atStart => exact ⟨a, b, ha, hb, rfl, rfl, hG'⟩
  case round =>
    obtain ⟨p, q, hp, hq, rfl, rfl, hI⟩ := hrel
    by_cases h0 : 0 < q
    · have hI2 : Nat.gcd q (p % q) = G := by rw [← hI.out, Nat.gcd_comm p q, Nat.gcd_rec q p, Nat.gcd_comm]
      have hlt := Nat.mod_lt p h0
      have e1 : ((p : Int) % (q : Int)) = ((p % q : Nat) : Int) := by simp
      have hI2' := Lib.hid hI2
      clear hI2
      go_wp2
      go_round
      case rel => exact ⟨q, p % q, by omega, by omega, rfl, by rw [← e1], hI2'⟩
      case measure => simp [intOf]; omega
    · obtain rfl : q = 0 := by omega
      have e := hI.out
      rw [Nat.gcd_zero_right] at e
      subst e
      go_wp2
      go_ret
      exact ⟨rfl, rfl⟩
theorem raCommon_is (a b : Int) (w : World) (ha : 0 ≤ a ∧ a ≤ 9223372036854775807) (hb : 0 ≤ b ∧ b ≤ 9223372036854775807) : Calls Tryz.prog 60 #[.int .i64 a, .int .i64 b] w (Same (.int .i64 (gcdI a b)) w) := by
  obtain ⟨a, rfl⟩ := Int.eq_ofNat_of_zero_le ha.1
  obtain ⟨b, rfl⟩ := Int.eq_ofNat_of_zero_le hb.1
  exact raCommon_any a b w (by omega) (by omega)
theorem greatestDivisor_any (a b : Int) (w : World) (ha : -9223372036854775807 ≤ a ∧ a ≤ 9223372036854775807) (hb : -9223372036854775807 ≤ b ∧ b ≤ 9223372036854775807) :
    Calls Tryz.prog 59 #[.int .i64 a, .int .i64 b] w fun e w' => e = .returned (.int .i64 (gcdI a b)) ∧ ∃ n, w' = w.drewN n := by
  obtain ⟨G, hG⟩ : ∃ G, Nat.gcd a.natAbs b.natAbs = G := ⟨_, rfl⟩
  unfold gcdI
  rw [hG]
  have ha2 : a.natAbs ≤ 9223372036854775807 := by omega
  have hb2 : b.natAbs ≤ 9223372036854775807 := by omega
  have hG' := Lib.hid hG
  clear hG
  go_enter Tryz.func59, Tryz.ntmps59
  go_wp2_with fail
  refine (abs_any _ _ ha).mono ?_
  rintro e w_ ⟨rfl, rfl⟩
  go_wp2_with fail
  refine (abs_any _ _ hb).mono ?_
  rintro e w_ ⟨rfl, rfl⟩
  go_wp2
  go_loopw [0, 1] (fun x y wr => ∃ p q : Nat, p ≤ 9223372036854775807 ∧ q ≤ 9223372036854775807 ∧ x = .int .i64 p ∧ y = .int .i64 q ∧ Hid (Nat.gcd p q = G) ∧ ∃ n, wr = w.drewN n) (fun _ y _ => (intOf y).toNat)
  case atStart => exact ⟨_, _, ha2, hb2, rfl, rfl, hG', 0, rfl⟩
  case round =>
    obtain ⟨p, q, hp, hq, rfl, rfl, hI, n, rfl⟩ := hrel
    by_cases h0 : 0 < q
    · have hI2 : Nat.gcd q (p % q) = G := by rw [← hI.out, Nat.gcd_comm p q, Nat.gcd_rec q p, Nat.gcd_comm]
      have hlt := Nat.mod_lt p h0
      have e1 : ((p : Int) % (q : Int)) = ((p % q : Nat) : Int) := by simp
      have h1 : ((q : Int) == 0) = false := by rw [beq_eq_false_iff_ne]; omega
      have h2 : ((q : Int) != 0) = true := by rw [bne_iff_ne]; omega
      have hI2' := Lib.hid hI2
      clear hI2
      go_wp2_with fail
      go_region
      all_goals go_wp2
      go_roundw
      case rel => exact ⟨q, p % q, by omega, by omega, rfl, by rw [← e1], hI2', n + 1, rfl⟩
      case measure => simp [intOf]; omega
    · obtain rfl : q = 0 := by omega
      have e := hI.out
      rw [Nat.gcd_zero_right] at e
      subst e
      go_wp2
      go_ret
      exact ⟨rfl, n, rfl⟩

/-- The call returns v; but draws have been made. -/
def Drew (v : Value) (w : World) (e : Ending) (w' : World) : Prop := e = .returned v ∧ ∃ n, w' = w.drewN n

/-- The fraction is valid. -/
def goodR (n d : Int) : Bool := inB d 1 1000000000 && inB n (-1000000000) 1000000000 && decide (gcdI n d = 1)
theorem goodR_den {n d : Int} (h : inB d 1 1000000000 = false) : goodR n d = false := by simp [goodR, h]
theorem goodR_num {n d : Int} (h : inB n (-1000000000) 1000000000 = false) : goodR n d = false := by simp [goodR, h]
theorem goodR_in {n d : Int} (h1 : inB d 1 1000000000 = true) (h2 : inB n (-1000000000) 1000000000 = true) : goodR n d = decide (gcdI n d = 1) := by simp [goodR, h1, h2]
theorem goodR_bd {n d : Int} (h : goodR n d = true) : (1 ≤ d ∧ d ≤ 1000000000) ∧ (-1000000000 ≤ n ∧ n ≤ 1000000000) := by
  simp only [goodR, Bool.and_eq_true, inB_true] at h
  exact h.1

theorem isRat_any (n d : Int) (w : World) : Calls Tryz.prog 45 #[.agg #[.int .i64 n, .int .i64 d]] w (Ret (.bool (goodR n d)) w) := by
  have hB : Below w.heap.size w (w.alloc (.cells #[.int .i64 n, .int .i64 d] 29)) := (Below.refl _ _).alloc (Nat.le_refl _) _
  cases h1 : inB d 1 1000000000
  · rw [goodR_den h1]
    have h1' := Lib.hid h1
    clear h1
    go_enter Tryz.func45, Tryz.ntmps45
    go_wp2_with fail
    refine (within_any _ _ _ _).mono ?_
    rintro e w_ ⟨rfl, rfl⟩
    rw [h1'.out]
    go_wp2
    go_ret
    exact ⟨rfl, hB⟩
  cases h2 : inB n (-1000000000) 1000000000
  · rw [goodR_num h2]
    have h1' := Lib.hid h1
    have h2' := Lib.hid h2
    clear h1 h2
    go_enter Tryz.func45, Tryz.ntmps45
    go_wp2_with fail
    refine (within_any _ _ _ _).mono ?_
    rintro e w_ ⟨rfl, rfl⟩
    rw [h1'.out]
    go_wp2_with fail
    refine (within_any _ _ _ _).mono ?_
    rintro e w_ ⟨rfl, rfl⟩
    rw [h2'.out]
    go_wp2
    go_ret
    exact ⟨rfl, hB⟩
  rw [goodR_in h1 h2]
  have b1 := inB_true.1 h1
  have b2 := inB_true.1 h2
  obtain ⟨G, hG⟩ : ∃ G, gcdI n d = G := ⟨_, rfl⟩
  have cg := fun w' => greatestDivisor_any n d w' (by omega) (by omega)
  simp only [hG] at cg
  rw [hG]
  have h1' := Lib.hid h1
  have h2' := Lib.hid h2
  have hG' := Lib.hid hG
  have cg' := Lib.hid cg
  clear h1 h2 hG cg
  by_cases h3 : G = 1
  · rw [decide_eq_true h3]
    subst h3
    go_enter Tryz.func45, Tryz.ntmps45
    go_wp2_with fail
    refine (within_any _ _ _ _).mono ?_
    rintro e w_ ⟨rfl, rfl⟩
    rw [h1'.out]
    go_wp2_with fail
    refine (within_any _ _ _ _).mono ?_
    rintro e w_ ⟨rfl, rfl⟩
    rw [h2'.out]
    go_wp2_with fail
    refine (cg'.out _).mono ?_
    rintro e w2 ⟨rfl, q, rfl⟩
    go_wp2
    go_ret
    exact ⟨rfl, below_drewN hB _⟩
  · rw [decide_eq_false h3]
    have h4 : (G == 1) = false := by rw [beq_eq_false_iff_ne]; exact h3
    clear h3
    go_enter Tryz.func45, Tryz.ntmps45
    go_wp2_with fail
    refine (within_any _ _ _ _).mono ?_
    rintro e w_ ⟨rfl, rfl⟩
    rw [h1'.out]
    go_wp2_with fail
    refine (within_any _ _ _ _).mono ?_
    rintro e w_ ⟨rfl, rfl⟩
    rw [h2'.out]
    go_wp2_with fail
    refine (cg'.out _).mono ?_
    rintro e w2 ⟨rfl, q, rfl⟩
    go_wp2
    go_ret
    exact ⟨rfl, below_drewN hB _⟩

set_option maxRecDepth 100000 in
set_option maxHeartbeats 4000000 in
theorem raGood_any (n d : Int) (w : World) : Calls Tryz.prog 61 #[.agg #[.int .i64 n, .int .i64 d]] w (Ret (.bool (goodR n d)) w) := by
  have hB : Below w.heap.size w (w.alloc (.cells #[.int .i64 n, .int .i64 d] 29)) := (Below.refl _ _).alloc (Nat.le_refl _) _
  cases h1 : inB d 1 1000000000
  · rw [goodR_den h1]
    go_enter Tryz.func61, Tryz.ntmps61
    go_wp2_with fail
    go_quiet ((go_at_call 33; exact Calls.quiet_of_same (Same.is (l1In_any _ _ _ _))))
    go_wp2
    go_ret
    exact ⟨rfl, below_drewN hB _⟩
  cases h2 : inB n (-1000000000) 1000000000
  · rw [goodR_num h2]
    go_enter Tryz.func61, Tryz.ntmps61
    go_wp2_with fail
    go_quiet ((go_at_call 33; exact Calls.quiet_of_same (Same.is (l1In_any _ _ _ _))))
    go_wp2
    go_ret
    exact ⟨rfl, below_drewN hB _⟩
  rw [goodR_in h1 h2]
  have b1 := inB_true.1 h1
  have b2 := inB_true.1 h2
  have e : gcdI (n.natAbs : Int) d = gcdI n d := by unfold gcdI; simp
  obtain ⟨G, hG⟩ : ∃ G, gcdI n d = G := ⟨_, rfl⟩
  rw [hG] at e ⊢
  have hG' := Lib.hid hG
  clear hG
  have b3 : -9223372036854775807 ≤ n ∧ n ≤ 9223372036854775807 := by omega
  have b4 : (0 : Int) ≤ (n.natAbs : Int) ∧ (n.natAbs : Int) ≤ 9223372036854775807 := by omega
  have b5 : 0 ≤ d ∧ d ≤ 9223372036854775807 := by omega
  by_cases h3 : G = 1
  · rw [decide_eq_true h3]
    subst h3
    go_enter Tryz.func61, Tryz.ntmps61
    go_wp2_with fail
    go_quiet ((first | (go_at_call 33; exact Calls.quiet_of_same (Same.is (l1In_any _ _ _ _))) | (go_at_call 38; exact Calls.quiet_of_same (Same.is (l1Abs_any _ _ b3))) | (go_at_call 60; exact Calls.quiet_of_same (Same.is (raCommon_is _ _ _ b4 b5)))))
    go_wp2
    go_ret
    exact ⟨rfl, below_drewN hB _⟩
  · rw [decide_eq_false h3]
    have h4 : (G == 1) = false := by rw [beq_eq_false_iff_ne]; exact h3
    clear h3
    go_enter Tryz.func61, Tryz.ntmps61
    go_wp2_with fail
    go_quiet ((first | (go_at_call 33; exact Calls.quiet_of_same (Same.is (l1In_any _ _ _ _))) | (go_at_call 38; exact Calls.quiet_of_same (Same.is (l1Abs_any _ _ b3))) | (go_at_call 60; exact Calls.quiet_of_same (Same.is (raCommon_is _ _ _ b4 b5)))))
    go_wp2
    go_ret
    exact ⟨rfl, below_drewN hB _⟩

end Go.Proofs.YtgpabfbnbmbmeaaGreatDoor

namespace Go.Proofs.YtgpabfbnbmbmeaaGreatDoor
open Go.RowKit

/-- Numerator and denominator of a size that the program keeps. -/
def BdR (n d : Int) : Prop := (1 ≤ d ∧ d ≤ 1000000000) ∧ (-1000000000 ≤ n ∧ n ≤ 1000000000)
theorem BdR.prod {n d n' d' : Int} (h : BdR n d) (h' : BdR n' d') : -1000000000000000000 ≤ n * d' ∧ n * d' ≤ 1000000000000000000 := by
  obtain ⟨⟨h1, h2⟩, h3, h4⟩ := h'
  obtain ⟨_, h5, h6⟩ := h
  have a1 : n * d' ≤ 1000000000 * d' := Int.mul_le_mul_of_nonneg_right h6 (by omega)
  have a2 : -1000000000 * d' ≤ n * d' := Int.mul_le_mul_of_nonneg_right h5 (by omega)
  omega
/-- -1, 0 or 1 as the first fraction is less, equal or greater. -/
def cmpN (n d n' d' : Int) : Int := sgn (n * d' - n' * d)
def ltB (n d n' d' : Int) : Bool := decide (n * d' < n' * d)
theorem cmpN_lt (n d n' d' : Int) : decide (cmpN n d n' d' < 0) = ltB n d n' d' := by
  unfold cmpN ltB sgn
  by_cases h : n * d' < n' * d
  · rw [if_neg (by omega), if_pos (by omega), decide_eq_true h]; rfl
  · rw [decide_eq_false h]
    by_cases h2 : 0 < n * d' - n' * d
    · rw [if_pos h2]; rfl
    · rw [if_neg h2, if_neg (by omega)]; rfl


/-- A fraction of 0..1. -/
def unitR (n d : Int) : Bool := goodR n d && inB n 0 d

/-- In lowest terms. -/
def lowN (x y : Int) : Int := if y < 0 then x.tdiv (-gcdI x y) else x.tdiv (gcdI x y)
def lowD (x y : Int) : Int := if y < 0 then y.tdiv (-gcdI x y) else y.tdiv (gcdI x y)
/-- A fraction in lowest terms, if it is valid. -/
def mkR (x y : Int) : (Int × Int) × Bool := if goodR (lowN x y) (lowD x y) = true then ((lowN x y, lowD x y), true) else ((0, 0), false)
theorem gcdI_pos {x y : Int} (h : y ≠ 0) : 0 < gcdI x y := by
  unfold gcdI
  have := Nat.gcd_pos_of_pos_right x.natAbs (show 0 < y.natAbs by omega)
  omega
theorem gcdI_le {x y : Int} (h : y ≠ 0) : gcdI x y ≤ y.natAbs := by
  unfold gcdI
  have := Nat.gcd_le_right x.natAbs (show 0 < y.natAbs by omega)
  omega

/-- What lay there before reads as before. -/
theorem bcell {W w1 : World} (hb : Below W.heap.size W w1) : (∀ b o, b < W.heap.size → w1.cell? ⟨b, o, none⟩ = W.cell? ⟨b, o, none⟩) ∧ (∀ b o, b < W.heap.size → w1.frozen? ⟨b, o, none⟩ = W.frozen? ⟨b, o, none⟩) :=
  ⟨fun b o h => hb.cell (p := ⟨b, o, none⟩) h, fun b o h => hb.frozen (p := ⟨b, o, none⟩) h⟩
theorem tdiv_bd (x g : Int) : (x.tdiv g).natAbs ≤ x.natAbs := by
  rw [Int.natAbs_tdiv]; exact Nat.div_le_self _ _
theorem mkR_no {x y : Int} (h : goodR (lowN x y) (lowD x y) = false) : mkR x y = ((0, 0), false) := by simp [mkR, h]
theorem mkR_yes {x y : Int} (h : goodR (lowN x y) (lowD x y) = true) : mkR x y = ((lowN x y, lowD x y), true) := by simp [mkR, h]

set_option maxHeartbeats 800000 in
theorem lowest_core (x y g p q : Int) (w : World) (hx : -4000000000000000000 ≤ x ∧ x ≤ 4000000000000000000) (hy : -4000000000000000000 ≤ y ∧ y ≤ 4000000000000000000) (h0 : y ≠ 0) (hp : x.tdiv g = p) (hq : y.tdiv g = q)
    (hg : g = if y < 0 then -gcdI x y else gcdI x y) : Calls Tryz.prog 36 #[.int .i64 x, .int .i64 y] w (Ret (.tuple #[if goodR p q = true then ratV (p, q) else ratV (0, 0), .bool (goodR p q)]) w) := by
  have hB : Below w.heap.size w (w.alloc (.cells #[.int .i64 0, .int .i64 0] 29)) := (Below.refl _ _).alloc (Nat.le_refl _) _
  have cg := fun w => greatestDivisor_any x y w (by omega) (by omega)
  have g1 := gcdI_pos (x := x) h0
  have g2 := gcdI_le (x := x) h0
  have b1 := tdiv_bd x g
  have b2 := tdiv_bd y g
  rw [hp] at b1
  rw [hq] at b2
  generalize gcdI x y = G at *
  have g3 : G ≤ 4000000000000000000 := by omega
  have p1 : -4000000000000000000 ≤ p ∧ p ≤ 4000000000000000000 := by omega
  have p2 : -4000000000000000000 ≤ q ∧ q ≤ 4000000000000000000 := by omega
  have cr := fun w => isRat_any p q w
  have g0 : (g == 0) = false := by rw [beq_eq_false_iff_ne]; subst hg; split <;> omega
  have g4 : g ≠ 0 := by subst hg; split <;> omega
  have cg' := Lib.hid cg
  have cr' := Lib.hid cr
  have hg' := Lib.hid hg
  clear cg cr hg
  clear g2 b1 b2
  by_cases hneg : y < 0
  · have e : -G = g := by rw [hg'.out, if_pos hneg]
    cases hr : goodR p q
    · rw [hr] at cr'
      rw [if_neg (by simp)]
      clear hr
      go_enter Tryz.func36, Tryz.ntmps36
      go_wp2_with fail
      refine (cg'.out _).mono ?_
      rintro e w2 ⟨rfl, n, rfl⟩
      go_wp2_with fail
      go_region
      all_goals go_wp2_with fail
      refine (cr'.out _).mono ?_
      rintro e w3 ⟨rfl, hB3⟩
      obtain ⟨hc, hf⟩ := bcell hB3
      have hz : w.heap.size + 1 < w3.heap.size := by have := hB3.size; simp at this; omega
      have hBz : Below w.heap.size w w3 := ((below_drewN hB _).alloc (by simp) _).trans (hB3.mono (by simp; omega))
      have q0 : w3.cell? ⟨w.heap.size, 0, none⟩ = some (.int .i64 0) := by rw [hc _ _ (by simp; omega)]; simp [go_sem]
      have q1 : w3.cell? ⟨w.heap.size, 1, none⟩ = some (.int .i64 0) := by rw [hc _ _ (by simp; omega)]; simp [go_sem]
      go_wp2
      refine bodyPost_ret (v := .tuple #[ratV (0, 0), .bool false]) (by simp [results, Tryz.results36, go_sem, q0, q1, ratV]) rfl ⟨rfl, ?_⟩
      exact (hBz.setCell (p := ⟨w.heap.size, 0, none⟩) (Nat.le_refl _) _).setCell (p := ⟨w.heap.size, 1, none⟩) (Nat.le_refl _) _
    · rw [hr] at cr'
      rw [if_pos rfl]
      clear hr
      go_enter Tryz.func36, Tryz.ntmps36
      go_wp2_with fail
      refine (cg'.out _).mono ?_
      rintro e w2 ⟨rfl, n, rfl⟩
      go_wp2_with fail
      go_region
      all_goals go_wp2_with fail
      refine (cr'.out _).mono ?_
      rintro e w3 ⟨rfl, hB3⟩
      obtain ⟨hc, hf⟩ := bcell hB3
      have hz : w.heap.size + 1 < w3.heap.size := by have := hB3.size; simp at this; omega
      have hBz : Below w.heap.size w w3 := ((below_drewN hB _).alloc (by simp) _).trans (hB3.mono (by simp; omega))
      have q0 : w3.cell? ⟨w.heap.size, 0, none⟩ = some (.int .i64 0) := by rw [hc _ _ (by simp; omega)]; simp [go_sem]
      have q1 : w3.cell? ⟨w.heap.size, 1, none⟩ = some (.int .i64 0) := by rw [hc _ _ (by simp; omega)]; simp [go_sem]
      go_wp2
      refine bodyPost_ret (v := .tuple #[ratV (p, q), .bool true]) (by simp [results, Tryz.results36, go_sem, q0, q1, ratV]) rfl ⟨rfl, ?_⟩
      exact (hBz.setCell (p := ⟨w.heap.size, 0, none⟩) (Nat.le_refl _) _).setCell (p := ⟨w.heap.size, 1, none⟩) (Nat.le_refl _) _
  · have e : G = g := by rw [hg'.out, if_neg hneg]
    cases hr : goodR p q
    · rw [hr] at cr'
      rw [if_neg (by simp)]
      clear hr
      go_enter Tryz.func36, Tryz.ntmps36
      go_wp2_with fail
      refine (cg'.out _).mono ?_
      rintro e w2 ⟨rfl, n, rfl⟩
      go_wp2_with fail
      go_region
      all_goals go_wp2_with fail
      refine (cr'.out _).mono ?_
      rintro e w3 ⟨rfl, hB3⟩
      obtain ⟨hc, hf⟩ := bcell hB3
      have hz : w.heap.size + 1 < w3.heap.size := by have := hB3.size; simp at this; omega
      have hBz : Below w.heap.size w w3 := ((below_drewN hB _).alloc (by simp) _).trans (hB3.mono (by simp; omega))
      have q0 : w3.cell? ⟨w.heap.size, 0, none⟩ = some (.int .i64 0) := by rw [hc _ _ (by simp; omega)]; simp [go_sem]
      have q1 : w3.cell? ⟨w.heap.size, 1, none⟩ = some (.int .i64 0) := by rw [hc _ _ (by simp; omega)]; simp [go_sem]
      go_wp2
      refine bodyPost_ret (v := .tuple #[ratV (0, 0), .bool false]) (by simp [results, Tryz.results36, go_sem, q0, q1, ratV]) rfl ⟨rfl, ?_⟩
      exact (hBz.setCell (p := ⟨w.heap.size, 0, none⟩) (Nat.le_refl _) _).setCell (p := ⟨w.heap.size, 1, none⟩) (Nat.le_refl _) _
    · rw [hr] at cr'
      rw [if_pos rfl]
      clear hr
      go_enter Tryz.func36, Tryz.ntmps36
      go_wp2_with fail
      refine (cg'.out _).mono ?_
      rintro e w2 ⟨rfl, n, rfl⟩
      go_wp2_with fail
      go_region
      all_goals go_wp2_with fail
      refine (cr'.out _).mono ?_
      rintro e w3 ⟨rfl, hB3⟩
      obtain ⟨hc, hf⟩ := bcell hB3
      have hz : w.heap.size + 1 < w3.heap.size := by have := hB3.size; simp at this; omega
      have hBz : Below w.heap.size w w3 := ((below_drewN hB _).alloc (by simp) _).trans (hB3.mono (by simp; omega))
      have q0 : w3.cell? ⟨w.heap.size, 0, none⟩ = some (.int .i64 0) := by rw [hc _ _ (by simp; omega)]; simp [go_sem]
      have q1 : w3.cell? ⟨w.heap.size, 1, none⟩ = some (.int .i64 0) := by rw [hc _ _ (by simp; omega)]; simp [go_sem]
      go_wp2
      refine bodyPost_ret (v := .tuple #[ratV (p, q), .bool true]) (by simp [results, Tryz.results36, go_sem, q0, q1, ratV]) rfl ⟨rfl, ?_⟩
      exact (hBz.setCell (p := ⟨w.heap.size, 0, none⟩) (Nat.le_refl _) _).setCell (p := ⟨w.heap.size, 1, none⟩) (Nat.le_refl _) _
theorem lowest_any (x y : Int) (w : World) (hx : -4000000000000000000 ≤ x ∧ x ≤ 4000000000000000000) (hy : -4000000000000000000 ≤ y ∧ y ≤ 4000000000000000000) (h0 : y ≠ 0) :
    Calls Tryz.prog 36 #[.int .i64 x, .int .i64 y] w (Ret (.tuple #[ratV (mkR x y).1, .bool (mkR x y).2]) w) := by
  have h := lowest_core x y (if y < 0 then -gcdI x y else gcdI x y) (lowN x y) (lowD x y) w hx hy h0 (by unfold lowN; split <;> rfl) (by unfold lowD; split <;> rfl) rfl
  cases hr : goodR (lowN x y) (lowD x y)
  · rw [mkR_no hr]; rw [hr, if_neg (by simp)] at h; exact h
  · rw [mkR_yes hr]; rw [hr, if_pos rfl] at h; exact h

end Go.Proofs.YtgpabfbnbmbmeaaGreatDoor

namespace Go.Proofs.YtgpabfbnbmbmeaaGreatDoor
open Go.RowKit

set_option maxHeartbeats 1600000 in
theorem raMake_core (x y g p q : Int) (w : World) (hx : -4000000000000000000 ≤ x ∧ x ≤ 4000000000000000000) (hy : -4000000000000000000 ≤ y ∧ y ≤ 4000000000000000000) (h0 : y ≠ 0) (hp : x.tdiv g = p) (hq : y.tdiv g = q)
    (hg : g = if y < 0 then -gcdI x y else gcdI x y) : Calls Tryz.prog 39 #[.int .i64 x, .int .i64 y] w (Ret (.tuple #[if goodR p q = true then ratV (p, q) else ratV (0, 0), .bool (goodR p q)]) w) := by
  have hB : Below w.heap.size w (w.alloc (.cells #[.int .i64 0, .int .i64 0] 29)) := (Below.refl _ _).alloc (Nat.le_refl _) _
  have g1 := gcdI_pos (x := x) h0
  have g2 := gcdI_le (x := x) h0
  have b1 := tdiv_bd x g
  have b2 := tdiv_bd y g
  rw [hp] at b1
  rw [hq] at b2
  have bx : -9223372036854775807 ≤ x ∧ x ≤ 9223372036854775807 := by omega
  have by' : -9223372036854775807 ≤ y ∧ y ≤ 9223372036854775807 := by omega
  have ba : (0 : Int) ≤ (x.natAbs : Int) ∧ (x.natAbs : Int) ≤ 9223372036854775807 := by omega
  have bb : (0 : Int) ≤ (y.natAbs : Int) ∧ (y.natAbs : Int) ≤ 9223372036854775807 := by omega
  have eG : gcdI (x.natAbs : Int) (y.natAbs : Int) = gcdI x y := by unfold gcdI; simp
  have y0 : (y == 0) = false := by rw [beq_eq_false_iff_ne]; exact h0
  generalize gcdI x y = G at *
  have g3 : G ≤ 4000000000000000000 := by omega
  have p1 : -4000000000000000000 ≤ p ∧ p ≤ 4000000000000000000 := by omega
  have p2 : -4000000000000000000 ≤ q ∧ q ≤ 4000000000000000000 := by omega
  have cr := fun w => raGood_any p q w
  have g0 : (g == 0) = false := by rw [beq_eq_false_iff_ne]; subst hg; split <;> omega
  have g4 : g ≠ 0 := by subst hg; split <;> omega
  have cr' := Lib.hid cr
  have hg' := Lib.hid hg
  clear cr hg
  clear g2 b1 b2
  by_cases hneg : y < 0
  · have e : -G = g := by rw [hg'.out, if_pos hneg]
    cases hr : goodR p q
    · rw [hr] at cr'
      rw [if_neg (by simp)]
      clear hr
      go_enter Tryz.func39, Tryz.ntmps39
      go_wp2_with fail
      refine (l1Abs_any _ _ bx).mono ?_
      rintro e w_ ⟨rfl, rfl⟩
      go_wp2_with fail
      refine (l1Abs_any _ _ by').mono ?_
      rintro e w_ ⟨rfl, rfl⟩
      go_wp2_with fail
      refine (raCommon_is _ _ _ ba bb).mono ?_
      rintro e w_ ⟨rfl, rfl⟩
      go_wp2_with fail
      go_region
      all_goals go_wp2_with fail
      refine (cr'.out _).mono ?_
      rintro e w3 ⟨rfl, hB3⟩
      obtain ⟨hc, hf⟩ := bcell hB3
      have hz : w.heap.size + 1 < w3.heap.size := by have := hB3.size; simp at this; omega
      have hBz : Below w.heap.size w w3 := ((below_drewN hB _).alloc (by simp) _).trans (hB3.mono (by simp; omega))
      have q0 : w3.cell? ⟨w.heap.size, 0, none⟩ = some (.int .i64 0) := by rw [hc _ _ (by simp; omega)]; simp [go_sem]
      have q1 : w3.cell? ⟨w.heap.size, 1, none⟩ = some (.int .i64 0) := by rw [hc _ _ (by simp; omega)]; simp [go_sem]
      go_wp2
      refine bodyPost_ret (v := .tuple #[ratV (0, 0), .bool false]) (by simp [results, Tryz.results39, go_sem, q0, q1, ratV]) rfl ⟨rfl, ?_⟩
      exact (hBz.setCell (p := ⟨w.heap.size, 0, none⟩) (Nat.le_refl _) _).setCell (p := ⟨w.heap.size, 1, none⟩) (Nat.le_refl _) _
    · rw [hr] at cr'
      rw [if_pos rfl]
      clear hr
      go_enter Tryz.func39, Tryz.ntmps39
      go_wp2_with fail
      refine (l1Abs_any _ _ bx).mono ?_
      rintro e w_ ⟨rfl, rfl⟩
      go_wp2_with fail
      refine (l1Abs_any _ _ by').mono ?_
      rintro e w_ ⟨rfl, rfl⟩
      go_wp2_with fail
      refine (raCommon_is _ _ _ ba bb).mono ?_
      rintro e w_ ⟨rfl, rfl⟩
      go_wp2_with fail
      go_region
      all_goals go_wp2_with fail
      refine (cr'.out _).mono ?_
      rintro e w3 ⟨rfl, hB3⟩
      obtain ⟨hc, hf⟩ := bcell hB3
      have hz : w.heap.size + 1 < w3.heap.size := by have := hB3.size; simp at this; omega
      have hBz : Below w.heap.size w w3 := ((below_drewN hB _).alloc (by simp) _).trans (hB3.mono (by simp; omega))
      have q0 : w3.cell? ⟨w.heap.size, 0, none⟩ = some (.int .i64 0) := by rw [hc _ _ (by simp; omega)]; simp [go_sem]
      have q1 : w3.cell? ⟨w.heap.size, 1, none⟩ = some (.int .i64 0) := by rw [hc _ _ (by simp; omega)]; simp [go_sem]
      go_wp2
      refine bodyPost_ret (v := .tuple #[ratV (p, q), .bool true]) (by simp [results, Tryz.results39, go_sem, q0, q1, ratV]) rfl ⟨rfl, ?_⟩
      exact (hBz.setCell (p := ⟨w.heap.size, 0, none⟩) (Nat.le_refl _) _).setCell (p := ⟨w.heap.size, 1, none⟩) (Nat.le_refl _) _
  · have e : G = g := by rw [hg'.out, if_neg hneg]
    cases hr : goodR p q
    · rw [hr] at cr'
      rw [if_neg (by simp)]
      clear hr
      go_enter Tryz.func39, Tryz.ntmps39
      go_wp2_with fail
      refine (l1Abs_any _ _ bx).mono ?_
      rintro e w_ ⟨rfl, rfl⟩
      go_wp2_with fail
      refine (l1Abs_any _ _ by').mono ?_
      rintro e w_ ⟨rfl, rfl⟩
      go_wp2_with fail
      refine (raCommon_is _ _ _ ba bb).mono ?_
      rintro e w_ ⟨rfl, rfl⟩
      go_wp2_with fail
      go_region
      all_goals go_wp2_with fail
      refine (cr'.out _).mono ?_
      rintro e w3 ⟨rfl, hB3⟩
      obtain ⟨hc, hf⟩ := bcell hB3
      have hz : w.heap.size + 1 < w3.heap.size := by have := hB3.size; simp at this; omega
      have hBz : Below w.heap.size w w3 := ((below_drewN hB _).alloc (by simp) _).trans (hB3.mono (by simp; omega))
      have q0 : w3.cell? ⟨w.heap.size, 0, none⟩ = some (.int .i64 0) := by rw [hc _ _ (by simp; omega)]; simp [go_sem]
      have q1 : w3.cell? ⟨w.heap.size, 1, none⟩ = some (.int .i64 0) := by rw [hc _ _ (by simp; omega)]; simp [go_sem]
      go_wp2
      refine bodyPost_ret (v := .tuple #[ratV (0, 0), .bool false]) (by simp [results, Tryz.results39, go_sem, q0, q1, ratV]) rfl ⟨rfl, ?_⟩
      exact (hBz.setCell (p := ⟨w.heap.size, 0, none⟩) (Nat.le_refl _) _).setCell (p := ⟨w.heap.size, 1, none⟩) (Nat.le_refl _) _
    · rw [hr] at cr'
      rw [if_pos rfl]
      clear hr
      go_enter Tryz.func39, Tryz.ntmps39
      go_wp2_with fail
      refine (l1Abs_any _ _ bx).mono ?_
      rintro e w_ ⟨rfl, rfl⟩
      go_wp2_with fail
      refine (l1Abs_any _ _ by').mono ?_
      rintro e w_ ⟨rfl, rfl⟩
      go_wp2_with fail
      refine (raCommon_is _ _ _ ba bb).mono ?_
      rintro e w_ ⟨rfl, rfl⟩
      go_wp2_with fail
      go_region
      all_goals go_wp2_with fail
      refine (cr'.out _).mono ?_
      rintro e w3 ⟨rfl, hB3⟩
      obtain ⟨hc, hf⟩ := bcell hB3
      have hz : w.heap.size + 1 < w3.heap.size := by have := hB3.size; simp at this; omega
      have hBz : Below w.heap.size w w3 := ((below_drewN hB _).alloc (by simp) _).trans (hB3.mono (by simp; omega))
      have q0 : w3.cell? ⟨w.heap.size, 0, none⟩ = some (.int .i64 0) := by rw [hc _ _ (by simp; omega)]; simp [go_sem]
      have q1 : w3.cell? ⟨w.heap.size, 1, none⟩ = some (.int .i64 0) := by rw [hc _ _ (by simp; omega)]; simp [go_sem]
      go_wp2
      refine bodyPost_ret (v := .tuple #[ratV (p, q), .bool true]) (by simp [results, Tryz.results39, go_sem, q0, q1, ratV]) rfl ⟨rfl, ?_⟩
      exact (hBz.setCell (p := ⟨w.heap.size, 0, none⟩) (Nat.le_refl _) _).setCell (p := ⟨w.heap.size, 1, none⟩) (Nat.le_refl _) _
theorem raMake_any (x y : Int) (w : World) (hx : -4000000000000000000 ≤ x ∧ x ≤ 4000000000000000000) (hy : -4000000000000000000 ≤ y ∧ y ≤ 4000000000000000000) (h0 : y ≠ 0) :
    Calls Tryz.prog 39 #[.int .i64 x, .int .i64 y] w (Ret (.tuple #[ratV (mkR x y).1, .bool (mkR x y).2]) w) := by
  have h := raMake_core x y (if y < 0 then -gcdI x y else gcdI x y) (lowN x y) (lowD x y) w hx hy h0 (by unfold lowN; split <;> rfl) (by unfold lowD; split <;> rfl) rfl
  cases hr : goodR (lowN x y) (lowD x y)
  · rw [mkR_no hr]; rw [hr, if_neg (by simp)] at h; exact h
  · rw [mkR_yes hr]; rw [hr, if_pos rfl] at h; exact h

end Go.Proofs.YtgpabfbnbmbmeaaGreatDoor

namespace Go.Proofs.YtgpabfbnbmbmeaaGreatDoor
open Go.RowKit

theorem step_fill (xs : List Int) (n k : Nat) (hk : k < n) (hn : xs.length = n) : (xs.take k ++ List.replicate (n - k) 0).set k (nth xs k) = xs.take (k + 1) ++ List.replicate (n - (k + 1)) 0 := by
  have h1 : n - k = (n - (k + 1)) + 1 := by omega
  have e2 : min k xs.length = k := by omega
  rw [h1, List.replicate_succ, List.set_append_right _ _ (by rw [List.length_take]; omega), List.length_take, e2, Nat.sub_self, take_nth (by omega), List.append_assoc]; rfl



/-- k, k + 1, .. : n numbers. -/
def marks (k n : Nat) : List Int := (List.range n).map fun j => ((k + j : Nat) : Int)
theorem marks_len (k n : Nat) : (marks k n).length = n := by simp [marks]
theorem nth_marks {k n j : Nat} (h : j < n) : nth (marks k n) j = ((k + j : Nat) : Int) := by
  rw [nth_eq (by rw [marks_len]; exact h)]; simp [marks]
theorem marks_step (xs : List Int) (k n j : Nat) (hj : j < n) (hn : xs.length = n) : (marks k j ++ xs.drop j).set j ((k + j : Nat) : Int) = marks k (j + 1) ++ xs.drop (j + 1) := by
  rw [List.set_append_right _ _ (by rw [marks_len]; omega), marks_len, Nat.sub_self, List.drop_eq_getElem_cons (by omega), List.set_cons_zero]
  simp [marks, List.range_succ]



end Go.Proofs.YtgpabfbnbmbmeaaGreatDoor

namespace Go.Proofs.YtgpabfbnbmbmeaaGreatDoor
open Go.RowKit

/-- v reads as n elements of K cells; the cells hold ys, one behind the other. -/
def FlatV (K : Nat) (w : World) (v : Value) (n : Nat) (ys : List Int) : Prop :=
  ∃ ao cap, v = .slice ao n cap ∧ (n ≤ cap ∧ (ao = none → cap = 0)) ∧ cap ≤ maxLen ∧ ∀ j, j < n * K → ∃ b off, ao = some ⟨b, off, none⟩ ∧ w.cell? ⟨b, off + j, none⟩ = some (.int .i64 (nth ys j))

theorem FlatV.below {K : Nat} {w w' : World} {v : Value} {n : Nat} {ys : List Int} (h : FlatV K w v n ys) (hB : Below w.heap.size w w') : FlatV K w' v n ys := by
  obtain ⟨ao, cap, rfl, h1, h2, h⟩ := h
  refine ⟨ao, cap, rfl, h1, h2, fun i hi => ?_⟩
  obtain ⟨b, off, e, hc⟩ := h i hi
  exact ⟨b, off, e, by rw [hB.cell (World.block_lt_of_cell? w _ hc)]; exact hc⟩

/-- A slice of the call's own: its block lies in [B, E); or it has no elements. -/
def OwnF (T : TypeId) (K : Nat) (w : World) (B E : Nat) (v : Value) (n : Nat) (ys : List Int) : Prop :=
  (n = 0 ∧ ∃ ao cap, v = .slice ao 0 cap ∧ cap ≤ maxLen ∧ (ao = none → cap = 0)) ∨
  ∃ g cap, v = .slice (some ⟨g, 0, none⟩) n cap ∧ B ≤ g ∧ g < E ∧ w.ownsRow B T K v n (ys.map (Value.int .i64))

section
variable {T : TypeId} {K : Nat} {w w' : World} {B E B' E' : Nat} {v : Value} {n : Nat} {ys : List Int}

theorem OwnF.mono (h : OwnF T K w B E v n ys) (hB : B' ≤ B) (hE : E ≤ E') : OwnF T K w B' E' v n ys := by
  rcases h with h | ⟨g, cap, e, h1, h2, h3⟩
  · exact .inl h
  · exact .inr ⟨g, cap, e, by omega, by omega, h3.mono hB⟩

theorem OwnF.kept {row : Option Nat} (h : OwnF T K w B E v n ys) (hg : w.grownBy w' row) (hr : ∀ g, row = some g → g < B ∨ E ≤ g) : OwnF T K w' B E v n ys := by
  rcases h with h | ⟨g, cap, e, h1, h2, h3⟩
  · exact .inl h
  · refine .inr ⟨g, cap, e, h1, h2, h3.kept hg ?_⟩
    subst e
    right
    intro e
    have := hr g e.symm
    omega

theorem OwnF.below {E'' : Nat} (h : OwnF T K w B E v n ys) (hB : Below E'' w w') (hE : E ≤ E'') : OwnF T K w' B E v n ys := by
  rcases h with h | ⟨g, cap, e, h1, h2, h3⟩
  · exact .inl h
  · refine .inr ⟨g, cap, e, h1, h2, h3.1, ?_⟩
    rcases h3.2 with h3 | ⟨g', cap', cur, e', h4, h5, h6⟩
    · exact .inl h3
    · refine .inr ⟨g', cap', cur, e', h4, ?_, h6⟩
      subst e
      simp only [Value.slice.injEq, Option.some.injEq, Addr.mk.injEq, and_true, true_and] at e'
      rw [hB.block g' (by omega)]; exact h5

theorem OwnF.row (h : w.ownsRow B T K v n (ys.map (Value.int .i64))) : OwnF T K w B w.heap.size v n ys := by
  rcases h.2 with ⟨rfl, h0⟩ | ⟨g, cap, cur, rfl, h1, h2, h3, h4, h5, h6⟩
  · exact .inl ⟨h0, none, 0, rfl, by simp [maxLen], fun _ => rfl⟩
  · exact .inr ⟨g, cap, rfl, h1, (Array.getElem?_eq_some_iff.1 h2).1, h⟩

theorem OwnF.nil (T : TypeId) (K : Nat) (w : World) (B E : Nat) (ys : List Int) : OwnF T K w B E (.slice none 0 0) 0 ys := .inl ⟨rfl, none, 0, rfl, by simp [maxLen], fun _ => rfl⟩

theorem ownsRow_nthF {g cap : Nat} (h : w.ownsRow B T K (.slice (some ⟨g, 0, none⟩) n cap) n (ys.map (Value.int .i64))) {j : Nat} (hj : j < n * K) : w.cell? ⟨g, j, none⟩ = some (.int .i64 (nth ys j)) := by
  have hl : ys.length = n * K := by simpa using h.1
  rw [World.ownsRow.cellAt h j hj]
  have hj' : j < ys.length := by omega
  simp [nth, List.getElem?_eq_getElem hj']

theorem OwnF.read (h : OwnF T K w B E v n ys) : FlatV K w v n ys := by
  rcases h with ⟨rfl, ao, cap, rfl, hc, hz⟩ | ⟨g, cap, rfl, h1, h2, h3⟩
  · exact ⟨ao, cap, rfl, ⟨Nat.zero_le _, hz⟩, hc, fun i hi => by simp at hi⟩
  · have hcap : n ≤ cap ∧ cap ≤ maxLen := by
      rcases h3.2 with ⟨h4, _⟩ | ⟨g', cap', cur, e', h4, h5, h6, h7, _⟩
      · simp at h4
      · simp only [Value.slice.injEq, Option.some.injEq, Addr.mk.injEq, and_true, true_and] at e'
        omega
    refine ⟨some ⟨g, 0, none⟩, cap, rfl, ⟨hcap.1, fun e => by cases e⟩, hcap.2, fun i hi => ⟨g, 0, rfl, ?_⟩⟩
    rw [Nat.zero_add]
    exact ownsRow_nthF h3 hi

theorem OwnF.turned (h : OwnF T K w B E v n ys) (ht : Turned B' E' w w') (hd : E ≤ B' ∨ E' ≤ B) : OwnF T K w' B E v n ys := by
  rcases h with h | ⟨g, cap, e, h1, h2, h3⟩
  · exact .inl h
  · refine .inr ⟨g, cap, e, h1, h2, h3.1, ?_⟩
    rcases h3.2 with h3 | ⟨g', cap', cur, e', h4, h5, h6⟩
    · exact .inl h3
    · refine .inr ⟨g', cap', cur, e', h4, ?_, h6⟩
      subst e
      simp only [Value.slice.injEq, Option.some.injEq, Addr.mk.injEq, and_true, true_and] at e'
      rw [ht.block g' (by omega)]; exact h5
end

/-- A row at the head of block g. -/
def RowF (T : TypeId) (K : Nat) (w : World) (B g n cap : Nat) (ys : List Int) : Prop := w.ownsRow B T K (.slice (some ⟨g, 0, none⟩) n cap) n (ys.map (Value.int .i64))

section
variable {T : TypeId} {K : Nat} {w w' : World} {B g n cap : Nat} {ys : List Int}
theorem RowF.cell (h : RowF T K w B g n cap ys) {j : Nat} (hj : j < n * K) : w.cell? ⟨g, j, none⟩ = some (.int .i64 (nth ys j)) := ownsRow_nthF h hj
theorem RowF.frozen (h : RowF T K w B g n cap ys) (j : Nat) : w.frozen? ⟨g, j, none⟩ = false := World.ownsRow.frozenAt h j
theorem RowF.stored (h : RowF T K w B g n cap ys) (j : Nat) (x : Int) : RowF T K (w.setCell ⟨g, j, none⟩ (.int .i64 x)) B g n cap (ys.set j x) := by
  have := (World.ownsRow.stored h j (.int .i64 x)).1
  unfold RowF; rw [List.map_set]; exact this
theorem RowF.lt (h : RowF T K w B g n cap ys) : B ≤ g ∧ g < w.heap.size := World.ownsRow.lt h g rfl
theorem RowF.len (h : RowF T K w B g n cap ys) : ys.length = n * K := by simpa using h.1
theorem RowF.own (h : RowF T K w B g n cap ys) : OwnF T K w B w.heap.size (.slice (some ⟨g, 0, none⟩) n cap) n ys := OwnF.row h
theorem RowF.kept {row : Option Nat} (h : RowF T K w B g n cap ys) (hg : w.grownBy w' row) (hr : row ≠ some g) : RowF T K w' B g n cap ys :=
  World.ownsRow.kept h hg (.inr (by simpa [Value.ownBlock] using fun e => hr e.symm))
theorem RowF.below {E : Nat} (h : RowF T K w B g n cap ys) (hB : Below E w w') (hE : g < E) : RowF T K w' B g n cap ys := by
  refine ⟨h.1, ?_⟩
  rcases h.2 with h3 | ⟨g', cap', cur, e', h4, h5, h6⟩
  · exact .inl h3
  · refine .inr ⟨g', cap', cur, e', h4, ?_, h6⟩
    simp only [Value.slice.injEq, Option.some.injEq, Addr.mk.injEq, and_true, true_and] at e'
    rw [hB.block g' (by omega)]; exact h5
end

/-- K zeros made n times. -/
theorem rowF_made {T : TypeId} {K : Nat} {w w1 : World} {B n : Nat} {z : Array Value} (hz : z = (List.replicate K (Value.int .i64 0)).toArray) (hK : 0 < K)
    (h : w1.ownsRow B T K (.slice (some ⟨w.heap.size, 0, none⟩) n n) n (madeCells z (n * K)).toList) : RowF T K w1 B w.heap.size n n (List.replicate (n * K) 0) := by
  unfold RowF
  rw [List.map_replicate]
  have : (madeCells z (n * K)).toList = List.replicate (n * K) (Value.int .i64 0) := by
    subst hz
    apply List.ext_getElem?
    intro j
    by_cases hj : j < n * K
    · have := Nat.mod_lt j hK
      simp [madeCells, hj, this]
    · simp [madeCells, hj]
  rw [← this]; exact h

/-- A slice of the call's own that is appended to: nil, or a row from block B on. -/
def GrowF (T : TypeId) (K : Nat) (w : World) (B : Nat) (v : Value) (n : Nat) (ys : List Int) : Prop := w.ownsRow B T K v n (ys.map (Value.int .i64))

section
variable {T : TypeId} {K : Nat} {w w' : World} {B : Nat} {v : Value} {n : Nat} {ys : List Int}
theorem GrowF.nil (T : TypeId) (K : Nat) (w : World) (B : Nat) : GrowF T K w B (.slice none 0 0) 0 [] := World.ownsRow_nil w B T K
theorem GrowF.own (h : GrowF T K w B v n ys) : OwnF T K w B w.heap.size v n ys := OwnF.row h
theorem GrowF.drew (h : GrowF T K w B v n ys) : GrowF T K w.drew B v n ys := h
theorem GrowF.form (h : GrowF T K w B v n ys) (hn : 0 < n) : ∃ g cap, v = .slice (some ⟨g, 0, none⟩) n cap ∧ RowF T K w B g n cap ys := by
  rcases h.2 with ⟨rfl, h0⟩ | ⟨g, cap, cur, rfl, h1, h2, h3, h4, h5, h6⟩
  · omega
  · exact ⟨g, cap, rfl, h⟩
theorem GrowF.below (h : GrowF T K w B v n ys) (hB : Below w.heap.size w w') : GrowF T K w' B v n ys := by
  refine ⟨h.1, ?_⟩
  rcases h.2 with h3 | ⟨g', cap', cur, e', h4, h5, h6⟩
  · exact .inl h3
  · exact .inr ⟨g', cap', cur, e', h4, by rw [hB.block g' (Array.getElem?_eq_some_iff.1 h5).1]; exact h5, h6⟩
theorem GrowF.belowB {w0 : World} {b : Nat} (h : GrowF T K w B v n ys) (hb : Below b w0 w) (hB : b ≤ B) (hsz : b ≤ w.heap.size) (hg : w.grownBy w' v.ownBlock) : Below b w0 w' :=
  hb.grown hg hsz (fun k hk => by have := (World.ownsRow.lt h k hk).1; omega)
end

/-! Fractions. -/
/-- Element i of a list of fractions, 0/0 beyond its end. -/
def nthR (xs : List (Int × Int)) (i : Nat) : Int × Int := xs[i]?.getD (0, 0)
theorem nthR_eq {xs : List (Int × Int)} {i : Nat} (h : i < xs.length) : nthR xs i = xs[i] := by unfold nthR; rw [List.getElem?_eq_getElem h]; rfl
theorem take_nthR {xs : List (Int × Int)} {k : Nat} (h : k < xs.length) : xs.take (k + 1) = xs.take k ++ [nthR xs k] := by
  rw [List.take_add_one, List.getElem?_eq_getElem h, nthR_eq h]; rfl
def flR (xs : List (Int × Int)) : List Int := xs.flatMap fun x => [x.1, x.2]
theorem flR_len (xs : List (Int × Int)) : (flR xs).length = xs.length * 2 := by
  induction xs with
  | nil => rfl
  | cons x xs ih => simp only [flR, List.flatMap_cons, List.length_append, List.length_cons, List.length_nil] at ih ⊢; omega
theorem flR_append (xs ys : List (Int × Int)) : flR (xs ++ ys) = flR xs ++ flR ys := by simp [flR]
theorem flR_one (x : Int × Int) : flR [x] = [x.1, x.2] := rfl
theorem nth_flR {xs : List (Int × Int)} {i : Nat} (h : i < xs.length) : nth (flR xs) (i * 2) = (nthR xs i).1 ∧ nth (flR xs) (i * 2 + 1) = (nthR xs i).2 := by
  induction xs generalizing i with
  | nil => simp at h
  | cons x xs ih =>
    cases i with
    | zero => exact ⟨rfl, rfl⟩
    | succ i =>
      have h1 := ih (i := i) (by simpa using h)
      have e1 : (i + 1) * 2 = i * 2 + 2 := by omega
      have e2 : (i + 1) * 2 + 1 = (i * 2 + 1) + 2 := by omega
      rw [e1, show i * 2 + 2 + 1 = (i * 2 + 1) + 2 by omega]
      have hc : flR (x :: xs) = x.1 :: x.2 :: flR xs := rfl
      rw [hc]
      exact ⟨by simpa [nth, nthR] using h1.1, by simpa [nth, nthR] using h1.2⟩

abbrev szRatS (xs : List (Int × Int)) : Nat := xs.length
/-- How many numbers a mark writes. -/
def cntRatS (xs : List (Int × Int)) : Nat := 2 * xs.length
theorem cntRatS_le (xs : List (Int × Int)) : cntRatS xs ≤ 4 * szRatS xs := by unfold cntRatS szRatS; omega

def RatsV (w : World) (v : Value) (xs : List (Int × Int)) : Prop := FlatV 2 w v xs.length (flR xs)
theorem RatsV.below {w w' : World} {v : Value} {xs : List (Int × Int)} (h : RatsV w v xs) (hB : Below w.heap.size w w') : RatsV w' v xs := FlatV.below h hB
theorem RatsV.form {w : World} {v : Value} {xs : List (Int × Int)} (h : RatsV w v xs) : ∃ ao cap, v = .slice ao xs.length cap ∧ (xs.length ≤ cap ∧ (ao = none → cap = 0)) ∧ cap ≤ maxLen ∧
    ∀ i, i < xs.length → ∃ b off, ao = some ⟨b, off, none⟩ ∧ w.cell? ⟨b, off + i * 2, none⟩ = some (.int .i64 (nthR xs i).1) ∧ w.cell? ⟨b, off + i * 2 + 1, none⟩ = some (.int .i64 (nthR xs i).2) := by
  obtain ⟨ao, cap, e, h1, h2, H⟩ := h
  refine ⟨ao, cap, e, h1, h2, fun i hi => ?_⟩
  obtain ⟨b, off, rfl, c0⟩ := H (i * 2) (by omega)
  obtain ⟨_, _, e', c1⟩ := H (i * 2 + 1) (by omega)
  cases e'
  obtain ⟨n0, n1⟩ := nth_flR hi
  rw [n0] at c0; rw [n1] at c1
  exact ⟨b, off, rfl, c0, c1⟩
theorem RatsV.mk {w : World} {ao : Option Addr} {cap : Nat} {xs : List (Int × Int)} (h1 : xs.length ≤ cap ∧ (ao = none → cap = 0)) (h2 : cap ≤ maxLen)
    (H : ∀ i, i < xs.length → ∃ b off, ao = some ⟨b, off, none⟩ ∧ w.cell? ⟨b, off + i * 2, none⟩ = some (.int .i64 (nthR xs i).1) ∧ w.cell? ⟨b, off + i * 2 + 1, none⟩ = some (.int .i64 (nthR xs i).2)) : RatsV w (.slice ao xs.length cap) xs := by
  refine ⟨ao, cap, rfl, h1, h2, fun j hj => ?_⟩
  obtain ⟨b, off, e, c0, c1⟩ := H (j / 2) (by omega)
  obtain ⟨n0, n1⟩ := nth_flR (xs := xs) (i := j / 2) (by omega)
  rcases Nat.mod_two_eq_zero_or_one j with h0 | h0
  · have ej : j / 2 * 2 = j := by omega
    rw [ej] at c0 n0
    exact ⟨b, off, e, by rw [c0, n0]⟩
  · have ej : j / 2 * 2 + 1 = j := by omega
    rw [Nat.add_assoc, ej] at c1
    rw [ej] at n1
    exact ⟨b, off, e, by rw [c1, n1]⟩

def OwnR (w : World) (B E : Nat) (v : Value) (xs : List (Int × Int)) : Prop := OwnF 29 2 w B E v xs.length (flR xs)
section
variable {w w' : World} {B E B' E' : Nat} {v : Value} {xs : List (Int × Int)}
theorem OwnR.mono (h : OwnR w B E v xs) (hB : B' ≤ B) (hE : E ≤ E') : OwnR w B' E' v xs := OwnF.mono h hB hE
theorem OwnR.below {E'' : Nat} (h : OwnR w B E v xs) (hB : Below E'' w w') (hE : E ≤ E'') : OwnR w' B E v xs := OwnF.below h hB hE
theorem OwnR.kept {row : Option Nat} (h : OwnR w B E v xs) (hg : w.grownBy w' row) (hr : ∀ g, row = some g → g < B ∨ E ≤ g) : OwnR w' B E v xs := OwnF.kept h hg hr
theorem OwnR.turned (h : OwnR w B E v xs) (ht : Turned B' E' w w') (hd : E ≤ B' ∨ E' ≤ B) : OwnR w' B E v xs := OwnF.turned h ht hd
theorem OwnR.read (h : OwnR w B E v xs) : RatsV w v xs := OwnF.read h
theorem OwnR.nil (w : World) (B E : Nat) : OwnR w B E (.slice none 0 0) [] := OwnF.nil _ _ _ _ _ _
end
/-- A slice of fractions that is appended to. -/
def GrowR (w : World) (B : Nat) (v : Value) (xs : List (Int × Int)) : Prop := GrowF 29 2 w B v xs.length (flR xs)
theorem GrowR.nil (w : World) (B : Nat) : GrowR w B (.slice none 0 0) [] := GrowF.nil _ _ _ _
theorem GrowR.own {w : World} {B : Nat} {v : Value} {xs : List (Int × Int)} (h : GrowR w B v xs) : OwnR w B w.heap.size v xs := GrowF.own h
theorem GrowR.read {w : World} {B : Nat} {v : Value} {xs : List (Int × Int)} (h : GrowR w B v xs) : RatsV w v xs := h.own.read
theorem GrowR.below {w w' : World} {B : Nat} {v : Value} {xs : List (Int × Int)} (h : GrowR w B v xs) (hB : Below w.heap.size w w') : GrowR w' B v xs := GrowF.below h hB
theorem GrowR.belowB {w0 w w' : World} {B : Nat} {v : Value} {xs : List (Int × Int)} {b : Nat} (h : GrowR w B v xs) (hb : Below b w0 w) (hB : b ≤ B) (hsz : b ≤ w.heap.size) (hg : w.grownBy w' v.ownBlock) : Below b w0 w' := GrowF.belowB h hb hB hsz hg
theorem Tryz.infoRat : (Tryz.prog.info? 29).map (fun i => (i.zero, i.size, i.bytes)) = some (some (.agg #[.int .i64 0, .int .i64 0]), 2, 16) := by kernel_rfl

end Go.Proofs.YtgpabfbnbmbmeaaGreatDoor

namespace Go.Proofs.YtgpabfbnbmbmeaaGreatDoor
open Go.RowKit
set_option maxRecDepth 100000

theorem mkR_bd (x y : Int) (h : (mkR x y).2 = true) : BdR (mkR x y).1.1 (mkR x y).1.2 := by
  unfold mkR at h ⊢
  split
  · rename_i hg; exact goodR_bd hg
  · rename_i hg; rw [if_neg hg] at h; cases h
def subR (a b : Int × Int) : (Int × Int) × Bool := mkR (a.1 * b.2 - b.1 * a.2) (a.2 * b.2)
def addR (a b : Int × Int) : (Int × Int) × Bool := mkR (a.1 * b.2 + b.1 * a.2) (a.2 * b.2)
theorem BdR.den {n d n' d' : Int} (h : BdR n d) (h' : BdR n' d') : 1 ≤ d * d' ∧ d * d' ≤ 1000000000000000000 := by
  obtain ⟨⟨h1, h2⟩, _, _⟩ := h
  obtain ⟨⟨h3, h4⟩, _, _⟩ := h'
  have a1 : d * d' ≤ 1000000000 * d' := Int.mul_le_mul_of_nonneg_right h2 (by omega)
  have a2 : 1 * d' ≤ d * d' := Int.mul_le_mul_of_nonneg_right h1 (by omega)
  omega




theorem goodR_neg (n d : Int) : goodR (-n) d = goodR n d := by
  have h1 : gcdI (-n) d = gcdI n d := by unfold gcdI; rw [Int.natAbs_neg]
  have h2 : inB (-n) (-1000000000) 1000000000 = inB n (-1000000000) 1000000000 := by
    cases h : inB n (-1000000000) 1000000000
    · cases h' : inB (-n) (-1000000000) 1000000000
      · rfl
      · rw [inB_true] at h'
        have : inB n (-1000000000) 1000000000 = true := inB_true.2 (by omega)
        rw [h] at this; cases this
    · rw [inB_true] at h
      exact inB_true.2 (by omega)
  unfold goodR
  rw [h1, h2]
theorem addR_neg (a b : Int × Int) : addR a (-b.1, b.2) = subR a b := by
  unfold addR subR
  simp only [Int.neg_mul, ← Int.sub_eq_add_neg]


end Go.Proofs.YtgpabfbnbmbmeaaGreatDoor

namespace Go.Proofs.YtgpabfbnbmbmeaaGreatDoor
open Go.RowKit

/-- The number that a fraction is. -/
def qv (r : Int × Int) : Rat := (r.1 : Rat) / (r.2 : Rat)
theorem ratC_pos {d : Int} (h : 1 ≤ d) : (0 : Rat) < (d : Rat) := by
  have : (0 : Int) < d := by omega
  exact_mod_cast this
theorem ratC_ne {d : Int} (h : d ≠ 0) : (d : Rat) ≠ 0 := by exact_mod_cast h
theorem rat_div_le {a b c : Rat} (hb : 0 < b) : a / b ≤ c ↔ a ≤ c * b := by rw [← Rat.not_lt, ← Rat.not_lt, Rat.lt_div_iff hb]
theorem rat_le_div {a b c : Rat} (hb : 0 < b) : a ≤ c / b ↔ a * b ≤ c := by rw [← Rat.not_lt, ← Rat.not_lt, Rat.div_lt_iff hb]
theorem goodR_all {n d : Int} (h : goodR n d = true) : (1 ≤ d ∧ d ≤ 1000000000) ∧ (-1000000000 ≤ n ∧ n ≤ 1000000000) ∧ Nat.gcd n.natAbs d.natAbs = 1 := by
  have h1 := goodR_bd h
  unfold goodR gcdI at h
  simp only [Bool.and_eq_true, decide_eq_true_iff] at h
  exact ⟨h1.1, h1.2, by have := h.2; omega⟩
theorem goodR_of {n d : Int} (h1 : 1 ≤ d ∧ d ≤ 1000000000) (h2 : -1000000000 ≤ n ∧ n ≤ 1000000000) (h3 : Nat.gcd n.natAbs d.natAbs = 1) : goodR n d = true := by
  unfold goodR gcdI
  simp only [Bool.and_eq_true, decide_eq_true_iff, inB_true]
  exact ⟨⟨h1, h2⟩, by rw [h3]; rfl⟩
theorem ltB_qv {a b : Int × Int} (ha : goodR a.1 a.2 = true) (hb : goodR b.1 b.2 = true) : ltB a.1 a.2 b.1 b.2 = true ↔ qv a < qv b := by
  obtain ⟨⟨h1, _⟩, _⟩ := goodR_all ha
  obtain ⟨⟨h2, _⟩, _⟩ := goodR_all hb
  unfold ltB qv
  have e : (b.1 : Rat) / b.2 * a.2 = b.1 * a.2 / b.2 := by rw [Rat.div_def, Rat.div_def]; grind
  rw [decide_eq_true_iff, Rat.div_lt_iff (ratC_pos h1), e, Rat.lt_div_iff (ratC_pos h2)]
  norm_cast
theorem ltB_qvf {a b : Int × Int} (ha : goodR a.1 a.2 = true) (hb : goodR b.1 b.2 = true) : ltB a.1 a.2 b.1 b.2 = false ↔ qv b ≤ qv a := by
  rw [← Bool.not_eq_true, ltB_qv ha hb, Rat.not_lt]
theorem qv_inj {a b : Int × Int} (ha : goodR a.1 a.2 = true) (hb : goodR b.1 b.2 = true) (h : qv a = qv b) : a = b := by
  obtain ⟨⟨h1, _⟩, _, h3⟩ := goodR_all ha
  obtain ⟨⟨h2, _⟩, _, h4⟩ := goodR_all hb
  obtain ⟨n, d⟩ := a
  obtain ⟨m, e⟩ := b
  simp only at h1 h2 h3 h4
  unfold qv at h
  simp only at h
  have hx : n * e = m * d := by
    have h5 : (n : Rat) * e = m * d := by
      have := ratC_ne (d := d) (by omega)
      have := ratC_ne (d := e) (by omega)
      grind
    exact_mod_cast h5
  have hd : d.natAbs ∣ e.natAbs := by
    have h6 : d ∣ n * e := ⟨m, by rw [hx, Int.mul_comm]⟩
    have h7 : d.natAbs ∣ n.natAbs * e.natAbs := by rw [← Int.natAbs_mul]; exact Int.natAbs_dvd_natAbs.2 h6
    exact (Nat.Coprime.symm h3).dvd_of_dvd_mul_left h7
  have he : e.natAbs ∣ d.natAbs := by
    have h6 : e ∣ m * d := ⟨n, by rw [← hx, Int.mul_comm]⟩
    have h7 : e.natAbs ∣ m.natAbs * d.natAbs := by rw [← Int.natAbs_mul]; exact Int.natAbs_dvd_natAbs.2 h6
    exact (Nat.Coprime.symm h4).dvd_of_dvd_mul_left h7
  have hde : d = e := by have := Nat.dvd_antisymm hd he; omega
  subst hde
  have : n = m := Int.eq_of_mul_eq_mul_right (by omega) hx
  rw [this]
/-- What 'lowest terms' does: the number stays. -/
theorem low_spec {x y : Int} (h : y ≠ 0) : 1 ≤ lowD x y ∧ lowN x y * y = x * lowD x y ∧ Nat.gcd (lowN x y).natAbs (lowD x y).natAbs = 1 ∧ (lowN x y).natAbs ≤ x.natAbs ∧ (lowD x y).natAbs ≤ y.natAbs := by
  have hg : 0 < Nat.gcd x.natAbs y.natAbs := Nat.gcd_pos_of_pos_right _ (by omega)
  obtain ⟨g, hgg⟩ : ∃ g, Nat.gcd x.natAbs y.natAbs = g := ⟨_, rfl⟩
  rw [hgg] at hg
  have hgx : (g : Int) ∣ x := Int.ofNat_dvd_left.2 (by rw [← hgg]; exact Nat.gcd_dvd_left _ _)
  have hgy : (g : Int) ∣ y := Int.ofNat_dvd_left.2 (by rw [← hgg]; exact Nat.gcd_dvd_right _ _)
  obtain ⟨a, ha⟩ := hgx
  obtain ⟨b, hb⟩ := hgy
  have hg0 : (g : Int) ≠ 0 := by omega
  have hga : Nat.gcd a.natAbs b.natAbs = 1 := by
    have h1 : Nat.gcd (g * a.natAbs) (g * b.natAbs) = g := by
      have e1 : x.natAbs = g * a.natAbs := by rw [ha, Int.natAbs_mul]; simp
      have e2 : y.natAbs = g * b.natAbs := by rw [hb, Int.natAbs_mul]; simp
      rw [← e1, ← e2]; exact hgg
    rw [Nat.gcd_mul_left] at h1
    exact Nat.eq_of_mul_eq_mul_left hg (by rw [h1, Nat.mul_one])
  have ex : x.natAbs = g * a.natAbs := by rw [ha, Int.natAbs_mul]; simp
  have ey : y.natAbs = g * b.natAbs := by rw [hb, Int.natAbs_mul]; simp
  have lx : a.natAbs ≤ x.natAbs := by rw [ex]; exact Nat.le_mul_of_pos_left _ hg
  have ly : b.natAbs ≤ y.natAbs := by rw [ey]; exact Nat.le_mul_of_pos_left _ hg
  have hb0 : b ≠ 0 := fun e => h (by rw [hb, e, Int.mul_zero])
  have ta : x.tdiv g = a := by rw [ha]; exact Int.mul_tdiv_cancel_left _ hg0
  have tb : y.tdiv g = b := by rw [hb]; exact Int.mul_tdiv_cancel_left _ hg0
  unfold lowN lowD gcdI
  rw [hgg]
  by_cases q : y < 0
  · rw [if_pos q, if_pos q, Int.tdiv_neg, Int.tdiv_neg, ta, tb]
    have hbn : b < 0 := by
      apply Decidable.byContradiction
      intro r
      have : 0 ≤ (g : Int) * b := Int.mul_nonneg (by omega) (by omega)
      omega
    refine ⟨by omega, by rw [ha, hb]; grind, by rw [Int.natAbs_neg, Int.natAbs_neg]; exact hga, by rw [Int.natAbs_neg]; exact lx, by rw [Int.natAbs_neg]; exact ly⟩
  · rw [if_neg q, if_neg q, ta, tb]
    have hbn : 0 < b := by
      apply Decidable.byContradiction
      intro r
      have : 0 ≤ (g : Int) * (-b) := Int.mul_nonneg (by omega) (by omega)
      have : (g : Int) * (-b) = -(g * b) := by grind
      omega
    exact ⟨by omega, by rw [ha, hb]; grind, hga, lx, ly⟩
theorem mkR_good {x y : Int} (h : (mkR x y).2 = true) : goodR (mkR x y).1.1 (mkR x y).1.2 = true := by
  unfold mkR at h ⊢
  split
  · rename_i hg; exact hg
  · rename_i hg; rw [if_neg hg] at h; cases h
theorem mkR_qv {x y : Int} (h0 : y ≠ 0) (h : (mkR x y).2 = true) : qv (mkR x y).1 = (x : Rat) / (y : Rat) := by
  obtain ⟨h1, h2, _⟩ := low_spec (x := x) h0
  unfold mkR at h ⊢
  split
  · rename_i hg
    show (lowN x y : Rat) / (lowD x y : Rat) = _
    have h3 : (lowN x y : Rat) * y = x * lowD x y := by exact_mod_cast h2
    have := ratC_ne (d := lowD x y) (by omega)
    have := ratC_ne h0
    grind
  · rename_i hg; rw [if_neg hg] at h; cases h
theorem mkR_ok {x y : Int} (h0 : y ≠ 0) (hx : -1000000000 ≤ x ∧ x ≤ 1000000000) (hy : -1000000000 ≤ y ∧ y ≤ 1000000000) : (mkR x y).2 = true := by
  obtain ⟨h1, _, h3, h4, h5⟩ := low_spec (x := x) h0
  unfold mkR
  rw [if_pos (goodR_of (by omega) (by omega) h3)]
/-- Each fraction in lowest terms of small size is told. -/
theorem mkR_is {x y : Int} {r : Int × Int} (h0 : y ≠ 0) (hr : goodR r.1 r.2 = true) (h : qv r = (x : Rat) / (y : Rat)) : mkR x y = (r, true) := by
  obtain ⟨h1, h2, h3, _⟩ := low_spec (x := x) h0
  obtain ⟨⟨h5, h6⟩, h7, h8⟩ := goodR_all hr
  obtain ⟨n, d⟩ := r
  simp only at h5 h6 h7 h8
  have hx : lowN x y * d = n * lowD x y := by
    have e1 : (lowN x y : Rat) * y = x * lowD x y := by exact_mod_cast h2
    have e2 : (n : Rat) / d = (x : Rat) / (y : Rat) := h
    have e3 : (lowN x y : Rat) * d = n * lowD x y := by
      have := ratC_ne (d := d) (by omega)
      have := ratC_ne h0
      grind
    exact_mod_cast e3
  have hd : (lowD x y).natAbs ∣ d.natAbs := by
    have h9 : lowD x y ∣ lowN x y * d := ⟨n, by rw [hx, Int.mul_comm]⟩
    have h10 : (lowD x y).natAbs ∣ (lowN x y).natAbs * d.natAbs := by rw [← Int.natAbs_mul]; exact Int.natAbs_dvd_natAbs.2 h9
    exact (Nat.Coprime.symm h3).dvd_of_dvd_mul_left h10
  have he : d.natAbs ∣ (lowD x y).natAbs := by
    have h9 : d ∣ n * lowD x y := ⟨lowN x y, by rw [← hx, Int.mul_comm]⟩
    have h10 : d.natAbs ∣ n.natAbs * (lowD x y).natAbs := by rw [← Int.natAbs_mul]; exact Int.natAbs_dvd_natAbs.2 h9
    exact (Nat.Coprime.symm h8).dvd_of_dvd_mul_left h10
  have e1 : lowD x y = d := by have := Nat.dvd_antisymm hd he; omega
  have e2 : lowN x y = n := by rw [e1] at hx; exact Int.eq_of_mul_eq_mul_right (by omega) hx
  unfold mkR
  rw [e1, e2, if_pos (by exact hr)]

def mulR (a b : Int × Int) : (Int × Int) × Bool := mkR (a.1 * b.1) (a.2 * b.2)
def divR (a b : Int × Int) : (Int × Int) × Bool := if b.1 = 0 then ((0, 0), false) else mkR (a.1 * b.2) (a.2 * b.1)
theorem mulR_comm (a b : Int × Int) : mulR a b = mulR b a := by
  unfold mulR
  rw [Int.mul_comm a.1, Int.mul_comm a.2]
theorem good_den {r : Int × Int} (h : goodR r.1 r.2 = true) : 1 ≤ r.2 := (goodR_all h).1.1
theorem den_ne {a b : Int × Int} (ha : goodR a.1 a.2 = true) (hb : goodR b.1 b.2 = true) : a.2 * b.2 ≠ 0 := by
  have h1 := good_den ha
  have h2 := good_den hb
  exact Int.mul_ne_zero (by omega) (by omega)
theorem addR_qv {a b : Int × Int} (ha : goodR a.1 a.2 = true) (hb : goodR b.1 b.2 = true) (h : (addR a b).2 = true) : goodR (addR a b).1.1 (addR a b).1.2 = true ∧ qv (addR a b).1 = qv a + qv b := by
  refine ⟨mkR_good h, ?_⟩
  show qv (mkR _ _).1 = _
  rw [mkR_qv (den_ne ha hb) h]
  have := ratC_ne (d := a.2) (by have := good_den ha; omega)
  have := ratC_ne (d := b.2) (by have := good_den hb; omega)
  unfold qv
  push_cast
  grind
theorem subR_qv {a b : Int × Int} (ha : goodR a.1 a.2 = true) (hb : goodR b.1 b.2 = true) (h : (subR a b).2 = true) : goodR (subR a b).1.1 (subR a b).1.2 = true ∧ qv (subR a b).1 = qv a - qv b := by
  refine ⟨mkR_good h, ?_⟩
  show qv (mkR _ _).1 = _
  rw [mkR_qv (den_ne ha hb) h]
  have := ratC_ne (d := a.2) (by have := good_den ha; omega)
  have := ratC_ne (d := b.2) (by have := good_den hb; omega)
  unfold qv
  push_cast
  grind
theorem mulR_qv {a b : Int × Int} (ha : goodR a.1 a.2 = true) (hb : goodR b.1 b.2 = true) (h : (mulR a b).2 = true) : goodR (mulR a b).1.1 (mulR a b).1.2 = true ∧ qv (mulR a b).1 = qv a * qv b := by
  refine ⟨mkR_good h, ?_⟩
  show qv (mkR _ _).1 = _
  rw [mkR_qv (den_ne ha hb) h]
  have := ratC_ne (d := a.2) (by have := good_den ha; omega)
  have := ratC_ne (d := b.2) (by have := good_den hb; omega)
  unfold qv
  push_cast
  grind
theorem divR_qv {a b : Int × Int} (ha : goodR a.1 a.2 = true) (hb : goodR b.1 b.2 = true) (h : (divR a b).2 = true) : goodR (divR a b).1.1 (divR a b).1.2 = true ∧ qv (divR a b).1 = qv a / qv b ∧ b.1 ≠ 0 := by
  unfold divR at h ⊢
  by_cases q : b.1 = 0
  · rw [if_pos q] at h; cases h
  · rw [if_neg q] at h ⊢
    have h1 := good_den ha
    refine ⟨mkR_good h, ?_, q⟩
    rw [mkR_qv (Int.mul_ne_zero (by omega) q) h]
    have := ratC_ne (d := a.2) (by omega)
    have := ratC_ne (d := b.2) (by have := good_den hb; omega)
    have := ratC_ne q
    unfold qv
    push_cast
    grind
theorem unitR_qv {r : Int × Int} : unitR r.1 r.2 = true ↔ goodR r.1 r.2 = true ∧ 0 ≤ qv r ∧ qv r ≤ 1 := by
  unfold unitR
  rw [Bool.and_eq_true, inB_true]
  constructor
  · rintro ⟨h1, h2, h3⟩
    have hp := ratC_pos (good_den h1)
    refine ⟨h1, ?_, ?_⟩
    · unfold qv; rw [rat_le_div hp]
      rw [Rat.zero_mul]; exact_mod_cast h2
    · unfold qv; rw [rat_div_le hp]
      rw [Rat.one_mul]; exact_mod_cast h3
  · rintro ⟨h1, h2, h3⟩
    have hp := ratC_pos (good_den h1)
    unfold qv at h2 h3
    rw [rat_le_div hp, Rat.zero_mul] at h2
    rw [rat_div_le hp, Rat.one_mul] at h3
    exact ⟨h1, by exact_mod_cast h2, by exact_mod_cast h3⟩

end Go.Proofs.YtgpabfbnbmbmeaaGreatDoor

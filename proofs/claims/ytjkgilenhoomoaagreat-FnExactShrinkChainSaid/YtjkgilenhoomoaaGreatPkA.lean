/- Several texts in one: Hold Lib Ints Funcs PolyIs Trim Lift Mat LiftM Graph Tab Tabs Wrap. No conditions but those that each theorem states. -/
import Derived.Test.YtjkgilenhoomoaaGreatRows
import Derived.WalkKit
import Derived.WalkSpells
import Derived.BigQuiet
import Derived.Deep.RegionHeld3
import Derived.WalkLawsBesides
import Derived.Lib.Hide
import Derived.Deep.OwnRows
import Derived.Deep.Onto
import Derived.Maps.AppendAt
import Derived.Deep.QuietTactic
import Derived.Shelf.Abstract
import Derived.Laws.AppendOwnNone
import Derived.ProofKit
import Derived.Deep.Matrix
import Derived.IntWalk

namespace Go.Proofs.YtjkgilenhoomoaaGreat
open Go.RowKit

theorem lyA {α : Type} (l : List α) (i : Nat) (a : α) : l.toArray.setIfInBounds i a = (l.set i a).toArray := List.setIfInBounds_toArray ..
theorem lyB {α : Type} (x : α) (l : List α) (a : α) : (x :: l).set 0 a = a :: l := rfl
theorem lyC {α : Type} (x : α) (l : List α) (i : Nat) (a : α) : (x :: l).set (i + 1) a = x :: l.set i a := rfl
section
variable {P : Program} {ops : Array Oper} {Q : Exit → Act → World → Prop} {md : Region.Mode} {S : World → Prop}
/-- A quiet operation is taken. -/
theorem ly_q (i : Nat) {dst : Option Tmp} {op : Op} {ty : TypeId} {pos : String} {aft : Array Edge} {gd : Option (Nat × Bool)} {v : Value} {fuel : Nat} {listed : Array Bool} {a : Act} {w : World}
    (hS : S w) (h : wpAnyH P md ops Q S fuel (listed.setIfInBounds i true) (a.put dst v) w)
    (hi : ops[i]? = some (Oper.mk dst op ty pos aft gd) := by rfl) (hs : Region.noSelect ops = true := by kernel_rfl) (hf : Region.free md ops listed i = true := by kernel_rfl) (hr : (Region.ready md ops listed).contains i = true := by kernel_rfl)
    (hw : Region.wanted (Oper.mk dst op ty pos aft gd) (yielded ops a.tmps) = true := by kernel_rfl)
    (hy : ∀ w, S w → (execOp a.eval (Oper.mk dst op ty pos aft gd)).run P w = .ok (.value v) w := by intro wS hSw; (try dsimp only at hSw); go_simp; all_goals (with_reducible rfl))
    (hQ : ∀ c a w, Q (.panic c) (a.put dst v) w → Q (.panic c) a w := by exact fun _ _ _ h => h) : wpAnyH P md ops Q S (fuel + 1) listed a w :=
  wpAnyH_take hi hs hf hr hQ (Or.inl ⟨hw, hy⟩) hS h
/-- An operation whose guard is off is passed by. -/
theorem ly_off (i : Nat) {dst : Option Tmp} {op : Op} {ty : TypeId} {pos : String} {aft : Array Edge} {gd : Option (Nat × Bool)} {fuel : Nat} {listed : Array Bool} {a : Act} {w : World}
    (hS : S w) (h : wpAnyH P md ops Q S fuel (listed.setIfInBounds i true) (a.put dst undef) w)
    (hi : ops[i]? = some (Oper.mk dst op ty pos aft gd) := by rfl) (hs : Region.noSelect ops = true := by kernel_rfl) (hf : Region.free md ops listed i = true := by kernel_rfl) (hr : (Region.ready md ops listed).contains i = true := by kernel_rfl)
    (hw : Region.wanted (Oper.mk dst op ty pos aft gd) (yielded ops a.tmps) = false := by kernel_rfl)
    (hQ : ∀ c a w, Q (.panic c) (a.put dst undef) w → Q (.panic c) a w := by exact fun _ _ _ h => h) : wpAnyH P md ops Q S (fuel + 1) listed a w :=
  wpAnyH_take hi hs hf hr hQ (Or.inr ⟨hw, rfl⟩) hS h
/-- A quiet operation is taken; the frame is written out. -/
theorem ly_s (i : Nat) {dst : Option Tmp} {op : Op} {ty : TypeId} {pos : String} {aft : Array Edge} {gd : Option (Nat × Bool)} {v : Value} {fuel : Nat} {listed : Array Bool} {a a' : Act} {w : World}
    (hS : S w) (h : wpAnyH P md ops Q S fuel (listed.setIfInBounds i true) a' w)
    (hi : ops[i]? = some (Oper.mk dst op ty pos aft gd) := by rfl) (hs : Region.noSelect ops = true := by kernel_rfl) (hf : Region.free md ops listed i = true := by kernel_rfl) (hr : (Region.ready md ops listed).contains i = true := by kernel_rfl)
    (hw : Region.wanted (Oper.mk dst op ty pos aft gd) (yielded ops a.tmps) = true := by kernel_rfl)
    (hy : ∀ w, S w → (execOp a.eval (Oper.mk dst op ty pos aft gd)).run P w = .ok (.value v) w := by intro wS hSw; (try dsimp only at hSw); go_simp; all_goals (with_reducible rfl))
    (ha : a.put dst v = a' := by (try simp only [Act.put, lyA, lyB, lyC]); rfl)
    (hQ : ∀ c a w, Q (.panic c) (a.put dst v) w → Q (.panic c) a w := by exact fun _ _ _ h => h) : wpAnyH P md ops Q S (fuel + 1) listed a w :=
  wpAnyH_take hi hs hf hr hQ (Or.inl ⟨hw, hy⟩) hS (ha ▸ h)
/-- An operation whose guard is off is passed by; the frame is written out. -/
theorem ly_f (i : Nat) {dst : Option Tmp} {op : Op} {ty : TypeId} {pos : String} {aft : Array Edge} {gd : Option (Nat × Bool)} {fuel : Nat} {listed : Array Bool} {a a' : Act} {w : World}
    (hS : S w) (h : wpAnyH P md ops Q S fuel (listed.setIfInBounds i true) a' w)
    (hi : ops[i]? = some (Oper.mk dst op ty pos aft gd) := by rfl) (hs : Region.noSelect ops = true := by kernel_rfl) (hf : Region.free md ops listed i = true := by kernel_rfl) (hr : (Region.ready md ops listed).contains i = true := by kernel_rfl)
    (hw : Region.wanted (Oper.mk dst op ty pos aft gd) (yielded ops a.tmps) = false := by kernel_rfl)
    (ha : a.put dst undef = a' := by (try simp only [Act.put, lyA, lyB, lyC]); rfl)
    (hQ : ∀ c a w, Q (.panic c) (a.put dst undef) w → Q (.panic c) a w := by exact fun _ _ _ h => h) : wpAnyH P md ops Q S (fuel + 1) listed a w :=
  wpAnyH_take hi hs hf hr hQ (Or.inr ⟨hw, rfl⟩) hS (ha ▸ h)
/-- The one operation that may come up comes up; behind it S is shown anew. -/
theorem ly_a (i : Nat) {dst : Option Tmp} {op : Op} {ty : TypeId} {pos : String} {aft : Array Edge} {gd : Option (Nat × Bool)} {fuel : Nat} {listed : Array Bool} {a : Act} {w : World}
    (h : ∀ K' : Act → World → Prop, Shut (∀ a w, S w → (S w → wpAnyH P md ops Q S fuel (listed.setIfInBounds i true) a w) → K' a w) → Oper.wp P (Oper.mk dst op ty pos aft gd) a w K' Q)
    (hi : ops[i]? = some (Oper.mk dst op ty pos aft gd) := by rfl) (hr : Region.ready md ops listed = [i] := by kernel_rfl)
    (hw : Region.wanted (Oper.mk dst op ty pos aft gd) (yielded ops a.tmps) = true := by kernel_rfl) : wpAnyH P md ops Q S (fuel + 1) listed a w :=
  wpAnyH_ready hr (by simp) (AllReadyH.cons hi (fun K' hK' => by rw [if_pos hw]; exact h K' hK') AllReadyH.nil)
end
end Go.Proofs.YtjkgilenhoomoaaGreat

namespace Go.Proofs.YtjkgilenhoomoaaGreat
open Go.RowKit

theorem Tryz.infoInt : (Tryz.prog.info? 3).map (fun i => (i.zero, i.size, i.bytes)) = some (some (.int .i64 0), 1, 8) := by kernel_rfl

/-- Element i of a list of ints, 0 beyond its end; a word that no rule opens. -/
def nth (xs : List Int) (i : Nat) : Int := xs[i]?.getD 0

theorem nth_eq {xs : List Int} {i : Nat} (h : i < xs.length) : nth xs i = xs[i] := by unfold nth; rw [List.getElem?_eq_getElem h]; rfl
theorem nth_mem {xs : List Int} {i : Nat} (h : i < xs.length) : nth xs i ∈ xs := by rw [nth_eq h]; exact List.getElem_mem h
theorem take_nth {xs : List Int} {k : Nat} (h : k < xs.length) : xs.take (k + 1) = xs.take k ++ [nth xs k] := by
  rw [List.take_add_one, List.getElem?_eq_getElem h, nth_eq h]; rfl

/-- The number is an int64. -/
def I64 (n : Int) : Prop := -9223372036854775808 ≤ n ∧ n ≤ 9223372036854775807

/-- How many values a list holds. -/
def szIntS (xs : List Int) : Nat := xs.length
/-- How many numbers a mark writes. -/
def cntIntS (xs : List Int) : Nat := xs.length
theorem cntIntS_le (xs : List Int) : cntIntS xs ≤ 4 * szIntS xs := by unfold cntIntS szIntS; omega

/-- A slice value that reads as these ints. -/
def IntsV (w : World) (v : Value) (xs : List Int) : Prop :=
  ∃ ao cap, v = .slice ao xs.length cap ∧ (xs.length ≤ cap ∧ (ao = none → cap = 0)) ∧ cap ≤ maxLen ∧ ∀ i, i < xs.length → ∃ b off, ao = some ⟨b, off, none⟩ ∧ w.cell? ⟨b, off + i, none⟩ = some (.int .i64 (nth xs i))

theorem IntsV.below {w w' : World} {v : Value} {xs : List Int} (h : IntsV w v xs) (hB : Below w.heap.size w w') : IntsV w' v xs := by
  obtain ⟨ao, cap, rfl, h1, h2, h⟩ := h
  refine ⟨ao, cap, rfl, h1, h2, fun i hi => ?_⟩
  obtain ⟨b, off, e, hc⟩ := h i hi
  exact ⟨b, off, e, by rw [hB.cell (World.block_lt_of_cell? w _ hc)]; exact hc⟩

theorem IntsV.drew {w : World} {v : Value} {xs : List Int} (h : IntsV w v xs) : IntsV w.drew v xs := h.below ((Below.refl _ _).drew)

/-- A slice of the call's own: its block lies in [B, E); or it has no elements. -/
def Own (w : World) (B E : Nat) (v : Value) (xs : List Int) : Prop :=
  (xs = [] ∧ ∃ ao cap, v = .slice ao 0 cap ∧ cap ≤ maxLen ∧ (ao = none → cap = 0)) ∨
  ∃ g cap, v = .slice (some ⟨g, 0, none⟩) xs.length cap ∧ B ≤ g ∧ g < E ∧ w.ownsRow B 3 1 v xs.length (xs.map (Value.int .i64))

theorem Own.mono {w : World} {B E B' E' : Nat} {v : Value} {xs : List Int} (h : Own w B E v xs) (hB : B' ≤ B) (hE : E ≤ E') : Own w B' E' v xs := by
  rcases h with h | ⟨g, cap, e, h1, h2, h3⟩
  · exact .inl h
  · exact .inr ⟨g, cap, e, by omega, by omega, h3.mono hB⟩

theorem Own.kept {w w' : World} {B E : Nat} {v : Value} {xs : List Int} {row : Option Nat} (h : Own w B E v xs) (hg : w.grownBy w' row) (hr : ∀ g, row = some g → g < B ∨ E ≤ g) : Own w' B E v xs := by
  rcases h with h | ⟨g, cap, e, h1, h2, h3⟩
  · exact .inl h
  · refine .inr ⟨g, cap, e, h1, h2, h3.kept hg ?_⟩
    subst e
    right
    intro e
    have := hr g e.symm
    omega

theorem Own.below {w w' : World} {B E E' : Nat} {v : Value} {xs : List Int} (h : Own w B E v xs) (hB : Below E' w w') (hE : E ≤ E') : Own w' B E v xs := by
  rcases h with h | ⟨g, cap, e, h1, h2, h3⟩
  · exact .inl h
  · refine .inr ⟨g, cap, e, h1, h2, h3.1, ?_⟩
    rcases h3.2 with h3 | ⟨g', cap', cur, e', h4, h5, h6⟩
    · exact .inl h3
    · refine .inr ⟨g', cap', cur, e', h4, ?_, h6⟩
      subst e
      simp only [Value.slice.injEq, Option.some.injEq, Addr.mk.injEq, and_true, true_and] at e'
      rw [hB.block g' (by omega)]; exact h5

theorem Own.row {w : World} {B : Nat} {v : Value} {n : Nat} {xs : List Int} (h : w.ownsRow B 3 1 v n (xs.map (Value.int .i64))) : Own w B w.heap.size v xs := by
  have hn : xs.length = n := by simpa using h.1
  subst hn
  rcases h.2 with ⟨rfl, h0⟩ | ⟨g, cap, cur, rfl, h1, h2, h3, h4, h5, h6⟩
  · exact .inl ⟨List.eq_nil_of_length_eq_zero h0, none, 0, by simp, by simp [maxLen], fun _ => rfl⟩
  · exact .inr ⟨g, cap, rfl, h1, (Array.getElem?_eq_some_iff.1 h2).1, h⟩

theorem Own.nil (w : World) (B E : Nat) : Own w B E (.slice none 0 0) [] := .inl ⟨rfl, none, 0, rfl, by simp [maxLen], fun _ => rfl⟩

theorem ownsRow_nth {w : World} {B g n cap : Nat} {xs : List Int} (h : w.ownsRow B 3 1 (.slice (some ⟨g, 0, none⟩) n cap) n (xs.map (Value.int .i64))) {j : Nat} (hj : j < n) : w.cell? ⟨g, j, none⟩ = some (.int .i64 (nth xs j)) := by
  have hl : xs.length = n := by simpa using h.1
  rw [World.ownsRow.cellAt h j (by omega)]
  have hj' : j < xs.length := by omega
  simp [nth, List.getElem?_eq_getElem hj']

theorem Own.read {w : World} {B E : Nat} {v : Value} {xs : List Int} (h : Own w B E v xs) : IntsV w v xs := by
  rcases h with ⟨rfl, ao, cap, rfl, hc, hz⟩ | ⟨g, cap, rfl, h1, h2, h3⟩
  · exact ⟨ao, cap, rfl, ⟨Nat.zero_le _, hz⟩, hc, fun i hi => absurd hi (Nat.not_lt_zero i)⟩
  · have hcap : xs.length ≤ cap ∧ cap ≤ maxLen := by
      rcases h3.2 with ⟨h4, _⟩ | ⟨g', cap', cur, e', h4, h5, h6, h7, _⟩
      · simp at h4
      · simp only [Value.slice.injEq, Option.some.injEq, Addr.mk.injEq, and_true, true_and] at e'
        omega
    refine ⟨some ⟨g, 0, none⟩, cap, rfl, ⟨hcap.1, fun e => by cases e⟩, hcap.2, fun i hi => ⟨g, 0, rfl, ?_⟩⟩
    rw [Nat.zero_add]
    exact ownsRow_nth h3 hi

/-- A row of ints at the head of block g, all that a walk wants of it. -/
def RowAt (w : World) (B g n cap : Nat) (xs : List Int) : Prop := w.ownsRow B 3 1 (.slice (some ⟨g, 0, none⟩) n cap) n (xs.map (Value.int .i64))

theorem RowAt.cell {w : World} {B g n cap : Nat} {xs : List Int} (h : RowAt w B g n cap xs) {j : Nat} (hj : j < n) : w.cell? ⟨g, j, none⟩ = some (.int .i64 (nth xs j)) := ownsRow_nth h hj
theorem RowAt.frozen {w : World} {B g n cap : Nat} {xs : List Int} (h : RowAt w B g n cap xs) (j : Nat) : w.frozen? ⟨g, j, none⟩ = false := World.ownsRow.frozenAt h j
theorem RowAt.stored {w : World} {B g n cap : Nat} {xs : List Int} (h : RowAt w B g n cap xs) (j : Nat) (x : Int) : RowAt (w.setCell ⟨g, j, none⟩ (.int .i64 x)) B g n cap (xs.set j x) := by
  have := (World.ownsRow.stored h j (.int .i64 x)).1
  unfold RowAt; rw [List.map_set]; exact this
theorem RowAt.lt {w : World} {B g n cap : Nat} {xs : List Int} (h : RowAt w B g n cap xs) : B ≤ g ∧ g < w.heap.size := World.ownsRow.lt h g rfl
theorem RowAt.len {w : World} {B g n cap : Nat} {xs : List Int} (h : RowAt w B g n cap xs) : xs.length = n := by simpa using h.1
theorem RowAt.own {w : World} {B g n cap : Nat} {xs : List Int} (h : RowAt w B g n cap xs) : Own w B w.heap.size (.slice (some ⟨g, 0, none⟩) n cap) xs := Own.row h
theorem RowAt.ints {w : World} {B g n cap : Nat} {xs : List Int} (h : RowAt w B g n cap xs) : IntsV w (.slice (some ⟨g, 0, none⟩) n cap) xs := h.own.read
theorem RowAt.kept {w w' : World} {B g n cap : Nat} {xs : List Int} {row : Option Nat} (h : RowAt w B g n cap xs) (hg : w.grownBy w' row) (hr : row ≠ some g) : RowAt w' B g n cap xs :=
  World.ownsRow.kept h hg (.inr (by simpa [Value.ownBlock] using fun e => hr e.symm))
theorem RowAt.below {w w' : World} {B E g n cap : Nat} {xs : List Int} (h : RowAt w B g n cap xs) (hB : Below E w w') (hE : g < E) : RowAt w' B g n cap xs := by
  refine ⟨h.1, ?_⟩
  rcases h.2 with h3 | ⟨g', cap', cur, e', h4, h5, h6⟩
  · exact .inl h3
  · refine .inr ⟨g', cap', cur, e', h4, ?_, h6⟩
    simp only [Value.slice.injEq, Option.some.injEq, Addr.mk.injEq, and_true, true_and] at e'
    rw [hB.block g' (by omega)]; exact h5

/-- 'make([]int, n)': n zeros. -/
theorem row_made {w w1 : World} {B n : Nat} (h : w1.ownsRow B 3 1 (.slice (some ⟨w.heap.size, 0, none⟩) n n) n (madeCells #[Value.int .i64 0] n).toList) : RowAt w1 B w.heap.size n n (List.replicate n 0) := by
  unfold RowAt; rw [List.map_replicate, ← toList_madeCells_one]; exact h

theorem below_made {B : Nat} {w0 w w' : World} (h : Below B w0 w) (hB : B ≤ w.heap.size) (hg : w.grownBy w' none) : Below B w0 w' := h.grown hg hB (fun j hj => by cases hj)

/-- A slice of the call's own that is appended to: nil, or a row from block B on. -/
def Grow (w : World) (B : Nat) (v : Value) (xs : List Int) : Prop := w.ownsRow B 3 1 v xs.length (xs.map (Value.int .i64))

theorem Grow.nil (w : World) (B : Nat) : Grow w B (.slice none 0 0) [] := World.ownsRow_nil w B 3 1
theorem Grow.own {w : World} {B : Nat} {v : Value} {xs : List Int} (h : Grow w B v xs) : Own w B w.heap.size v xs := Own.row h
theorem Grow.read {w : World} {B : Nat} {v : Value} {xs : List Int} (h : Grow w B v xs) : IntsV w v xs := h.own.read
theorem Grow.drew {w : World} {B : Nat} {v : Value} {xs : List Int} (h : Grow w B v xs) : Grow w.drew B v xs := h
theorem Grow.form {w : World} {B : Nat} {v : Value} {xs : List Int} (h : Grow w B v xs) (hn : 0 < xs.length) : ∃ g cap, v = .slice (some ⟨g, 0, none⟩) xs.length cap ∧ RowAt w B g xs.length cap xs := by
  rcases h.2 with ⟨rfl, h0⟩ | ⟨g, cap, cur, rfl, h1, h2, h3, h4, h5, h6⟩
  · omega
  · exact ⟨g, cap, rfl, h⟩
theorem Grow.below {w w' : World} {B : Nat} {v : Value} {xs : List Int} (h : Grow w B v xs) (hB : Below w.heap.size w w') : Grow w' B v xs := by
  refine ⟨h.1, ?_⟩
  rcases h.2 with h3 | ⟨g', cap', cur, e', h4, h5, h6⟩
  · exact .inl h3
  · exact .inr ⟨g', cap', cur, e', h4, by rw [hB.block g' (Array.getElem?_eq_some_iff.1 h5).1]; exact h5, h6⟩
theorem Grow.belowB {w0 w w' : World} {B : Nat} {v : Value} {xs : List Int} {b : Nat} (h : Grow w B v xs) (hb : Below b w0 w) (hB : b ≤ B) (hsz : b ≤ w.heap.size) (hg : w.grownBy w' v.ownBlock) : Below b w0 w' :=
  hb.grown hg hsz (fun k hk => by have := (World.ownsRow.lt h k hk).1; omega)

theorem wpList_append_int {ops : Array Oper} {rest : List Oper} {o : Oper} {a : Act} {w : World} {Q : Exit → Act → World → Prop} (hgd : o.guard = none) (s x : Operand)
    (ho : o.op = .call { callee := .builtin .append, args := #[s, x], argTypes := #[38, 38] }) (B : Nat) (v : Value) (xs : List Int) (z : Int) (c : Nat) (hs : a.eval s = v)
    (hx : a.eval x = .slice (some ⟨w.heap.size, 0, none⟩) 1 c) (hown : Grow w B v xs) (hl : xs.length ≤ 1099511627776) (hB : B ≤ w.heap.size)
    (h : ∀ v' w', Grow w' B v' (xs ++ [z]) → w.grownBy w' v.ownBlock → wpList Tryz.prog ops Q rest (a.put o.dst v') w') : wpList Tryz.prog ops Q (o :: rest) a (w.alloc (.cells #[.int .i64 z] 3)) := by
  obtain ⟨i, hi, hz0, hz1, hz2⟩ := info_parts Tryz.infoInt
  refine wpList_append_own _ hgd s x 38 ho B 3 i (.int .i64 0) 1 8 Tryz.underlying38 hi hz0 hz1 hz2 rfl (by decide) v xs.length _ hs (World.ownsRow.alloc hown _) ⟨w.heap.size, 0, none⟩ 1 c [.int .i64 z] hx rfl (cell_one_new _ _ _) (by simp [Value.oneCell']) (by unfold maxLen; omega) (by omega) (by simp; omega) ?_
  intro v' w' h1 h2 _
  refine h v' w' (by unfold Grow; rw [List.map_append, List.length_append]; exact h1) ((World.grownBy_alloc _ _ _).trans h2)

theorem wpList_append_ints {ops : Array Oper} {rest : List Oper} {o : Oper} {a : Act} {w : World} {Q : Exit → Act → World → Prop} (hgd : o.guard = none) (s x : Operand)
    (ho : o.op = .call { callee := .builtin .append, args := #[s, x], argTypes := #[38, 38] }) (B : Nat) (v u : Value) (xs ys : List Int) (hs : a.eval s = v)
    (hx : a.eval x = u) (hown : Grow w B v xs) (hu : IntsV w u ys) (hl : xs.length + ys.length ≤ 4398046511104) (hB : B ≤ w.heap.size)
    (h : ∀ v' w', Grow w' B v' (xs ++ ys) → w.grownBy w' v.ownBlock → wpList Tryz.prog ops Q rest (a.put o.dst v') w') : wpList Tryz.prog ops Q (o :: rest) a w := by
  obtain ⟨i, hi, hz0, hz1, hz2⟩ := info_parts Tryz.infoInt
  obtain ⟨ao, cap, rfl, ⟨_, hnil⟩, _, H⟩ := hu
  cases ao with
  | none =>
    obtain rfl := hnil rfl
    have : ys = [] := by
      cases ys with
      | nil => rfl
      | cons y ys => obtain ⟨b, off, e, _⟩ := H 0 (by simp); cases e
    subst this
    refine wpList_append_own_none hgd s x 38 ho B 3 i 1 Tryz.underlying38 hi v xs.length _ hs hown hx ?_
    exact h v w (by rw [List.append_nil]; exact hown) (World.grownBy.refl _ _)
  | some ad =>
    refine wpList_append_own _ hgd s x 38 ho B 3 i (.int .i64 0) 1 8 Tryz.underlying38 hi hz0 hz1 hz2 rfl (by decide) v xs.length _ hs hown ad ys.length cap (ys.map (Value.int .i64)) hx (by simp) ?_ ?_ (by unfold maxLen; omega) (by omega) hB ?_
    · intro j u hj
      have hj' : j < ys.length := by
        have := (List.getElem?_eq_some_iff.1 hj).1
        simpa using this
      obtain ⟨b, off, e, hc⟩ := H j hj'
      cases e
      rw [Addr.add_lit, hc]
      rw [List.getElem?_map, List.getElem?_eq_getElem hj'] at hj
      rw [nth_eq hj']; exact hj
    · intro u hu
      obtain ⟨_, _, rfl⟩ := List.mem_map.1 hu
      rfl
    · intro v' w' h1 h2 _
      refine h v' w' (by unfold Grow; rw [List.map_append, List.length_append]; exact h1) h2

/-- '[]int{}': a new row of no cells. -/
theorem Grow.empty (w : World) {B : Nat} (hB : B ≤ w.heap.size) : Grow (w.alloc (.cells #[] 3)) B (.slice (some ⟨w.heap.size, 0, none⟩) 0 0) [] :=
  World.ownsRow_made w #[] 0 hB (Nat.zero_le _) rfl

/-- Blocks of [B, E) alone may have turned; nothing has been laid. -/
structure Turned (B E : Nat) (w w' : World) : Prop where
  os : w'.os = w.os
  tape : w'.tape = w.tape
  output : w'.output = w.output
  size : w'.heap.size = w.heap.size
  block : ∀ k, (k < B ∨ E ≤ k) → w'.heap[k]? = w.heap[k]?

theorem Turned.refl (B E : Nat) (w : World) : Turned B E w w := ⟨rfl, rfl, rfl, rfl, fun _ _ => rfl⟩
theorem Turned.trans {B E : Nat} {a b c : World} (h : Turned B E a b) (k : Turned B E b c) : Turned B E a c :=
  ⟨k.os.trans h.os, k.tape.trans h.tape, k.output.trans h.output, k.size.trans h.size, fun i hi => (k.block i hi).trans (h.block i hi)⟩
theorem Turned.mono {B E B' E' : Nat} {w w' : World} (h : Turned B E w w') (hB : B' ≤ B) (hE : E ≤ E') : Turned B' E' w w' :=
  ⟨h.os, h.tape, h.output, h.size, fun k hk => h.block k (by omega)⟩
theorem Turned.below {B E : Nat} {w w' : World} (h : Turned B E w w') : Below B w w' :=
  ⟨h.os, h.tape, h.output, by rw [h.size]; exact Nat.le_refl _, fun k hk => h.block k (.inl hk)⟩
theorem Turned.setCell {B E : Nat} {w w' : World} (h : Turned B E w w') {p : Addr} (h1 : B ≤ p.block) (h2 : p.block < E) (u : Value) : Turned B E w (w'.setCell p u) :=
  h.trans ⟨rfl, rfl, rfl, by simp [World.setCell], fun k hk => Below.heap_setCell _ _ _ _ (by omega)⟩

theorem Own.turned {w w' : World} {B E B' E' : Nat} {v : Value} {xs : List Int} (h : Own w B E v xs) (ht : Turned B' E' w w') (hd : E ≤ B' ∨ E' ≤ B) : Own w' B E v xs := by
  rcases h with h | ⟨g, cap, e, h1, h2, h3⟩
  · exact .inl h
  · refine .inr ⟨g, cap, e, h1, h2, h3.1, ?_⟩
    rcases h3.2 with h3 | ⟨g', cap', cur, e', h4, h5, h6⟩
    · exact .inl h3
    · refine .inr ⟨g', cap', cur, e', h4, ?_, h6⟩
      subst e
      simp only [Value.slice.injEq, Option.some.injEq, Addr.mk.injEq, and_true, true_and] at e'
      rw [ht.block g' (by omega)]; exact h5

/-! The ends of calls. -/
/-- It returns v; all that was there is as it was. -/
def Ret (v : Value) (w : World) (e : Ending) (w' : World) : Prop := e = .returned v ∧ Below w.heap.size w w'
/-- It returns new memory that holds x. -/
def RetO {α : Type} (O : World → Nat → Nat → Value → α → Prop) (x : α) (w : World) (e : Ending) (w' : World) : Prop := ∃ v, e = .returned v ∧ O w' w.heap.size w'.heap.size v x ∧ Below w.heap.size w w'
/-- It returns new memory that holds r.1, and the bool r.2. -/
def RetOB {α : Type} (O : World → Nat → Nat → Value → α → Prop) (r : α × Bool) (w : World) (e : Ending) (w' : World) : Prop := ∃ v, e = .returned (.tuple #[v, .bool r.2]) ∧ O w' w.heap.size w'.heap.size v r.1 ∧ Below w.heap.size w w'
/-- It returns two pieces of new memory, the second behind the first, and a bool. -/
def RetO2B {α β : Type} (O : World → Nat → Nat → Value → α → Prop) (O' : World → Nat → Nat → Value → β → Prop) (r : α × β × Bool) (w : World) (e : Ending) (w' : World) : Prop :=
  ∃ v v' m, e = .returned (.tuple #[v, v', .bool r.2.2]) ∧ O w' w.heap.size m v r.1 ∧ O' w' m w'.heap.size v' r.2.1 ∧ w.heap.size ≤ m ∧ m ≤ w'.heap.size ∧ Below w.heap.size w w'

end Go.Proofs.YtjkgilenhoomoaaGreat

namespace Go.Proofs.YtjkgilenhoomoaaGreat
open Go.RowKit

theorem step_fill (xs : List Int) (n k : Nat) (hk : k < n) (hn : xs.length = n) : (xs.take k ++ List.replicate (n - k) 0).set k (nth xs k) = xs.take (k + 1) ++ List.replicate (n - (k + 1)) 0 := by
  have h1 : n - k = (n - (k + 1)) + 1 := by omega
  have e2 : min k xs.length = k := by omega
  rw [h1, List.replicate_succ, List.set_append_right _ _ (by rw [List.length_take]; omega), List.length_take, e2, Nat.sub_self, take_nth (by omega), List.append_assoc]; rfl



/-- k, k + 1, .. : n numbers. -/
def marks (k n : Nat) : List Int := (List.range n).map fun j => ((k + j : Nat) : Int)
theorem marks_len (k n : Nat) : (marks k n).length = n := by simp [marks]
theorem nth_marks {k n j : Nat} (h : j < n) : nth (marks k n) j = ((k + j : Nat) : Int) := by
  rw [nth_eq (by rw [marks_len]; exact h)]; simp [marks]
theorem marks_step (xs : List Int) (k n j : Nat) (hj : j < n) (hn : xs.length = n) : (marks k j ++ xs.drop j).set j ((k + j : Nat) : Int) = marks k (j + 1) ++ xs.drop (j + 1) := by
  rw [List.set_append_right _ _ (by rw [marks_len]; omega), marks_len, Nat.sub_self, List.drop_eq_getElem_cons (by omega), List.set_cons_zero]
  simp [marks, List.range_succ]



end Go.Proofs.YtjkgilenhoomoaaGreat

namespace Go.Proofs.YtjkgilenhoomoaaGreat
open Go.RowKit

/-- lo ≤ n ≤ hi, as a bool. -/
def inB (n lo hi : Int) : Bool := decide (lo ≤ n) && decide (n ≤ hi)
theorem inB_true {n lo hi : Int} : inB n lo hi = true ↔ lo ≤ n ∧ n ≤ hi := by simp [inB]
theorem inB_false {n lo hi : Int} : inB n lo hi = false ↔ n < lo ∨ hi < n := by
  rw [← Bool.not_eq_true, inB_true]; omega

/-- The call returns v; the world is the same. -/
def Same (v : Value) (w : World) (e : Ending) (w' : World) : Prop := e = .returned v ∧ w = w'
theorem Same.ret {v : Value} {w : World} {e : Ending} {w' : World} (h : Same v w e w') : Ret v w e w' := ⟨h.1, h.2 ▸ Below.refl _ _⟩

theorem l1In_any (n lo hi : Int) (w : World) : Calls Tryz.prog 40 #[.int .i64 n, .int .i64 lo, .int .i64 hi] w (Same (.bool (inB n lo hi)) w) := by
  by_cases h1 : lo ≤ n
  · by_cases h2 : n ≤ hi
    · have : inB n lo hi = true := inB_true.2 ⟨h1, h2⟩
      rw [this]; clear this
      go_enter Tryz.func40, Tryz.ntmps40
      go_wp2
      go_ret
      exact ⟨rfl, rfl⟩
    · have : inB n lo hi = false := inB_false.2 (by omega)
      rw [this]; clear this
      go_enter Tryz.func40, Tryz.ntmps40
      go_wp2
      go_ret
      exact ⟨rfl, rfl⟩
  · have : inB n lo hi = false := inB_false.2 (by omega)
    rw [this]; clear this
    go_enter Tryz.func40, Tryz.ntmps40
    go_wp2
    go_ret
    exact ⟨rfl, rfl⟩

theorem within_any (n lo hi : Int) (w : World) : Calls Tryz.prog 77 #[.int .i64 n, .int .i64 lo, .int .i64 hi] w (Same (.bool (inB n lo hi)) w) := by
  by_cases h1 : lo ≤ n
  · by_cases h2 : n ≤ hi
    · have : inB n lo hi = true := inB_true.2 ⟨h1, h2⟩
      rw [this]; clear this
      go_enter Tryz.func77, Tryz.ntmps77
      go_wp2
      go_ret
      exact ⟨rfl, rfl⟩
    · have : inB n lo hi = false := inB_false.2 (by omega)
      rw [this]; clear this
      go_enter Tryz.func77, Tryz.ntmps77
      go_wp2
      go_ret
      exact ⟨rfl, rfl⟩
  · have : inB n lo hi = false := inB_false.2 (by omega)
    rw [this]; clear this
    go_enter Tryz.func77, Tryz.ntmps77
    go_wp2
    go_ret
    exact ⟨rfl, rfl⟩

/-- All numbers lie within the bounds. -/
def allB (xs : List Int) (lo hi : Int) : Bool := xs.all fun n => inB n lo hi
theorem allB_take {xs : List Int} {lo hi : Int} {k : Nat} (hk : k < xs.length) : allB (xs.take (k + 1)) lo hi = (allB (xs.take k) lo hi && inB (nth xs k) lo hi) := by
  rw [take_nth hk]; simp [allB]
theorem allB_no {xs : List Int} {lo hi : Int} {k : Nat} (hk : k < xs.length) (h : inB (nth xs k) lo hi = false) : allB xs lo hi = false := by
  unfold allB
  rw [List.all_eq_false]
  exact ⟨_, nth_mem hk, by rw [h]; simp⟩




end Go.Proofs.YtjkgilenhoomoaaGreat

namespace Go.Proofs.YtjkgilenhoomoaaGreat
open Go.RowKit

/-- The list is a polynomial: at most 9 coefficients of at most a million, the last one not 0. -/
def polyB (xs : List Int) : Bool := decide (xs.length ≤ 9) && allB xs (-1000000) 1000000 && (decide (xs.length = 0) || nth xs (xs.length - 1) != 0)

theorem polyB_len {xs : List Int} (h : 9 < xs.length) : polyB xs = false := by
  have : decide (xs.length ≤ 9) = false := by simp; omega
  simp [polyB, this]
theorem polyB_all {xs : List Int} (h : allB xs (-1000000) 1000000 = false) : polyB xs = false := by simp [polyB, h]
theorem polyB_nil {xs : List Int} (h : xs.length = 0) : polyB xs = true := by
  obtain rfl := List.eq_nil_of_length_eq_zero h; rfl
theorem polyB_last {xs : List Int} (h1 : xs.length ≤ 9) (h2 : allB xs (-1000000) 1000000 = true) (h3 : 0 < xs.length) : polyB xs = (nth xs (xs.length - 1) != 0) := by
  have e1 : decide (xs.length ≤ 9) = true := decide_eq_true h1
  have e2 : decide (xs.length = 0) = false := decide_eq_false (by omega)
  simp only [polyB, e1, e2, h2, Bool.true_and, Bool.and_true, Bool.false_or]


theorem any_not_allB (xs : List Int) (lo hi : Int) : (xs.any fun n => !inB n lo hi) = !allB xs lo hi := by
  simp [allB, List.not_all_eq_any_not]


/-- What both IsPolynomial functions return. -/
def IsPolynomial_v (xs : List Int) : Bool := polyB xs




end Go.Proofs.YtjkgilenhoomoaaGreat

namespace Go.Proofs.YtjkgilenhoomoaaGreat
open Go.RowKit



/-- The length without the zeros at the end, of the first k. -/
def trimN (xs : List Int) : Nat → Nat
  | 0 => 0
  | k + 1 => if nth xs k = 0 then trimN xs k else k + 1
def trimZ (xs : List Int) : List Int := xs.take (trimN xs xs.length)
theorem trimN_le (xs : List Int) : ∀ k, trimN xs k ≤ k
  | 0 => Nat.le_refl _
  | k + 1 => by
    unfold trimN
    split
    · exact Nat.le_succ_of_le (trimN_le xs k)
    · exact Nat.le_refl _
theorem trimZ_len (xs : List Int) : (trimZ xs).length ≤ xs.length := by
  unfold trimZ; rw [List.length_take]; omega

/-- The first k elements, read through the same address. -/
theorem IntsV.take {w : World} {ao : Option Addr} {n cap : Nat} {xs : List Int} (h : IntsV w (.slice ao n cap) xs) {k : Nat} (hk : k ≤ n) : IntsV w (.slice ao k cap) (xs.take k) := by
  obtain ⟨ao', cap', e, ⟨h1, h2⟩, h3, H⟩ := h
  obtain ⟨rfl, rfl, rfl⟩ := Value.slice.inj e
  have hl : (xs.take k).length = k := by rw [List.length_take]; omega
  refine ⟨ao, cap, by rw [hl], ⟨by omega, h2⟩, h3, fun i hi => ?_⟩
  obtain ⟨b, off, e, hc⟩ := H i (by omega)
  refine ⟨b, off, e, ?_⟩
  rw [hc]
  rw [nth_eq hi, nth_eq (by omega), List.getElem_take]


/-- What poIf and polynomial return: the list without its zeros at the end, if it is a polynomial. -/
def ifPoly (xs : List Int) : List Int × Bool := if polyB (trimZ xs) = true then (trimZ xs, true) else ([], false)
theorem ifPoly_no {xs : List Int} (h : polyB (trimZ xs) = false) : ifPoly xs = ([], false) := by simp [ifPoly, h]
theorem ifPoly_yes {xs : List Int} (h : polyB (trimZ xs) = true) : ifPoly xs = (trimZ xs, true) := by simp [ifPoly, h]
theorem polyB_le9 {xs : List Int} (h : polyB xs = true) : xs.length ≤ 9 := by
  rcases Nat.lt_or_ge 9 xs.length with h1 | h1
  · rw [polyB_len h1] at h; cases h
  · exact h1
theorem ifPoly_len (xs : List Int) : (ifPoly xs).1.length ≤ 9 := by
  cases h : polyB (trimZ xs)
  · rw [ifPoly_no h]; simp
  · rw [ifPoly_yes h]; exact polyB_le9 h



end Go.Proofs.YtjkgilenhoomoaaGreat

namespace Go.Proofs.YtjkgilenhoomoaaGreat
open Go.ChangeShapes Go.WideShapes Go.ChangeAt Go.RowKit

theorem Tryz.own : ownKnob Tryz.prog.godebug = none := by kernel_rfl
theorem Tryz.laidOut : laidOutB Tryz.prog = true := by kernel_rfl
theorem Tryz.cellsInt : Tryz.prog.cellsOf 3 = 1 := by kernel_rfl

/-- The arguments' reading behind the call. -/
theorem trodAll_below {H : Type} {enc : TypeId × Value → H} {W W' : World} (hb : Below W.heap.size W W') : ∀ {ts : List TypeId} {vs : List Value} {ds : List (DataW H)} {ps : List MemPlace},
    (∀ t ∈ ts, Tryz.prog.readableRec t = true ∧ t < Tryz.prog.types.size) → DataW.TrodAll enc Tryz.prog W 0 (fun _ => true) true ts vs ds ps → (∀ x ∈ ps, x.block < W.heap.size) →
    DataW.TrodAll enc Tryz.prog W' 0 (fun b => decide (b < W.heap.size)) true ts vs ds ps
  | [], [], [], ps, _, h, _ => h
  | t :: ts, v :: vs, d :: ds, ps, hr, h, hlt => by
    obtain ⟨p, q, h1, h2, rfl⟩ := h
    exact ⟨p, q, Below.trod Tryz.laidOut (hr t (by simp)).1 (hr t (by simp)).2 h1 hb (fun x hx => hlt x (by simp [hx])), trodAll_below hb (fun t ht => hr t (by simp [ht])) h2 (fun x hx => hlt x (by simp [hx])), rfl⟩
  | [], _ :: _, _, _, _, h, _ => by simp [DataW.TrodAll] at h
  | [], [], _ :: _, _, _, h, _ => by simp [DataW.TrodAll] at h
  | _ :: _, [], _, _, _, h, _ => by simp [DataW.TrodAll] at h
  | _ :: _, _ :: _, [], _, _, h, _ => by simp [DataW.TrodAll] at h

/-- The law returned true and left all that was there. -/
theorem law_post {H : Type} {enc : TypeId × Value → H} {s : ChangeSpec} {f : Func} {W W' : World} {args : Array Value} {ds : List (DataW H)} {p : List MemPlace}
    (hW : DataW.Whole enc Tryz.prog f.params.toList s.vars false W args.toList ds [] (p ++ [])) (hvars : s.vars = []) (hA : DataW.TrodAll enc Tryz.prog W 0 (fun _ => true) true f.params.toList args.toList ds p)
    (hts : ∀ t ∈ f.params.toList, Tryz.prog.readableRec t = true ∧ t < Tryz.prog.types.size) (hres : f.resultTypes = #[4])
    (hr : (s.fn H (ds ++ [])).results = [.lit (.bool true)]) (ha : (s.fn H (ds ++ [])).args = ds) (hv : (s.fn H (ds ++ [])).vars = []) (hB : Below W.heap.size W W') :
    ∃ v, Ending.returned (.bool true) = Ending.returned v ∧ s.post enc Tryz.prog f false true false false W args v W' := by
  have hlt : ∀ x ∈ p, x.block < W.heap.size := fun x hx => hW.lt x (by simp [hx])
  refine ⟨_, rfl, ds, [], p ++ [], [], p, [], hW, ?_, ?_, ?_, hB.frame _, fun h => by cases h⟩
  · rw [hr, hres]
    exact trodAll_mk1 (shut_bool Tryz.underlying4 true)
  · rw [ha]; exact trodAll_below hB hts hA hlt
  · rw [hv, hvars]; rfl

set_option maxRecDepth 100000 in
/-- A slice of ints that came in. -/
theorem open_intsV {H : Type} {enc : TypeId × Value → H} {W : World} {base : Nat} {v : Value} {d : DataW H} {p : List MemPlace}
    (hval : Value.okWide Tryz.prog W .any base 38 v) (h : DataW.Trod enc Tryz.prog W 0 (fun _ => true) true 38 v d p) : ∃ xs, IntsV W v xs := by
  obtain ⟨a0, len, cap, rfl⟩ := okWide_slice Tryz.underlying38 hval
  obtain ⟨fuel, hf⟩ := h
  rcases open_ints Tryz.underlying38 Tryz.underlying3 Tryz.cellsInt hf with ⟨hcs, hx⟩ | ⟨a, len', cap', zs, hcs, _, hl, hm, hz, hx, hcell, hwz⟩
  · simp [Value.cells] at hcs
    obtain ⟨rfl, rfl, rfl⟩ := hcs
    exact ⟨[], none, 0, rfl, ⟨Nat.le_refl _, fun _ => rfl⟩, by simp [maxLen], fun i hi => absurd hi (Nat.not_lt_zero i)⟩
  · simp [Value.cells] at hcs
    obtain ⟨rfl, rfl, rfl⟩ := hcs
    simp only [if_true] at hz
    have hlen : (zs.take len).length = len := by simp; omega
    refine ⟨zs.take len, some a, cap, by rw [hlen], ⟨by omega, fun e => by cases e⟩, hm, fun i hi => ?_⟩
    obtain ⟨b, off, spot⟩ := a
    have hc := hcell i (by omega)
    have hspot : spot = none := by
      have := hcell 0 (by omega)
      simpa [Addr.add] using World.cell?_spot this
    subst hspot
    refine ⟨b, off, rfl, ?_⟩
    rw [add_plain] at hc
    rw [hc, nth_eq hi]
    have : i < zs.length := by omega
    simp [List.getD, List.getElem?_eq_getElem this]

set_option maxRecDepth 100000 in
/-- An int that came in. -/
theorem open_intX {H : Type} {enc : TypeId × Value → H} {W : World} {base : Nat} {v : Value} {d : DataW H} {p : List MemPlace}
    (hval : Value.okWide Tryz.prog W .any base 3 v) (h : DataW.Trod enc Tryz.prog W 0 (fun _ => true) true 3 v d p) : ∃ n, v = .int .i64 n ∧ I64 n := by
  obtain ⟨n, rfl, rfl, rfl, wn⟩ := open_int Tryz.underlying3 hval h
  refine ⟨n, rfl, ?_⟩
  have h1 : IntKind.i64.min = -9223372036854775808 := rfl
  have h2 : IntKind.i64.max = 9223372036854775807 := rfl
  simp only [Lit.wf, Bool.and_eq_true, decide_eq_true_eq, h1, h2] at wn
  exact wn

set_option maxRecDepth 100000 in
/-- A bool that came in. -/
theorem open_boolX {H : Type} {enc : TypeId × Value → H} {W : World} {base : Nat} {v : Value} {d : DataW H} {p : List MemPlace}
    (hval : Value.okWide Tryz.prog W .any base 4 v) (h : DataW.Trod enc Tryz.prog W 0 (fun _ => true) true 4 v d p) : ∃ b, v = .bool b := by
  obtain ⟨b, rfl, -, -⟩ := open_bool Tryz.underlying4 hval h
  exact ⟨b, rfl⟩

end Go.Proofs.YtjkgilenhoomoaaGreat

namespace Go.Proofs.YtjkgilenhoomoaaGreat
open Go.RowKit

/-- Row i. -/
def row (xss : List (List Int)) (i : Nat) : List Int := (xss[i]?).getD []
theorem row_eq {xss : List (List Int)} {i : Nat} (h : i < xss.length) : row xss i = xss[i] := by simp [row, List.getElem?_eq_getElem h]
/-- How many values they hold. -/
def szIntSS (xss : List (List Int)) : Nat := xss.length + (xss.map List.length).sum
/-- How many numbers a mark writes. -/
def cntIntSS (xss : List (List Int)) : Nat := (xss.map List.length).sum
theorem cntIntSS_le (xss : List (List Int)) : cntIntSS xss ≤ 4 * szIntSS xss := by unfold cntIntSS szIntSS; omega
theorem row_len_le {xss : List (List Int)} {i : Nat} (h : i < xss.length) : (row xss i).length ≤ cntIntSS xss := by
  induction xss generalizing i with
  | nil => simp at h
  | cons x xss ih =>
    simp only [cntIntSS, List.map_cons, List.sum_cons]
    rcases i with _ | i
    · simp [row]
    · have := ih (i := i) (by simpa using h)
      simp only [row, List.getElem?_cons_succ] at this ⊢
      unfold cntIntSS at this; omega

/-- A slice value that reads as these rows. -/
def RowsV (w : World) (v : Value) (xss : List (List Int)) : Prop :=
  ∃ ao cap, v = .slice ao xss.length cap ∧ (xss.length ≤ cap ∧ (ao = none → cap = 0)) ∧ cap ≤ maxLen ∧ ∀ i, i < xss.length → ∃ b off u, ao = some ⟨b, off, none⟩ ∧ w.cell? ⟨b, off + i, none⟩ = some u ∧ IntsV w u (row xss i)

theorem RowsV.below {w w' : World} {v : Value} {xss : List (List Int)} (h : RowsV w v xss) (hB : Below w.heap.size w w') : RowsV w' v xss := by
  obtain ⟨ao, cap, rfl, h1, h2, h⟩ := h
  refine ⟨ao, cap, rfl, h1, h2, fun i hi => ?_⟩
  obtain ⟨b, off, u, e, hc, hu⟩ := h i hi
  exact ⟨b, off, u, e, by rw [hB.cell (World.block_lt_of_cell? w _ hc)]; exact hc, hu.below hB⟩

/-- Rows that are each the call's own, in blocks of [B, E), no two in one block, none in block g. -/
def RowSet (w : World) (B E g : Nat) (us : List Value) (xss : List (List Int)) : Prop :=
  us.length = xss.length ∧ ∃ lo hi : Nat → Nat, ∀ i, i < us.length → B ≤ lo i ∧ hi i ≤ E ∧ (g < lo i ∨ hi i ≤ g) ∧ (∃ u, us[i]? = some u ∧ Own w (lo i) (hi i) u (row xss i)) ∧ ∀ j, j < us.length → j ≠ i → hi i ≤ lo j ∨ hi j ≤ lo i

/-- A slice of slices of the call's own. -/
def OwnSS (w : World) (B E : Nat) (v : Value) (xss : List (List Int)) : Prop :=
  (xss = [] ∧ ∃ ao cap, v = .slice ao 0 cap ∧ cap ≤ maxLen ∧ (ao = none → cap = 0)) ∨
  ∃ g cap us, v = .slice (some ⟨g, 0, none⟩) xss.length cap ∧ B ≤ g ∧ g < E ∧ w.ownsRow B 38 1 v xss.length us ∧ RowSet w B E g us xss

theorem OwnSS.nil (w : World) (B E : Nat) : OwnSS w B E (.slice none 0 0) [] := .inl ⟨rfl, none, 0, rfl, by simp [maxLen], fun _ => rfl⟩

theorem OwnSS.read {w : World} {B E : Nat} {v : Value} {xss : List (List Int)} (h : OwnSS w B E v xss) : RowsV w v xss := by
  rcases h with ⟨rfl, ao, cap, rfl, hc, hz⟩ | ⟨g, cap, us, rfl, h1, h2, h3, h4, lo, hi, h5⟩
  · exact ⟨ao, cap, rfl, ⟨Nat.zero_le _, hz⟩, hc, fun i hi => absurd hi (Nat.not_lt_zero i)⟩
  · have hcap : xss.length ≤ cap ∧ cap ≤ maxLen := by
      rcases h3.2 with ⟨h4, _⟩ | ⟨g', cap', cur, e', h4, h5, h6, h7, _⟩
      · simp at h4
      · simp only [Value.slice.injEq, Option.some.injEq, Addr.mk.injEq, and_true, true_and] at e'
        omega
    refine ⟨some ⟨g, 0, none⟩, cap, rfl, ⟨hcap.1, fun e => by cases e⟩, hcap.2, fun i hi' => ?_⟩
    obtain ⟨-, -, -, ⟨u, hu, ho⟩, -⟩ := h5 i (by omega)
    refine ⟨g, 0, u, rfl, ?_, ho.read⟩
    rw [Nat.zero_add, World.ownsRow.cellAt h3 i (by omega)]
    simp [hu]

theorem Tryz.infoInts : (Tryz.prog.info? 38).map (fun i => (i.zero, i.size, i.bytes)) = some (some (.slice none 0 0), 1, 24) := by kernel_rfl

/-! How a set of rows is made and filled. -/
theorem RowSet.nils (w : World) {B E g : Nat} (n : Nat) (hB : B ≤ g) (hE : g < E) : RowSet w B E g (List.replicate n (.slice none 0 0)) (List.replicate n []) := by
  refine ⟨by simp, fun _ => g + 1, fun _ => g + 1, fun i hi => ⟨show B ≤ g + 1 by omega, show g + 1 ≤ E by omega, .inl (show g < g + 1 by omega), ⟨.slice none 0 0, ?_, ?_⟩, fun j _ _ => .inl (Nat.le_refl _)⟩⟩
  · rw [List.length_replicate] at hi; simp [hi]
  · rw [List.length_replicate] at hi
    have : row (List.replicate n ([] : List Int)) i = [] := by simp [row, hi]
    rw [this]; exact Own.nil _ _ _
theorem RowSet.turned {w w' : World} {B E g B' E' : Nat} {us : List Value} {xss : List (List Int)} (h : RowSet w B E g us xss) (ht : Turned B' E' w w') (hd : (g ≤ B' ∧ E' ≤ g + 1) ∨ E ≤ B' ∨ E' ≤ B) : RowSet w' B E g us xss := by
  obtain ⟨h1, lo, hi, H⟩ := h
  refine ⟨h1, lo, hi, fun i hi' => ?_⟩
  obtain ⟨a, b, c, ⟨u, hu, ho⟩, d⟩ := H i hi'
  exact ⟨a, b, c, ⟨u, hu, ho.turned ht (by omega)⟩, d⟩
theorem RowSet.below {w w' : World} {B E g E' : Nat} {us : List Value} {xss : List (List Int)} (h : RowSet w B E g us xss) (hB : Below E' w w') (hE : E ≤ E') : RowSet w' B E g us xss := by
  obtain ⟨h1, lo, hi, H⟩ := h
  refine ⟨h1, lo, hi, fun i hi' => ?_⟩
  obtain ⟨a, b, c, ⟨u, hu, ho⟩, d⟩ := H i hi'
  exact ⟨a, b, c, ⟨u, hu, ho.below hB (by omega)⟩, d⟩
theorem RowSet.mono {w : World} {B E g B' E' : Nat} {us : List Value} {xss : List (List Int)} (h : RowSet w B E g us xss) (hB : B' ≤ B) (hE : E ≤ E') : RowSet w B' E' g us xss := by
  obtain ⟨h1, lo, hi, H⟩ := h
  refine ⟨h1, lo, hi, fun i hi' => ?_⟩
  obtain ⟨a, b, c, d, e⟩ := H i hi'
  exact ⟨by omega, by omega, c, d, e⟩
theorem RowSet.set {w : World} {B E g a b j : Nat} {us : List Value} {xss : List (List Int)} {u : Value} {ys : List Int} (h : RowSet w B E g us xss) (hu : Own w a b u ys) (hE : E ≤ a) (hBa : B ≤ a) (hab : a ≤ b) (hg : g < a) :
    RowSet w B b g (us.set j u) (xss.set j ys) := by
  obtain ⟨h1, lo, hi, H⟩ := h
  refine ⟨by simp [h1], fun i => if i = j then a else lo i, fun i => if i = j then b else hi i, fun i hi' => ?_⟩
  rw [List.length_set] at hi'
  obtain ⟨p, q, r, ⟨u', hu', ho⟩, t⟩ := H i hi'
  by_cases e : i = j
  · subst e
    simp only [if_true]
    refine ⟨hBa, Nat.le_refl _, .inl hg, ⟨u, by simp [hi'], ?_⟩, fun k hk hne => ?_⟩
    · have : row (xss.set i ys) i = ys := by simp [row, ← h1, hi']
      rw [this]; exact hu
    · rw [List.length_set] at hk
      rw [if_neg hne, if_neg hne]
      have := (H k hk).2.1
      right; omega
  · simp only [if_neg e]
    refine ⟨p, by omega, r, ⟨u', by rw [List.getElem?_set_ne (by omega)]; exact hu', ?_⟩, fun k hk hne => ?_⟩
    · have : row (xss.set j ys) i = row xss i := by simp [row, List.getElem?_set_ne (show j ≠ i by omega)]
      rw [this]; exact ho
    · rw [List.length_set] at hk
      by_cases e2 : k = j
      · rw [if_pos e2, if_pos e2]; left; omega
      · rw [if_neg e2, if_neg e2]; exact t k hk hne

/-- A row of slices at the head of block g, all that a walk wants of it. -/
def RowsAt (w : World) (B g n cap : Nat) (us : List Value) : Prop := w.ownsRow B 38 1 (.slice (some ⟨g, 0, none⟩) n cap) n us
theorem RowsAt.len {w : World} {B g n cap : Nat} {us : List Value} (h : RowsAt w B g n cap us) : us.length = n := by simpa using h.1
theorem RowsAt.cell {w : World} {B g n cap : Nat} {us : List Value} (h : RowsAt w B g n cap us) {j : Nat} {u : Value} (hu : us[j]? = some u) : w.cell? ⟨g, j, none⟩ = some u := by
  have hj := (List.getElem?_eq_some_iff.1 hu).1
  rw [World.ownsRow.cellAt h j (by have := h.len; omega)]; simp [hu]
theorem RowsAt.frozen {w : World} {B g n cap : Nat} {us : List Value} (h : RowsAt w B g n cap us) (j : Nat) : w.frozen? ⟨g, j, none⟩ = false := World.ownsRow.frozenAt h j
theorem RowsAt.stored {w : World} {B g n cap : Nat} {us : List Value} (h : RowsAt w B g n cap us) (j : Nat) (u : Value) : RowsAt (w.setCell ⟨g, j, none⟩ u) B g n cap (us.set j u) := (World.ownsRow.stored h j u).1
theorem RowsAt.below {w w' : World} {B E g n cap : Nat} {us : List Value} (h : RowsAt w B g n cap us) (hB : Below E w w') (hE : g < E) : RowsAt w' B g n cap us := by
  refine ⟨h.1, ?_⟩
  rcases h.2 with h3 | ⟨g', cap', cur, e', h4, h5, h6⟩
  · exact .inl h3
  · refine .inr ⟨g', cap', cur, e', h4, ?_, h6⟩
    simp only [Value.slice.injEq, Option.some.injEq, Addr.mk.injEq, and_true, true_and] at e'
    rw [hB.block g' (by omega)]; exact h5
theorem RowsAt.lt {w : World} {B g n cap : Nat} {us : List Value} (h : RowsAt w B g n cap us) : B ≤ g ∧ g < w.heap.size := World.ownsRow.lt h g rfl
theorem RowsAt.own {w : World} {B g n cap : Nat} {us : List Value} {xss : List (List Int)} (h : RowsAt w B g n cap us) (hr : RowSet w B w.heap.size g us xss) : OwnSS w B w.heap.size (.slice (some ⟨g, 0, none⟩) n cap) xss := by
  have e : xss.length = n := by rw [← hr.1]; exact h.len
  subst e
  exact .inr ⟨g, cap, us, rfl, h.lt.1, h.lt.2, h, hr⟩
/-- 'make([][]int, n)': n times nil. -/
theorem rows_made {w w1 : World} {B n : Nat} (h : w1.ownsRow B 38 1 (.slice (some ⟨w.heap.size, 0, none⟩) n n) n (madeCells #[Value.slice none 0 0] n).toList) : RowsAt w1 B w.heap.size n n (List.replicate n (.slice none 0 0)) := by
  unfold RowsAt; rw [← toList_madeCells_one]; exact h

theorem mat_fill (xss : List (List Int)) (n k : Nat) (hk : k < n) (hn : xss.length = n) : (xss.take k ++ List.replicate (n - k) []).set k (row xss k) = xss.take (k + 1) ++ List.replicate (n - (k + 1)) [] := by
  have h1 : n - k = (n - (k + 1)) + 1 := by omega
  have e2 : min k xss.length = k := by omega
  have h2 : xss.take (k + 1) = xss.take k ++ [row xss k] := by rw [List.take_add_one, List.getElem?_eq_getElem (by omega), row_eq (by omega)]; rfl
  rw [h1, List.replicate_succ, List.set_append_right _ _ (by rw [List.length_take]; omega), List.length_take, e2, Nat.sub_self, h2, List.append_assoc]; rfl



theorem RowSet.turn {w : World} {B E g j : Nat} {us : List Value} {xss : List (List Int)} (h : RowSet w B E g us xss) (hj : j < us.length) :
    ∃ a b u, us[j]? = some u ∧ Own w a b u (row xss j) ∧ B ≤ a ∧ b ≤ E ∧ (g < a ∨ b ≤ g) ∧ ∀ w' ys, Own w' a b u ys → Turned a b w w' → RowSet w' B E g us (xss.set j ys) := by
  obtain ⟨h1, lo, hi, H⟩ := h
  obtain ⟨p, q, r, ⟨u, hu, ho⟩, t⟩ := H j hj
  refine ⟨lo j, hi j, u, hu, ho, p, q, r, fun w' ys hy ht => ⟨by simp [h1], lo, hi, fun i hi' => ?_⟩⟩
  obtain ⟨p', q', r', ⟨u', hu', ho'⟩, t'⟩ := H i hi'
  refine ⟨p', q', r', ?_, t'⟩
  by_cases e : i = j
  · subst e
    refine ⟨u, hu, ?_⟩
    have : row (xss.set i ys) i = ys := by simp [row, ← h1, hi']
    rw [this]; exact hy
  · refine ⟨u', hu', ?_⟩
    have : row (xss.set j ys) i = row xss i := by simp [row, List.getElem?_set_ne (show j ≠ i by omega)]
    rw [this]
    exact ho'.turned ht (t i hi' e).symm
theorem RowsAt.turned {w w' : World} {B g n cap a b : Nat} {us : List Value} (h : RowsAt w B g n cap us) (ht : Turned a b w w') (hg : g < a ∨ b ≤ g) : RowsAt w' B g n cap us := by
  refine ⟨h.1, ?_⟩
  rcases h.2 with h3 | ⟨g', cap', cur, e', h4, h5, h6⟩
  · exact .inl h3
  · refine .inr ⟨g', cap', cur, e', h4, ?_, h6⟩
    simp only [Value.slice.injEq, Option.some.injEq, Addr.mk.injEq, and_true, true_and] at e'
    rw [ht.block g' (by omega)]; exact h5




theorem OwnSS.below {w w' : World} {B E E' : Nat} {v : Value} {xss : List (List Int)} (h : OwnSS w B E v xss) (hB : Below E' w w') (hE : E ≤ E') : OwnSS w' B E v xss := by
  rcases h with h | ⟨g, cap, us, rfl, h1, h2, h3, h4⟩
  · exact .inl h
  · exact .inr ⟨g, cap, us, rfl, h1, h2, RowsAt.below h3 hB (by omega), h4.below hB hE⟩
theorem OwnSS.mono {w : World} {B E B' E' : Nat} {v : Value} {xss : List (List Int)} (h : OwnSS w B E v xss) (hB : B' ≤ B) (hE : E ≤ E') : OwnSS w B' E' v xss := by
  rcases h with h | ⟨g, cap, us, rfl, h1, h2, h3, h4⟩
  · exact .inl h
  · exact .inr ⟨g, cap, us, rfl, by omega, by omega, h3.mono hB, h4.mono hB hE⟩
theorem OwnSS.turned {w w' : World} {B E B' E' : Nat} {v : Value} {xss : List (List Int)} (h : OwnSS w B E v xss) (ht : Turned B' E' w w') (hd : E ≤ B' ∨ E' ≤ B) : OwnSS w' B E v xss := by
  rcases h with h | ⟨g, cap, us, rfl, h1, h2, h3, h4⟩
  · exact .inl h
  · exact .inr ⟨g, cap, us, rfl, h1, h2, RowsAt.turned h3 ht (by omega), h4.turned ht (by omega)⟩

end Go.Proofs.YtjkgilenhoomoaaGreat

namespace Go.Proofs.YtjkgilenhoomoaaGreat
open Go.ChangeShapes Go.WideShapes Go.ChangeAt Go.RowKit

theorem Tryz.cellsInts : Tryz.prog.cellsOf 38 = 1 := by kernel_rfl

end Go.Proofs.YtjkgilenhoomoaaGreat

namespace Go.Proofs.YtjkgilenhoomoaaGreat
open Go.RowKit

/-- A row of a graph of n states. -/
def rowB (n : Nat) (r : List Int) : Bool := decide (r.length = n) && allB r 0 9
/-- The table is a graph. -/
def graphB (g : List (List Int)) : Bool := inB g.length 1 8 && g.all (rowB g.length)
theorem graphB_no1 {g : List (List Int)} (h : inB g.length 1 8 = false) : graphB g = false := by simp [graphB, h]
theorem graphB_row {g : List (List Int)} (i : Nat) (hi : i < g.length) (h : rowB g.length (row g i) = false) : graphB g = false := by
  unfold graphB
  rw [show g.all (rowB g.length) = false by
    rw [List.all_eq_false]; exact ⟨row g i, by rw [row_eq hi]; exact List.getElem_mem hi, by rw [h]; decide⟩]
  rw [Bool.and_false]
theorem graphB_yes {g : List (List Int)} (h1 : inB g.length 1 8 = true) (h : ∀ i, i < g.length → rowB g.length (row g i) = true) : graphB g = true := by
  unfold graphB
  rw [h1, Bool.true_and, List.all_eq_true]
  intro r hr
  obtain ⟨i, hi, rfl⟩ := List.getElem_of_mem hr
  rw [← row_eq hi]; exact h i hi






/-- What both IsGraph functions return. -/
def IsGraph_v (g : List (List Int)) : Bool := graphB g


end Go.Proofs.YtjkgilenhoomoaaGreat

namespace Go.Proofs.YtjkgilenhoomoaaGreat
open Go.RowKit

/-- The list of f 0 .. f (n - 1). -/
def lst (n : Nat) (f : Nat → Int) : List Int := (List.range n).map f
theorem lst_len (n : Nat) (f : Nat → Int) : (lst n f).length = n := by simp [lst]
theorem nth_lst {n i : Nat} {f : Nat → Int} (h : i < n) : nth (lst n f) i = f i := by
  rw [nth_eq (by rw [lst_len]; exact h)]; simp [lst]
theorem lst_congr {n : Nat} {f g : Nat → Int} (h : ∀ i, i < n → f i = g i) : lst n f = lst n g := by
  unfold lst; apply List.map_congr_left; intro i hi; exact h i (List.mem_range.1 hi)
theorem lst_set (n j : Nat) (f : Nat → Int) (x : Int) : (lst n f).set j x = lst n (fun k => if k = j then x else f k) := by
  apply List.ext_getElem
  · simp [lst]
  · intro i h1 h2
    simp only [lst, List.getElem_set, List.getElem_map, List.getElem_range]
    by_cases e : j = i
    · subst e; simp
    · rw [if_neg e, if_neg (fun h => e h.symm)]
theorem eq_lst {xs : List Int} {n : Nat} (h : xs.length = n) : xs = lst n (nth xs) := by
  subst h
  apply List.ext_getElem
  · simp [lst]
  · intro i h1 h2; simp [lst, nth_eq h1]
theorem lst_zero (n : Nat) : List.replicate n (0 : Int) = lst n (fun _ => 0) := by
  apply List.ext_getElem
  · simp [lst]
  · intro i h1 h2; simp [lst]
theorem lst_succ (n : Nat) (f : Nat → Int) : lst (n + 1) f = lst n f ++ [f n] := by simp [lst, List.range_succ]

/-- The table of n rows of m entries f i j. -/
def tab (n m : Nat) (f : Nat → Nat → Int) : List (List Int) := (List.range n).map fun i => lst m (f i)
theorem tab_len (n m : Nat) (f : Nat → Nat → Int) : (tab n m f).length = n := by simp [tab]
theorem tab_row {n m i : Nat} {f : Nat → Nat → Int} (h : i < n) : row (tab n m f) i = lst m (f i) := by simp [row, tab, h]
theorem tab_congr {n m : Nat} {f g : Nat → Nat → Int} (h : ∀ i j, i < n → j < m → f i j = g i j) : tab n m f = tab n m g := by
  unfold tab; apply List.map_congr_left; intro i hi; exact lst_congr fun j hj => h i j (List.mem_range.1 hi) hj
def ent (g : List (List Int)) (i j : Nat) : Int := nth (row g i) j
theorem ent_tab {n m i j : Nat} {f : Nat → Nat → Int} (hi : i < n) (hj : j < m) : ent (tab n m f) i j = f i j := by
  unfold ent; rw [tab_row hi, nth_lst hj]
theorem eq_tab {g : List (List Int)} {n m : Nat} (h : g.length = n) (hr : ∀ i, i < n → (row g i).length = m) : g = tab n m (ent g) := by
  subst h
  apply List.ext_getElem
  · simp [tab]
  · intro i h1 h2
    simp only [tab, List.getElem_map, List.getElem_range]
    rw [← row_eq h1]; exact eq_lst (hr i h1)
theorem cnt_tab (n m : Nat) (f : Nat → Nat → Int) : cntIntSS (tab n m f) = n * m := by
  induction n with
  | zero => simp [tab, cntIntSS]
  | succ n ih =>
    have e : tab (n + 1) m f = tab n m f ++ [lst m (f n)] := by simp [tab, List.range_succ]
    unfold cntIntSS at ih ⊢
    rw [e, List.map_append, List.sum_append, ih, Nat.add_mul]
    simp [lst_len]
theorem sz_tab (n m : Nat) (f : Nat → Nat → Int) : szIntSS (tab n m f) = n + n * m := by
  have := cnt_tab n m f
  unfold szIntSS
  unfold cntIntSS at this
  rw [this, tab_len]

/-- The entry (i, j) turned. -/
def upd (f : Nat → Nat → Int) (i j : Nat) (x : Int) : Nat → Nat → Int := fun a c => if a = i ∧ c = j then x else f a c
theorem upd_row (f : Nat → Nat → Int) (m i j : Nat) (x : Int) : lst m (upd f i j x i) = (lst m (f i)).set j x := by
  rw [lst_set]; exact lst_congr fun k _ => by unfold upd; simp
theorem upd_ne {f : Nat → Nat → Int} {i j a : Nat} {x : Int} (h : a ≠ i) : upd f i j x a = f a := by
  funext c; unfold upd; rw [if_neg (fun q => h q.1)]

/-- The slices of the rows of a table of the call's own. -/
def rowsOf (rb rc : Nat → Nat) (n m : Nat) : List Value := (List.range n).map fun i => .slice (some ⟨rb i, 0, none⟩) m (rc i)
theorem rowsOf_get {rb rc : Nat → Nat} {n m i : Nat} (h : i < n) : (rowsOf rb rc n m)[i]? = some (.slice (some ⟨rb i, 0, none⟩) m (rc i)) := by simp [rowsOf, h]
theorem rowsOf_len (rb rc : Nat → Nat) (n m : Nat) : (rowsOf rb rc n m).length = n := by simp [rowsOf]
theorem rowsOf_congr {rb rc rb' rc' : Nat → Nat} {n m : Nat} (h : ∀ i, i < n → rb i = rb' i ∧ rc i = rc' i) : rowsOf rb rc n m = rowsOf rb' rc' n m := by
  unfold rowsOf; apply List.map_congr_left; intro i hi; rw [(h i (List.mem_range.1 hi)).1, (h i (List.mem_range.1 hi)).2]
theorem rowsOf_succ (rb rc : Nat → Nat) (n m : Nat) : rowsOf rb rc (n + 1) m = rowsOf rb rc n m ++ [.slice (some ⟨rb n, 0, none⟩) m (rc n)] := by simp [rowsOf, List.range_succ]

/-- A table of the call's own in blocks of [B, E): the rows' slices at the head of block g, each row in a block of its own. -/
structure MatT (w : World) (B E g n cap m : Nat) (rb rc : Nat → Nat) (f : Nat → Nat → Int) : Prop where
  outer : RowsAt w B g n cap (rowsOf rb rc n m)
  rows : ∀ i, i < n → RowAt w B (rb i) m (rc i) (lst m (f i))
  inj : ∀ i j, i < n → j < n → rb i = rb j → i = j
  top : g < E ∧ ∀ i, i < n → rb i < E

theorem typesApart {w : World} {B B' g r n cap m c : Nat} {us : List Value} {xs : List Int} (h : RowsAt w B g n cap us) (k : RowAt w B' r m c xs) : r ≠ g := by
  rintro rfl
  rcases h.2 with ⟨h, _⟩ | ⟨g1, _, cur, e1, _, h1, _⟩
  · cases h
  rcases k.2 with ⟨k, _⟩ | ⟨g2, _, cur2, e2, _, h2, _⟩
  · cases k
  simp only [Value.slice.injEq, Option.some.injEq, Addr.mk.injEq, and_true, true_and] at e1 e2
  obtain ⟨rfl, _⟩ := e1
  obtain ⟨rfl, _⟩ := e2
  rw [h1] at h2
  simp at h2

theorem MatT.ne {w : World} {B E g n cap m : Nat} {rb rc : Nat → Nat} {f : Nat → Nat → Int} (h : MatT w B E g n cap m rb rc f) {i : Nat} (hi : i < n) : rb i ≠ g := typesApart h.outer (h.rows i hi)
theorem MatT.ptr {w : World} {B E g n cap m : Nat} {rb rc : Nat → Nat} {f : Nat → Nat → Int} (h : MatT w B E g n cap m rb rc f) {i : Nat} (hi : i < n) : w.cell? ⟨g, i, none⟩ = some (.slice (some ⟨rb i, 0, none⟩) m (rc i)) := h.outer.cell (rowsOf_get hi)
theorem MatT.cell {w : World} {B E g n cap m : Nat} {rb rc : Nat → Nat} {f : Nat → Nat → Int} (h : MatT w B E g n cap m rb rc f) {i j : Nat} (hi : i < n) (hj : j < m) : w.cell? ⟨rb i, j, none⟩ = some (.int .i64 (f i j)) := by
  rw [(h.rows i hi).cell hj, nth_lst hj]
theorem MatT.frozen {w : World} {B E g n cap m : Nat} {rb rc : Nat → Nat} {f : Nat → Nat → Int} (h : MatT w B E g n cap m rb rc f) {i : Nat} (hi : i < n) (j : Nat) : w.frozen? ⟨rb i, j, none⟩ = false := (h.rows i hi).frozen j
theorem MatT.block {w : World} {B E g n cap m : Nat} {rb rc : Nat → Nat} {f : Nat → Nat → Int} (h : MatT w B E g n cap m rb rc f) {i : Nat} (hi : i < n) : B ≤ rb i ∧ rb i < E := ⟨(h.rows i hi).lt.1, h.top.2 i hi⟩

theorem RowAt.turned {w w' : World} {B g n cap a b : Nat} {xs : List Int} (h : RowAt w B g n cap xs) (ht : Turned a b w w') (hg : g < a ∨ b ≤ g) : RowAt w' B g n cap xs := by
  refine ⟨h.1, ?_⟩
  rcases h.2 with h3 | ⟨g', cap', cur, e', h4, h5, h6⟩
  · exact .inl h3
  · refine .inr ⟨g', cap', cur, e', h4, ?_, h6⟩
    simp only [Value.slice.injEq, Option.some.injEq, Addr.mk.injEq, and_true, true_and] at e'
    rw [ht.block g' (by omega)]; exact h5
theorem RowAt.mono {w : World} {B B' g n cap : Nat} {xs : List Int} (h : RowAt w B g n cap xs) (hB : B' ≤ B) : RowAt w B' g n cap xs := World.ownsRow.mono h hB

theorem MatT.below {w w' : World} {B E g n cap m E' : Nat} {rb rc : Nat → Nat} {f : Nat → Nat → Int} (h : MatT w B E g n cap m rb rc f) (hB : Below E' w w') (hE : E ≤ E') : MatT w' B E g n cap m rb rc f :=
  ⟨h.outer.below hB (Nat.lt_of_lt_of_le h.top.1 hE), fun i hi => (h.rows i hi).below hB (Nat.lt_of_lt_of_le (h.top.2 i hi) hE), h.inj, h.top⟩
theorem MatT.turned {w w' : World} {B E g n cap m a b : Nat} {rb rc : Nat → Nat} {f : Nat → Nat → Int} (h : MatT w B E g n cap m rb rc f) (ht : Turned a b w w') (hd : E ≤ a ∨ b ≤ B) : MatT w' B E g n cap m rb rc f :=
  ⟨h.outer.turned ht (by have := h.top.1; have := h.outer.lt.1; omega), fun i hi => (h.rows i hi).turned ht (by have := h.block hi; omega), h.inj, h.top⟩
theorem MatT.mono {w : World} {B E g n cap m B' E' : Nat} {rb rc : Nat → Nat} {f : Nat → Nat → Int} (h : MatT w B E g n cap m rb rc f) (hB : B' ≤ B) (hE : E ≤ E') : MatT w B' E' g n cap m rb rc f :=
  ⟨World.ownsRow.mono h.outer hB, fun i hi => (h.rows i hi).mono hB, h.inj, Nat.lt_of_lt_of_le h.top.1 hE, fun i hi => Nat.lt_of_lt_of_le (h.top.2 i hi) hE⟩
theorem MatT.congr {w : World} {B E g n cap m : Nat} {rb rc : Nat → Nat} {f f' : Nat → Nat → Int} (h : MatT w B E g n cap m rb rc f) (hf : ∀ i j, i < n → j < m → f i j = f' i j) : MatT w B E g n cap m rb rc f' :=
  ⟨h.outer, fun i hi => by rw [← lst_congr fun j hj => hf i j hi hj]; exact h.rows i hi, h.inj, h.top⟩
theorem MatT.stored {w : World} {B E g n cap m : Nat} {rb rc : Nat → Nat} {f : Nat → Nat → Int} (h : MatT w B E g n cap m rb rc f) {i : Nat} (hi : i < n) (j : Nat) (x : Int) : MatT (w.setCell ⟨rb i, j, none⟩ (.int .i64 x)) B E g n cap m rb rc (upd f i j x) := by
  have ht : Turned (rb i) (rb i + 1) w (w.setCell ⟨rb i, j, none⟩ (.int .i64 x)) := (Turned.refl _ _ w).setCell (p := ⟨rb i, j, none⟩) (Nat.le_refl _) (Nat.lt_succ_self _) _
  refine ⟨h.outer.turned ht (by have := h.ne hi; omega), fun k hk => ?_, h.inj, h.top⟩
  by_cases e : k = i
  · subst e
    rw [upd_row]; exact (h.rows k hk).stored j x
  · rw [upd_ne e]
    exact (h.rows k hk).turned ht (by have : rb k ≠ rb i := fun q => e (h.inj k i hk hi q); omega)
theorem MatT.turn {w w0 : World} {B E g n cap m : Nat} {rb rc : Nat → Nat} {f : Nat → Nat → Int} (h : MatT w B E g n cap m rb rc f) {i : Nat} (hi : i < n) (j : Nat) (x : Int) (ht : Turned B E w0 w) : Turned B E w0 (w.setCell ⟨rb i, j, none⟩ (.int .i64 x)) :=
  ht.setCell (p := ⟨rb i, j, none⟩) (h.block hi).1 (h.block hi).2 _

theorem MatT.own {w : World} {B E g n cap m : Nat} {rb rc : Nat → Nat} {f : Nat → Nat → Int} (h : MatT w B E g n cap m rb rc f) : OwnSS w B E (.slice (some ⟨g, 0, none⟩) n cap) (tab n m f) := by
  refine .inr ⟨g, cap, rowsOf rb rc n m, by rw [tab_len], h.outer.lt.1, h.top.1, by rw [tab_len]; exact h.outer, by rw [rowsOf_len, tab_len], rb, fun i => rb i + 1, fun i hi => ?_⟩
  rw [rowsOf_len] at hi
  refine ⟨(h.block hi).1, (h.block hi).2, by have := h.ne hi; show g < rb i ∨ rb i + 1 ≤ g; omega, ⟨_, rowsOf_get hi, ?_⟩, fun j hj hne => ?_⟩
  · rw [tab_row hi]
    have hr := h.rows i hi
    have e : m = (lst m (f i)).length := (lst_len _ _).symm
    have hr' : RowAt w (rb i) (rb i) m (rc i) (lst m (f i)) := by
      refine ⟨hr.1, ?_⟩
      rcases hr.2 with h3 | ⟨g', cap', cur, e', h4, h5, h6⟩
      · exact .inl h3
      · refine .inr ⟨g', cap', cur, e', ?_, h5, h6⟩
        simp only [Value.slice.injEq, Option.some.injEq, Addr.mk.injEq, and_true] at e'
        omega
    have ho := hr'.own
    rcases ho with ho | ⟨g', cap', e', h1, h2, h3⟩
    · exact .inl ho
    · refine .inr ⟨g', cap', e', h1, ?_, h3⟩
      simp only [Value.slice.injEq, Option.some.injEq, Addr.mk.injEq, and_true] at e'
      show g' < rb i + 1
      omega
  · rw [rowsOf_len] at hj
    have : rb j ≠ rb i := fun q => hne (h.inj j i hj hi q)
    show rb i + 1 ≤ rb j ∨ rb j + 1 ≤ rb i
    omega
theorem MatT.read {w : World} {B E g n cap m : Nat} {rb rc : Nat → Nat} {f : Nat → Nat → Int} (h : MatT w B E g n cap m rb rc f) : RowsV w (.slice (some ⟨g, 0, none⟩) n cap) (tab n m f) := h.own.read

/-- A table of the call's own to which rows are appended: nil, or a table. -/
structure GrowT (w : World) (B E : Nat) (v : Value) (k m : Nat) (rb rc : Nat → Nat) (f : Nat → Nat → Int) : Prop where
  outer : w.ownsRow B 38 1 v k (rowsOf rb rc k m)
  rows : ∀ i, i < k → RowAt w B (rb i) m (rc i) (lst m (f i))
  inj : ∀ i j, i < k → j < k → rb i = rb j → i = j
  top : (∀ g, v.ownBlock = some g → g < E) ∧ ∀ i, i < k → rb i < E

theorem GrowT.nil (w : World) (B E m : Nat) (rb rc : Nat → Nat) (f : Nat → Nat → Int) : GrowT w B E (.slice none 0 0) 0 m rb rc f :=
  ⟨World.ownsRow_nil w B 38 1, fun i hi => absurd hi (Nat.not_lt_zero i), fun i _ hi => absurd hi (Nat.not_lt_zero i), (fun g h => by cases h), fun i hi => absurd hi (Nat.not_lt_zero i)⟩
theorem GrowT.form {w : World} {B E : Nat} {v : Value} {k m : Nat} {rb rc : Nat → Nat} {f : Nat → Nat → Int} (h : GrowT w B E v k m rb rc f) (hk : 0 < k) : ∃ g cap, v = .slice (some ⟨g, 0, none⟩) k cap ∧ MatT w B E g k cap m rb rc f := by
  obtain ⟨g, cap, rfl⟩ : ∃ g cap, v = .slice (some ⟨g, 0, none⟩) k cap := by
    rcases h.outer.2 with ⟨_, h0⟩ | ⟨g, cap, _, e, _⟩
    · omega
    · exact ⟨g, cap, e⟩
  exact ⟨g, cap, rfl, h.outer, h.rows, h.inj, h.top.1 g rfl, h.top.2⟩
theorem MatT.grow {w : World} {B E g n cap m : Nat} {rb rc : Nat → Nat} {f : Nat → Nat → Int} (h : MatT w B E g n cap m rb rc f) : GrowT w B E (.slice (some ⟨g, 0, none⟩) n cap) n m rb rc f :=
  ⟨h.outer, h.rows, h.inj, (fun g' e => by cases e; exact h.top.1), h.top.2⟩
theorem GrowT.kept {w w' : World} {B E : Nat} {v : Value} {k m : Nat} {rb rc : Nat → Nat} {f : Nat → Nat → Int} (h : GrowT w B E v k m rb rc f) (hB : Below E w w') : GrowT w' B E v k m rb rc f := by
  refine ⟨⟨h.outer.1, ?_⟩, fun i hi => (h.rows i hi).below hB (h.top.2 i hi), h.inj, h.top⟩
  rcases h.outer.2 with h3 | ⟨g', cap', cur, e', h4, h5, h6⟩
  · exact .inl h3
  · exact .inr ⟨g', cap', cur, e', h4, by rw [hB.block g' (h.top.1 g' (by subst e'; rfl))]; exact h5, h6⟩

/-- A table of n rows of m entries that came in: the rows' slices from off on in block b. -/
def GR (w : World) (b off n m : Nat) (ro rof rc : Nat → Nat) (f : Nat → Nat → Int) : Prop :=
  ∀ i, i < n → w.cell? ⟨b, off + i, none⟩ = some (.slice (some ⟨ro i, rof i, none⟩) m (rc i)) ∧ (m ≤ rc i ∧ rc i ≤ maxLen) ∧ ∀ j, j < m → w.cell? ⟨ro i, rof i + j, none⟩ = some (.int .i64 (f i j))
theorem GR.below {w w' : World} {b off n m : Nat} {ro rof rc : Nat → Nat} {f : Nat → Nat → Int} (h : GR w b off n m ro rof rc f) (hB : Below w.heap.size w w') : GR w' b off n m ro rof rc f := fun i hi => by
  obtain ⟨h1, h2, h3⟩ := h i hi
  refine ⟨?_, h2, fun j hj => ?_⟩
  · rw [hB.cell (World.block_lt_of_cell? w _ h1)]; exact h1
  · rw [hB.cell (World.block_lt_of_cell? w _ (h3 j hj))]; exact h3 j hj
theorem GR.ints {w : World} {b off n m : Nat} {ro rof rc : Nat → Nat} {f : Nat → Nat → Int} (h : GR w b off n m ro rof rc f) {i : Nat} (hi : i < n) : IntsV w (.slice (some ⟨ro i, rof i, none⟩) m (rc i)) (lst m (f i)) := by
  obtain ⟨h1, h2, h3⟩ := h i hi
  refine ⟨_, _, by rw [lst_len], ⟨by rw [lst_len]; exact h2.1, fun e => by cases e⟩, h2.2, fun j hj => ?_⟩
  rw [lst_len] at hj
  exact ⟨_, _, rfl, by rw [nth_lst hj]; exact h3 j hj⟩

/-- Rows of one length at least 1, at least one row: entry by entry. -/
theorem RowsV.gr {w : World} {v : Value} {g : List (List Int)} {n m : Nat} (h : RowsV w v g) (hn : g.length = n) (h0 : 0 < n) (hm : 0 < m) (hr : ∀ i, i < n → (row g i).length = m) :
    ∃ b off cap ro rof rc, v = .slice (some ⟨b, off, none⟩) n cap ∧ n ≤ cap ∧ cap ≤ maxLen ∧ GR w b off n m ro rof rc (ent g) := by
  subst hn
  obtain ⟨ao, cap, rfl, hc, hm', H⟩ := h
  obtain ⟨b, off, _, rfl, _, _⟩ := H 0 h0
  have hx : ∀ i, ∃ q : Nat × Nat × Nat, i < g.length → w.cell? ⟨b, off + i, none⟩ = some (.slice (some ⟨q.1, q.2.1, none⟩) m q.2.2) ∧ (m ≤ q.2.2 ∧ q.2.2 ≤ maxLen) ∧ ∀ j, j < m → w.cell? ⟨q.1, q.2.1 + j, none⟩ = some (.int .i64 (ent g i j)) := fun i => by
    by_cases hi : i < g.length
    · obtain ⟨b', off', u, e, hc', hu⟩ := H i hi
      cases e
      obtain ⟨uo, ucap, rfl, hc2, hc3, K⟩ := hu
      rw [hr i hi] at hc' hc2 K
      obtain ⟨ub, uoff, rfl, _⟩ := K 0 hm
      refine ⟨⟨ub, uoff, ucap⟩, fun _ => ⟨hc', ⟨hc2.1, hc3⟩, fun j hj => ?_⟩⟩
      obtain ⟨_, _, e, hq⟩ := K j hj
      cases e
      exact hq
    · exact ⟨⟨0, 0, 0⟩, fun h => absurd h hi⟩
  obtain ⟨q, hq⟩ := Classical.axiomOfChoice hx
  exact ⟨b, off, cap, fun i => (q i).1, fun i => (q i).2.1, fun i => (q i).2.2, rfl, hc.1, hm', fun i hi => hq i hi⟩

theorem MatT.gr {w : World} {B E g n cap m : Nat} {rb rc : Nat → Nat} {f : Nat → Nat → Int} (h : MatT w B E g n cap m rb rc f) : GR w g 0 n m rb (fun _ => 0) rc f := fun i hi => by
  refine ⟨by rw [Nat.zero_add]; exact h.ptr hi, ?_, fun j hj => by rw [Nat.zero_add]; exact h.cell hi hj⟩
  rcases (h.rows i hi).2 with ⟨h4, _⟩ | ⟨g', cap', cur, e', h4, h5, h6, h7, _⟩
  · simp at h4
  · simp only [Value.slice.injEq, Option.some.injEq, Addr.mk.injEq, and_true, true_and] at e'
    omega

/-- A slice of the call's own that is not empty lies at the head of a block. -/
theorem Own.at {w : World} {B E : Nat} {v : Value} {xs : List Int} {n : Nat} (h : Own w B E v xs) (hn : xs.length = n) (h0 : 0 < n) : ∃ g cap, v = .slice (some ⟨g, 0, none⟩) n cap ∧ B ≤ g ∧ g < E ∧ RowAt w B g n cap xs := by
  subst hn
  rcases h with ⟨rfl, _⟩ | ⟨g, cap, rfl, h1, h2, h3⟩
  · exact absurd h0 (by simp)
  · exact ⟨g, cap, rfl, h1, h2, h3⟩

/-- A table of the call's own of which the first k rows have been laid; the other ones are nil. -/
structure MatP (w : World) (B E g n cap k m : Nat) (rb rc : Nat → Nat) (f : Nat → Nat → Int) : Prop where
  outer : RowsAt w B g n cap (rowsOf rb rc k m ++ List.replicate (n - k) (.slice none 0 0))
  rows : ∀ i, i < k → RowAt w B (rb i) m (rc i) (lst m (f i))
  inj : ∀ i j, i < k → j < k → rb i = rb j → i = j
  top : g < E ∧ ∀ i, i < k → rb i < E
theorem MatP.zero {w : World} {B g n m : Nat} (h : RowsAt w B g n n (List.replicate n (.slice none 0 0))) (rb rc : Nat → Nat) (f : Nat → Nat → Int) : MatP w B w.heap.size g n n 0 m rb rc f :=
  ⟨by simpa [rowsOf] using h, fun i hi => absurd hi (Nat.not_lt_zero i), fun i _ hi => absurd hi (Nat.not_lt_zero i), h.lt.2, fun i hi => absurd hi (Nat.not_lt_zero i)⟩
theorem MatP.all {w : World} {B E g n cap m : Nat} {rb rc : Nat → Nat} {f : Nat → Nat → Int} (h : MatP w B E g n cap n m rb rc f) : MatT w B E g n cap m rb rc f :=
  ⟨by simpa using h.outer, h.rows, h.inj, h.top⟩
theorem MatP.below {w w' : World} {B E g n cap k m E' : Nat} {rb rc : Nat → Nat} {f : Nat → Nat → Int} (h : MatP w B E g n cap k m rb rc f) (hB : Below E' w w') (hE : E ≤ E') : MatP w' B E g n cap k m rb rc f :=
  ⟨h.outer.below hB (Nat.lt_of_lt_of_le h.top.1 hE), fun i hi => (h.rows i hi).below hB (Nat.lt_of_lt_of_le (h.top.2 i hi) hE), h.inj, h.top⟩
theorem MatP.cell {w : World} {B E g n cap k m : Nat} {rb rc : Nat → Nat} {f : Nat → Nat → Int} (h : MatP w B E g n cap k m rb rc f) (hk : k < n) : w.cell? ⟨g, k, none⟩ = some (.slice none 0 0) :=
  h.outer.cell (by rw [List.getElem?_append_right (by rw [rowsOf_len]; exact Nat.le_refl _), rowsOf_len, Nat.sub_self, List.getElem?_replicate, if_pos (by omega)])
theorem MatP.frozen {w : World} {B E g n cap k m : Nat} {rb rc : Nat → Nat} {f : Nat → Nat → Int} (h : MatP w B E g n cap k m rb rc f) (j : Nat) : w.frozen? ⟨g, j, none⟩ = false := h.outer.frozen j
theorem MatP.put {w : World} {B E E' g n cap k m r c : Nat} {rb rc : Nat → Nat} {f : Nat → Nat → Int} {h' : Nat → Int} (h : MatP w B E g n cap k m rb rc f) (hk : k < n) (hr : RowAt w B r m c (lst m h')) (h1 : E ≤ r) (h2 : r < E') :
    MatP (w.setCell ⟨g, k, none⟩ (.slice (some ⟨r, 0, none⟩) m c)) B E' g n cap (k + 1) m (fun i => if i = k then r else rb i) (fun i => if i = k then c else rc i) (fun i => if i = k then h' else f i) := by
  have hgr := h.top.1
  have ht : Turned g (g + 1) w (w.setCell ⟨g, k, none⟩ (.slice (some ⟨r, 0, none⟩) m c)) := (Turned.refl _ _ w).setCell (p := ⟨g, k, none⟩) (Nat.le_refl _) (Nat.lt_succ_self _) _
  have hne : ∀ i, i < k → rb i ≠ g := fun i hi => typesApart h.outer (h.rows i hi)
  refine ⟨?_, fun j hj => ?_, fun i j hi hj e => ?_, by omega, fun i hi => ?_⟩
  · have := h.outer.stored k (.slice (some ⟨r, 0, none⟩) m c)
    rw [show (rowsOf rb rc k m ++ List.replicate (n - k) (Value.slice none 0 0)).set k (Value.slice (some ⟨r, 0, none⟩) m c) = rowsOf (fun i => if i = k then r else rb i) (fun i => if i = k then c else rc i) (k + 1) m ++ List.replicate (n - (k + 1)) (.slice none 0 0) by
      rw [rowsOf_succ, show rowsOf (fun i => if i = k then r else rb i) (fun i => if i = k then c else rc i) k m = rowsOf rb rc k m from rowsOf_congr fun j hj => by rw [if_neg (by omega), if_neg (by omega)]; exact ⟨rfl, rfl⟩]
      rw [show n - k = (n - (k + 1)) + 1 by omega, List.replicate_succ, List.set_append_right _ _ (by rw [rowsOf_len]; exact Nat.le_refl _), rowsOf_len, Nat.sub_self, List.append_assoc]
      simp] at this
    exact this
  · by_cases e : j = k
    · subst e
      simp only [if_true]
      exact hr.turned ht (by omega)
    · simp only [if_neg e]
      exact (h.rows j (by omega)).turned ht (by have := hne j (by omega); omega)
  · have hlt : ∀ i, i < k + 1 → i ≠ k → rb i ≠ r := fun i hi he => by have := h.top.2 i (by omega); omega
    by_cases ei : i = k
    · by_cases ej : j = k
      · omega
      · rw [if_pos ei, if_neg ej] at e
        exact absurd e.symm (hlt j hj ej)
    · by_cases ej : j = k
      · rw [if_neg ei, if_pos ej] at e
        exact absurd e (hlt i hi ei)
      · rw [if_neg ei, if_neg ej] at e
        exact h.inj i j (by omega) (by omega) e
  · by_cases e : i = k
    · rw [if_pos e]; exact h2
    · rw [if_neg e]; have := h.top.2 i (by omega); omega

theorem MatP.congr {w : World} {B E g n cap k m : Nat} {rb rc : Nat → Nat} {f f' : Nat → Nat → Int} (h : MatP w B E g n cap k m rb rc f) (hf : ∀ i j, i < k → j < m → f i j = f' i j) : MatP w B E g n cap k m rb rc f' :=
  ⟨h.outer, fun i hi => by rw [← lst_congr fun j hj => hf i j hi hj]; exact h.rows i hi, h.inj, h.top⟩
theorem GrowT.congr {w : World} {B E : Nat} {v : Value} {k m : Nat} {rb rc : Nat → Nat} {f f' : Nat → Nat → Int} (h : GrowT w B E v k m rb rc f) (hf : ∀ i j, i < k → j < m → f i j = f' i j) : GrowT w B E v k m rb rc f' :=
  ⟨h.outer, fun i hi => by rw [← lst_congr fun j hj => hf i j hi hj]; exact h.rows i hi, h.inj, h.top⟩

/-- It returns a new table of n rows of m entries f i j. -/
def RetM (n m : Nat) (f : Nat → Nat → Int) (w : World) (e : Ending) (w' : World) : Prop :=
  ∃ g cap rb rc, e = .returned (.slice (some ⟨g, 0, none⟩) n cap) ∧ MatT w' w.heap.size w'.heap.size g n cap m rb rc f ∧ Below w.heap.size w w'

end Go.Proofs.YtjkgilenhoomoaaGreat

namespace Go.Proofs.YtjkgilenhoomoaaGreat
open Go.RowKit

/-- What a graph is, entry by entry. -/
theorem graphB_true {g : List (List Int)} (h : graphB g = true) : 1 ≤ g.length ∧ g.length ≤ 8 ∧ (∀ i, i < g.length → (row g i).length = g.length) ∧ ∀ i j, i < g.length → j < g.length → 0 ≤ ent g i j ∧ ent g i j ≤ 9 := by
  simp only [graphB, Bool.and_eq_true, inB_true, List.all_eq_true] at h
  obtain ⟨⟨h1, h2⟩, h3⟩ := h
  have hr : ∀ i, i < g.length → rowB g.length (row g i) = true := fun i hi => h3 _ (by rw [row_eq hi]; exact List.getElem_mem hi)
  have hl : ∀ i, i < g.length → (row g i).length = g.length := fun i hi => by
    have := hr i hi
    simp only [rowB, Bool.and_eq_true, decide_eq_true_eq] at this
    exact this.1
  refine ⟨by omega, by omega, hl, fun i j hi hj => ?_⟩
  have := hr i hi
  simp only [rowB, Bool.and_eq_true, decide_eq_true_eq, allB, List.all_eq_true, inB_true] at this
  have hj' : j < (row g i).length := by rw [hl i hi]; exact hj
  exact this.2 _ (nth_mem hj')
theorem graphB_sz {g : List (List Int)} (h : graphB g = true) : szIntSS g ≤ 72 ∧ g.length ≤ 8 := by
  obtain ⟨h1, h2, h3, _⟩ := graphB_true h
  rw [eq_tab rfl h3, sz_tab, tab_len]
  have : g.length * g.length ≤ 8 * 8 := Nat.mul_le_mul h2 h2
  omega
theorem RowsV.graph {w : World} {v : Value} {g : List (List Int)} {n : Nat} (h : RowsV w v g) (hg : graphB g = true) (hn : g.length = n) :
    ∃ b off cap ro rof rc, v = .slice (some ⟨b, off, none⟩) n cap ∧ GR w b off n n ro rof rc (ent g) := by
  subst hn
  obtain ⟨h1, _, h3, _⟩ := graphB_true hg
  obtain ⟨b, off, cap, ro, rof, rc, e, _, _, h⟩ := h.gr rfl h1 h1 h3
  exact ⟨b, off, cap, ro, rof, rc, e, h⟩

/-- A state is a place. -/
theorem inB_nat {x : Int} {n : Nat} (h : inB x 0 ((n : Int) - 1) = true) : ∃ a : Nat, x = a ∧ a < n := by
  have := inB_true.1 h
  exact ⟨x.toNat, by omega, by omega⟩

/-- A slice literal of two ints. -/
theorem IntsV.two (w : World) (x y : Int) : IntsV (w.alloc (.cells #[.int .i64 x, .int .i64 y] 3)) (.slice (some ⟨w.heap.size, 0, none⟩) 2 2) [x, y] := by
  refine ⟨_, 2, rfl, ⟨Nat.le_refl _, fun e => by cases e⟩, by simp [maxLen], fun i hi => ⟨_, _, rfl, ?_⟩⟩
  have : i = 0 ∨ i = 1 := by simp at hi; omega
  rw [World.cell?_alloc_at _ _ _ _ rfl]
  rcases this with rfl | rfl <;> simp [nth]





/-- A graph, and states of it. -/
def hasB (g : List (List Int)) (xs : List Int) : Bool := graphB g && allB xs 0 ((g.length : Int) - 1)


end Go.Proofs.YtjkgilenhoomoaaGreat

namespace Go.Proofs.YtjkgilenhoomoaaGreat
open Go.RowKit

theorem wrap64_emod (a : Int) : wrap64 a % 18446744073709551616 = a % 18446744073709551616 := by
  unfold wrap64; omega
theorem wrap64_congr {a b : Int} (h : a % 18446744073709551616 = b % 18446744073709551616) : wrap64 a = wrap64 b := by
  unfold wrap64; omega
theorem wrap64_add (a b : Int) : wrap64 (wrap64 a + b) = wrap64 (a + b) := by
  unfold wrap64; omega
theorem wrap64_add' (a b : Int) : wrap64 (a + wrap64 b) = wrap64 (a + b) := by
  unfold wrap64; omega
theorem wrap64_sub (a b : Int) : wrap64 (wrap64 a - b) = wrap64 (a - b) := by
  unfold wrap64; omega
theorem wrap64_sub' (a b : Int) : wrap64 (a - wrap64 b) = wrap64 (a - b) := by
  unfold wrap64; omega
theorem wrap64_mul (a b : Int) : wrap64 (wrap64 a * b) = wrap64 (a * b) := by
  apply wrap64_congr
  rw [Int.mul_emod, wrap64_emod, ← Int.mul_emod]
theorem wrap64_mul' (a b : Int) : wrap64 (a * wrap64 b) = wrap64 (a * b) := by
  rw [Int.mul_comm, wrap64_mul, Int.mul_comm]
theorem wrap64_id {a : Int} (h1 : -9223372036854775808 ≤ a) (h2 : a ≤ 9223372036854775807) : wrap64 a = a := by
  unfold wrap64; omega

end Go.Proofs.YtjkgilenhoomoaaGreat

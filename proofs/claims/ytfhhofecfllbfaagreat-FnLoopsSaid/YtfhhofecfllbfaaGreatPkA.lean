/- Several texts in one: Hold Lib Ints Funcs PolyIs Trim Lift Mat LiftM Graph Tab Tabs Wrap. No conditions but those that each theorem states. -/
import Derived.Test.YtfhhofecfllbfaaGreatRows
import Derived.WalkKit
import Derived.WalkSpells
import Derived.BigQuiet
import Derived.Deep.RegionHeld3
import Derived.WalkLawsBesides
import Derived.Lib.Hide
import Derived.Deep.OwnRows
import Derived.Deep.Onto
import Derived.Maps.AppendAt
import Derived.Deep.QuietTactic
import Derived.Shelf.Abstract
import Derived.Laws.AppendOwnNone
import Derived.ProofKit
import Derived.Deep.Matrix
import Derived.IntWalk
namespace Go.Proofs.YtfhhofecfllbfaaGreat
open Go.RowKit
theorem lyA {α : Type} (l : List α) (i : Nat) (a : α) : l.toArray.setIfInBounds i a = (l.set i a).toArray := List.setIfInBounds_toArray ..
theorem lyB {α : Type} (x : α) (l : List α) (a : α) : (x :: l).set 0 a = a :: l := rfl
theorem lyC {α : Type} (x : α) (l : List α) (i : Nat) (a : α) : (x :: l).set (i + 1) a = x :: l.set i a := rfl
section
variable {P : Program} {ops : Array Oper} {Q : Exit → Act → World → Prop} {md : Region.Mode} {S : World → Prop}
theorem ly_q (i : Nat) {dst : Option Tmp} {op : Op} {ty : TypeId} {pos : String} {aft : Array Edge} {gd : Option (Nat × Bool)} {v : Value} {fuel : Nat} {listed : Array Bool} {a : Act} {w : World}
  (hS : S w) (h : wpAnyH P md ops Q S fuel (listed.setIfInBounds i true) (a.put dst v) w)
  (hi : ops[i]? = some (Oper.mk dst op ty pos aft gd) := by rfl) (hs : Region.noSelect ops = true := by kernel_rfl) (hf : Region.free md ops listed i = true := by kernel_rfl) (hr : (Region.ready md ops listed).contains i = true := by kernel_rfl)
  (hw : Region.wanted (Oper.mk dst op ty pos aft gd) (yielded ops a.tmps) = true := by kernel_rfl)
  (hy : ∀ w, S w → (execOp a.eval (Oper.mk dst op ty pos aft gd)).run P w = .ok (.value v) w := by intro wS hSw; (try dsimp only at hSw); go_simp; all_goals (with_reducible rfl))
  (hQ : ∀ c a w, Q (.panic c) (a.put dst v) w → Q (.panic c) a w := by exact fun _ _ _ h => h) : wpAnyH P md ops Q S (fuel + 1) listed a w :=
 wpAnyH_take hi hs hf hr hQ (Or.inl ⟨hw, hy⟩) hS h
theorem ly_off (i : Nat) {dst : Option Tmp} {op : Op} {ty : TypeId} {pos : String} {aft : Array Edge} {gd : Option (Nat × Bool)} {fuel : Nat} {listed : Array Bool} {a : Act} {w : World}
  (hS : S w) (h : wpAnyH P md ops Q S fuel (listed.setIfInBounds i true) (a.put dst undef) w)
  (hi : ops[i]? = some (Oper.mk dst op ty pos aft gd) := by rfl) (hs : Region.noSelect ops = true := by kernel_rfl) (hf : Region.free md ops listed i = true := by kernel_rfl) (hr : (Region.ready md ops listed).contains i = true := by kernel_rfl)
  (hw : Region.wanted (Oper.mk dst op ty pos aft gd) (yielded ops a.tmps) = false := by kernel_rfl)
  (hQ : ∀ c a w, Q (.panic c) (a.put dst undef) w → Q (.panic c) a w := by exact fun _ _ _ h => h) : wpAnyH P md ops Q S (fuel + 1) listed a w :=
 wpAnyH_take hi hs hf hr hQ (Or.inr ⟨hw, rfl⟩) hS h
theorem ly_s (i : Nat) {dst : Option Tmp} {op : Op} {ty : TypeId} {pos : String} {aft : Array Edge} {gd : Option (Nat × Bool)} {v : Value} {fuel : Nat} {listed : Array Bool} {a a' : Act} {w : World}
  (hS : S w) (h : wpAnyH P md ops Q S fuel (listed.setIfInBounds i true) a' w)
  (hi : ops[i]? = some (Oper.mk dst op ty pos aft gd) := by rfl) (hs : Region.noSelect ops = true := by kernel_rfl) (hf : Region.free md ops listed i = true := by kernel_rfl) (hr : (Region.ready md ops listed).contains i = true := by kernel_rfl)
  (hw : Region.wanted (Oper.mk dst op ty pos aft gd) (yielded ops a.tmps) = true := by kernel_rfl)
  (hy : ∀ w, S w → (execOp a.eval (Oper.mk dst op ty pos aft gd)).run P w = .ok (.value v) w := by intro wS hSw; (try dsimp only at hSw); go_simp; all_goals (with_reducible rfl))
  (ha : a.put dst v = a' := by (try simp only [Act.put, lyA, lyB, lyC]); rfl)
  (hQ : ∀ c a w, Q (.panic c) (a.put dst v) w → Q (.panic c) a w := by exact fun _ _ _ h => h) : wpAnyH P md ops Q S (fuel + 1) listed a w :=
 wpAnyH_take hi hs hf hr hQ (Or.inl ⟨hw, hy⟩) hS (ha ▸ h)
theorem ly_f (i : Nat) {dst : Option Tmp} {op : Op} {ty : TypeId} {pos : String} {aft : Array Edge} {gd : Option (Nat × Bool)} {fuel : Nat} {listed : Array Bool} {a a' : Act} {w : World}
  (hS : S w) (h : wpAnyH P md ops Q S fuel (listed.setIfInBounds i true) a' w)
  (hi : ops[i]? = some (Oper.mk dst op ty pos aft gd) := by rfl) (hs : Region.noSelect ops = true := by kernel_rfl) (hf : Region.free md ops listed i = true := by kernel_rfl) (hr : (Region.ready md ops listed).contains i = true := by kernel_rfl)
  (hw : Region.wanted (Oper.mk dst op ty pos aft gd) (yielded ops a.tmps) = false := by kernel_rfl)
  (ha : a.put dst undef = a' := by (try simp only [Act.put, lyA, lyB, lyC]); rfl)
  (hQ : ∀ c a w, Q (.panic c) (a.put dst undef) w → Q (.panic c) a w := by exact fun _ _ _ h => h) : wpAnyH P md ops Q S (fuel + 1) listed a w :=
 wpAnyH_take hi hs hf hr hQ (Or.inr ⟨hw, rfl⟩) hS (ha ▸ h)
theorem ly_a (i : Nat) {dst : Option Tmp} {op : Op} {ty : TypeId} {pos : String} {aft : Array Edge} {gd : Option (Nat × Bool)} {fuel : Nat} {listed : Array Bool} {a : Act} {w : World}
  (h : ∀ K' : Act → World → Prop, Shut (∀ a w, S w → (S w → wpAnyH P md ops Q S fuel (listed.setIfInBounds i true) a w) → K' a w) → Oper.wp P (Oper.mk dst op ty pos aft gd) a w K' Q)
  (hi : ops[i]? = some (Oper.mk dst op ty pos aft gd) := by rfl) (hr : Region.ready md ops listed = [i] := by kernel_rfl)
  (hw : Region.wanted (Oper.mk dst op ty pos aft gd) (yielded ops a.tmps) = true := by kernel_rfl) : wpAnyH P md ops Q S (fuel + 1) listed a w :=
 wpAnyH_ready hr (by simp) (AllReadyH.cons hi (fun K' hK' => by rw [if_pos hw]; exact h K' hK') AllReadyH.nil)
end
theorem Tryz.infoInt : (Tryz.prog.info? 3).map (fun i => (i.zero, i.size, i.bytes)) = some (some (.int .i64 0), 1, 8) := by kernel_rfl
def nth (xs : List Int) (i : Nat) : Int := xs[i]?.getD 0
theorem nth_eq {xs : List Int} {i : Nat} (h : i < xs.length) : nth xs i = xs[i] := by unfold nth; rw [List.getElem?_eq_getElem h]; rfl
theorem nth_mem {xs : List Int} {i : Nat} (h : i < xs.length) : nth xs i ∈ xs := by rw [nth_eq h]; exact List.getElem_mem h
def I64 (n : Int) : Prop := -9223372036854775808 ≤ n ∧ n ≤ 9223372036854775807
def IntsV (w : World) (v : Value) (xs : List Int) : Prop :=
 ∃ ao cap, v = .slice ao xs.length cap ∧ (xs.length ≤ cap ∧ (ao = none → cap = 0)) ∧ cap ≤ maxLen ∧ ∀ i, i < xs.length → ∃ b off, ao = some ⟨b, off, none⟩ ∧ w.cell? ⟨b, off + i, none⟩ = some (.int .i64 (nth xs i))
def Own (w : World) (B E : Nat) (v : Value) (xs : List Int) : Prop :=
 (xs = [] ∧ ∃ ao cap, v = .slice ao 0 cap ∧ cap ≤ maxLen ∧ (ao = none → cap = 0)) ∨
 ∃ g cap, v = .slice (some ⟨g, 0, none⟩) xs.length cap ∧ B ≤ g ∧ g < E ∧ w.ownsRow B 3 1 v xs.length (xs.map (Value.int .i64))
theorem Own.mono {w : World} {B E B' E' : Nat} {v : Value} {xs : List Int} (h : Own w B E v xs) (hB : B' ≤ B) (hE : E ≤ E') : Own w B' E' v xs := by
 rcases h with h | ⟨g, cap, e, h1, h2, h3⟩
 ·exact .inl h
 ·exact .inr ⟨g, cap, e, by omega, by omega, h3.mono hB⟩
theorem Own.row {w : World} {B : Nat} {v : Value} {n : Nat} {xs : List Int} (h : w.ownsRow B 3 1 v n (xs.map (Value.int .i64))) : Own w B w.heap.size v xs := by
 have hn : xs.length = n := by simpa using h.1
 subst hn
 rcases h.2 with ⟨rfl, h0⟩ | ⟨g, cap, cur, rfl, h1, h2, h3, h4, h5, h6⟩
 ·exact .inl ⟨List.eq_nil_of_length_eq_zero h0, none, 0, by simp, by simp [maxLen], fun _ => rfl⟩
 ·exact .inr ⟨g, cap, rfl, h1, (Array.getElem?_eq_some_iff.1 h2).1, h⟩
theorem Own.nil (w : World) (B E : Nat) : Own w B E (.slice none 0 0) [] := .inl ⟨rfl, none, 0, rfl, by simp [maxLen], fun _ => rfl⟩
theorem ownsRow_nth {w : World} {B g n cap : Nat} {xs : List Int} (h : w.ownsRow B 3 1 (.slice (some ⟨g, 0, none⟩) n cap) n (xs.map (Value.int .i64))) {j : Nat} (hj : j < n) : w.cell? ⟨g, j, none⟩ = some (.int .i64 (nth xs j)) := by
 have hl : xs.length = n := by simpa using h.1
 rw [World.ownsRow.cellAt h j (by omega)]
 have hj' : j < xs.length := by omega
 simp [nth, List.getElem?_eq_getElem hj']
theorem Own.read {w : World} {B E : Nat} {v : Value} {xs : List Int} (h : Own w B E v xs) : IntsV w v xs := by
 rcases h with ⟨rfl, ao, cap, rfl, hc, hz⟩ | ⟨g, cap, rfl, h1, h2, h3⟩
 ·exact ⟨ao, cap, rfl, ⟨Nat.zero_le _, hz⟩, hc, fun i hi => absurd hi (Nat.not_lt_zero i)⟩
 ·have hcap : xs.length ≤ cap ∧ cap ≤ maxLen := by
   rcases h3.2 with ⟨h4, _⟩ | ⟨g', cap', cur, e', h4, h5, h6, h7, _⟩
   ·simp at h4
   ·simp only [Value.slice.injEq, Option.some.injEq, Addr.mk.injEq, and_true, true_and] at e'
    omega
  refine ⟨some ⟨g, 0, none⟩, cap, rfl, ⟨hcap.1, fun e => by cases e⟩, hcap.2, fun i hi => ⟨g, 0, rfl, ?_⟩⟩
  rw [Nat.zero_add]
  exact ownsRow_nth h3 hi
def RowAt (w : World) (B g n cap : Nat) (xs : List Int) : Prop := w.ownsRow B 3 1 (.slice (some ⟨g, 0, none⟩) n cap) n (xs.map (Value.int .i64))
theorem RowAt.cell {w : World} {B g n cap : Nat} {xs : List Int} (h : RowAt w B g n cap xs) {j : Nat} (hj : j < n) : w.cell? ⟨g, j, none⟩ = some (.int .i64 (nth xs j)) := ownsRow_nth h hj
theorem RowAt.frozen {w : World} {B g n cap : Nat} {xs : List Int} (h : RowAt w B g n cap xs) (j : Nat) : w.frozen? ⟨g, j, none⟩ = false := World.ownsRow.frozenAt h j
theorem RowAt.stored {w : World} {B g n cap : Nat} {xs : List Int} (h : RowAt w B g n cap xs) (j : Nat) (x : Int) : RowAt (w.setCell ⟨g, j, none⟩ (.int .i64 x)) B g n cap (xs.set j x) := by
 have := (World.ownsRow.stored h j (.int .i64 x)).1
 unfold RowAt; rw [List.map_set]; exact this
theorem RowAt.lt {w : World} {B g n cap : Nat} {xs : List Int} (h : RowAt w B g n cap xs) : B ≤ g ∧ g < w.heap.size := World.ownsRow.lt h g rfl
theorem RowAt.kept {w w' : World} {B g n cap : Nat} {xs : List Int} {row : Option Nat} (h : RowAt w B g n cap xs) (hg : w.grownBy w' row) (hr : row ≠ some g) : RowAt w' B g n cap xs :=
 World.ownsRow.kept h hg (.inr (by simpa [Value.ownBlock] using fun e => hr e.symm))
theorem RowAt.below {w w' : World} {B E g n cap : Nat} {xs : List Int} (h : RowAt w B g n cap xs) (hB : Below E w w') (hE : g < E) : RowAt w' B g n cap xs := by
 refine ⟨h.1, ?_⟩
 rcases h.2 with h3 | ⟨g', cap', cur, e', h4, h5, h6⟩
 ·exact .inl h3
 ·refine .inr ⟨g', cap', cur, e', h4, ?_, h6⟩
  simp only [Value.slice.injEq, Option.some.injEq, Addr.mk.injEq, and_true, true_and] at e'
  rw [hB.block g' (by omega)]; exact h5
def Grow (w : World) (B : Nat) (v : Value) (xs : List Int) : Prop := w.ownsRow B 3 1 v xs.length (xs.map (Value.int .i64))
theorem Grow.nil (w : World) (B : Nat) : Grow w B (.slice none 0 0) [] := World.ownsRow_nil w B 3 1
theorem Grow.own {w : World} {B : Nat} {v : Value} {xs : List Int} (h : Grow w B v xs) : Own w B w.heap.size v xs := Own.row h
theorem Grow.drew {w : World} {B : Nat} {v : Value} {xs : List Int} (h : Grow w B v xs) : Grow w.drew B v xs := h
theorem Grow.below {w w' : World} {B : Nat} {v : Value} {xs : List Int} (h : Grow w B v xs) (hB : Below w.heap.size w w') : Grow w' B v xs := by
 refine ⟨h.1, ?_⟩
 rcases h.2 with h3 | ⟨g', cap', cur, e', h4, h5, h6⟩
 ·exact .inl h3
 ·exact .inr ⟨g', cap', cur, e', h4, by rw [hB.block g' (Array.getElem?_eq_some_iff.1 h5).1]; exact h5, h6⟩
theorem Grow.belowB {w0 w w' : World} {B : Nat} {v : Value} {xs : List Int} {b : Nat} (h : Grow w B v xs) (hb : Below b w0 w) (hB : b ≤ B) (hsz : b ≤ w.heap.size) (hg : w.grownBy w' v.ownBlock) : Below b w0 w' :=
 hb.grown hg hsz (fun k hk => by have := (World.ownsRow.lt h k hk).1; omega)
theorem wpList_append_int {ops : Array Oper} {rest : List Oper} {o : Oper} {a : Act} {w : World} {Q : Exit → Act → World → Prop} (hgd : o.guard = none) (s x : Operand)
  (ho : o.op = .call { callee := .builtin .append, args := #[s, x], argTypes := #[62, 62] }) (B : Nat) (v : Value) (xs : List Int) (z : Int) (c : Nat) (hs : a.eval s = v)
  (hx : a.eval x = .slice (some ⟨w.heap.size, 0, none⟩) 1 c) (hown : Grow w B v xs) (hl : xs.length ≤ 1099511627776) (hB : B ≤ w.heap.size)
  (h : ∀ v' w', Grow w' B v' (xs ++ [z]) → w.grownBy w' v.ownBlock → wpList Tryz.prog ops Q rest (a.put o.dst v') w') : wpList Tryz.prog ops Q (o :: rest) a (w.alloc (.cells #[.int .i64 z] 3)) := by
 obtain ⟨i, hi, hz0, hz1, hz2⟩ := info_parts Tryz.infoInt
 refine wpList_append_own _ hgd s x 62 ho B 3 i (.int .i64 0) 1 8 Tryz.underlying62 hi hz0 hz1 hz2 rfl (by decide) v xs.length _ hs (World.ownsRow.alloc hown _) ⟨w.heap.size, 0, none⟩ 1 c [.int .i64 z] hx rfl (cell_one_new _ _ _) (by simp [Value.oneCell']) (by unfold maxLen; omega) (by omega) (by simp; omega) ?_
 intro v' w' h1 h2 _
 refine h v' w' (by unfold Grow; rw [List.map_append, List.length_append]; exact h1) ((World.grownBy_alloc _ _ _).trans h2)
structure Turned (B E : Nat) (w w' : World) : Prop where
 os : w'.os = w.os
 tape : w'.tape = w.tape
 output : w'.output = w.output
 size : w'.heap.size = w.heap.size
 block : ∀ k, (k < B ∨ E ≤ k) → w'.heap[k]? = w.heap[k]?
theorem Turned.refl (B E : Nat) (w : World) : Turned B E w w := ⟨rfl, rfl, rfl, rfl, fun _ _ => rfl⟩
theorem Turned.trans {B E : Nat} {a b c : World} (h : Turned B E a b) (k : Turned B E b c) : Turned B E a c :=
 ⟨k.os.trans h.os, k.tape.trans h.tape, k.output.trans h.output, k.size.trans h.size, fun i hi => (k.block i hi).trans (h.block i hi)⟩
theorem Turned.setCell {B E : Nat} {w w' : World} (h : Turned B E w w') {p : Addr} (h1 : B ≤ p.block) (h2 : p.block < E) (u : Value) : Turned B E w (w'.setCell p u) :=
 h.trans ⟨rfl, rfl, rfl, by simp [World.setCell], fun k hk => Below.heap_setCell _ _ _ _ (by omega)⟩
/-! The ends of calls. -/
def Ret (v : Value) (w : World) (e : Ending) (w' : World) : Prop := e = .returned v ∧ Below w.heap.size w w'
def RetO {α : Type} (O : World → Nat → Nat → Value → α → Prop) (x : α) (w : World) (e : Ending) (w' : World) : Prop := ∃ v, e = .returned v ∧ O w' w.heap.size w'.heap.size v x ∧ Below w.heap.size w w'
def RetOB {α : Type} (O : World → Nat → Nat → Value → α → Prop) (r : α × Bool) (w : World) (e : Ending) (w' : World) : Prop := ∃ v, e = .returned (.tuple #[v, .bool r.2]) ∧ O w' w.heap.size w'.heap.size v r.1 ∧ Below w.heap.size w w'
def inB (n lo hi : Int) : Bool := decide (lo ≤ n) && decide (n ≤ hi)
theorem inB_true {n lo hi : Int} : inB n lo hi = true ↔ lo ≤ n ∧ n ≤ hi := by simp [inB]
theorem inB_false {n lo hi : Int} : inB n lo hi = false ↔ n < lo ∨ hi < n := by
 rw [← Bool.not_eq_true, inB_true]; omega
def Same (v : Value) (w : World) (e : Ending) (w' : World) : Prop := e = .returned v ∧ w = w'
theorem l1In_any (n lo hi : Int) (w : World) : Calls Tryz.prog 125 #[.int .i64 n, .int .i64 lo, .int .i64 hi] w (Same (.bool (inB n lo hi)) w) := by
 by_cases h1 : lo ≤ n
 ·by_cases h2 : n ≤ hi
  ·have : inB n lo hi = true := inB_true.2 ⟨h1, h2⟩
   rw [this]; clear this
   go_enter Tryz.func125, Tryz.ntmps125
   go_wp2
   go_ret
   exact ⟨rfl, rfl⟩
  ·have : inB n lo hi = false := inB_false.2 (by omega)
   rw [this]; clear this
   go_enter Tryz.func125, Tryz.ntmps125
   go_wp2
   go_ret
   exact ⟨rfl, rfl⟩
 ·have : inB n lo hi = false := inB_false.2 (by omega)
  rw [this]; clear this
  go_enter Tryz.func125, Tryz.ntmps125
  go_wp2
  go_ret
  exact ⟨rfl, rfl⟩
theorem within_any (n lo hi : Int) (w : World) : Calls Tryz.prog 113 #[.int .i64 n, .int .i64 lo, .int .i64 hi] w (Same (.bool (inB n lo hi)) w) := by
 by_cases h1 : lo ≤ n
 ·by_cases h2 : n ≤ hi
  ·have : inB n lo hi = true := inB_true.2 ⟨h1, h2⟩
   rw [this]; clear this
   go_enter Tryz.func113, Tryz.ntmps113
   go_wp2
   go_ret
   exact ⟨rfl, rfl⟩
  ·have : inB n lo hi = false := inB_false.2 (by omega)
   rw [this]; clear this
   go_enter Tryz.func113, Tryz.ntmps113
   go_wp2
   go_ret
   exact ⟨rfl, rfl⟩
 ·have : inB n lo hi = false := inB_false.2 (by omega)
  rw [this]; clear this
  go_enter Tryz.func113, Tryz.ntmps113
  go_wp2
  go_ret
  exact ⟨rfl, rfl⟩
open Go.ChangeShapes Go.WideShapes Go.ChangeAt Go.RowKit
theorem Tryz.own : ownKnob Tryz.prog.godebug = none := by kernel_rfl
theorem Tryz.laidOut : laidOutB Tryz.prog = true := by kernel_rfl
theorem trodAll_below {H : Type} {enc : TypeId × Value → H} {W W' : World} (hb : Below W.heap.size W W') : ∀ {ts : List TypeId} {vs : List Value} {ds : List (DataW H)} {ps : List MemPlace},
  (∀ t ∈ ts, Tryz.prog.readableRec t = true ∧ t < Tryz.prog.types.size) → DataW.TrodAll enc Tryz.prog W 0 (fun _ => true) true ts vs ds ps → (∀ x ∈ ps, x.block < W.heap.size) →
  DataW.TrodAll enc Tryz.prog W' 0 (fun b => decide (b < W.heap.size)) true ts vs ds ps
 | [], [], [], ps, _, h, _ => h
 | t :: ts, v :: vs, d :: ds, ps, hr, h, hlt => by
   obtain ⟨p, q, h1, h2, rfl⟩ := h
   exact ⟨p, q, Below.trod Tryz.laidOut (hr t (by simp)).1 (hr t (by simp)).2 h1 hb (fun x hx => hlt x (by simp [hx])), trodAll_below hb (fun t ht => hr t (by simp [ht])) h2 (fun x hx => hlt x (by simp [hx])), rfl⟩
 | [], _ :: _, _, _, _, h, _ => by simp [DataW.TrodAll] at h
 | [], [], _ :: _, _, _, h, _ => by simp [DataW.TrodAll] at h
 | _ :: _, [], _, _, _, h, _ => by simp [DataW.TrodAll] at h
 | _ :: _, _ :: _, [], _, _, h, _ => by simp [DataW.TrodAll] at h
theorem law_post {H : Type} {enc : TypeId × Value → H} {s : ChangeSpec} {f : Func} {W W' : World} {args : Array Value} {ds : List (DataW H)} {p : List MemPlace}
  (hW : DataW.Whole enc Tryz.prog f.params.toList s.vars false W args.toList ds [] (p ++ [])) (hvars : s.vars = []) (hA : DataW.TrodAll enc Tryz.prog W 0 (fun _ => true) true f.params.toList args.toList ds p)
  (hts : ∀ t ∈ f.params.toList, Tryz.prog.readableRec t = true ∧ t < Tryz.prog.types.size) (hres : f.resultTypes = #[4])
  (hr : (s.fn H (ds ++ [])).results = [.lit (.bool true)]) (ha : (s.fn H (ds ++ [])).args = ds) (hv : (s.fn H (ds ++ [])).vars = []) (hB : Below W.heap.size W W') :
  ∃ v, Ending.returned (.bool true) = Ending.returned v ∧ s.post enc Tryz.prog f false true false false W args v W' := by
 have hlt : ∀ x ∈ p, x.block < W.heap.size := fun x hx => hW.lt x (by simp [hx])
 refine ⟨_, rfl, ds, [], p ++ [], [], p, [], hW, ?_, ?_, ?_, hB.frame _, fun h => by cases h⟩
 ·rw [hr, hres]
  exact trodAll_mk1 (shut_bool Tryz.underlying4 true)
 ·rw [ha]; exact trodAll_below hB hts hA hlt
 ·rw [hv, hvars]; rfl
theorem Tryz.infoInts : (Tryz.prog.info? 62).map (fun i => (i.zero, i.size, i.bytes)) = some (some (.slice none 0 0), 1, 24) := by kernel_rfl
/-! How a set of rows is made and filled. -/
def RowsAt (w : World) (B g n cap : Nat) (us : List Value) : Prop := w.ownsRow B 62 1 (.slice (some ⟨g, 0, none⟩) n cap) n us
theorem RowsAt.len {w : World} {B g n cap : Nat} {us : List Value} (h : RowsAt w B g n cap us) : us.length = n := by simpa using h.1
theorem RowsAt.cell {w : World} {B g n cap : Nat} {us : List Value} (h : RowsAt w B g n cap us) {j : Nat} {u : Value} (hu : us[j]? = some u) : w.cell? ⟨g, j, none⟩ = some u := by
 have hj := (List.getElem?_eq_some_iff.1 hu).1
 rw [World.ownsRow.cellAt h j (by have := h.len; omega)]; simp [hu]
theorem RowsAt.below {w w' : World} {B E g n cap : Nat} {us : List Value} (h : RowsAt w B g n cap us) (hB : Below E w w') (hE : g < E) : RowsAt w' B g n cap us := by
 refine ⟨h.1, ?_⟩
 rcases h.2 with h3 | ⟨g', cap', cur, e', h4, h5, h6⟩
 ·exact .inl h3
 ·refine .inr ⟨g', cap', cur, e', h4, ?_, h6⟩
  simp only [Value.slice.injEq, Option.some.injEq, Addr.mk.injEq, and_true, true_and] at e'
  rw [hB.block g' (by omega)]; exact h5
theorem RowsAt.turned {w w' : World} {B g n cap a b : Nat} {us : List Value} (h : RowsAt w B g n cap us) (ht : Turned a b w w') (hg : g < a ∨ b ≤ g) : RowsAt w' B g n cap us := by
 refine ⟨h.1, ?_⟩
 rcases h.2 with h3 | ⟨g', cap', cur, e', h4, h5, h6⟩
 ·exact .inl h3
 ·refine .inr ⟨g', cap', cur, e', h4, ?_, h6⟩
  simp only [Value.slice.injEq, Option.some.injEq, Addr.mk.injEq, and_true, true_and] at e'
  rw [ht.block g' (by omega)]; exact h5
def lst (n : Nat) (f : Nat → Int) : List Int := (List.range n).map f
theorem lst_len (n : Nat) (f : Nat → Int) : (lst n f).length = n := by simp [lst]
theorem nth_lst {n i : Nat} {f : Nat → Int} (h : i < n) : nth (lst n f) i = f i := by
 rw [nth_eq (by rw [lst_len]; exact h)]; simp [lst]
theorem lst_congr {n : Nat} {f g : Nat → Int} (h : ∀ i, i < n → f i = g i) : lst n f = lst n g := by
 unfold lst; apply List.map_congr_left; intro i hi; exact h i (List.mem_range.1 hi)
theorem lst_set (n j : Nat) (f : Nat → Int) (x : Int) : (lst n f).set j x = lst n (fun k => if k = j then x else f k) := by
 apply List.ext_getElem
 ·simp [lst]
 ·intro i h1 h2
  simp only [lst, List.getElem_set, List.getElem_map, List.getElem_range]
  by_cases e : j = i
  ·subst e; simp
  ·rw [if_neg e, if_neg (fun h => e h.symm)]
def upd (f : Nat → Nat → Int) (i j : Nat) (x : Int) : Nat → Nat → Int := fun a c => if a = i ∧ c = j then x else f a c
theorem upd_row (f : Nat → Nat → Int) (m i j : Nat) (x : Int) : lst m (upd f i j x i) = (lst m (f i)).set j x := by
 rw [lst_set]; exact lst_congr fun k _ => by unfold upd; simp
theorem upd_ne {f : Nat → Nat → Int} {i j a : Nat} {x : Int} (h : a ≠ i) : upd f i j x a = f a := by
 funext c; unfold upd; rw [if_neg (fun q => h q.1)]
def rowsOf (rb rc : Nat → Nat) (n m : Nat) : List Value := (List.range n).map fun i => .slice (some ⟨rb i, 0, none⟩) m (rc i)
theorem rowsOf_get {rb rc : Nat → Nat} {n m i : Nat} (h : i < n) : (rowsOf rb rc n m)[i]? = some (.slice (some ⟨rb i, 0, none⟩) m (rc i)) := by simp [rowsOf, h]
theorem rowsOf_congr {rb rc rb' rc' : Nat → Nat} {n m : Nat} (h : ∀ i, i < n → rb i = rb' i ∧ rc i = rc' i) : rowsOf rb rc n m = rowsOf rb' rc' n m := by
 unfold rowsOf; apply List.map_congr_left; intro i hi; rw [(h i (List.mem_range.1 hi)).1, (h i (List.mem_range.1 hi)).2]
theorem rowsOf_succ (rb rc : Nat → Nat) (n m : Nat) : rowsOf rb rc (n + 1) m = rowsOf rb rc n m ++ [.slice (some ⟨rb n, 0, none⟩) m (rc n)] := by simp [rowsOf, List.range_succ]
structure MatT (w : World) (B E g n cap m : Nat) (rb rc : Nat → Nat) (f : Nat → Nat → Int) : Prop where
 outer : RowsAt w B g n cap (rowsOf rb rc n m)
 rows : ∀ i, i < n → RowAt w B (rb i) m (rc i) (lst m (f i))
 inj : ∀ i j, i < n → j < n → rb i = rb j → i = j
 top : g < E ∧ ∀ i, i < n → rb i < E
theorem typesApart {w : World} {B B' g r n cap m c : Nat} {us : List Value} {xs : List Int} (h : RowsAt w B g n cap us) (k : RowAt w B' r m c xs) : r ≠ g := by
 rintro rfl
 rcases h.2 with ⟨h, _⟩ | ⟨g1, _, cur, e1, _, h1, _⟩
 ·cases h
 rcases k.2 with ⟨k, _⟩ | ⟨g2, _, cur2, e2, _, h2, _⟩
 ·cases k
 simp only [Value.slice.injEq, Option.some.injEq, Addr.mk.injEq, and_true, true_and] at e1 e2
 obtain ⟨rfl, _⟩ := e1
 obtain ⟨rfl, _⟩ := e2
 rw [h1] at h2
 simp at h2
theorem MatT.ne {w : World} {B E g n cap m : Nat} {rb rc : Nat → Nat} {f : Nat → Nat → Int} (h : MatT w B E g n cap m rb rc f) {i : Nat} (hi : i < n) : rb i ≠ g := typesApart h.outer (h.rows i hi)
theorem MatT.ptr {w : World} {B E g n cap m : Nat} {rb rc : Nat → Nat} {f : Nat → Nat → Int} (h : MatT w B E g n cap m rb rc f) {i : Nat} (hi : i < n) : w.cell? ⟨g, i, none⟩ = some (.slice (some ⟨rb i, 0, none⟩) m (rc i)) := h.outer.cell (rowsOf_get hi)
theorem MatT.cell {w : World} {B E g n cap m : Nat} {rb rc : Nat → Nat} {f : Nat → Nat → Int} (h : MatT w B E g n cap m rb rc f) {i j : Nat} (hi : i < n) (hj : j < m) : w.cell? ⟨rb i, j, none⟩ = some (.int .i64 (f i j)) := by
 rw [(h.rows i hi).cell hj, nth_lst hj]
theorem MatT.frozen {w : World} {B E g n cap m : Nat} {rb rc : Nat → Nat} {f : Nat → Nat → Int} (h : MatT w B E g n cap m rb rc f) {i : Nat} (hi : i < n) (j : Nat) : w.frozen? ⟨rb i, j, none⟩ = false := (h.rows i hi).frozen j
theorem MatT.block {w : World} {B E g n cap m : Nat} {rb rc : Nat → Nat} {f : Nat → Nat → Int} (h : MatT w B E g n cap m rb rc f) {i : Nat} (hi : i < n) : B ≤ rb i ∧ rb i < E := ⟨(h.rows i hi).lt.1, h.top.2 i hi⟩
theorem RowAt.turned {w w' : World} {B g n cap a b : Nat} {xs : List Int} (h : RowAt w B g n cap xs) (ht : Turned a b w w') (hg : g < a ∨ b ≤ g) : RowAt w' B g n cap xs := by
 refine ⟨h.1, ?_⟩
 rcases h.2 with h3 | ⟨g', cap', cur, e', h4, h5, h6⟩
 ·exact .inl h3
 ·refine .inr ⟨g', cap', cur, e', h4, ?_, h6⟩
  simp only [Value.slice.injEq, Option.some.injEq, Addr.mk.injEq, and_true, true_and] at e'
  rw [ht.block g' (by omega)]; exact h5
theorem RowAt.mono {w : World} {B B' g n cap : Nat} {xs : List Int} (h : RowAt w B g n cap xs) (hB : B' ≤ B) : RowAt w B' g n cap xs := World.ownsRow.mono h hB
theorem MatT.below {w w' : World} {B E g n cap m E' : Nat} {rb rc : Nat → Nat} {f : Nat → Nat → Int} (h : MatT w B E g n cap m rb rc f) (hB : Below E' w w') (hE : E ≤ E') : MatT w' B E g n cap m rb rc f :=
 ⟨h.outer.below hB (Nat.lt_of_lt_of_le h.top.1 hE), fun i hi => (h.rows i hi).below hB (Nat.lt_of_lt_of_le (h.top.2 i hi) hE), h.inj, h.top⟩
theorem MatT.mono {w : World} {B E g n cap m B' E' : Nat} {rb rc : Nat → Nat} {f : Nat → Nat → Int} (h : MatT w B E g n cap m rb rc f) (hB : B' ≤ B) (hE : E ≤ E') : MatT w B' E' g n cap m rb rc f :=
 ⟨World.ownsRow.mono h.outer hB, fun i hi => (h.rows i hi).mono hB, h.inj, Nat.lt_of_lt_of_le h.top.1 hE, fun i hi => Nat.lt_of_lt_of_le (h.top.2 i hi) hE⟩
theorem MatT.stored {w : World} {B E g n cap m : Nat} {rb rc : Nat → Nat} {f : Nat → Nat → Int} (h : MatT w B E g n cap m rb rc f) {i : Nat} (hi : i < n) (j : Nat) (x : Int) : MatT (w.setCell ⟨rb i, j, none⟩ (.int .i64 x)) B E g n cap m rb rc (upd f i j x) := by
 have ht : Turned (rb i) (rb i + 1) w (w.setCell ⟨rb i, j, none⟩ (.int .i64 x)) := (Turned.refl _ _ w).setCell (p := ⟨rb i, j, none⟩) (Nat.le_refl _) (Nat.lt_succ_self _) _
 refine ⟨h.outer.turned ht (by have := h.ne hi; omega), fun k hk => ?_, h.inj, h.top⟩
 by_cases e : k = i
 ·subst e
  rw [upd_row]; exact (h.rows k hk).stored j x
 ·rw [upd_ne e]
  exact (h.rows k hk).turned ht (by have : rb k ≠ rb i := fun q => e (h.inj k i hk hi q); omega)
structure GrowT (w : World) (B E : Nat) (v : Value) (k m : Nat) (rb rc : Nat → Nat) (f : Nat → Nat → Int) : Prop where
 outer : w.ownsRow B 62 1 v k (rowsOf rb rc k m)
 rows : ∀ i, i < k → RowAt w B (rb i) m (rc i) (lst m (f i))
 inj : ∀ i j, i < k → j < k → rb i = rb j → i = j
 top : (∀ g, v.ownBlock = some g → g < E) ∧ ∀ i, i < k → rb i < E
theorem GrowT.nil (w : World) (B E m : Nat) (rb rc : Nat → Nat) (f : Nat → Nat → Int) : GrowT w B E (.slice none 0 0) 0 m rb rc f :=
 ⟨World.ownsRow_nil w B 62 1, fun i hi => absurd hi (Nat.not_lt_zero i), fun i _ hi => absurd hi (Nat.not_lt_zero i), (fun g h => by cases h), fun i hi => absurd hi (Nat.not_lt_zero i)⟩
theorem GrowT.form {w : World} {B E : Nat} {v : Value} {k m : Nat} {rb rc : Nat → Nat} {f : Nat → Nat → Int} (h : GrowT w B E v k m rb rc f) (hk : 0 < k) : ∃ g cap, v = .slice (some ⟨g, 0, none⟩) k cap ∧ MatT w B E g k cap m rb rc f := by
 obtain ⟨g, cap, rfl⟩ : ∃ g cap, v = .slice (some ⟨g, 0, none⟩) k cap := by
  rcases h.outer.2 with ⟨_, h0⟩ | ⟨g, cap, _, e, _⟩
  ·omega
  ·exact ⟨g, cap, e⟩
 exact ⟨g, cap, rfl, h.outer, h.rows, h.inj, h.top.1 g rfl, h.top.2⟩
theorem MatT.grow {w : World} {B E g n cap m : Nat} {rb rc : Nat → Nat} {f : Nat → Nat → Int} (h : MatT w B E g n cap m rb rc f) : GrowT w B E (.slice (some ⟨g, 0, none⟩) n cap) n m rb rc f :=
 ⟨h.outer, h.rows, h.inj, (fun g' e => by cases e; exact h.top.1), h.top.2⟩
theorem GrowT.kept {w w' : World} {B E : Nat} {v : Value} {k m : Nat} {rb rc : Nat → Nat} {f : Nat → Nat → Int} (h : GrowT w B E v k m rb rc f) (hB : Below E w w') : GrowT w' B E v k m rb rc f := by
 refine ⟨⟨h.outer.1, ?_⟩, fun i hi => (h.rows i hi).below hB (h.top.2 i hi), h.inj, h.top⟩
 rcases h.outer.2 with h3 | ⟨g', cap', cur, e', h4, h5, h6⟩
 ·exact .inl h3
 ·exact .inr ⟨g', cap', cur, e', h4, by rw [hB.block g' (h.top.1 g' (by subst e'; rfl))]; exact h5, h6⟩
theorem wpList_append_row {ops : Array Oper} {rest : List Oper} {o : Oper} {a : Act} {w : World} {Q : Exit → Act → World → Prop} (hgd : o.guard = none) (s x : Operand)
  (ho : o.op = .call { callee := .builtin .append, args := #[s, x], argTypes := #[56, 56] }) (B E : Nat) (v : Value) (k m r c cc : Nat) (rb rc : Nat → Nat) (f : Nat → Nat → Int) (h' : Nat → Int) (hs : a.eval s = v)
  (hx : a.eval x = .slice (some ⟨w.heap.size, 0, none⟩) 1 cc) (hown : GrowT w B E v k m rb rc f) (hr : RowAt w B r m c (lst m h')) (hE : E ≤ r) (hl : k ≤ 1099511627776) (hB : B ≤ w.heap.size)
  (h : ∀ v' w', GrowT w' B w'.heap.size v' (k + 1) m (fun i => if i = k then r else rb i) (fun i => if i = k then c else rc i) (fun i => if i = k then h' else f i) → w.grownBy w' v.ownBlock → wpList Tryz.prog ops Q rest (a.put o.dst v') w') :
  wpList Tryz.prog ops Q (o :: rest) a (w.alloc (.cells #[.slice (some ⟨r, 0, none⟩) m c] 62)) := by
 obtain ⟨i, hi, hz0, hz1, hz2⟩ := info_parts Tryz.infoInts
 have hne : ∀ j, j < k → rb j ≠ r := fun j hj => by have := hown.top.2 j hj; omega
 refine wpList_append_own _ hgd s x 56 ho B 62 i (.slice none 0 0) 1 24 Tryz.underlying56 hi hz0 hz1 hz2 rfl (by decide) v k _ hs (World.ownsRow.alloc hown.outer _) ⟨w.heap.size, 0, none⟩ 1 cc [.slice (some ⟨r, 0, none⟩) m c] hx rfl (cell_one_new _ _ _) (by simp [Value.oneCell']) (by unfold maxLen; omega) (by omega) (by simp; omega) ?_
 intro v' w' h1 h2 _
 have h3 : w.grownBy w' v.ownBlock := (World.grownBy_alloc _ _ _).trans h2
 have hvr : ∀ j, j < k → v.ownBlock ≠ some (rb j) := fun j hj e => by
  rcases hown.outer.2 with ⟨rfl, _⟩ | ⟨g, cap, _, rfl, _⟩
  ·cases e
  ·cases e
   exact typesApart hown.outer (hown.rows j hj) rfl
 refine h v' w' ⟨?_, fun j hj => ?_, fun i j hi hj e => ?_, ⟨fun g hg => ?_, fun i hi => ?_⟩⟩ h3
 ·rw [rowsOf_succ]
  rw [show rowsOf (fun i => if i = k then r else rb i) (fun i => if i = k then c else rc i) k m = rowsOf rb rc k m from rowsOf_congr fun j hj => by rw [if_neg (by omega), if_neg (by omega)]; exact ⟨rfl, rfl⟩]
  simpa using h1
 ·by_cases e : j = k
  ·subst e
   simp only [if_true]
   exact hr.kept h3 (fun e => by have := hown.top.1 r e; omega)
  ·simp only [if_neg e]
   exact (hown.rows j (by omega)).kept h3 (hvr j (by omega))
 ·by_cases ei : i = k
  ·by_cases ej : j = k
   ·omega
   ·rw [if_pos ei, if_neg ej] at e
    exact absurd e.symm (hne j (by omega))
  ·by_cases ej : j = k
   ·rw [if_neg ei, if_pos ej] at e
    exact absurd e (hne i (by omega))
   ·rw [if_neg ei, if_neg ej] at e
    exact hown.inj i j (by omega) (by omega) e
 ·exact (World.ownsRow.lt h1 g hg).2
 ·have hsz := h3.size
  by_cases e : i = k
  ·rw [if_pos e]; have := hr.lt.2; omega
  ·rw [if_neg e]; have := (hown.rows i (by omega)).lt.2; omega
structure MatP (w : World) (B E g n cap k m : Nat) (rb rc : Nat → Nat) (f : Nat → Nat → Int) : Prop where
 outer : RowsAt w B g n cap (rowsOf rb rc k m ++ List.replicate (n - k) (.slice none 0 0))
 rows : ∀ i, i < k → RowAt w B (rb i) m (rc i) (lst m (f i))
 inj : ∀ i j, i < k → j < k → rb i = rb j → i = j
 top : g < E ∧ ∀ i, i < k → rb i < E
theorem GrowT.congr {w : World} {B E : Nat} {v : Value} {k m : Nat} {rb rc : Nat → Nat} {f f' : Nat → Nat → Int} (h : GrowT w B E v k m rb rc f) (hf : ∀ i j, i < k → j < m → f i j = f' i j) : GrowT w B E v k m rb rc f' :=
 ⟨h.outer, fun i hi => by rw [← lst_congr fun j hj => hf i j hi hj]; exact h.rows i hi, h.inj, h.top⟩
def RetM (n m : Nat) (f : Nat → Nat → Int) (w : World) (e : Ending) (w' : World) : Prop :=
 ∃ g cap rb rc, e = .returned (.slice (some ⟨g, 0, none⟩) n cap) ∧ MatT w' w.heap.size w'.heap.size g n cap m rb rc f ∧ Below w.heap.size w w'
theorem wrap64_id {a : Int} (h1 : -9223372036854775808 ≤ a) (h2 : a ≤ 9223372036854775807) : wrap64 a = a := by
 unfold wrap64; omega
end Go.Proofs.YtfhhofecfllbfaaGreat

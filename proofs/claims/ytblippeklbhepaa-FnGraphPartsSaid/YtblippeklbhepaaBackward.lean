/- slices.Backward on []int as an iterator: the pairs (index, element) from the end on. The round may not write into the slice or into the variable that holds it. -/
import Derived.Test.YtblippeklbhepaaLib
import Derived.RangeFuncNested
import Derived.RangeFuncBound
import Derived.RangeFuncCalls
import Derived.RangeFuncLeaves
import Derived.RangeFuncFrom
import Derived.Shelf.Abstract
import Derived.OwnWalkIn
import Derived.TacticsInMore
import Derived.LoopNIn
import Derived.LoopIn
namespace Go.Proofs.Ytblippeklbhepaa
open Go.RowKit Go.Shelf

attribute [local go_sem] Oper.semAt_some

/-- The pair of round j. -/
def bkAt (xs : List Int) (j : Nat) : Int × Int := (((xs.length - 1 - j : Nat) : Int), nth xs (xs.length - 1 - j))
/-- What has come after k rounds. -/
def bkTo (xs : List Int) (k : Nat) : List (Int × Int) := (List.range k).map (bkAt xs)
theorem bkTo_succ (xs : List Int) (k : Nat) : bkTo xs (k + 1) = bkTo xs k ++ [bkAt xs k] := by simp [bkTo, List.range_succ]
theorem bkTo_length (xs : List Int) (k : Nat) : (bkTo xs k).length = k := by simp [bkTo]

/-- What a round keeps: all below n₀, and the variable that holds the slice. -/
def bkKeeps (n₀ Bs : Nat) (A B : World) : Prop := Below n₀ A B ∧ B.heap[Bs]? = A.heap[Bs]?
theorem bkKeeps_t {n₀ Bs : Nat} {A B C : World} (h : bkKeeps n₀ Bs A B) (k : bkKeeps n₀ Bs B C) : bkKeeps n₀ Bs A C := ⟨h.1.trans k.1, k.2.trans h.2⟩
theorem bkKeeps_b {n₀ Bs : Nat} {w : World} (hn : n₀ ≤ w.heap.size) (hBs : Bs < w.heap.size) (W : World) (l : Nat) (o o' : Obj) (hl : w.heap.size ≤ l) (h : W.heap[l]? = some o) (h1 : o.isCells = false) (h2 : o.isWalk = false) : bkKeeps n₀ Bs W (W.putObj l o') :=
  ⟨belowK_b hn W l o o' hl h h1 h2, World.putObj_heap_other (by omega)⟩

set_option maxRecDepth 100000 in
set_option maxHeartbeats 2000000 in
theorem backward1_in (n : Nat) (hn : 1 ≤ n) (l Bs n₀ b off L cap : Nat) (xs : List Int) (hL : xs.length = L) (hpos : 0 < L) (hm : L ≤ 1099511627776) (hb : b < n₀) (J Jx : List (Int × Int) → World → Prop)
    (hY : ∀ pre x W, J pre W → pre.length < L → YieldAt Fence.wide (n - 1) Try.prog l #[.int .i64 x.1, .int .i64 x.2] W fun e W' =>
      (e = .returned (.bool true) ∧ J (pre ++ [x]) W' ∧ bkKeeps n₀ Bs W W') ∨ (e = .returned (.bool false) ∧ Jx (pre ++ [x]) W'))
    (W : World) (hBs : W.cell? ⟨Bs, 0, none⟩ = some (.slice (some ⟨b, off, none⟩) L cap)) (hc : ∀ j, j < L → W.cell? ⟨b, off + j, none⟩ = some (.int .i64 (nth xs j))) (h0 : J [] W) :
    CallsIn Fence.wide n Try.prog 126 #[.func (.yield l) #[] #[], .pointer (some ⟨Bs, 0, none⟩)] W fun e W' => (∃ v, e = .returned v) ∧
      ((∃ ys, ys = bkTo xs L ∧ J ys W') ∨ (∃ pre, True ∧ Jx pre W')) := by
  have hc' := Lib.hid hc
  have hY' := Lib.hid hY
  have hBs' := Lib.hid hBs
  have hL' := Lib.hid hL
  clear hc hY hL
  refine callsIn_of_wp Try.func126 rfl trivial ?_ rfl
  simp only [Try.ntmps126, List.size_toArray, List.length_cons, List.length_nil, Nat.reduceAdd, Nat.reduceSub, Array.replicate_succ, Array.replicate_zero, List.push_toArray, List.append_toArray, List.nil_append, List.cons_append]
  gi_wp2
  gi_loopw [3] (fun i wr => ∃ k : Nat, k ≤ L ∧ i = .int .i64 ((L : Int) - 1 - k) ∧ J (bkTo xs k) wr ∧ bkKeeps n₀ Bs W wr) (fun i _ => (intOf i + 1).toNat)
  case atStart => exact ⟨0, Nat.zero_le _, by simp, h0, Below.refl _ _, rfl⟩
  case round =>
    obtain ⟨k, hk, rfl, hJs, hkp⟩ := hrel
    clear hBs
    by_cases hlt : k < L
    · obtain ⟨fn, tmps, assign, body, hy, hR⟩ := hY'.out _ (bkAt xs k) wr hJs (by rw [bkTo_length]; exact hlt)
      dsimp only [bkAt] at hy
      rw [hL'.out] at hy
      have e0 : ((L - 1 - k : Nat) : Int) = (L : Int) - 1 - k := by omega
      rw [e0] at hy
      have hcell : wr.cell? ⟨b, off + (L - 1 - k), none⟩ = some (.int .i64 (nth xs (L - 1 - k))) := (hkp.1.cell (p := ⟨b, off + (L - 1 - k), none⟩) hb).trans (hc'.out _ (by omega))
      have hbs : wr.cell? ⟨Bs, 0, none⟩ = some (.slice (some ⟨b, off, none⟩) L cap) := (World.cell?_of_block (a := ⟨Bs, 0, none⟩) hkp.2).trans hBs'.out
      have i1 : ((L : Int) - 1 - k).toNat = L - 1 - k := by omega
      have i2 : (0 : Int) ≤ (L : Int) - 1 - k := by omega
      clear e0
      gi_wp2
      refine hR.mono ?_
      rintro e W3 (⟨rfl, hJ3, hk3⟩ | ⟨rfl, hJx3⟩)
      · gi_wp2
        go_roundw
        case rel => exact ⟨k + 1, by omega, by go_num, by rw [bkTo_succ]; exact hJ3, bkKeeps_t hkp hk3⟩
        case measure => simp [intOf]; omega
      · gi_wp2
        refine bodyPost_ret (results_none rfl _ _ _) rfl ?_
        exact ⟨⟨_, rfl⟩, .inr ⟨_, trivial, hJx3⟩⟩
    · obtain rfl : k = L := by omega
      gi_wp2
      go_end0
      exact ⟨⟨_, rfl⟩, .inl ⟨_, rfl, hJs⟩⟩

set_option maxRecDepth 100000 in
set_option maxHeartbeats 1000000 in
/-- .. at a slice of no elements: no round. -/
theorem backward1_nil (n : Nat) (l Bs : Nat) (ao : Option Addr) (cap : Nat) (J : List (Int × Int) → World → Prop) (W : World) (hBs : W.cell? ⟨Bs, 0, none⟩ = some (.slice ao 0 cap)) (h0 : J [] W) :
    CallsIn Fence.wide n Try.prog 126 #[.func (.yield l) #[] #[], .pointer (some ⟨Bs, 0, none⟩)] W fun e W' => (∃ v, e = .returned v) ∧ J [] W' := by
  refine callsIn_of_wp Try.func126 rfl trivial ?_ rfl
  simp only [Try.ntmps126, List.size_toArray, List.length_cons, List.length_nil, Nat.reduceAdd, Nat.reduceSub, Array.replicate_succ, Array.replicate_zero, List.push_toArray, List.append_toArray, List.nil_append, List.cons_append]
  gi_wp2
  gi_loopw [3] (fun i wr => i = .int .i64 (-1) ∧ J [] wr) (fun _ _ => 0)
  case atStart => exact ⟨rfl, h0⟩
  case round =>
    obtain ⟨rfl, hJs⟩ := hrel
    gi_wp2
    go_end0
    exact ⟨⟨_, rfl⟩, hJs⟩

set_option maxHeartbeats 1000000 in
/-- slices.Backward(s): the slice value is boxed; the function value captures the box. -/
theorem backward_any (v : Value) (xs : List Int) (w : World) (hv : IntsV w v xs) :
    Calls Try.prog 99 #[v] w fun e w' => e = .returned (.func (.func 126) #[] #[.pointer (some ⟨w.heap.size, 0, none⟩)]) ∧ w.alloc (.cells #[v] 39) = w' := by
  obtain ⟨ao, cap, rfl, -, -, -⟩ := hv
  go_enter Try.func99, Try.ntmps99
  go_wp2
  go_ret
  exact ⟨rfl, rfl⟩

/-- The iterator's contract. -/
theorem backward_stops (n : Nat) (hn : 1 ≤ n) (Bs n₀ : Nat) (v : Value) (xs : List Int) (w : World) (hm : xs.length ≤ 1099511627776) (hBs : Bs < w.heap.size) (hc : w.cell? ⟨Bs, 0, none⟩ = some v)
    (hv : IntsV w v xs) (hn₀ : ∀ i, i < xs.length → ∀ b off cap, v = .slice (some ⟨b, off, none⟩) xs.length cap → b < n₀) (hn₁ : n₀ ≤ w.heap.size) :
    SeqStopsK Fence.wide n Try.prog 126 #[.pointer (some ⟨Bs, 0, none⟩)] (fun x : Int × Int => #[.int .i64 x.1, .int .i64 x.2]) (bkKeeps n₀ Bs) (fun ys => ys = bkTo xs xs.length) (fun _ => True) xs.length w := fun l J Jx W hW _ _ hY h0 => by
  have hc' := (hW.cell (p := ⟨Bs, 0, none⟩) hBs).trans hc
  obtain ⟨ao, cap, rfl, -, -, H⟩ := hv
  rcases Nat.eq_zero_or_pos xs.length with h | h
  · obtain rfl := List.eq_nil_of_length_eq_zero h
    exact (backward1_nil n l Bs ao cap J W hc' h0).mono fun e W' ⟨he, hj⟩ => ⟨he, .inl ⟨_, rfl, hj⟩⟩
  · obtain ⟨b, off, rfl, _⟩ := H 0 h
    have hb := hn₀ 0 h b off cap rfl
    refine backward1_in n hn l Bs n₀ b off xs.length cap xs rfl h hm hb J Jx hY W hc' (fun j hj => ?_) h0
    obtain ⟨b', off', e, hcj⟩ := H j hj
    cases e
    exact (hW.cell (p := ⟨b, off + j, none⟩) (by show b < w.heap.size; omega)).trans hcj

end Go.Proofs.Ytblippeklbhepaa

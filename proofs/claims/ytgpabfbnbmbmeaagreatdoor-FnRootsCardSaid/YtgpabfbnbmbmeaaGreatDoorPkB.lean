/- Several texts in one: Backward Trim Value Root Bound Desc RatIs SignAt. No conditions but those that each theorem states. -/
import Derived.Test.YtgpabfbnbmbmeaaGreatDoorPkA
import Derived.RangeFuncNested
import Derived.RangeFuncBound
import Derived.RangeFuncCalls
import Derived.RangeFuncLeaves
import Derived.RangeFuncFrom
import Derived.Shelf.Abstract
import Derived.OwnWalkIn
import Derived.TacticsInMore
import Derived.LoopNIn
import Derived.LoopIn

namespace Go.Proofs.YtgpabfbnbmbmeaaGreatDoor
open Go.RowKit Go.Shelf

attribute [local go_sem] Oper.semAt_some

/-- The pair of round j. -/
def bkAt (xs : List Int) (j : Nat) : Int × Int := (((xs.length - 1 - j : Nat) : Int), nth xs (xs.length - 1 - j))
/-- What has come after k rounds. -/
def bkTo (xs : List Int) (k : Nat) : List (Int × Int) := (List.range k).map (bkAt xs)
theorem bkTo_succ (xs : List Int) (k : Nat) : bkTo xs (k + 1) = bkTo xs k ++ [bkAt xs k] := by simp [bkTo, List.range_succ]
theorem bkTo_length (xs : List Int) (k : Nat) : (bkTo xs k).length = k := by simp [bkTo]

/-- What a round keeps: all below n₀, and the variable that holds the slice. -/
def bkKeeps (n₀ Bs : Nat) (A B : World) : Prop := Below n₀ A B ∧ B.heap[Bs]? = A.heap[Bs]?
theorem bkKeeps_t {n₀ Bs : Nat} {A B C : World} (h : bkKeeps n₀ Bs A B) (k : bkKeeps n₀ Bs B C) : bkKeeps n₀ Bs A C := ⟨h.1.trans k.1, k.2.trans h.2⟩
theorem bkKeeps_b {n₀ Bs : Nat} {w : World} (hn : n₀ ≤ w.heap.size) (hBs : Bs < w.heap.size) (W : World) (l : Nat) (o o' : Obj) (hl : w.heap.size ≤ l) (h : W.heap[l]? = some o) (h1 : o.isCells = false) (h2 : o.isWalk = false) : bkKeeps n₀ Bs W (W.putObj l o') :=
  ⟨belowK_b hn W l o o' hl h h1 h2, World.putObj_heap_other (by omega)⟩

set_option maxRecDepth 100000 in
set_option maxHeartbeats 2000000 in
theorem backward1_in (n : Nat) (hn : 1 ≤ n) (l Bs n₀ b off L cap : Nat) (xs : List Int) (hL : xs.length = L) (hpos : 0 < L) (hm : L ≤ 1099511627776) (hb : b < n₀) (J Jx : List (Int × Int) → World → Prop)
    (hY : ∀ pre x W, J pre W → pre.length < L → YieldAt Fence.wide (n - 1) Tryz.prog l #[.int .i64 x.1, .int .i64 x.2] W fun e W' =>
      (e = .returned (.bool true) ∧ J (pre ++ [x]) W' ∧ bkKeeps n₀ Bs W W') ∨ (e = .returned (.bool false) ∧ Jx (pre ++ [x]) W'))
    (W : World) (hBs : W.cell? ⟨Bs, 0, none⟩ = some (.slice (some ⟨b, off, none⟩) L cap)) (hc : ∀ j, j < L → W.cell? ⟨b, off + j, none⟩ = some (.int .i64 (nth xs j))) (h0 : J [] W) :
    CallsIn Fence.wide n Tryz.prog 69 #[.func (.yield l) #[] #[], .pointer (some ⟨Bs, 0, none⟩)] W fun e W' => (∃ v, e = .returned v) ∧
      ((∃ ys, ys = bkTo xs L ∧ J ys W') ∨ (∃ pre, True ∧ Jx pre W')) := by
  have hc' := Lib.hid hc
  have hY' := Lib.hid hY
  have hBs' := Lib.hid hBs
  have hL' := Lib.hid hL
  clear hc hY hL
  refine callsIn_of_wp Tryz.func69 rfl trivial ?_ rfl
  simp only [Tryz.ntmps69, List.size_toArray, List.length_cons, List.length_nil, Nat.reduceAdd, Nat.reduceSub, Array.replicate_succ, Array.replicate_zero, List.push_toArray, List.append_toArray, List.nil_append, List.cons_append]
  gi_wp2
  gi_loopw [3] (fun i wr => ∃ k : Nat, k ≤ L ∧ i = .int .i64 ((L : Int) - 1 - k) ∧ J (bkTo xs k) wr ∧ bkKeeps n₀ Bs W wr) (fun i _ => (intOf i + 1).toNat)
  case atStart => exact ⟨0, Nat.zero_le _, by simp, h0, Below.refl _ _, rfl⟩
  case round =>
    obtain ⟨k, hk, rfl, hJs, hkp⟩ := hrel
    clear hBs
    by_cases hlt : k < L
    · obtain ⟨fn, tmps, assign, body, hy, hR⟩ := hY'.out _ (bkAt xs k) wr hJs (by rw [bkTo_length]; exact hlt)
      dsimp only [bkAt] at hy
      rw [hL'.out] at hy
      have e0 : ((L - 1 - k : Nat) : Int) = (L : Int) - 1 - k := by omega
      rw [e0] at hy
      have hcell : wr.cell? ⟨b, off + (L - 1 - k), none⟩ = some (.int .i64 (nth xs (L - 1 - k))) := (hkp.1.cell (p := ⟨b, off + (L - 1 - k), none⟩) hb).trans (hc'.out _ (by omega))
      have hbs : wr.cell? ⟨Bs, 0, none⟩ = some (.slice (some ⟨b, off, none⟩) L cap) := (World.cell?_of_block (a := ⟨Bs, 0, none⟩) hkp.2).trans hBs'.out
      have i1 : ((L : Int) - 1 - k).toNat = L - 1 - k := by omega
      have i2 : (0 : Int) ≤ (L : Int) - 1 - k := by omega
      clear e0
      gi_wp2
      refine hR.mono ?_
      rintro e W3 (⟨rfl, hJ3, hk3⟩ | ⟨rfl, hJx3⟩)
      · gi_wp2
        go_roundw
        case rel => exact ⟨k + 1, by omega, by go_num, by rw [bkTo_succ]; exact hJ3, bkKeeps_t hkp hk3⟩
        case measure => simp [intOf]; omega
      · gi_wp2
        refine bodyPost_ret (results_none rfl _ _ _) rfl ?_
        exact ⟨⟨_, rfl⟩, .inr ⟨_, trivial, hJx3⟩⟩
    · obtain rfl : k = L := by omega
      gi_wp2
      go_end0
      exact ⟨⟨_, rfl⟩, .inl ⟨_, rfl, hJs⟩⟩

set_option maxRecDepth 100000 in
set_option maxHeartbeats 1000000 in
/-- .. at a slice of no elements: no round. -/
theorem backward1_nil (n : Nat) (l Bs : Nat) (ao : Option Addr) (cap : Nat) (J : List (Int × Int) → World → Prop) (W : World) (hBs : W.cell? ⟨Bs, 0, none⟩ = some (.slice ao 0 cap)) (h0 : J [] W) :
    CallsIn Fence.wide n Tryz.prog 69 #[.func (.yield l) #[] #[], .pointer (some ⟨Bs, 0, none⟩)] W fun e W' => (∃ v, e = .returned v) ∧ J [] W' := by
  refine callsIn_of_wp Tryz.func69 rfl trivial ?_ rfl
  simp only [Tryz.ntmps69, List.size_toArray, List.length_cons, List.length_nil, Nat.reduceAdd, Nat.reduceSub, Array.replicate_succ, Array.replicate_zero, List.push_toArray, List.append_toArray, List.nil_append, List.cons_append]
  gi_wp2
  gi_loopw [3] (fun i wr => i = .int .i64 (-1) ∧ J [] wr) (fun _ _ => 0)
  case atStart => exact ⟨rfl, h0⟩
  case round =>
    obtain ⟨rfl, hJs⟩ := hrel
    gi_wp2
    go_end0
    exact ⟨⟨_, rfl⟩, hJs⟩

set_option maxHeartbeats 1000000 in
/-- slices.Backward(s): the slice value is boxed; the function value captures the box. -/
theorem backward_any (v : Value) (xs : List Int) (w : World) (hv : IntsV w v xs) :
    Calls Tryz.prog 53 #[v] w fun e w' => e = .returned (.func (.func 69) #[] #[.pointer (some ⟨w.heap.size, 0, none⟩)]) ∧ w.alloc (.cells #[v] 23) = w' := by
  obtain ⟨ao, cap, rfl, -, -, -⟩ := hv
  go_enter Tryz.func53, Tryz.ntmps53
  go_wp2
  go_ret
  exact ⟨rfl, rfl⟩

/-- The iterator's contract. -/
theorem backward_stops (n : Nat) (hn : 1 ≤ n) (Bs n₀ : Nat) (v : Value) (xs : List Int) (w : World) (hm : xs.length ≤ 1099511627776) (hBs : Bs < w.heap.size) (hc : w.cell? ⟨Bs, 0, none⟩ = some v)
    (hv : IntsV w v xs) (hn₀ : ∀ i, i < xs.length → ∀ b off cap, v = .slice (some ⟨b, off, none⟩) xs.length cap → b < n₀) (hn₁ : n₀ ≤ w.heap.size) :
    SeqStopsK Fence.wide n Tryz.prog 69 #[.pointer (some ⟨Bs, 0, none⟩)] (fun x : Int × Int => #[.int .i64 x.1, .int .i64 x.2]) (bkKeeps n₀ Bs) (fun ys => ys = bkTo xs xs.length) (fun _ => True) xs.length w := fun l J Jx W hW _ _ hY h0 => by
  have hc' := (hW.cell (p := ⟨Bs, 0, none⟩) hBs).trans hc
  obtain ⟨ao, cap, rfl, -, -, H⟩ := hv
  rcases Nat.eq_zero_or_pos xs.length with h | h
  · obtain rfl := List.eq_nil_of_length_eq_zero h
    exact (backward1_nil n l Bs ao cap J W hc' h0).mono fun e W' ⟨he, hj⟩ => ⟨he, .inl ⟨_, rfl, hj⟩⟩
  · obtain ⟨b, off, rfl, _⟩ := H 0 h
    have hb := hn₀ 0 h b off cap rfl
    refine backward1_in n hn l Bs n₀ b off xs.length cap xs rfl h hm hb J Jx hY W hc' (fun j hj => ?_) h0
    obtain ⟨b', off', e, hcj⟩ := H j hj
    cases e
    exact (hW.cell (p := ⟨b, off + j, none⟩) (by show b < w.heap.size; omega)).trans hcj

end Go.Proofs.YtgpabfbnbmbmeaaGreatDoor

namespace Go.Proofs.YtgpabfbnbmbmeaaGreatDoor
open Go.RowKit

theorem l1Own_any (v : Value) (xs : List Int) (w : World) (hv : IntsV w v xs) (hm : xs.length ≤ 1099511627776) :
    Calls Tryz.prog 75 #[v] w (RetO Own xs w) := by
  have hB1 := (Below.refl w.heap.size w).alloc (Nat.le_refl _) (.cells #[] 3)
  have hv1 := hv.below hB1
  have hg := Grow.empty w (Nat.le_refl w.heap.size)
  go_enter Tryz.func75, Tryz.ntmps75
  go_wp2_with (at_builtin; refine wpList_append_ints rfl _ _ rfl w.heap.size _ v [] xs rfl rfl hg hv1 (by simp; omega) (by simp) ?_)
  intro v' w' hg' hgrow
  go_wp2
  go_ret
  exact ⟨_, rfl, hg'.own, hg.belowB hB1 (Nat.le_refl _) (by simp) hgrow⟩


/-- The length without the zeros at the end, of the first k. -/
def trimN (xs : List Int) : Nat → Nat
  | 0 => 0
  | k + 1 => if nth xs k = 0 then trimN xs k else k + 1
def trimZ (xs : List Int) : List Int := xs.take (trimN xs xs.length)
theorem trimN_le (xs : List Int) : ∀ k, trimN xs k ≤ k
  | 0 => Nat.le_refl _
  | k + 1 => by
    unfold trimN
    split
    · exact Nat.le_succ_of_le (trimN_le xs k)
    · exact Nat.le_refl _
theorem trimZ_len (xs : List Int) : (trimZ xs).length ≤ xs.length := by
  unfold trimZ; rw [List.length_take]; omega

/-- The first k elements, read through the same address. -/
theorem IntsV.take {w : World} {ao : Option Addr} {n cap : Nat} {xs : List Int} (h : IntsV w (.slice ao n cap) xs) {k : Nat} (hk : k ≤ n) : IntsV w (.slice ao k cap) (xs.take k) := by
  obtain ⟨ao', cap', e, ⟨h1, h2⟩, h3, H⟩ := h
  obtain ⟨rfl, rfl, rfl⟩ := Value.slice.inj e
  have hl : (xs.take k).length = k := by rw [List.length_take]; omega
  refine ⟨ao, cap, by rw [hl], ⟨by omega, h2⟩, h3, fun i hi => ?_⟩
  obtain ⟨b, off, e, hc⟩ := H i (by omega)
  refine ⟨b, off, e, ?_⟩
  rw [hc]
  rw [nth_eq hi, nth_eq (by omega), List.getElem_take]

set_option maxHeartbeats 400000 in
theorem poTrim_any (v : Value) (xs : List Int) (w : World) (hv : IntsV w v xs) (hm : xs.length ≤ 1099511627776) :
    Calls Tryz.prog 65 #[v] w (RetO Own (trimZ xs) w) := by
  have hv' := Lib.hid hv
  obtain ⟨ao, cap, rfl, ⟨hcap, -⟩, hcm, H⟩ := hv
  obtain ⟨n, hn⟩ : ∃ n, xs.length = n := ⟨_, rfl⟩
  rw [hn] at hm hv' hcap H ⊢
  have hn' := Lib.hid hn
  have H' := Lib.hid H
  clear hn H
  go_enter Tryz.func65, Tryz.ntmps65
  go_wp2
  go_loop [0] (fun p => ∃ k : Nat, k ≤ n ∧ p = .slice ao k cap ∧ trimN xs k = trimN xs n) (fun p => match p with | .slice _ k _ => k | _ => 0)
  case atStart => exact ⟨n, Nat.le_refl _, rfl, rfl⟩
  case round =>
    obtain ⟨k, hk, rfl, ht⟩ := hrel
    have ht' := Lib.hid ht
    clear ht
    by_cases h0 : 0 < k
    · obtain ⟨j, rfl⟩ : ∃ j, k = j + 1 := ⟨k - 1, by omega⟩
      obtain ⟨b, off, rfl, hc⟩ := H'.out j (by omega)
      by_cases hz : nth xs j = 0
      · rw [hz] at hc
        have hz' := Lib.hid hz
        clear hz
        go_wp2
        go_round
        case rel => exact ⟨j, by omega, rfl, by rw [← ht'.out, trimN, if_pos hz'.out]⟩
        case measure => simp
      · have hz' := Lib.hid hz
        have hx : (nth xs j == 0) = false := by rw [beq_eq_false_iff_ne]; exact hz
        clear hz
        have hto := trimN_le xs n
        have hown := l1Own_any _ _ w (hv'.out.take hk) (by rw [List.length_take]; omega)
        have hown' := Lib.hid hown
        clear hown
        go_wp2_with fail
        refine hown'.out.mono ?_
        rintro e w1 ⟨v1, rfl, ho1, hB1⟩
        go_wp2
        go_ret
        refine ⟨_, rfl, ?_, hB1⟩
        have : trimN xs n = j + 1 := by rw [← ht'.out, trimN, if_neg hz'.out]
        rw [trimZ, hn'.out, this]; exact ho1
    · obtain rfl : k = 0 := by omega
      have hown := l1Own_any _ _ w (hv'.out.take hk) (by rw [List.length_take]; omega)
      have hown' := Lib.hid hown
      clear hown
      go_wp2_with fail
      refine hown'.out.mono ?_
      rintro e w1 ⟨v1, rfl, ho1, hB1⟩
      go_wp2
      go_ret
      refine ⟨_, rfl, ?_, hB1⟩
      rw [trimZ, hn'.out, ← ht'.out]; exact ho1

/-- What poIf and polynomial return: the list without its zeros at the end, if it is a polynomial. -/
def ifPoly (xs : List Int) : List Int × Bool := if polyB (trimZ xs) = true then (trimZ xs, true) else ([], false)
theorem ifPoly_no {xs : List Int} (h : polyB (trimZ xs) = false) : ifPoly xs = ([], false) := by simp [ifPoly, h]
theorem ifPoly_yes {xs : List Int} (h : polyB (trimZ xs) = true) : ifPoly xs = (trimZ xs, true) := by simp [ifPoly, h]
theorem polyB_le9 {xs : List Int} (h : polyB xs = true) : xs.length ≤ 9 := by
  rcases Nat.lt_or_ge 9 xs.length with h1 | h1
  · rw [polyB_len h1] at h; cases h
  · exact h1
theorem ifPoly_len (xs : List Int) : (ifPoly xs).1.length ≤ 9 := by
  cases h : polyB (trimZ xs)
  · rw [ifPoly_no h]; simp
  · rw [ifPoly_yes h]; exact polyB_le9 h



end Go.Proofs.YtgpabfbnbmbmeaaGreatDoor

namespace Go.Proofs.YtgpabfbnbmbmeaaGreatDoor
open Go.RowKit

/-- The value of the coefficients at x. -/
def pv (x : Int) : List Int → Int
  | [] => 0
  | n :: xs => pv x xs * x + n
theorem pv_snoc (x : Int) (xs : List Int) (n : Int) : pv x (xs ++ [n]) = pv x xs + n * x ^ xs.length := by
  induction xs with
  | nil => simp [pv]
  | cons a xs ih =>
    simp only [List.cons_append, pv, ih, List.length_cons, Int.pow_succ]
    rw [Int.add_mul, Int.mul_assoc]; omega
theorem pv_take (x : Int) {xs : List Int} {k : Nat} (h : k < xs.length) : pv x (xs.take (k + 1)) = pv x (xs.take k) + nth xs k * x ^ k := by
  rw [take_nth h, pv_snoc, List.length_take, Nat.min_eq_left (by omega)]
theorem pv_drop (x : Int) {xs : List Int} {k : Nat} (h : k < xs.length) : pv x (xs.drop k) = pv x (xs.drop (k + 1)) * x + nth xs k := by
  rw [List.drop_eq_getElem_cons h, pv, nth_eq h]

/-- What both functions return. -/
def PolyValue_v (xs : List Int) (x : Int) : Int × Bool := if (polyB xs && inB x (-9) 9) = true then (wrap64 (pv x xs), true) else (0, false)
theorem PolyValue_no1 {xs : List Int} {x : Int} (h : polyB xs = false) : PolyValue_v xs x = (0, false) := by simp [PolyValue_v, h]
theorem PolyValue_no2 {xs : List Int} {x : Int} (h : inB x (-9) 9 = false) : PolyValue_v xs x = (0, false) := by simp [PolyValue_v, h]
theorem PolyValue_yes {xs : List Int} {x : Int} (h1 : polyB xs = true) (h2 : inB x (-9) 9 = true) : PolyValue_v xs x = (wrap64 (pv x xs), true) := by simp [PolyValue_v, h1, h2]

/-- After k terms: the sum, the power. -/
def VInv (xs : List Int) (x : Int) (k : Nat) (s p : Int) : Prop := s = wrap64 (pv x (xs.take k)) ∧ p = wrap64 (x ^ k)
theorem VInv.start (xs : List Int) (x : Int) : VInv xs x 0 0 1 := ⟨by rw [List.take_zero, pv]; unfold wrap64; omega, by rw [Int.pow_zero]; unfold wrap64; omega⟩
theorem VInv.step {xs : List Int} {x : Int} {k : Nat} {s p : Int} (h : VInv xs x k s p) (hk : k < xs.length) : VInv xs x (k + 1) (wrap64 (s + wrap64 (nth xs k * p))) (wrap64 (p * x)) := by
  refine ⟨?_, ?_⟩
  · rw [h.1, h.2, wrap64_mul', wrap64_add', wrap64_add, pv_take x hk]
  · rw [h.2, wrap64_mul, Int.pow_succ]


/-- Horner's scheme over what has come. -/
def hornW (x : Int) (l : List (Int × Int)) : Int := l.foldl (fun s p => wrap64 (wrap64 (s * x) + p.2)) 0
theorem hornW_snoc (x : Int) (l : List (Int × Int)) (p : Int × Int) : hornW x (l ++ [p]) = wrap64 (wrap64 (hornW x l * x) + p.2) := by simp [hornW]
theorem hornW_to (x : Int) (xs : List Int) : ∀ k, k ≤ xs.length → hornW x (bkTo xs k) = wrap64 (pv x (xs.drop (xs.length - k)))
  | 0, _ => by rw [Nat.sub_zero, List.drop_length]; simp [bkTo, hornW, pv, wrap64]
  | k + 1, h => by
    rw [bkTo_succ, hornW_snoc, hornW_to x xs k (by omega), bkAt]
    rw [wrap64_mul, wrap64_add, pv_drop x (show xs.length - (k + 1) < xs.length by omega), show xs.length - (k + 1) + 1 = xs.length - k by omega, show xs.length - 1 - k = xs.length - (k + 1) by omega]
theorem hornW_all (x : Int) (xs : List Int) : hornW x (bkTo xs xs.length) = wrap64 (pv x xs) := by
  rw [hornW_to x xs _ (Nat.le_refl _), Nat.sub_self, List.drop_zero]

attribute [local go_sem] Oper.semAt_some in
set_option maxRecDepth 100000 in
set_option maxHeartbeats 2000000 in
theorem implPolyValue_yes (v : Value) (xs : List Int) (x : Int) (w : World) (hv : IntsV w v xs) (h1 : polyB xs = true) (h2 : inB x (-9) 9 = true) :
    Calls Tryz.prog 21 #[v, .int .i64 x] w (Ret (.tuple #[.int .i64 (wrap64 (pv x xs)), .bool true]) w) := by
  have hl9 := polyB_le9 h1
  have c1 := fun w' hB => isPolynomial_ret v xs w' (hv.below hB) (by omega)
  rw [h1] at c1
  have c1' := Lib.hid c1
  have h2' := Lib.hid h2
  have hv' := Lib.hid hv
  clear c1 h1 h2 hv
  have hB0 : Below w.heap.size w (w.alloc (.cells #[.int .i64 x] 3)) := (Below.refl _ _).alloc (Nat.le_refl _) _
  have hx0 : (w.alloc (.cells #[.int .i64 x] 3)).cell? ⟨w.heap.size, 0, none⟩ = some (.int .i64 x) := by rw [World.cell?_alloc_at _ _ _ _ rfl]; rfl
  refine (callsIn_wide (n := 8)).1 ?_
  refine callsIn_of_wp_marks Tryz.func21 rfl trivial ?_ rfl
  simp only [Tryz.ntmps21, List.size_toArray, List.length_cons, List.length_nil, Nat.reduceAdd, Nat.reduceSub, Array.replicate_succ, Array.replicate_zero, List.push_toArray, List.append_toArray, List.nil_append, List.cons_append]
  gi_wp2_with fail
  refine ⟨trivial, ((callsIn_wide (n := 7)).2 (c1'.out _ hB0)).mono ?_⟩
  rintro e w1 ⟨rfl, hB1⟩
  have hx1 : w1.cell? ⟨w.heap.size, 0, none⟩ = some (.int .i64 x) := (hB1.cell (p := ⟨w.heap.size, 0, none⟩) (by simp)).trans hx0
  have hs1 : w.heap.size + 1 ≤ w1.heap.size := by have := hB1.size; simp at this; omega
  have hB01 := hB0.trans (hB1.mono (by simp))
  clear hB1 hx0 c1'
  gi_wp2_with fail
  refine ⟨trivial, ((callsIn_wide (n := 7)).2 (within_any _ _ _ _)).mono ?_⟩
  rintro e w_ ⟨rfl, rfl⟩
  rw [h2'.out]
  gi_wp2_with fail
  have hB02 : Below w.heap.size w (w1.alloc (.cells #[.int .i64 0] 3)) := hB01.alloc (by omega) _
  refine ⟨trivial, ((callsIn_wide (n := 7)).2 (backward_any v xs _ (hv'.out.below hB02))).mono ?_⟩
  rintro e w3 ⟨rfl, rfl⟩
  gi_wp2_with fail
  obtain ⟨w3, hw3⟩ : ∃ W, (w1.alloc (.cells #[.int .i64 0] 3)).alloc (.cells #[v] 23) = W := ⟨_, rfl⟩
  have hs3 : w3.heap.size = w1.heap.size + 2 := by rw [← hw3]; simp
  have hbs : w3.cell? ⟨w1.heap.size + 1, 0, none⟩ = some v := by rw [← hw3, World.cell?_alloc_at _ _ _ _ (by simp)]; rfl
  have ho3 : w3.cell? ⟨w1.heap.size, 0, none⟩ = some (.int .i64 0) := by rw [← hw3, World.cell?_alloc_past _ _ _ (by simp), World.cell?_alloc_at _ _ _ _ rfl]; rfl
  have hf3 : w3.frozen? ⟨w1.heap.size, 0, none⟩ = false := by rw [← hw3, World.frozen?_alloc_past _ _ _ (by simp)]; exact World.frozen?_alloc_at _ _ _ _ rfl
  have hB03 : Below w.heap.size w w3 := by rw [← hw3]; exact hB02.alloc (by simp; omega) _
  have hB13 : Below w1.heap.size w1 w3 := by rw [← hw3]; exact ((Below.refl _ _).alloc (Nat.le_refl _) _).alloc (by simp) _
  have hx3 : w3.cell? ⟨w.heap.size, 0, none⟩ = some (.int .i64 x) := (hB13.cell (p := ⟨w.heap.size, 0, none⟩) (by show w.heap.size < w1.heap.size; omega)).trans hx1
  rw [hw3]
  clear hw3 hx1 hB0 hB02 hB13
  have hstop := backward_stops 7 (by omega) (w1.heap.size + 1) w1.heap.size v xs w3 (by omega) (by omega) hbs (hv'.out.below hB03) (fun i hi b off cap e => by
    have h := hv'.out
    obtain ⟨ao, cap', e', -, -, H⟩ := h
    obtain ⟨b', off', e2, hc⟩ := H i hi
    rw [e'] at e
    obtain ⟨h1, _, _⟩ := Value.slice.inj e
    rw [e2] at h1
    cases h1
    have := World.block_lt_of_cell? w _ hc
    simp at this; omega) (by omega)
  refine wpIn_rangeFunc_ownF (n := 8) (w0 := w3) rfl (by omega) (gf := 69) (lb := #[.pointer (some ⟨w1.heap.size + 1, 0, none⟩)]) rfl trivial (enters_of Tryz.func69 (by kernel_rfl) rfl)
    hstop bkKeeps_t (bkKeeps_b (by omega) (by omega)) (Below.refl _ _) (fun _ => rfl)
    (fun pre W => (W.cell? ⟨w1.heap.size, 0, none⟩ = some (.int .i64 (hornW x pre)) ∧ W.frozen? ⟨w1.heap.size, 0, none⟩ = false ∧ W.cell? ⟨w.heap.size, 0, none⟩ = some (.int .i64 x)) ∧ Below w.heap.size w W)
    (fun _ _ _ => False)
    (OwnFrom.and (fun s A B row hs hg hr => ⟨cell_kept hs.1 hg (fun r e => (hr r e).2), (frozen_kept hs.1 hg (fun r e => (hr r e).2)).trans hs.2.1, cell_kept hs.2.2 hg (fun r e => (hr r e).2)⟩) (ownFrom_below (Nat.le_refl _) (by omega)))
    (fun _ _ _ _ _ hs _ _ => hs)
    ⟨⟨ho3, hf3, hx3⟩, hB03⟩
    (fun p => { tmps := #[v, .int .i64 x, undef, .pointer (some ⟨w.heap.size, 0, none⟩), .int .i64 0, .bool false, .pointer (some ⟨w1.heap.size, 0, none⟩), undef, .int .i64 p.2, v, .bool true, .bool false, .bool false, .int .i64 x, .bool true, .bool false, .bool false, v, .func (.func 69) #[] #[.pointer (some ⟨w1.heap.size + 1, 0, none⟩)], .int .i64 p.1, .int .i64 p.2, undef, undef, undef, undef, undef, undef], defers := [] }) ?assign ?body ?done ?stop
  case assign =>
    intro l p W K hK
    gi_wp2
    exact hK
  case body =>
    rintro l pre p W ⟨⟨hc, hf, hxc⟩, hB⟩ _
    have hne : w1.heap.size ≠ w.heap.size := by omega
    have hBs := hB.setCell (p := ⟨w1.heap.size, 0, none⟩) (show w.heap.size ≤ w1.heap.size by omega) (.int .i64 (wrap64 (wrap64 (hornW x pre * x) + p.2)))
    gi_wp2
    refine ⟨KeepsOthers.setCell _ _ _, ⟨(Below.refl _ _).setCell (p := ⟨w1.heap.size, 0, none⟩) (Nat.le_refl _) _, Below.heap_setCell _ _ _ _ (by show w1.heap.size + 1 ≠ w1.heap.size; omega)⟩, ⟨by rw [hornW_snoc]; exact World.cell?_setCell_same' _ _ _ (by rw [hc]; rfl), by rw [World.frozen?_setCell]; exact hf, ?_⟩, hBs⟩
    rw [World.cell?_setCell_other _ _ _ _ (by simp)]; exact hxc
  case done =>
    rintro D ys W hD rfl ⟨⟨hc, hf, hxc⟩, hB⟩ hK
    gi_wp2
    refine ⟨by simp, .inl ⟨_, _, rfl, run_takeDeferred hK, ?_⟩⟩
    refine ⟨_, results_tmp2 rfl _ _ _, ?_⟩
    refine ⟨?_, ?_⟩
    · rw [← hornW_all]; rfl
    · exact hB.trans (belowK_b (w := w) (Nat.le_refl _) W D _ _ (by omega) hK rfl rfl)
  case stop =>
    rintro D c pre W _ _ h _
    exact h.elim

set_option maxHeartbeats 400000 in
theorem implPolyValue_any (v : Value) (xs : List Int) (x : Int) (w : World) (hv : IntsV w v xs) (hm : szIntS xs ≤ 1099511627776) (_hi : I64 x) :
    Calls Tryz.prog 21 #[v, .int .i64 x] w (Ret (.tuple #[.int .i64 (PolyValue_v xs x).1, .bool (PolyValue_v xs x).2]) w) := by
  have hm' : xs.length ≤ 1099511627776 := hm
  clear hm
  have hB0 : Below w.heap.size w (w.alloc (.cells #[.int .i64 x] 3)) := (Below.refl _ _).alloc (Nat.le_refl _) _
  have hx0 : (w.alloc (.cells #[.int .i64 x] 3)).cell? ⟨w.heap.size, 0, none⟩ = some (.int .i64 x) := by rw [World.cell?_alloc_at _ _ _ _ rfl]; rfl
  cases h1 : polyB xs
  · rw [PolyValue_no1 h1]
    have c1 := fun w' hB => isPolynomial_ret v xs w' (hv.below hB) hm'
    rw [h1] at c1
    have c1' := Lib.hid c1
    clear c1 h1
    go_enter Tryz.func21, Tryz.ntmps21
    go_wp2_with fail
    refine (c1'.out _ hB0).mono ?_
    rintro e w1 ⟨rfl, hB1⟩
    have hB01 := hB0.trans (hB1.mono (by simp))
    go_wp2
    go_ret2
    exact ⟨rfl, hB01⟩
  · cases h2 : inB x (-9) 9
    · rw [PolyValue_no2 h2]
      have c1 := fun w' hB => isPolynomial_ret v xs w' (hv.below hB) hm'
      rw [h1] at c1
      have c1' := Lib.hid c1
      have h2' := Lib.hid h2
      clear c1 h1 h2
      go_enter Tryz.func21, Tryz.ntmps21
      go_wp2_with fail
      refine (c1'.out _ hB0).mono ?_
      rintro e w1 ⟨rfl, hB1⟩
      have hx1 : w1.cell? ⟨w.heap.size, 0, none⟩ = some (.int .i64 x) := (hB1.cell (p := ⟨w.heap.size, 0, none⟩) (by simp)).trans hx0
      have hB01 := hB0.trans (hB1.mono (by simp))
      go_wp2_with fail
      refine (within_any _ _ _ _).mono ?_
      rintro e w_ ⟨rfl, rfl⟩
      rw [h2'.out]
      go_wp2
      go_ret2
      exact ⟨rfl, hB01⟩
    · rw [PolyValue_yes h1 h2]
      exact implPolyValue_yes v xs x w hv h1 h2

end Go.Proofs.YtgpabfbnbmbmeaaGreatDoor

namespace Go.Proofs.YtgpabfbnbmbmeaaGreatDoor
open Go.RowKit

/-- The value at n/d, times a power of d. -/
def hv (n d : Int) : List Int → Int
  | [] => 0
  | a :: xs => hv n d xs * n + a * d ^ xs.length
theorem hv_snoc (n d : Int) (xs : List Int) (a : Int) : hv n d (xs ++ [a]) = hv n d xs * d + a * n ^ xs.length := by
  induction xs with
  | nil => simp [hv]
  | cons b xs ih =>
    simp only [List.cons_append, hv, ih, List.length_append, List.length_cons, List.length_nil, Nat.zero_add, Int.pow_succ]
    simp only [Int.add_mul, Int.mul_assoc]
    rw [Int.mul_comm d n]; omega
theorem hv_take (n d : Int) {xs : List Int} {k : Nat} (h : k < xs.length) : hv n d (xs.take (k + 1)) = hv n d (xs.take k) * d + nth xs k * n ^ k := by
  rw [take_nth h, hv_snoc, List.length_take, Nat.min_eq_left (by omega)]
theorem hv_drop (n d : Int) {xs : List Int} {k : Nat} (h : k < xs.length) : hv n d (xs.drop k) = hv n d (xs.drop (k + 1)) * n + nth xs k * d ^ (xs.length - (k + 1)) := by
  rw [List.drop_eq_getElem_cons h, hv, nth_eq h, List.length_drop]

/-- The sign at n/d. -/
def signV (xs : List Int) (n d : Int) : Int := sgn (wrap64 (hv n d xs))
theorem signV_cases (xs : List Int) (n d : Int) : signV xs n d = 1 ∨ signV xs n d = -1 ∨ signV xs n d = 0 := by
  unfold signV sgn
  split
  · exact .inl rfl
  · split
    · exact .inr (.inl rfl)
    · exact .inr (.inr rfl)

/-- After k terms: the sum, the power. -/
def HInv (xs : List Int) (n d : Int) (k : Nat) (s u : Int) : Prop := s = wrap64 (hv n d (xs.take k)) ∧ u = wrap64 (n ^ k)
theorem HInv.start (xs : List Int) (n d : Int) : HInv xs n d 0 0 1 := ⟨by rw [List.take_zero, hv]; unfold wrap64; omega, by rw [Int.pow_zero]; unfold wrap64; omega⟩
theorem HInv.step {xs : List Int} {n d : Int} {k : Nat} {s u : Int} (h : HInv xs n d k s u) (hk : k < xs.length) : HInv xs n d (k + 1) (wrap64 (wrap64 (s * d) + wrap64 (nth xs k * u))) (wrap64 (u * n)) := by
  refine ⟨?_, ?_⟩
  · rw [h.1, h.2, wrap64_mul', wrap64_add', wrap64_mul, wrap64_add, hv_take n d hk]
  · rw [h.2, wrap64_mul, Int.pow_succ]

set_option maxHeartbeats 1000000 in
theorem poSign_any (v : Value) (xs : List Int) (n d : Int) (w : World) (hv1 : IntsV w v xs) (hm : xs.length ≤ 1099511627776) :
    Calls Tryz.prog 34 #[v, .int .i64 n, .int .i64 d] w (Same (.int .i64 (signV xs n d)) w) := by
  have hv' := Lib.hid hv1
  obtain ⟨ao, cap, rfl, -, -, -⟩ := id hv1
  clear hv1
  obtain ⟨l, hl⟩ : ∃ l, xs.length = l := ⟨_, rfl⟩
  rw [hl] at hm hv' ⊢
  have hl' := Lib.hid hl
  clear hl
  go_enter Tryz.func34, Tryz.ntmps34
  go_wp2
  go_loop [7, 8, 13] (fun s p i => ∃ (k : Nat) (s' p' : Int), k ≤ l ∧ i = .int .i64 k ∧ s = .int .i64 s' ∧ p = .int .i64 p' ∧ HInv xs n d k s' p') (fun _ _ i => l - (intOf i).toNat)
  case atStart => exact ⟨0, 0, 1, Nat.zero_le _, rfl, rfl, rfl, HInv.start xs n d⟩
  case round =>
    obtain ⟨k, s, p, hk, rfl, rfl, rfl, hI⟩ := hrel
    by_cases hlt : k < l
    · obtain ⟨ao', cap', e, -, -, H⟩ := hv'.out
      rw [hl'.out] at e H
      obtain ⟨rfl, _, rfl⟩ := Value.slice.inj e
      obtain ⟨b, off, rfl, hcell⟩ := H k hlt
      have hst := hI.step (by rw [hl'.out]; exact hlt)
      clear H e
      generalize nth xs k = c at hcell hst
      go_wp2
      go_round
      case rel => exact ⟨k + 1, _, _, by omega, by go_num, rfl, rfl, hst⟩
      case measure => simp [intOf]; omega
    · have ek : k = l := by omega
      have hs : sgn s = signV xs n d := by
        rw [hI.1, ek, ← hl'.out, List.take_length]; rfl
      have hs' := Lib.hid hs
      clear hs hI
      go_wp2_with fail
      refine (l1Sign_any _ _).mono ?_
      rintro e w_ ⟨rfl, rfl⟩
      go_wp2
      go_ret
      rw [← hs'.out]
      exact ⟨rfl, rfl⟩

/-- One term more from the end: the sum, the power of d. -/
def stepW (n d : Int) (s : Int × Int) (p : Int × Int) : Int × Int := (wrap64 (wrap64 (s.1 * n) + wrap64 (p.2 * s.2)), wrap64 (s.2 * d))
def backW (n d : Int) (l : List (Int × Int)) : Int × Int := l.foldl (stepW n d) (0, 1)
theorem backW_snoc (n d : Int) (l : List (Int × Int)) (p : Int × Int) : backW n d (l ++ [p]) = stepW n d (backW n d l) p := by simp [backW]
theorem backW_to (n d : Int) (xs : List Int) : ∀ k, k ≤ xs.length → backW n d (bkTo xs k) = (wrap64 (hv n d (xs.drop (xs.length - k))), wrap64 (d ^ k))
  | 0, _ => by rw [Nat.sub_zero, List.drop_length]; simp [bkTo, backW, hv, wrap64]
  | k + 1, h => by
    rw [bkTo_succ, backW_snoc, backW_to n d xs k (by omega), bkAt]
    simp only [stepW]
    rw [wrap64_mul, wrap64_mul', wrap64_mul, wrap64_add, wrap64_add', hv_drop n d (show xs.length - (k + 1) < xs.length by omega), show xs.length - (k + 1) + 1 = xs.length - k by omega, show xs.length - 1 - k = xs.length - (k + 1) by omega, show xs.length - (xs.length - k) = k by omega, Int.pow_succ]
theorem backW_all (n d : Int) (xs : List Int) : (backW n d (bkTo xs xs.length)).1 = wrap64 (hv n d xs) := by
  rw [backW_to n d xs _ (Nat.le_refl _), Nat.sub_self, List.drop_zero]

attribute [local go_sem] Oper.semAt_some in
set_option maxRecDepth 100000 in
set_option maxHeartbeats 2000000 in
theorem signAt_any (v : Value) (xs : List Int) (n d : Int) (w : World) (hv1 : IntsV w v xs) (hl9 : xs.length ≤ 1099511627776) :
    Calls Tryz.prog 31 #[v, .int .i64 n, .int .i64 d] w (Ret (.int .i64 (signV xs n d)) w) := by
  have hv' := Lib.hid hv1
  clear hv1
  refine (callsIn_wide (n := 8)).1 ?_
  refine callsIn_of_wp_marks Tryz.func31 rfl trivial ?_ rfl
  simp only [Tryz.ntmps31, List.size_toArray, List.length_cons, List.length_nil, Nat.reduceAdd, Nat.reduceSub, Array.replicate_succ, Array.replicate_zero, List.push_toArray, List.append_toArray, List.nil_append, List.cons_append]
  gi_wp2_with fail
  obtain ⟨N, hN⟩ : ∃ N, w.heap.size = N := ⟨_, rfl⟩
  obtain ⟨w1, hw1⟩ : ∃ W, ((((w.alloc (.cells #[.int .i64 n] 3)).alloc (.cells #[.int .i64 d] 3)).alloc (.cells #[.int .i64 0] 3)).alloc (.cells #[.int .i64 1] 3)) = W := ⟨_, rfl⟩
  have hs1 : w1.heap.size = N + 4 := by rw [← hw1]; simp [hN]
  have hB1 : Below N w w1 := by
    rw [← hw1, ← hN]
    exact ((((Below.refl _ _).alloc (Nat.le_refl _) _).alloc (by simp) _).alloc (by simp; omega) _).alloc (by simp; omega) _
  have hx1 : w1.cell? ⟨N, 0, none⟩ = some (.int .i64 n) := by
    rw [← hw1, World.cell?_alloc_past _ _ _ (by simp; omega), World.cell?_alloc_past _ _ _ (by simp; omega), World.cell?_alloc_past _ _ _ (by simp; omega), World.cell?_alloc_at _ _ _ _ hN.symm]; rfl
  have hd1 : w1.cell? ⟨N + 1, 0, none⟩ = some (.int .i64 d) := by
    rw [← hw1, World.cell?_alloc_past _ _ _ (by simp; omega), World.cell?_alloc_past _ _ _ (by simp; omega), World.cell?_alloc_at _ _ _ _ (by simp [hN])]; rfl
  have ho1 : w1.cell? ⟨N + 1 + 1, 0, none⟩ = some (.int .i64 0) := by
    rw [← hw1, World.cell?_alloc_past _ _ _ (by simp; omega), World.cell?_alloc_at _ _ _ _ (by simp [hN])]; rfl
  have hu1 : w1.cell? ⟨N + 1 + 1 + 1, 0, none⟩ = some (.int .i64 1) := by
    rw [← hw1, World.cell?_alloc_at _ _ _ _ (by simp [hN])]; rfl
  have hf1 : w1.frozen? ⟨N + 1 + 1, 0, none⟩ = false := by
    rw [← hw1, World.frozen?_alloc_past _ _ _ (by simp; omega)]; exact World.frozen?_alloc_at _ _ _ _ (by simp [hN])
  have hg1 : w1.frozen? ⟨N + 1 + 1 + 1, 0, none⟩ = false := by
    rw [← hw1]; exact World.frozen?_alloc_at _ _ _ _ (by simp [hN])
  rw [hw1, hN]
  clear hw1
  refine ⟨trivial, ((callsIn_wide (n := 7)).2 (backward_any v xs _ (hv'.out.below (hN ▸ hB1)))).mono ?_⟩
  rintro e w3 ⟨rfl, rfl⟩
  gi_wp2_with fail
  obtain ⟨w3, hw3⟩ : ∃ W, w1.alloc (.cells #[v] 23) = W := ⟨_, rfl⟩
  have hs3 : w3.heap.size = N + 5 := by rw [← hw3]; simp [hs1]
  have hbs : w3.cell? ⟨N + 4, 0, none⟩ = some v := by rw [← hw3, World.cell?_alloc_at _ _ _ _ hs1.symm]; rfl
  have hx3 : w3.cell? ⟨N, 0, none⟩ = some (.int .i64 n) := by rw [← hw3, World.cell?_alloc_past _ _ _ (by show N < w1.heap.size; omega)]; exact hx1
  have hd3 : w3.cell? ⟨N + 1, 0, none⟩ = some (.int .i64 d) := by rw [← hw3, World.cell?_alloc_past _ _ _ (by show N + 1 < w1.heap.size; omega)]; exact hd1
  have ho3 : w3.cell? ⟨N + 1 + 1, 0, none⟩ = some (.int .i64 0) := by rw [← hw3, World.cell?_alloc_past _ _ _ (by show N + 1 + 1 < w1.heap.size; omega)]; exact ho1
  have hu3 : w3.cell? ⟨N + 1 + 1 + 1, 0, none⟩ = some (.int .i64 1) := by rw [← hw3, World.cell?_alloc_past _ _ _ (by show N + 1 + 1 + 1 < w1.heap.size; omega)]; exact hu1
  have hf3 : w3.frozen? ⟨N + 1 + 1, 0, none⟩ = false := by rw [← hw3, World.frozen?_alloc_past _ _ _ (by show N + 1 + 1 < w1.heap.size; omega)]; exact hf1
  have hg3 : w3.frozen? ⟨N + 1 + 1 + 1, 0, none⟩ = false := by rw [← hw3, World.frozen?_alloc_past _ _ _ (by show N + 1 + 1 + 1 < w1.heap.size; omega)]; exact hg1
  have hB3 : Below N w w3 := by rw [← hw3]; exact hB1.alloc (by omega) _
  rw [hw3]
  clear hw3 hx1 hd1 ho1 hu1 hf1 hg1 hB1
  have hstop := backward_stops 7 (by omega) (N + 4) N v xs w3 hl9 (by omega) hbs (hv'.out.below (hN ▸ hB3)) (fun i hi b off cap e => by
    have h := hv'.out
    obtain ⟨ao, cap', e', -, -, H⟩ := h
    obtain ⟨b', off', e2, hc⟩ := H i hi
    rw [e'] at e
    obtain ⟨h1, _, _⟩ := Value.slice.inj e
    rw [e2] at h1
    cases h1
    have := World.block_lt_of_cell? w _ hc
    simp at this; omega) (by omega)
  refine wpIn_rangeFunc_ownF (n := 8) (w0 := w3) rfl (by omega) (gf := 69) (lb := #[.pointer (some ⟨N + 4, 0, none⟩)]) rfl trivial (enters_of Tryz.func69 (by kernel_rfl) rfl)
    hstop bkKeeps_t (bkKeeps_b (by omega) (by omega)) (Below.refl _ _) (fun _ => rfl)
    (fun pre W => (W.cell? ⟨N + 1 + 1, 0, none⟩ = some (.int .i64 (backW n d pre).1) ∧ W.cell? ⟨N + 1 + 1 + 1, 0, none⟩ = some (.int .i64 (backW n d pre).2) ∧ W.frozen? ⟨N + 1 + 1, 0, none⟩ = false ∧ W.frozen? ⟨N + 1 + 1 + 1, 0, none⟩ = false ∧ W.cell? ⟨N, 0, none⟩ = some (.int .i64 n) ∧ W.cell? ⟨N + 1, 0, none⟩ = some (.int .i64 d)) ∧ Below N w W)
    (fun _ _ _ => False)
    (OwnFrom.and (fun s A B row hs hg hr => ⟨cell_kept hs.1 hg (fun r e => (hr r e).2), cell_kept hs.2.1 hg (fun r e => (hr r e).2), (frozen_kept hs.1 hg (fun r e => (hr r e).2)).trans hs.2.2.1, (frozen_kept hs.2.1 hg (fun r e => (hr r e).2)).trans hs.2.2.2.1, cell_kept hs.2.2.2.2.1 hg (fun r e => (hr r e).2), cell_kept hs.2.2.2.2.2 hg (fun r e => (hr r e).2)⟩) (ownFrom_below (by omega) (by omega)))
    (fun _ _ _ _ _ hs _ _ => hs)
    ⟨⟨ho3, hu3, hf3, hg3, hx3, hd3⟩, hB3⟩
    (fun p => { tmps := #[v, .int .i64 n, .int .i64 d, undef, .pointer (some ⟨N, 0, none⟩), .pointer (some ⟨N + 1, 0, none⟩), .int .i64 0, .pointer (some ⟨N + 1 + 1, 0, none⟩), .pointer (some ⟨N + 1 + 1 + 1, 0, none⟩), undef, .int .i64 p.2, v, .func (.func 69) #[] #[.pointer (some ⟨N + 4, 0, none⟩)], .int .i64 p.1, .int .i64 p.2, undef, undef, undef, undef, undef, undef, undef, undef, undef, undef, undef, undef, undef, undef, undef, undef], defers := [] }) ?assign ?body ?done ?stop
  case assign =>
    intro l p W K hK
    gi_wp2
    exact hK
  case body =>
    rintro l pre p W ⟨⟨hc, hu, hf, hg, hxc, hdc⟩, hB⟩ _
    gi_wp2
    refine ⟨(KeepsOthers.setCell _ _ _).trans (KeepsOthers.setCell _ _ _), ⟨((Below.refl _ _).setCell (p := ⟨N + 1 + 1, 0, none⟩) (show N ≤ N + 1 + 1 by omega) _).setCell (p := ⟨N + 1 + 1 + 1, 0, none⟩) (show N ≤ N + 1 + 1 + 1 by omega) _, ?_⟩, ⟨?_, ?_, ?_, ?_, ?_, ?_⟩, (hB.setCell (p := ⟨N + 1 + 1, 0, none⟩) (show N ≤ N + 1 + 1 by omega) _).setCell (p := ⟨N + 1 + 1 + 1, 0, none⟩) (show N ≤ N + 1 + 1 + 1 by omega) _⟩
    · rw [Below.heap_setCell _ _ _ _ (by show N + 4 ≠ N + 1 + 1 + 1; omega), Below.heap_setCell _ _ _ _ (by show N + 4 ≠ N + 1 + 1; omega)]
    · rw [World.cell?_setCell_other _ _ _ _ (by simp), backW_snoc]; exact World.cell?_setCell_same' _ _ _ (by rw [hc]; rfl)
    · rw [backW_snoc]; exact World.cell?_setCell_same' _ _ _ (by rw [World.cell?_setCell_other _ _ _ _ (by simp), hu]; rfl)
    · rw [World.frozen?_setCell, World.frozen?_setCell]; exact hf
    · rw [World.frozen?_setCell, World.frozen?_setCell]; exact hg
    · rw [World.cell?_setCell_other _ _ _ _ (by simp), World.cell?_setCell_other _ _ _ _ (by simp)]; exact hxc
    · rw [World.cell?_setCell_other _ _ _ _ (by simp), World.cell?_setCell_other _ _ _ _ (by simp)]; exact hdc
  case done =>
    rintro D ys W hD rfl ⟨⟨hc, hu, hf, hg, hxc, hdc⟩, hB⟩ hK
    have hs := backW_all n d xs
    generalize (backW n d (bkTo xs xs.length)).1 = z at hc hs
    have hsg : sgn z = signV xs n d := by unfold signV; rw [← hs]
    clear hs
    rcases Int.lt_trichotomy z 0 with h1 | h1 | h1
    · have e : sgn z = -1 := by unfold sgn; rw [if_neg (by omega), if_pos h1]
      rw [e] at hsg
      have hsg' := Lib.hid hsg
      clear hsg e
      gi_wp2
      refine ⟨by simp, .inl ⟨_, _, rfl, run_takeDeferred hK, ?_⟩⟩
      refine ⟨_, results_tmp rfl _ _ _, ?_, ?_⟩
      · rw [← hsg'.out]; rfl
      · rw [hN]; exact hB.trans (belowK_b (w := w) (by omega) W D _ _ (by omega) hK rfl rfl)
    · have e : sgn z = 0 := by unfold sgn; rw [if_neg (by omega), if_neg (by omega)]
      rw [e] at hsg
      have hsg' := Lib.hid hsg
      clear hsg e
      subst h1
      gi_wp2
      refine ⟨by simp, .inl ⟨_, _, rfl, run_takeDeferred hK, ?_⟩⟩
      refine ⟨_, results_tmp rfl _ _ _, ?_, ?_⟩
      · rw [← hsg'.out]; rfl
      · rw [hN]; exact hB.trans (belowK_b (w := w) (by omega) W D _ _ (by omega) hK rfl rfl)
    · have e : sgn z = 1 := by unfold sgn; rw [if_pos h1]
      rw [e] at hsg
      have hsg' := Lib.hid hsg
      clear hsg e
      have h0 : ¬ z < 0 := by omega
      gi_wp2
      refine ⟨by simp, .inl ⟨_, _, rfl, run_takeDeferred hK, ?_⟩⟩
      refine ⟨_, results_tmp rfl _ _ _, ?_, ?_⟩
      · rw [← hsg'.out]; rfl
      · rw [hN]; exact hB.trans (belowK_b (w := w) (by omega) W D _ _ (by omega) hK rfl rfl)
  case stop =>
    rintro D c pre W _ _ h _
    exact h.elim

/-- A root lies in [k/d, (k+1)/d). -/
def rootB (xs : List Int) (d : Int) (k : Nat) : Bool := decide (signV xs k d = 0 ∨ signV xs k d * signV xs ((k : Int) + 1) d < 0)
theorem rootB_zero {xs : List Int} {d : Int} {k : Nat} (h : signV xs k d = 0) : rootB xs d k = true := by simp [rootB, h]
theorem rootB_else {xs : List Int} {d : Int} {k : Nat} (h : signV xs k d ≠ 0) : rootB xs d k = decide (wrap64 (signV xs k d * signV xs ((k : Int) + 1) d) < 0) := by
  have : wrap64 (signV xs k d * signV xs ((k : Int) + 1) d) = signV xs k d * signV xs ((k : Int) + 1) d := by
    rcases signV_cases xs k d with e | e | e <;> rcases signV_cases xs ((k : Int) + 1) d with e2 | e2 | e2 <;> rw [e, e2] <;> simp [wrap64]
  simp [rootB, h, this]
theorem rootB_else' {xs : List Int} {d : Int} {k : Nat} (h : signV xs k d ≠ 0) : rootB xs d k = (wrap64 (signV xs k d * signV xs ((k : Int) + 1) d) == -1) := by
  rw [rootB_else h]
  rcases signV_cases xs k d with e | e | e <;> rcases signV_cases xs ((k : Int) + 1) d with e2 | e2 | e2 <;> rw [e, e2] <;> simp [wrap64]
/-- The places below k. -/
def rootTo (xs : List Int) (d : Int) : Nat → List Int
  | 0 => []
  | k + 1 => if rootB xs d k = true then rootTo xs d k ++ [(k : Int)] else rootTo xs d k
theorem rootTo_len (xs : List Int) (d : Int) (k : Nat) : (rootTo xs d k).length ≤ k := by
  induction k with
  | zero => exact Nat.le_refl _
  | succ k ih =>
    rw [rootTo]
    split
    · rw [List.length_append, List.length_cons, List.length_nil]; omega
    · omega
theorem rootTo_in {xs : List Int} {d : Int} {k : Nat} (h : rootB xs d k = true) : rootTo xs d (k + 1) = rootTo xs d k ++ [(k : Int)] := by rw [rootTo, if_pos h]
theorem rootTo_out {xs : List Int} {d : Int} {k : Nat} (h : rootB xs d k = false) : rootTo xs d (k + 1) = rootTo xs d k := by rw [rootTo, if_neg (by rw [h]; decide)]
/-- What both functions return. -/
def RootPlaces_v (xs : List Int) (d : Int) : List Int × Bool := if (polyB xs && (decide (xs.length ≠ 0) && inB d 1 30)) = true then (rootTo xs d 30, true) else ([], false)
theorem RootPlaces_len (xs : List Int) (d : Int) : szIntS (RootPlaces_v xs d).1 ≤ 1099511627776 := by
  unfold RootPlaces_v szIntS
  split
  · have := rootTo_len xs d 30; simp only; omega
  · exact Nat.zero_le _
theorem RootPlaces_no1 {xs : List Int} {d : Int} (h : polyB xs = false) : RootPlaces_v xs d = ([], false) := by simp [RootPlaces_v, h]
theorem RootPlaces_no2 {xs : List Int} {d : Int} (h : xs.length = 0) : RootPlaces_v xs d = ([], false) := by simp [RootPlaces_v, h]
theorem RootPlaces_no3 {xs : List Int} {d : Int} (h : inB d 1 30 = false) : RootPlaces_v xs d = ([], false) := by simp [RootPlaces_v, h]
theorem RootPlaces_yes {xs : List Int} {d : Int} (h1 : polyB xs = true) (h2 : xs.length ≠ 0) (h3 : inB d 1 30 = true) : RootPlaces_v xs d = (rootTo xs d 30, true) := by
  rw [RootPlaces_v, h1, h3, decide_eq_true h2]; rfl

set_option maxHeartbeats 1000000 in
theorem specRootPlaces_any (v : Value) (xs : List Int) (d : Int) (w : World) (hv1 : IntsV w v xs) (hm : szIntS xs ≤ 1099511627776) (_hi : I64 d) :
    Calls Tryz.prog 6 #[v, .int .i64 d] w (RetOB Own (RootPlaces_v xs d) w) := by
  have c1 := poGood_ret v xs w hv1 hm
  cases h1 : polyB xs
  · rw [RootPlaces_no1 h1]
    rw [h1] at c1
    have c1' := Lib.hid c1
    clear c1 h1
    go_enter Tryz.func6, Tryz.ntmps6
    go_wp2_with fail
    refine c1'.out.mono ?_
    rintro e w1 ⟨rfl, hB1⟩
    go_wp2
    go_ret2
    exact ⟨_, rfl, Own.nil _ _ _, hB1⟩
  · rw [h1] at c1
    have hv' := Lib.hid hv1
    have hm' := Lib.hid hm
    obtain ⟨ao, acap, rfl, -, -, -⟩ := id hv1
    have c1' := Lib.hid c1
    clear c1 hv1 hm
    by_cases h2 : xs.length = 0
    · rw [RootPlaces_no2 h2]
      rw [h2] at c1'
      rw [h2]
      clear h1 h2 hv' hm'
      go_enter Tryz.func6, Tryz.ntmps6
      go_wp2_with fail
      refine c1'.out.mono ?_
      rintro e w1 ⟨rfl, hB1⟩
      go_wp2
      go_ret2
      exact ⟨_, rfl, Own.nil _ _ _, hB1⟩
    · cases h3 : inB d 1 30
      · rw [RootPlaces_no3 h3]
        have h3' := Lib.hid h3
        obtain ⟨n, hn⟩ : ∃ n, xs.length = n := ⟨_, rfl⟩
        rw [hn] at h2 c1' ⊢
        have hz : ((n : Int) == 0) = false := by rw [beq_eq_false_iff_ne]; omega
        clear h1 h3 hv' hm' hn h2
        go_enter Tryz.func6, Tryz.ntmps6
        go_wp2_with fail
        refine c1'.out.mono ?_
        rintro e w1 ⟨rfl, hB1⟩
        go_wp2_with fail
        refine (l1In_any _ _ _ _).mono ?_
        rintro e w_ ⟨rfl, rfl⟩
        rw [h3'.out]
        go_wp2
        go_ret2
        exact ⟨_, rfl, Own.nil _ _ _, hB1⟩
      · rw [RootPlaces_yes h1 h2 h3]
        have h3' := Lib.hid h3
        obtain ⟨n, hn⟩ : ∃ n, xs.length = n := ⟨_, rfl⟩
        rw [hn] at h2 c1' hv' ⊢
        have hz : ((n : Int) == 0) = false := by rw [beq_eq_false_iff_ne]; omega
        clear h1 h3 hn h2
        go_enter Tryz.func6, Tryz.ntmps6
        go_wp2_with fail
        refine c1'.out.mono ?_
        rintro e w1 ⟨rfl, hB1⟩
        go_wp2_with fail
        refine (l1In_any _ _ _ _).mono ?_
        rintro e w_ ⟨rfl, rfl⟩
        rw [h3'.out]
        clear c1'
        go_wp2
        go_loopw [6, 7] (fun o i wr => ∃ k : Nat, k ≤ 30 ∧ i = .int .i64 k ∧ Grow wr w.heap.size o (rootTo xs d k) ∧ Below w.heap.size w wr) (fun _ i _ => 30 - (intOf i).toNat)
        case atStart => exact ⟨0, by omega, rfl, Grow.nil _ _, hB1⟩
        case round =>
          obtain ⟨k, hk, rfl, ho1, hB4⟩ := hrel
          obtain ⟨wo, rfl⟩ : ∃ wo : World, wo = wr := ⟨_, rfl⟩
          by_cases hlt : k < 30
          · have hc := fun (n' : Int) (w' : World) (hB : Below w.heap.size w w') => poSign_any _ xs n' d w' (hv'.out.below hB) hm'.out
            have hc' := Lib.hid hc
            have hsz := hB4.size
            have hlen := rootTo_len xs d k
            have hz0 := @rootB_zero xs d k
            have hz1 := @rootB_else xs d k
            have hin := @rootTo_in xs d k
            have hout := @rootTo_out xs d k
            clear hc
            go_wp2_with fail
            refine (hc'.out _ _ hB4).mono ?_
            rintro e w_ ⟨rfl, rfl⟩
            go_wp2_with fail
            refine (hc'.out _ _ hB4).mono ?_
            rintro e w_ ⟨rfl, rfl⟩
            generalize signV xs (k : Int) d = a at *
            generalize signV xs ((k : Int) + 1) d = b at *
            have hd30 : decide ((k : Int) < 30) = true := decide_eq_true (by omega)
            have hB4' : Below w.heap.size w wo := hB4
            have ho5 : Grow wo w.heap.size u6 (rootTo xs d k) := ho1
            have hsz5 := hB4'.size
            by_cases h0 : a = 0
            · have hst := hin (hz0 h0)
              have hst' := Lib.hid hst
              subst h0
              clear hin hout hz0 hz1 hst
              go_wp2_with (at_builtin; refine wpList_append_int rfl _ _ rfl w.heap.size u6 (rootTo xs d k) (k : Int) _ rfl rfl ho5 (by omega) hsz5 ?_)
              intro v' w' hg' hgrow
              go_wp2
              go_roundw
              case rel => exact ⟨k + 1, by omega, by go_num, by rw [hst'.out]; exact hg', ho5.belowB hB4' (Nat.le_refl _) hsz5 hgrow⟩
              case measure => simp [intOf]; omega
            · have hb := hz1 h0
              have h0' : (a == 0) = false := by rw [beq_eq_false_iff_ne]; exact h0
              have hin' := Lib.hid hin
              have hout' := Lib.hid hout
              have hb' := Lib.hid hb
              clear hin hout hz0 hz1 hb
              have hB6 := hB4'
              have ho6 := ho5
              have hsz6 := hB6.size
              cases hr : decide (wrap64 (a * b) < 0)
              · have hst := hout'.out (by rw [hb'.out, hr])
                have hst' := Lib.hid hst
                clear hst hin' hout' hb' h0
                go_wp2
                go_roundw
                case rel => exact ⟨k + 1, by omega, by go_num, by rw [hst'.out]; exact ho6, hB6⟩
                case measure => simp [intOf]; omega
              · have hst := hin'.out (by rw [hb'.out, hr])
                have hst' := Lib.hid hst
                clear hst hin' hout' hb' h0
                go_wp2_with (at_builtin; refine wpList_append_int rfl _ _ rfl w.heap.size u6 (rootTo xs d k) (k : Int) _ rfl rfl ho6 (by omega) hsz6 ?_)
                intro v' w' hg' hgrow
                go_wp2
                go_roundw
                case rel => exact ⟨k + 1, by omega, by go_num, by rw [hst'.out]; exact hg', ho6.belowB hB6 (Nat.le_refl _) hsz6 hgrow⟩
                case measure => simp [intOf]; omega
          · have ek : k = 30 := by omega
            subst ek
            go_wp2
            go_ret2
            exact ⟨_, rfl, ho1.own, hB4⟩
set_option maxHeartbeats 1000000 in
theorem implRootPlaces_any (v : Value) (xs : List Int) (d : Int) (w : World) (hv1 : IntsV w v xs) (hm : szIntS xs ≤ 1099511627776) (_hi : I64 d) :
    Calls Tryz.prog 5 #[v, .int .i64 d] w (RetOB Own (RootPlaces_v xs d) w) := by
  have c1 := isPolynomial_ret v xs w hv1 hm
  cases h1 : polyB xs
  · rw [RootPlaces_no1 h1]
    rw [h1] at c1
    have c1' := Lib.hid c1
    clear c1 h1
    go_enter Tryz.func5, Tryz.ntmps5
    go_wp2_with fail
    refine c1'.out.mono ?_
    rintro e w1 ⟨rfl, hB1⟩
    go_wp2
    go_ret2
    exact ⟨_, rfl, Own.nil _ _ _, hB1⟩
  · rw [h1] at c1
    have hv' := Lib.hid hv1
    have hm' := Lib.hid hm
    obtain ⟨ao, acap, rfl, -, -, -⟩ := id hv1
    have c1' := Lib.hid c1
    clear c1 hv1 hm
    by_cases h2 : xs.length = 0
    · rw [RootPlaces_no2 h2]
      rw [h2] at c1'
      rw [h2]
      clear h1 h2 hv' hm'
      go_enter Tryz.func5, Tryz.ntmps5
      go_wp2_with fail
      refine c1'.out.mono ?_
      rintro e w1 ⟨rfl, hB1⟩
      go_wp2
      go_ret2
      exact ⟨_, rfl, Own.nil _ _ _, hB1⟩
    · cases h3 : inB d 1 30
      · rw [RootPlaces_no3 h3]
        have h3' := Lib.hid h3
        obtain ⟨n, hn⟩ : ∃ n, xs.length = n := ⟨_, rfl⟩
        rw [hn] at h2 c1' ⊢
        have hz : ((n : Int) == 0) = false := by rw [beq_eq_false_iff_ne]; omega
        clear h1 h3 hv' hm' hn h2
        go_enter Tryz.func5, Tryz.ntmps5
        go_wp2_with fail
        refine c1'.out.mono ?_
        rintro e w1 ⟨rfl, hB1⟩
        go_wp2_with fail
        refine (within_any _ _ _ _).mono ?_
        rintro e w_ ⟨rfl, rfl⟩
        rw [h3'.out]
        go_wp2
        go_ret2
        exact ⟨_, rfl, Own.nil _ _ _, hB1⟩
      · rw [RootPlaces_yes h1 h2 h3]
        have h3' := Lib.hid h3
        obtain ⟨n, hn⟩ : ∃ n, xs.length = n := ⟨_, rfl⟩
        rw [hn] at h2 c1' hv' ⊢
        have hz : ((n : Int) == 0) = false := by rw [beq_eq_false_iff_ne]; omega
        clear h1 h3 hn h2
        go_enter Tryz.func5, Tryz.ntmps5
        go_wp2_with fail
        refine c1'.out.mono ?_
        rintro e w1 ⟨rfl, hB1⟩
        go_wp2_with fail
        refine (within_any _ _ _ _).mono ?_
        rintro e w_ ⟨rfl, rfl⟩
        rw [h3'.out]
        clear c1'
        go_wp2
        go_loopw [6, 22] (fun o i wr => ∃ k : Nat, k ≤ 30 ∧ i = .int .i64 k ∧ Grow wr w.heap.size o (rootTo xs d k) ∧ Below w.heap.size w wr) (fun _ i _ => 30 - (intOf i).toNat)
        case atStart => exact ⟨0, by omega, rfl, Grow.nil _ _, hB1⟩
        case round =>
          obtain ⟨k, hk, rfl, ho1, hB4⟩ := hrel
          obtain ⟨wo, rfl⟩ : ∃ wo : World, wo = wr := ⟨_, rfl⟩
          by_cases hlt : k < 30
          · have hc := fun (n' : Int) (w' : World) (hB : Below w.heap.size w w') => signAt_any _ xs n' d w' (hv'.out.below hB) hm'.out
            have hc' := Lib.hid hc
            have hsz := hB4.size
            have hlen := rootTo_len xs d k
            have hz0 := @rootB_zero xs d k
            have hz1 := @rootB_else' xs d k
            have hin := @rootTo_in xs d k
            have hout := @rootTo_out xs d k
            clear hc
            go_wp2_with fail
            refine (hc'.out _ _ hB4).mono ?_
            rintro e w5 ⟨rfl, hB5⟩
            generalize signV xs (k : Int) d = a at *
            have hd30 : decide ((k : Int) < 30) = true := decide_eq_true (by omega)
            have hB4' : Below w.heap.size w w5 := hB4.trans (hB5.mono hsz)
            have ho5 : Grow w5 w.heap.size u6 (rootTo xs d k) := ho1.below hB5
            have hsz5 := hB4'.size
            by_cases h0 : a = 0
            · have hst := hin (hz0 h0)
              have hst' := Lib.hid hst
              subst h0
              clear hin hout hz0 hz1 hst
              go_wp2_with (at_builtin; refine wpList_append_int rfl _ _ rfl w.heap.size u6 (rootTo xs d k) (k : Int) _ rfl rfl ho5 (by omega) hsz5 ?_)
              intro v' w' hg' hgrow
              go_wp2
              go_roundw
              case rel => exact ⟨k + 1, by omega, by go_num, by rw [hst'.out]; exact hg', ho5.belowB hB4' (Nat.le_refl _) hsz5 hgrow⟩
              case measure => simp [intOf]; omega
            · have hb := hz1 h0
              have h0' : (a == 0) = false := by rw [beq_eq_false_iff_ne]; exact h0
              have hin' := Lib.hid hin
              have hout' := Lib.hid hout
              have hb' := Lib.hid hb
              clear hin hout hz0 hz1 hb
              go_wp2_with fail
              refine (hc'.out _ _ hB4').mono ?_
              rintro e w6 ⟨rfl, hB56⟩
              generalize signV xs ((k : Int) + 1) d = b at *
              have hB6 : Below w.heap.size w w6 := hB4'.trans (hB56.mono hsz5)
              have ho6 : Grow w6 w.heap.size u6 (rootTo xs d k) := ho5.below hB56
              have hsz6 := hB6.size
              cases hr : wrap64 (a * b) == -1
              · have hst := hout'.out (by rw [hb'.out, hr])
                have hst' := Lib.hid hst
                clear hst hin' hout' hb' h0
                go_wp2
                go_roundw
                case rel => exact ⟨k + 1, by omega, by go_num, by rw [hst'.out]; exact ho6, hB6⟩
                case measure => simp [intOf]; omega
              · have hst := hin'.out (by rw [hb'.out, hr])
                have hst' := Lib.hid hst
                clear hst hin' hout' hb' h0
                go_wp2_with (at_builtin; refine wpList_append_int rfl _ _ rfl w.heap.size u6 (rootTo xs d k) (k : Int) _ rfl rfl ho6 (by omega) hsz6 ?_)
                intro v' w' hg' hgrow
                go_wp2
                go_roundw
                case rel => exact ⟨k + 1, by omega, by go_num, by rw [hst'.out]; exact hg', ho6.belowB hB6 (Nat.le_refl _) hsz6 hgrow⟩
                case measure => simp [intOf]; omega
          · have ek : k = 30 := by omega
            subst ek
            go_wp2
            go_ret2
            exact ⟨_, rfl, ho1.own, hB4⟩

end Go.Proofs.YtgpabfbnbmbmeaaGreatDoor

namespace Go.Proofs.YtgpabfbnbmbmeaaGreatDoor
open Go.RowKit

/-- The greatest absolute value of the first k. -/
def mxA (xs : List Int) : Nat → Int
  | 0 => 0
  | k + 1 => max (mxA xs k) ((nth xs k).natAbs : Int)
theorem mxA_succ (xs : List Int) (k : Nat) : mxA xs (k + 1) = max (mxA xs k) ((nth xs k).natAbs : Int) := rfl
theorem mxA_bd {xs : List Int} {n : Nat} (h : ∀ i, i < n → -1000000 ≤ nth xs i ∧ nth xs i ≤ 1000000) : ∀ k, k ≤ n → 0 ≤ mxA xs k ∧ mxA xs k ≤ 1000000 := by
  intro k
  induction k with
  | zero => intro _; show (0 : Int) ≤ 0 ∧ (0 : Int) ≤ 1000000; omega
  | succ k ih =>
    intro hk
    have h1 := ih (by omega)
    have h2 := h k (by omega)
    rw [mxA_succ]; omega
def boundOk (p : List Int) : Bool := polyB p && !decide (p.length = 0)
/-- The greatest absolute value but the last one's, and the last one's. -/
def bndX (p : List Int) : Int := mxA p (p.length - 1) + ((nth p (p.length - 1)).natAbs : Int)
def bndY (p : List Int) : Int := ((nth p (p.length - 1)).natAbs : Int)
/-- What both RootBound functions return. -/
def RootBound_v (p : List Int) : (Int × Int) × Bool := if boundOk p = true then mkR (bndX p) (bndY p) else ((0, 0), false)
theorem RootBound_no {p : List Int} (h : boundOk p = false) : RootBound_v p = ((0, 0), false) := by simp [RootBound_v, h]
theorem RootBound_yes {p : List Int} (h : boundOk p = true) : RootBound_v p = mkR (bndX p) (bndY p) := by simp [RootBound_v, h]
theorem boundOk_parts {p : List Int} {d : Nat} (h : boundOk p = true) (hd : p.length = d + 1) : polyB p = true ∧ d ≤ 8 ∧ (∀ i, i < d + 1 → -1000000 ≤ nth p i ∧ nth p i ≤ 1000000) ∧ nth p d ≠ 0 := by
  simp only [boundOk, Bool.and_eq_true] at h
  have h1 := h.1
  have h5 := polyB_le9 h1
  simp only [polyB, Bool.and_eq_true, Bool.or_eq_true, decide_eq_true_eq, hd, Nat.add_sub_cancel, bne_iff_ne, ne_eq] at h1
  obtain ⟨⟨_, h2⟩, h3⟩ := h1
  refine ⟨h.1, by omega, fun i hi => ?_, by rcases h3 with h3 | h3; omega; exact h3⟩
  simp only [allB, List.all_eq_true, inB_true] at h2
  have := h2 _ (nth_mem (xs := p) (i := i) (by omega))
  omega

set_option maxHeartbeats 1000000 in
theorem implRootBound_yes (v : Value) (p : List Int) (d : Nat) (w : World) (hv : IntsV w v p) (hok : boundOk p = true) (hd : p.length = d + 1) :
    Calls Tryz.prog 7 #[v] w (Ret (.tuple #[ratV (RootBound_v p).1, .bool (RootBound_v p).2]) w) := by
  rw [RootBound_yes hok]
  obtain ⟨hp, d8, hbd, hl0⟩ := boundOk_parts hok hd
  have hB : Below w.heap.size w (w.alloc (.cells #[.int .i64 0, .int .i64 0] 29)) := (Below.refl _ _).alloc (Nat.le_refl _) _
  have c1 := isPolynomial_ret v p _ (hv.below hB) (by omega)
  rw [hp] at c1
  have hmx := mxA_bd hbd
  obtain ⟨ao, cap, rfl, hcc, _, K⟩ := id hv
  have hcap : d ≤ cap := by omega
  clear hcc
  have e1 : bndX p = mxA p d + ((nth p d).natAbs : Int) := by unfold bndX; rw [hd]; rfl
  have e2 : bndY p = ((nth p d).natAbs : Int) := by unfold bndY; rw [hd]; rfl
  rw [hd] at hv K c1 ⊢
  rw [e1, e2]
  obtain ⟨b, off, rfl, _⟩ := K 0 (by omega)
  have K2 : ∀ w', Below w.heap.size w w' → ∀ i, i < d + 1 → w'.cell? ⟨b, off + i, none⟩ = some (.int .i64 (nth p i)) := fun w' hB i hi => by
    obtain ⟨b', off', e, hc⟩ := K i hi
    cases e
    rw [hB.cell (World.block_lt_of_cell? w _ hc)]; exact hc
  have hlast := hbd d (Nat.lt_succ_self d)
  have hm1 := (hmx d (Nat.le_succ d))
  have cl := fun w => lowest_any (mxA p d + ((nth p d).natAbs : Int)) ((nth p d).natAbs : Int) w (by omega) (by omega) (by omega)
  rw [show mxA p d + ((nth p d).natAbs : Int) = ((nth p d).natAbs : Int) + mxA p d by omega] at cl ⊢
  obtain ⟨R, hR⟩ : ∃ R, mkR (((nth p d).natAbs : Int) + mxA p d) ((nth p d).natAbs : Int) = R := ⟨_, rfl⟩
  rw [hR] at cl ⊢
  obtain ⟨⟨rn, rd⟩, rb⟩ := R
  have hne : ((d : Int) + 1 == 0) = false := by rw [beq_eq_false_iff_ne]; omega
  clear K hv hp hok hl0
  have c1' := Lib.hid c1
  have K2' := Lib.hid K2
  have hd' := Lib.hid hd
  have hbd' := Lib.hid hbd
  have hmx' := Lib.hid hmx
  have cl' := Lib.hid cl
  have hR' := Lib.hid hR
  have e1' := Lib.hid e1
  have e2' := Lib.hid e2
  clear c1 K2 hd hbd hmx cl hR e1 e2
  go_enter Tryz.func7, Tryz.ntmps7
  go_wp2_with fail
  refine (c1'.out).mono ?_
  rintro e w1 ⟨rfl, hB1⟩
  obtain ⟨hc1, hf1⟩ := bcell hB1
  have hz1 : w.heap.size < w1.heap.size := by have := hB1.size; simp at this; omega
  have hB2 := hB.trans (hB1.mono hB.size)
  have q0 : w1.cell? ⟨w.heap.size, 0, none⟩ = some (.int .i64 0) := by rw [hc1 _ _ (by simp)]; simp [go_sem]
  have q1 : w1.cell? ⟨w.heap.size, 1, none⟩ = some (.int .i64 0) := by rw [hc1 _ _ (by simp)]; simp [go_sem]
  have q2 : w1.frozen? ⟨w.heap.size, 0, none⟩ = false := by rw [hf1 _ _ (by simp)]; simp [go_sem]
  have q3 : w1.frozen? ⟨w.heap.size, 1, none⟩ = false := by rw [hf1 _ _ (by simp)]; simp [go_sem]
  clear hB hB1 hc1 hf1
  go_wp2
  go_loop [4, 23] (fun s i => ∃ k : Nat, k ≤ d ∧ i = .int .i64 k ∧ s = .int .i64 (mxA p k)) (fun _ i => d - (intOf i).toNat)
  case atStart => exact ⟨0, Nat.zero_le _, rfl, rfl⟩
  case round =>
    obtain ⟨k, hk, rfl, rfl⟩ := hrel
    by_cases hlt : k < d
    · have p1 := K2'.out _ hB2 k (by omega)
      have b1 := hbd'.out k (by omega)
      have hs := mxA_succ p k
      have hab : -9223372036854775807 ≤ nth p k ∧ nth p k ≤ 9223372036854775807 := by omega
      by_cases hgt : mxA p k < ((nth p k).natAbs : Int)
      · have hm : mxA p (k + 1) = ((nth p k).natAbs : Int) := by omega
        have hs' := Lib.hid hs
        have hm' := Lib.hid hm
        clear hs hm
        go_wp2_with fail
        refine (abs_any _ _ hab).mono ?_
        rintro e w_ ⟨rfl, rfl⟩
        go_wp2
        go_round
        case rel => exact ⟨k + 1, by omega, by go_num, by rw [hm'.out]⟩
        case measure => simp [intOf]; omega
      · have hm : mxA p (k + 1) = mxA p k := by omega
        have hs' := Lib.hid hs
        have hm' := Lib.hid hm
        clear hs hm
        go_wp2_with fail
        refine (abs_any _ _ hab).mono ?_
        rintro e w_ ⟨rfl, rfl⟩
        go_wp2
        go_round
        case rel => exact ⟨k + 1, by omega, by go_num, by rw [hm'.out]⟩
        case measure => simp [intOf]; omega
    · obtain rfl : d = k := by omega
      have p1 := K2'.out _ hB2 d (by omega)
      have hab : -9223372036854775807 ≤ nth p d ∧ nth p d ≤ 9223372036854775807 := by omega
      go_wp2_with fail
      refine (abs_any _ _ hab).mono ?_
      rintro e w_ ⟨rfl, rfl⟩
      go_wp2_with fail
      refine (cl'.out _).mono ?_
      rintro e w2 ⟨rfl, hB3⟩
      obtain ⟨hc2, hf2⟩ := bcell hB3
      have hz2 : w.heap.size < w2.heap.size := by have := hB3.size; omega
      have r0 : w2.cell? ⟨w.heap.size, 0, none⟩ = some (.int .i64 0) := by rw [hc2 _ _ hz1]; exact q0
      have r1 : w2.cell? ⟨w.heap.size, 1, none⟩ = some (.int .i64 0) := by rw [hc2 _ _ hz1]; exact q1
      have r2 : w2.frozen? ⟨w.heap.size, 0, none⟩ = false := by rw [hf2 _ _ hz1]; exact q2
      have r3 : w2.frozen? ⟨w.heap.size, 1, none⟩ = false := by rw [hf2 _ _ hz1]; exact q3
      have hB4 := hB2.trans (hB3.mono hB2.size)
      clear hB2 hB3 hc2 hf2
      go_wp2
      refine bodyPost_ret (v := .tuple #[ratV (rn, rd), .bool rb]) (by simp [results, Tryz.results7, go_sem, r0, r1, ratV]) rfl ⟨rfl, ?_⟩
      exact (hB4.setCell (p := ⟨w.heap.size, 0, none⟩) (Nat.le_refl _) _).setCell (p := ⟨w.heap.size, 1, none⟩) (Nat.le_refl _) _

set_option maxHeartbeats 1000000 in
theorem specRootBound_yes (v : Value) (p : List Int) (d : Nat) (w : World) (hv : IntsV w v p) (hok : boundOk p = true) (hd : p.length = d + 1) :
    Calls Tryz.prog 8 #[v] w (Ret (.tuple #[ratV (RootBound_v p).1, .bool (RootBound_v p).2]) w) := by
  rw [RootBound_yes hok]
  obtain ⟨hp, d8, hbd, hl0⟩ := boundOk_parts hok hd
  have hB : Below w.heap.size w (w.alloc (.cells #[.int .i64 0, .int .i64 0] 29)) := (Below.refl _ _).alloc (Nat.le_refl _) _
  have c1 := poGood_ret v p _ (hv.below hB) (by omega)
  rw [hp] at c1
  have hmx := mxA_bd hbd
  obtain ⟨ao, cap, rfl, hcc, _, K⟩ := id hv
  have hcap : d ≤ cap := by omega
  clear hcc
  have e1 : bndX p = mxA p d + ((nth p d).natAbs : Int) := by unfold bndX; rw [hd]; rfl
  have e2 : bndY p = ((nth p d).natAbs : Int) := by unfold bndY; rw [hd]; rfl
  rw [hd] at hv K c1 ⊢
  rw [e1, e2]
  obtain ⟨b, off, rfl, _⟩ := K 0 (by omega)
  have K2 : ∀ w', Below w.heap.size w w' → ∀ i, i < d + 1 → w'.cell? ⟨b, off + i, none⟩ = some (.int .i64 (nth p i)) := fun w' hB i hi => by
    obtain ⟨b', off', e, hc⟩ := K i hi
    cases e
    rw [hB.cell (World.block_lt_of_cell? w _ hc)]; exact hc
  have hlast := hbd d (Nat.lt_succ_self d)
  have hm1 := (hmx d (Nat.le_succ d))
  have cl := fun w => raMake_any (mxA p d + ((nth p d).natAbs : Int)) ((nth p d).natAbs : Int) w (by omega) (by omega) (by omega)
  obtain ⟨R, hR⟩ : ∃ R, mkR (mxA p d + ((nth p d).natAbs : Int)) ((nth p d).natAbs : Int) = R := ⟨_, rfl⟩
  rw [hR] at cl ⊢
  obtain ⟨⟨rn, rd⟩, rb⟩ := R
  have hne : ((d : Int) + 1 == 0) = false := by rw [beq_eq_false_iff_ne]; omega
  clear K hv hp hok hl0
  have c1' := Lib.hid c1
  have K2' := Lib.hid K2
  have hd' := Lib.hid hd
  have hbd' := Lib.hid hbd
  have hmx' := Lib.hid hmx
  have cl' := Lib.hid cl
  have hR' := Lib.hid hR
  have e1' := Lib.hid e1
  have e2' := Lib.hid e2
  clear c1 K2 hd hbd hmx cl hR e1 e2
  go_enter Tryz.func8, Tryz.ntmps8
  go_wp2_with fail
  refine (c1'.out).mono ?_
  rintro e w1 ⟨rfl, hB1⟩
  obtain ⟨hc1, hf1⟩ := bcell hB1
  have hz1 : w.heap.size < w1.heap.size := by have := hB1.size; simp at this; omega
  have hB2 := hB.trans (hB1.mono hB.size)
  have q0 : w1.cell? ⟨w.heap.size, 0, none⟩ = some (.int .i64 0) := by rw [hc1 _ _ (by simp)]; simp [go_sem]
  have q1 : w1.cell? ⟨w.heap.size, 1, none⟩ = some (.int .i64 0) := by rw [hc1 _ _ (by simp)]; simp [go_sem]
  have q2 : w1.frozen? ⟨w.heap.size, 0, none⟩ = false := by rw [hf1 _ _ (by simp)]; simp [go_sem]
  have q3 : w1.frozen? ⟨w.heap.size, 1, none⟩ = false := by rw [hf1 _ _ (by simp)]; simp [go_sem]
  clear hB hB1 hc1 hf1
  go_wp2
  go_loop [4, 23] (fun s i => ∃ k : Nat, k ≤ d ∧ i = .int .i64 k ∧ s = .int .i64 (mxA p k)) (fun _ i => d - (intOf i).toNat)
  case atStart => exact ⟨0, Nat.zero_le _, rfl, rfl⟩
  case round =>
    obtain ⟨k, hk, rfl, rfl⟩ := hrel
    by_cases hlt : k < d
    · have p1 := K2'.out _ hB2 k (by omega)
      have b1 := hbd'.out k (by omega)
      have hs := mxA_succ p k
      have hab : -9223372036854775807 ≤ nth p k ∧ nth p k ≤ 9223372036854775807 := by omega
      have hm : mxA p (k + 1) = max (mxA p k) ((nth p k).natAbs : Int) := hs
      obtain ⟨m, hm2⟩ : ∃ m, mxA p (k + 1) = m := ⟨_, rfl⟩
      rw [hm2] at hm
      clear hs
      have hm' := Lib.hid hm
      have hm2' := Lib.hid hm2
      clear hm hm2
      go_wp2_with fail
      refine (l1Abs_any _ _ hab).mono ?_
      rintro e w_ ⟨rfl, rfl⟩
      go_wp2_with fail
      refine (l1Most_is _ _ m _ hm'.out).mono ?_
      rintro e w_ ⟨rfl, rfl⟩
      go_wp2
      go_round
      case rel => exact ⟨k + 1, by omega, by go_num, by rw [hm2'.out]⟩
      case measure => simp [intOf]; omega
    · obtain rfl : d = k := by omega
      have p1 := K2'.out _ hB2 d (by omega)
      have hab : -9223372036854775807 ≤ nth p d ∧ nth p d ≤ 9223372036854775807 := by omega
      go_wp2_with fail
      refine (l1Abs_any _ _ hab).mono ?_
      rintro e w_ ⟨rfl, rfl⟩
      go_wp2_with fail
      refine (cl'.out _).mono ?_
      rintro e w2 ⟨rfl, hB3⟩
      obtain ⟨hc2, hf2⟩ := bcell hB3
      have hz2 : w.heap.size < w2.heap.size := by have := hB3.size; omega
      have r0 : w2.cell? ⟨w.heap.size, 0, none⟩ = some (.int .i64 0) := by rw [hc2 _ _ hz1]; exact q0
      have r1 : w2.cell? ⟨w.heap.size, 1, none⟩ = some (.int .i64 0) := by rw [hc2 _ _ hz1]; exact q1
      have r2 : w2.frozen? ⟨w.heap.size, 0, none⟩ = false := by rw [hf2 _ _ hz1]; exact q2
      have r3 : w2.frozen? ⟨w.heap.size, 1, none⟩ = false := by rw [hf2 _ _ hz1]; exact q3
      have hB4 := hB2.trans (hB3.mono hB2.size)
      clear hB2 hB3 hc2 hf2
      go_wp2
      refine bodyPost_ret (v := .tuple #[ratV (rn, rd), .bool rb]) (by simp [results, Tryz.results8, go_sem, r0, r1, ratV]) rfl ⟨rfl, ?_⟩
      exact (hB4.setCell (p := ⟨w.heap.size, 0, none⟩) (Nat.le_refl _) _).setCell (p := ⟨w.heap.size, 1, none⟩) (Nat.le_refl _) _

set_option maxHeartbeats 400000 in
theorem implRootBound_any (v : Value) (p : List Int) (w : World) (hv : IntsV w v p) (hm : szIntS p ≤ 1099511627776) :
    Calls Tryz.prog 7 #[v] w (Ret (.tuple #[ratV (RootBound_v p).1, .bool (RootBound_v p).2]) w) := by
  cases hok : boundOk p
  rotate_left
  · refine implRootBound_yes v p (p.length - 1) w hv hok ?_
    simp only [boundOk, Bool.and_eq_true, Bool.not_eq_true', decide_eq_false_iff_not] at hok
    omega
  replace hm : p.length ≤ 1099511627776 := hm
  rw [RootBound_no hok]
  have hB : Below w.heap.size w (w.alloc (.cells #[.int .i64 0, .int .i64 0] 29)) := (Below.refl _ _).alloc (Nat.le_refl _) _
  have c1 := isPolynomial_ret v p _ (hv.below hB) hm
  obtain ⟨ao, cap, rfl, -, -, -⟩ := hv
  cases hp : polyB p
  · rw [hp] at c1
    generalize p.length = n at *
    have c1' := Lib.hid c1
    clear c1
    clear hok hp
    go_enter Tryz.func7, Tryz.ntmps7
    go_wp2_with fail
    refine (c1'.out).mono ?_
    rintro e w1 ⟨rfl, hB1⟩
    obtain ⟨hc1, hf1⟩ := bcell hB1
    have hz1 : w.heap.size < w1.heap.size := by have := hB1.size; simp at this; omega
    have hB2 := hB.trans (hB1.mono hB.size)
    have q0 : w1.cell? ⟨w.heap.size, 0, none⟩ = some (.int .i64 0) := by rw [hc1 _ _ (by simp)]; simp [go_sem]
    have q1 : w1.cell? ⟨w.heap.size, 1, none⟩ = some (.int .i64 0) := by rw [hc1 _ _ (by simp)]; simp [go_sem]
    have q2 : w1.frozen? ⟨w.heap.size, 0, none⟩ = false := by rw [hf1 _ _ (by simp)]; simp [go_sem]
    have q3 : w1.frozen? ⟨w.heap.size, 1, none⟩ = false := by rw [hf1 _ _ (by simp)]; simp [go_sem]
    clear hB hB1 hc1 hf1
    go_wp2
    refine bodyPost_ret (v := .tuple #[ratV (0, 0), .bool false]) (by simp [results, Tryz.results7, go_sem, q0, q1, ratV]) rfl ⟨rfl, ?_⟩
    exact (hB2.setCell (p := ⟨w.heap.size, 0, none⟩) (Nat.le_refl _) _).setCell (p := ⟨w.heap.size, 1, none⟩) (Nat.le_refl _) _
  · rw [hp] at c1
    have h0 : p.length = 0 := by simpa [boundOk, hp] using hok
    rw [h0] at c1 ⊢
    have c1' := Lib.hid c1
    have h0' := Lib.hid h0
    clear c1 h0
    clear hok hp
    go_enter Tryz.func7, Tryz.ntmps7
    go_wp2_with fail
    refine (c1'.out).mono ?_
    rintro e w1 ⟨rfl, hB1⟩
    obtain ⟨hc1, hf1⟩ := bcell hB1
    have hz1 : w.heap.size < w1.heap.size := by have := hB1.size; simp at this; omega
    have hB2 := hB.trans (hB1.mono hB.size)
    have q0 : w1.cell? ⟨w.heap.size, 0, none⟩ = some (.int .i64 0) := by rw [hc1 _ _ (by simp)]; simp [go_sem]
    have q1 : w1.cell? ⟨w.heap.size, 1, none⟩ = some (.int .i64 0) := by rw [hc1 _ _ (by simp)]; simp [go_sem]
    have q2 : w1.frozen? ⟨w.heap.size, 0, none⟩ = false := by rw [hf1 _ _ (by simp)]; simp [go_sem]
    have q3 : w1.frozen? ⟨w.heap.size, 1, none⟩ = false := by rw [hf1 _ _ (by simp)]; simp [go_sem]
    clear hB hB1 hc1 hf1
    go_wp2
    refine bodyPost_ret (v := .tuple #[ratV (0, 0), .bool false]) (by simp [results, Tryz.results7, go_sem, q0, q1, ratV]) rfl ⟨rfl, ?_⟩
    exact (hB2.setCell (p := ⟨w.heap.size, 0, none⟩) (Nat.le_refl _) _).setCell (p := ⟨w.heap.size, 1, none⟩) (Nat.le_refl _) _
set_option maxHeartbeats 400000 in
theorem specRootBound_any (v : Value) (p : List Int) (w : World) (hv : IntsV w v p) (hm : szIntS p ≤ 1099511627776) :
    Calls Tryz.prog 8 #[v] w (Ret (.tuple #[ratV (RootBound_v p).1, .bool (RootBound_v p).2]) w) := by
  cases hok : boundOk p
  rotate_left
  · refine specRootBound_yes v p (p.length - 1) w hv hok ?_
    simp only [boundOk, Bool.and_eq_true, Bool.not_eq_true', decide_eq_false_iff_not] at hok
    omega
  replace hm : p.length ≤ 1099511627776 := hm
  rw [RootBound_no hok]
  have hB : Below w.heap.size w (w.alloc (.cells #[.int .i64 0, .int .i64 0] 29)) := (Below.refl _ _).alloc (Nat.le_refl _) _
  have c1 := poGood_ret v p _ (hv.below hB) hm
  obtain ⟨ao, cap, rfl, -, -, -⟩ := hv
  cases hp : polyB p
  · rw [hp] at c1
    generalize p.length = n at *
    have c1' := Lib.hid c1
    clear c1
    clear hok hp
    go_enter Tryz.func8, Tryz.ntmps8
    go_wp2_with fail
    refine (c1'.out).mono ?_
    rintro e w1 ⟨rfl, hB1⟩
    obtain ⟨hc1, hf1⟩ := bcell hB1
    have hz1 : w.heap.size < w1.heap.size := by have := hB1.size; simp at this; omega
    have hB2 := hB.trans (hB1.mono hB.size)
    have q0 : w1.cell? ⟨w.heap.size, 0, none⟩ = some (.int .i64 0) := by rw [hc1 _ _ (by simp)]; simp [go_sem]
    have q1 : w1.cell? ⟨w.heap.size, 1, none⟩ = some (.int .i64 0) := by rw [hc1 _ _ (by simp)]; simp [go_sem]
    have q2 : w1.frozen? ⟨w.heap.size, 0, none⟩ = false := by rw [hf1 _ _ (by simp)]; simp [go_sem]
    have q3 : w1.frozen? ⟨w.heap.size, 1, none⟩ = false := by rw [hf1 _ _ (by simp)]; simp [go_sem]
    clear hB hB1 hc1 hf1
    go_wp2
    refine bodyPost_ret (v := .tuple #[ratV (0, 0), .bool false]) (by simp [results, Tryz.results8, go_sem, q0, q1, ratV]) rfl ⟨rfl, ?_⟩
    exact (hB2.setCell (p := ⟨w.heap.size, 0, none⟩) (Nat.le_refl _) _).setCell (p := ⟨w.heap.size, 1, none⟩) (Nat.le_refl _) _
  · rw [hp] at c1
    have h0 : p.length = 0 := by simpa [boundOk, hp] using hok
    rw [h0] at c1 ⊢
    have c1' := Lib.hid c1
    have h0' := Lib.hid h0
    clear c1 h0
    clear hok hp
    go_enter Tryz.func8, Tryz.ntmps8
    go_wp2_with fail
    refine (c1'.out).mono ?_
    rintro e w1 ⟨rfl, hB1⟩
    obtain ⟨hc1, hf1⟩ := bcell hB1
    have hz1 : w.heap.size < w1.heap.size := by have := hB1.size; simp at this; omega
    have hB2 := hB.trans (hB1.mono hB.size)
    have q0 : w1.cell? ⟨w.heap.size, 0, none⟩ = some (.int .i64 0) := by rw [hc1 _ _ (by simp)]; simp [go_sem]
    have q1 : w1.cell? ⟨w.heap.size, 1, none⟩ = some (.int .i64 0) := by rw [hc1 _ _ (by simp)]; simp [go_sem]
    have q2 : w1.frozen? ⟨w.heap.size, 0, none⟩ = false := by rw [hf1 _ _ (by simp)]; simp [go_sem]
    have q3 : w1.frozen? ⟨w.heap.size, 1, none⟩ = false := by rw [hf1 _ _ (by simp)]; simp [go_sem]
    clear hB hB1 hc1 hf1
    go_wp2
    refine bodyPost_ret (v := .tuple #[ratV (0, 0), .bool false]) (by simp [results, Tryz.results8, go_sem, q0, q1, ratV]) rfl ⟨rfl, ?_⟩
    exact (hB2.setCell (p := ⟨w.heap.size, 0, none⟩) (Nat.le_refl _) _).setCell (p := ⟨w.heap.size, 1, none⟩) (Nat.le_refl _) _

end Go.Proofs.YtgpabfbnbmbmeaaGreatDoor

namespace Go.Proofs.YtgpabfbnbmbmeaaGreatDoor
open Go.RowKit

/-- Changes of sign behind a number. -/
def vr : Int → List Int → Nat
  | _, [] => 0
  | l, a :: t => if a = 0 then vr l t else (if l ≠ 0 ∧ ¬ (l < 0 ↔ a < 0) then 1 else 0) + vr a t
theorem vr_chg : ∀ (xs : List Int) (c l : Int), (xs.foldl chgStep (c, l)).1 = c + vr l xs := by
  intro xs
  induction xs with
  | nil => intro c l; simp [vr]
  | cons a t ih =>
    intro c l
    rw [List.foldl_cons]
    have e : chgStep (c, l) a = if a = 0 then (c, l) else (if l ≠ 0 ∧ ¬ (l < 0 ↔ a < 0) then c + 1 else c, a) := rfl
    rw [e, vr]
    by_cases ha : a = 0
    · rw [if_pos ha, if_pos ha]; exact ih c l
    · rw [if_neg ha, if_neg ha]
      by_cases hs : l ≠ 0 ∧ ¬ (l < 0 ↔ a < 0)
      · rw [if_pos hs, if_pos hs, ih]; omega
      · rw [if_neg hs, if_neg hs, ih]; omega
/-- Adding the next one to one. -/
theorem vr_add (s a b : Int) (t : List Int) : vr s ((a + b) :: b :: t) ≤ vr s (a :: b :: t) := by
  by_cases hb : b = 0
  · subst hb; rw [Int.add_zero]; exact Nat.le_refl _
  · simp only [vr, if_neg hb]
    by_cases ha : a = 0
    · subst ha
      rw [Int.zero_add, if_neg hb, if_pos rfl]
      have : ¬ (b ≠ 0 ∧ ¬ (b < 0 ↔ b < 0)) := by simp
      rw [if_neg this]; omega
    · rw [if_neg ha]
      by_cases hab : a + b = 0
      · rw [if_pos hab]
        split <;> split <;> split <;> omega
      · rw [if_neg hab]
        split <;> split <;> split <;> split <;> omega
theorem vr_tail {u v : List Int} (h : ∀ s, vr s u ≤ vr s v) (s x : Int) : vr s (x :: u) ≤ vr s (x :: v) := by
  simp only [vr]
  by_cases hx : x = 0
  · rw [if_pos hx, if_pos hx]; exact h s
  · rw [if_neg hx, if_neg hx]; have := h x; omega
/-- Each with the next one added. -/
def bid : List Int → List Int
  | [] => []
  | [b] => [b]
  | b :: c :: t => (b + c) :: bid (c :: t)
theorem vr_bid : ∀ (l : List Int) (s : Int), vr s (bid l) ≤ vr s l := by
  intro l
  induction l with
  | nil => intro s; exact Nat.le_refl _
  | cons b u ih =>
    intro s
    cases u with
    | nil => exact Nat.le_refl _
    | cons c t => exact Nat.le_trans (vr_tail ih s (b + c)) (vr_add s b c t)
theorem pv_bid (x : Int) : ∀ (u : List Int) (b : Int), pv x (bid (b :: u)) = b + (x + 1) * pv x u := by
  intro u
  induction u with
  | nil => intro b; simp [bid, pv]
  | cons c t ih =>
    intro b
    rw [bid, pv, ih c, pv]
    grind
theorem bid_last : ∀ (u : List Int) (b : Int), (bid (b :: u)).getLast? = (b :: u).getLast? := by
  intro u
  induction u with
  | nil => intro b; rfl
  | cons c t ih =>
    intro b
    rw [bid, List.getLast?_cons, ih c, List.getLast?_cons_cons]
    cases h : (c :: t).getLast? with
    | none => simp at h
    | some z => rfl
/-- The polynomial at x + 1. -/
def shf : List Int → List Int
  | [] => []
  | a :: t => bid (a :: shf t)
theorem vr_shf : ∀ (l : List Int) (s : Int), vr s (shf l) ≤ vr s l := by
  intro l
  induction l with
  | nil => intro s; exact Nat.le_refl _
  | cons a t ih => intro s; exact Nat.le_trans (vr_bid _ s) (vr_tail ih s a)
theorem pv_shf (x : Int) : ∀ l : List Int, pv x (shf l) = pv (x + 1) l := by
  intro l
  induction l with
  | nil => rfl
  | cons a t ih => rw [shf, pv_bid, ih, pv]; grind
theorem shf_last : ∀ l : List Int, (shf l).getLast? = l.getLast? := by
  intro l
  induction l with
  | nil => rfl
  | cons a t ih =>
    rw [shf, bid_last]
    cases t with
    | nil => rfl
    | cons b t =>
      rw [List.getLast?_cons, ih, List.getLast?_cons_cons]
      cases h : (b :: t).getLast? with
      | none => simp at h
      | some z => rfl
/-- The number of changes tells whether the first and the last have one sign. -/
theorem vr_par : ∀ (l : List Int) (s z : Int), s ≠ 0 → l.getLast? = some z → z ≠ 0 → vr s l % 2 = if (s < 0 ↔ z < 0) then 0 else 1 := by
  intro l
  induction l with
  | nil => intro s z _ h; cases h
  | cons a t ih =>
    intro s z hs h hz
    cases t with
    | nil =>
      obtain rfl : a = z := by simpa using h
      simp only [vr, if_neg hz]
      by_cases e : s < 0 ↔ a < 0
      · simp [e]
      · simp [e, hs]
    | cons b t =>
      rw [List.getLast?_cons_cons] at h
      rw [vr]
      by_cases ha : a = 0
      · rw [if_pos ha]; exact ih s z hs h hz
      · rw [if_neg ha]
        have := ih a z ha h hz
        by_cases e : s < 0 ↔ a < 0
        · rw [if_neg (by simp [e])]
          rw [Nat.zero_add, this]
          simp only [e]
        · rw [if_pos ⟨hs, e⟩]
          split at this <;> split <;> omega
/-- Values at neighbouring numbers have unlike signs: there is a change less. -/
theorem vr_less {l : List Int} {z : Int} (hl : l.getLast? = some z) (hz : z ≠ 0) (h : pv 0 l * pv 1 l < 0) : vr 0 (shf l) + 1 ≤ vr 0 l := by
  have h1 := vr_shf l 0
  have hs := shf_last l
  have hp := pv_shf 0 l
  rw [hl] at hs
  rw [Int.zero_add] at hp
  rw [← hp] at h
  have par : ∀ m : List Int, m.getLast? = some z → pv 0 m ≠ 0 → vr 0 m % 2 = if (pv 0 m < 0 ↔ z < 0) then 0 else 1 := by
    intro m hm h0
    cases m with
    | nil => cases hm
    | cons a t =>
      have ha : pv 0 (a :: t) = a := by simp [pv]
      rw [ha] at h0 ⊢
      cases t with
      | nil =>
        obtain rfl : a = z := by simpa using hm
        simp [vr, h0]
      | cons b t =>
        rw [List.getLast?_cons_cons] at hm
        have := vr_par (b :: t) a z h0 hm hz
        rw [vr, if_neg h0, if_neg (by simp), Nat.zero_add]
        exact this
  have n0 : pv 0 l ≠ 0 := fun e => by rw [e, Int.zero_mul] at h; omega
  have n1 : pv 0 (shf l) ≠ 0 := fun e => by rw [e, Int.mul_zero] at h; omega
  have q0 := par l hl n0
  have q1 := par (shf l) hs n1
  have hd : (pv 0 l < 0) ↔ ¬ (pv 0 (shf l) < 0) := by
    constructor
    · intro a b
      have := Int.mul_pos_of_neg_of_neg a b; omega
    · intro a
      apply Classical.byContradiction
      intro b
      have := Int.mul_nonneg (show 0 ≤ pv 0 l by omega) (show 0 ≤ pv 0 (shf l) by omega); omega
  by_cases e : vr 0 (shf l) = vr 0 l
  · rw [e, q0] at q1
    split at q1 <;> split at q1 <;> first | omega | grind
  · omega
def shN (l : List Int) : Nat → List Int
  | 0 => l
  | n + 1 => shf (shN l n)
theorem shN_val (l : List Int) : ∀ (n : Nat) (x : Int), pv x (shN l n) = pv (x + n) l := by
  intro n
  induction n with
  | zero => intro x; simp [shN]
  | succ n ih => intro x; rw [shN, pv_shf, ih]; congr 1; omega
theorem shN_last (l : List Int) : ∀ n : Nat, (shN l n).getLast? = l.getLast? := by
  intro n
  induction n with
  | zero => rfl
  | succ n ih => rw [shN, shf_last, ih]
/-- How often values at k and k + 1 have unlike signs, k from 1 to n. -/
def btw (f : Nat → Int) : Nat → Int
  | 0 => 0
  | n + 1 => btw f n + if 0 < n ∧ f n * f (n + 1) < 0 then 1 else 0
theorem descartes {l : List Int} {z : Int} (hl : l.getLast? = some z) (hz : z ≠ 0) : ∀ n : Nat, btw (fun k => pv k l) n + vr 0 (shN l n) ≤ vr 0 l := by
  intro n
  induction n with
  | zero => simp [btw, shN]
  | succ n ih =>
    rw [btw, shN]
    have h1 := vr_shf (shN l n) 0
    split
    · rename_i h
      have h2 := vr_less (l := shN l n) (by rw [shN_last]; exact hl) hz (by
        rw [shN_val, shN_val]
        have := h.2
        rw [Int.zero_add, show (1 : Int) + n = ((n + 1 : Nat) : Int) by omega]
        exact this)
      omega
    · omega
/-- The coefficients times powers of the denominator. -/
def scl (d : Int) : List Int → List Int
  | [] => []
  | a :: t => a * d ^ t.length :: scl d t
theorem scl_pv (n d : Int) : ∀ xs : List Int, pv n (scl d xs) = hv n d xs := by
  intro xs
  induction xs with
  | nil => rfl
  | cons a t ih => rw [scl, pv, ih, hv]
theorem pow_pos' {d : Int} (h : 0 < d) (n : Nat) : 0 < d ^ n := Int.pow_pos h
theorem scl_vr {d : Int} (hd : 0 < d) : ∀ (xs : List Int) (s s' : Int), (s = 0 ↔ s' = 0) → (s < 0 ↔ s' < 0) → vr s (scl d xs) = vr s' xs := by
  intro xs
  induction xs with
  | nil => intros; rfl
  | cons a t ih =>
    intro s s' h0 h1
    have hp := pow_pos' hd t.length
    have e0 : a * d ^ t.length = 0 ↔ a = 0 := by
      rw [Int.mul_eq_zero]; omega
    have e1 : a * d ^ t.length < 0 ↔ a < 0 := by
      constructor
      · intro h
        apply Classical.byContradiction
        intro q
        have := Int.mul_nonneg (show 0 ≤ a by omega) (Int.le_of_lt hp)
        omega
      · intro h; exact Int.mul_neg_of_neg_of_pos h hp
    rw [scl, vr, vr, ih _ _ e0 e1, ih _ _ h0 h1]
    simp only [e0, e1, h0, h1, ne_eq]
theorem scl_last (d : Int) : ∀ xs : List Int, (scl d xs).getLast? = xs.getLast? := by
  intro xs
  induction xs with
  | nil => rfl
  | cons a t ih =>
    rw [scl]
    cases t with
    | nil => simp [scl]
    | cons b t =>
      rw [List.getLast?_cons, ih, List.getLast?_cons_cons]
      cases h : (b :: t).getLast? with
      | none => simp at h
      | some z => rfl
theorem hv_bd {n d : Int} (hn : -30 ≤ n ∧ n ≤ 30) (hd : 0 ≤ d ∧ d ≤ 30) : ∀ xs : List Int, (∀ x, x ∈ xs → -1000000 ≤ x ∧ x ≤ 1000000) → (hv n d xs).natAbs ≤ xs.length * 1000000 * 30 ^ (xs.length - 1) := by
  intro xs
  induction xs with
  | nil => intro _; exact Nat.le_refl _
  | cons a t ih =>
    intro h
    have ha := h a (List.mem_cons_self ..)
    have ht := ih (fun x q => h x (List.mem_cons_of_mem _ q))
    rw [hv, List.length_cons, Nat.add_sub_cancel]
    have h1 : (hv n d t * n).natAbs ≤ t.length * 1000000 * 30 ^ (t.length - 1) * 30 := by
      rw [Int.natAbs_mul]; exact Nat.mul_le_mul ht (by omega)
    have h2 : (a * d ^ t.length).natAbs ≤ 1000000 * 30 ^ t.length := by
      rw [Int.natAbs_mul, Int.natAbs_pow]
      exact Nat.mul_le_mul (by omega) (Nat.pow_le_pow_left (by omega) _)
    have h3 : t.length * 1000000 * 30 ^ (t.length - 1) * 30 = t.length * 1000000 * 30 ^ t.length := by
      cases t with
      | nil => simp
      | cons b u => rw [List.length_cons, Nat.add_sub_cancel, Nat.pow_succ, Nat.mul_assoc _ (30 ^ _) 30]
    have h4 : (hv n d t * n + a * d ^ t.length).natAbs ≤ (hv n d t * n).natAbs + (a * d ^ t.length).natAbs := Int.natAbs_add_le _ _
    have h5 : (t.length + 1) * 1000000 * 30 ^ t.length = t.length * 1000000 * 30 ^ t.length + 1000000 * 30 ^ t.length := by
      rw [Nat.add_mul, Nat.add_mul, Nat.one_mul]
    omega
theorem hv_in {n d : Int} (hn : -30 ≤ n ∧ n ≤ 30) (hd : 0 ≤ d ∧ d ≤ 30) {xs : List Int} (hl : xs.length ≤ 9) (h : ∀ x, x ∈ xs → -1000000 ≤ x ∧ x ≤ 1000000) : wrap64 (hv n d xs) = hv n d xs := by
  have h1 := hv_bd hn hd xs h
  have h2 : xs.length * 1000000 * 30 ^ (xs.length - 1) ≤ 9 * 1000000 * 30 ^ 8 := Nat.mul_le_mul (by omega) (Nat.pow_le_pow_right (by omega) (by omega))
  unfold wrap64
  omega
/-- Beyond the bound the value has the sign of the last coefficient. -/
theorem cauchy {n d M z g : Int} (hd : 0 < d) (_hM : 0 ≤ M) (hg : g = 1 ∨ g = -1) (hz : 0 < z * g) (hn : (M + z * g) * d ≤ n * (z * g)) : ∀ xs : List Int, (∀ x, x ∈ xs → -M ≤ x ∧ x ≤ M) → z * g * d ^ xs.length ≤ hv n d (xs ++ [z]) * g := by
  intro xs
  induction xs with
  | nil => intro _; simp [hv]
  | cons a t ih =>
    intro h
    have ha := h a (List.mem_cons_self ..)
    have h1 := ih (fun x q => h x (List.mem_cons_of_mem _ q))
    have hp := pow_pos' hd t.length
    have hn0 : 0 ≤ n := by
      apply Classical.byContradiction
      intro q
      have h2 := Int.mul_nonneg (show 0 ≤ M + z * g by omega) (Int.le_of_lt hd)
      have h3 := Int.mul_neg_of_neg_of_pos (show n < 0 by omega) hz
      omega
    have e : hv n d (a :: t ++ [z]) = hv n d (t ++ [z]) * n + a * (d ^ t.length * d) := by
      rw [List.cons_append, hv, List.length_append, List.length_singleton, Int.pow_succ]
    rw [e, List.length_cons, Int.pow_succ]
    have h2 := Int.mul_le_mul_of_nonneg_right h1 hn0
    have h3 : -M ≤ a * g := by rcases hg with rfl | rfl <;> omega
    have h4 := Int.mul_le_mul_of_nonneg_right h3 (Int.le_of_lt (Int.mul_pos hp hd))
    have h5 := Int.mul_le_mul_of_nonneg_right hn (Int.le_of_lt hp)
    grind
/-- How often neighbouring places between 1 and n have unlike signs. -/
theorem between_le {d z : Int} {xs : List Int} (hd : 0 < d) (hl : xs.getLast? = some z) (hz : z ≠ 0) (n : Nat) : btw (fun k => hv k d xs) n ≤ (xs.foldl chgStep (0, 0)).1 := by
  have h := descartes (l := scl d xs) (by rw [scl_last]; exact hl) hz n
  rw [scl_vr hd xs 0 0 Iff.rfl Iff.rfl] at h
  have e : (fun k : Nat => pv k (scl d xs)) = fun k : Nat => hv k d xs := funext fun k => scl_pv _ _ _
  rw [e] at h
  rw [vr_chg]
  omega
end Go.Proofs.YtgpabfbnbmbmeaaGreatDoor

namespace Go.Proofs.YtgpabfbnbmbmeaaGreatDoor
open Go.RowKit

/-- Numerator and denominator are int64. -/
def I64R (r : Int × Int) : Prop := I64 r.1 ∧ I64 r.2


end Go.Proofs.YtgpabfbnbmbmeaaGreatDoor

namespace Go.Proofs.YtgpabfbnbmbmeaaGreatDoor
open Go.RowKit

/-- A fraction at which signs are told. -/
def placeB (n d : Int) : Bool := goodR n d && decide (d ≤ 30) && inB n (-30) 30
theorem poPlace_any (n d : Int) (w : World) : Calls Tryz.prog 46 #[.agg #[.int .i64 n, .int .i64 d]] w (Ret (.bool (placeB n d)) w) := by
  have hB : Below w.heap.size w (w.alloc (.cells #[.int .i64 n, .int .i64 d] 29)) := (Below.refl _ _).alloc (Nat.le_refl _) _
  have c1 := fun w => raGood_any n d w
  unfold placeB
  have c1' := Lib.hid c1
  clear c1
  cases h : goodR n d
  · rw [h] at c1'
    rw [Bool.false_and, Bool.false_and]
    clear h
    go_enter Tryz.func46, Tryz.ntmps46
    go_wp2_with fail
    refine (c1'.out _).mono ?_
    rintro e w1 ⟨rfl, hB2⟩
    go_wp2
    go_ret
    exact ⟨rfl, hB.trans (hB2.mono hB.size)⟩
  · rw [h] at c1'
    rw [Bool.true_and]
    clear h
    by_cases h1 : d ≤ 30
    · rw [decide_eq_true h1, Bool.true_and]
      go_enter Tryz.func46, Tryz.ntmps46
      go_wp2_with fail
      refine (c1'.out _).mono ?_
      rintro e w1 ⟨rfl, hB2⟩
      obtain ⟨hc, hf⟩ := bcell hB2
      have hB3 := hB.trans (hB2.mono hB.size)
      clear hB hB2
      go_wp2_with fail
      refine (l1In_any _ _ _ _).mono ?_
      rintro e w_ ⟨rfl, rfl⟩
      go_wp2
      go_ret
      exact ⟨rfl, hB3⟩
    · rw [decide_eq_false h1, Bool.false_and]
      have hd : decide (d ≤ 30) = false := decide_eq_false h1
      go_enter Tryz.func46, Tryz.ntmps46
      go_wp2_with fail
      refine (c1'.out _).mono ?_
      rintro e w1 ⟨rfl, hB2⟩
      obtain ⟨hc, hf⟩ := bcell hB2
      have hB3 := hB.trans (hB2.mono hB.size)
      clear hB hB2
      go_wp2
      go_ret
      exact ⟨rfl, hB3⟩

def signOk (p : List Int) (n d : Int) : Bool := polyB p && placeB n d
/-- What both SignAt functions return. -/
def SignAt_v (p : List Int) (x : Int × Int) : Int × Bool := if signOk p x.1 x.2 = true then (signV p x.1 x.2, true) else (0, false)
theorem SignAt_no {p : List Int} {n d : Int} (h : signOk p n d = false) : SignAt_v p (n, d) = (0, false) := by simp [SignAt_v, h]
theorem SignAt_yes {p : List Int} {n d : Int} (h : signOk p n d = true) : SignAt_v p (n, d) = (signV p n d, true) := by simp [SignAt_v, h]

set_option maxHeartbeats 400000 in
theorem specSignAt_any (v : Value) (p : List Int) (x : Int × Int) (w : World) (hv : IntsV w v p) (hm : szIntS p ≤ 1099511627776) (_hx : I64R x) :
    Calls Tryz.prog 15 #[v, .agg #[.int .i64 x.1, .int .i64 x.2]] w (Ret (.tuple #[.int .i64 (SignAt_v p x).1, .bool (SignAt_v p x).2]) w) := by
  replace hm : p.length ≤ 1099511627776 := hm
  obtain ⟨n, d⟩ := x
  have hB : Below w.heap.size w (w.alloc (.cells #[.int .i64 n, .int .i64 d] 29)) := (Below.refl _ _).alloc (Nat.le_refl _) _
  have c1 := poGood_any v p _ (hv.below hB) hm
  have c2 := fun w => poPlace_any n d w
  have c1' := Lib.hid c1
  have c2' := Lib.hid c2
  clear c1 c2
  cases h1 : polyB p
  · rw [h1] at c1'
    rw [SignAt_no (by simp [signOk, h1])]
    clear h1 hv
    go_enter Tryz.func15, Tryz.ntmps15
    go_wp2_with fail
    refine (c1'.out).mono ?_
    rintro e w_ ⟨rfl, rfl⟩
    go_wp2
    go_ret2
    exact ⟨rfl, hB⟩
  rw [h1] at c1'
  cases h2 : placeB n d
  · rw [h2] at c2'
    rw [SignAt_no (by simp [signOk, h2])]
    clear h1 h2 hv
    go_enter Tryz.func15, Tryz.ntmps15
    go_wp2_with fail
    refine (c1'.out).mono ?_
    rintro e w_ ⟨rfl, rfl⟩
    go_wp2_with fail
    refine (c2'.out _).mono ?_
    rintro e w2 ⟨rfl, hB2⟩
    go_wp2
    go_ret2
    exact ⟨rfl, hB.trans (hB2.mono hB.size)⟩
  rw [h2] at c2'
  rw [SignAt_yes (by simp [signOk, h1, h2])]
  have c3 := fun w' hB => poSign_any v p n d w' (hv.below hB) hm
  generalize signV p n d = S at *
  have c3' := Lib.hid c3
  clear c3
  clear h1 h2 hv
  go_enter Tryz.func15, Tryz.ntmps15
  go_wp2_with fail
  refine (c1'.out).mono ?_
  rintro e w_ ⟨rfl, rfl⟩
  go_wp2_with fail
  refine (c2'.out _).mono ?_
  rintro e w2 ⟨rfl, hB2⟩
  obtain ⟨hc, hf⟩ := bcell hB2
  have hB3 := hB.trans (hB2.mono hB.size)
  clear hB hB2
  go_wp2_with fail
  refine (c3'.out _ hB3).mono ?_
  rintro e w_ ⟨rfl, rfl⟩
  go_wp2
  go_ret2
  exact ⟨rfl, hB3⟩

set_option maxHeartbeats 800000 in
theorem implSignAt_any (v : Value) (p : List Int) (x : Int × Int) (w : World) (hv : IntsV w v p) (hm : szIntS p ≤ 1099511627776) (_hx : I64R x) :
    Calls Tryz.prog 14 #[v, .agg #[.int .i64 x.1, .int .i64 x.2]] w (Ret (.tuple #[.int .i64 (SignAt_v p x).1, .bool (SignAt_v p x).2]) w) := by
  replace hm : p.length ≤ 1099511627776 := hm
  obtain ⟨n, d⟩ := x
  have hB : Below w.heap.size w (w.alloc (.cells #[.int .i64 n, .int .i64 d] 29)) := (Below.refl _ _).alloc (Nat.le_refl _) _
  have c1 := isPolynomial_ret v p _ (hv.below hB) hm
  have c2 := fun w => isRat_any n d w
  have c1' := Lib.hid c1
  have c2' := Lib.hid c2
  clear c1 c2
  cases h1 : polyB p
  · rw [h1] at c1'
    rw [SignAt_no (by simp [signOk, h1])]
    clear h1 hv
    go_enter Tryz.func14, Tryz.ntmps14
    go_wp2_with fail
    refine (c1'.out).mono ?_
    rintro e w1 ⟨rfl, hB1⟩
    go_wp2
    go_ret2
    exact ⟨rfl, hB.trans (hB1.mono hB.size)⟩
  rw [h1] at c1'
  cases h2 : goodR n d
  · rw [h2] at c2'
    rw [SignAt_no (by simp [signOk, placeB, h2])]
    clear h1 h2 hv
    go_enter Tryz.func14, Tryz.ntmps14
    go_wp2_with fail
    refine (c1'.out).mono ?_
    rintro e w1 ⟨rfl, hB1⟩
    obtain ⟨hc, hf⟩ := bcell hB1
    have hB2 := hB.trans (hB1.mono hB.size)
    clear hB hB1
    go_wp2_with fail
    refine (c2'.out _).mono ?_
    rintro e w2 ⟨rfl, hB3⟩
    go_wp2
    go_ret2
    exact ⟨rfl, hB2.trans (hB3.mono hB2.size)⟩
  rw [h2] at c2'
  have hbd := goodR_bd h2
  by_cases h3 : d ≤ 30
  · have hd : decide (30 < d) = false := decide_eq_false (by omega)
    have hab : -9223372036854775807 ≤ n ∧ n ≤ 9223372036854775807 := by omega
    by_cases h4 : n.natAbs ≤ 30
    · have hd2 : decide ((30 : Int) < (n.natAbs : Int)) = false := decide_eq_false (by omega)
      rw [SignAt_yes (by simp [signOk, placeB, h1, h2, h3, inB]; omega)]
      have c3 := fun w' hB => signAt_any v p n d w' (hv.below hB) hm
      generalize signV p n d = S at *
      have c3' := Lib.hid c3
      clear c3
      clear h1 h2 hv
      go_enter Tryz.func14, Tryz.ntmps14
      go_wp2_with fail
      refine (c1'.out).mono ?_
      rintro e w1 ⟨rfl, hB1⟩
      obtain ⟨hc, hf⟩ := bcell hB1
      have hB2 := hB.trans (hB1.mono hB.size)
      have hz : w.heap.size < w1.heap.size := by have := hB1.size; simp at this; omega
      clear hB hB1
      go_wp2_with fail
      refine (c2'.out _).mono ?_
      rintro e w2 ⟨rfl, hB3⟩
      obtain ⟨hc2, hf2⟩ := bcell hB3
      have hB4 := hB2.trans (hB3.mono hB2.size)
      clear hB2 hB3
      go_wp2_with fail
      refine (abs_any _ _ hab).mono ?_
      rintro e w_ ⟨rfl, rfl⟩
      go_wp2_with fail
      refine (c3'.out _ hB4).mono ?_
      rintro e w3 ⟨rfl, hB5⟩
      go_wp2
      go_ret2
      exact ⟨rfl, hB4.trans (hB5.mono hB4.size)⟩
    · have hd2 : decide ((30 : Int) < (n.natAbs : Int)) = true := decide_eq_true (by omega)
      rw [SignAt_no (by simp [signOk, placeB, h1, h2, h3, inB]; omega)]
      clear h1 h2 hv
      go_enter Tryz.func14, Tryz.ntmps14
      go_wp2_with fail
      refine (c1'.out).mono ?_
      rintro e w1 ⟨rfl, hB1⟩
      obtain ⟨hc, hf⟩ := bcell hB1
      have hB2 := hB.trans (hB1.mono hB.size)
      have hz : w.heap.size < w1.heap.size := by have := hB1.size; simp at this; omega
      clear hB hB1
      go_wp2_with fail
      refine (c2'.out _).mono ?_
      rintro e w2 ⟨rfl, hB3⟩
      obtain ⟨hc2, hf2⟩ := bcell hB3
      have hB4 := hB2.trans (hB3.mono hB2.size)
      clear hB2 hB3
      go_wp2_with fail
      refine (abs_any _ _ hab).mono ?_
      rintro e w_ ⟨rfl, rfl⟩
      go_wp2
      go_ret2
      exact ⟨rfl, hB4⟩
  · have hd : decide (30 < d) = true := decide_eq_true (by omega)
    rw [SignAt_no (by simp [signOk, placeB, h3])]
    clear h1 h2 hv
    go_enter Tryz.func14, Tryz.ntmps14
    go_wp2_with fail
    refine (c1'.out).mono ?_
    rintro e w1 ⟨rfl, hB1⟩
    obtain ⟨hc, hf⟩ := bcell hB1
    have hB2 := hB.trans (hB1.mono hB.size)
    have hz : w.heap.size < w1.heap.size := by have := hB1.size; simp at this; omega
    clear hB hB1
    go_wp2_with fail
    refine (c2'.out _).mono ?_
    rintro e w2 ⟨rfl, hB3⟩
    obtain ⟨hc2, hf2⟩ := bcell hB3
    have hB4 := hB2.trans (hB3.mono hB2.size)
    clear hB2 hB3
    go_wp2
    go_ret2
    exact ⟨rfl, hB4⟩

end Go.Proofs.YtgpabfbnbmbmeaaGreatDoor

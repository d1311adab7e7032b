/- Where a polynomial's roots lie on the grid: signs at n/d, and the intervals in which the sign turns. -/
import Derived.Test.YtjoeanplgikkcaaValue
import Derived.Test.YtjoeanplgikkcaaSigns
namespace Go.Proofs.Ytjoeanplgikkcaa
open Go.RowKit

/-- The value at n/d, times a power of d. -/
def hv (n d : Int) : List Int → Int
  | [] => 0
  | a :: xs => hv n d xs * n + a * d ^ xs.length
theorem hv_snoc (n d : Int) (xs : List Int) (a : Int) : hv n d (xs ++ [a]) = hv n d xs * d + a * n ^ xs.length := by
  induction xs with
  | nil => simp [hv]
  | cons b xs ih =>
    simp only [List.cons_append, hv, ih, List.length_append, List.length_cons, List.length_nil, Nat.zero_add, Int.pow_succ]
    simp only [Int.add_mul, Int.mul_assoc]
    rw [Int.mul_comm d n]; omega
theorem hv_take (n d : Int) {xs : List Int} {k : Nat} (h : k < xs.length) : hv n d (xs.take (k + 1)) = hv n d (xs.take k) * d + nth xs k * n ^ k := by
  rw [take_nth h, hv_snoc, List.length_take, Nat.min_eq_left (by omega)]
theorem hv_drop (n d : Int) {xs : List Int} {k : Nat} (h : k < xs.length) : hv n d (xs.drop k) = hv n d (xs.drop (k + 1)) * n + nth xs k * d ^ (xs.length - (k + 1)) := by
  rw [List.drop_eq_getElem_cons h, hv, nth_eq h, List.length_drop]

/-- The sign at n/d. -/
def signV (xs : List Int) (n d : Int) : Int := sgn (wrap64 (hv n d xs))
theorem signV_cases (xs : List Int) (n d : Int) : signV xs n d = 1 ∨ signV xs n d = -1 ∨ signV xs n d = 0 := by
  unfold signV sgn
  split
  · exact .inl rfl
  · split
    · exact .inr (.inl rfl)
    · exact .inr (.inr rfl)

/-- After k terms: the sum, the power. -/
def HInv (xs : List Int) (n d : Int) (k : Nat) (s u : Int) : Prop := s = wrap64 (hv n d (xs.take k)) ∧ u = wrap64 (n ^ k)
theorem HInv.start (xs : List Int) (n d : Int) : HInv xs n d 0 0 1 := ⟨by rw [List.take_zero, hv]; unfold wrap64; omega, by rw [Int.pow_zero]; unfold wrap64; omega⟩
theorem HInv.step {xs : List Int} {n d : Int} {k : Nat} {s u : Int} (h : HInv xs n d k s u) (hk : k < xs.length) : HInv xs n d (k + 1) (wrap64 (wrap64 (s * d) + wrap64 (nth xs k * u))) (wrap64 (u * n)) := by
  refine ⟨?_, ?_⟩
  · rw [h.1, h.2, wrap64_mul', wrap64_add', wrap64_mul, wrap64_add, hv_take n d hk]
  · rw [h.2, wrap64_mul, Int.pow_succ]

set_option maxHeartbeats 1000000 in
theorem poSign_any (v : Value) (xs : List Int) (n d : Int) (w : World) (hv1 : IntsV w v xs) (hm : xs.length ≤ 1099511627776) :
    Calls Try.prog 102 #[v, .int .i64 n, .int .i64 d] w (Same (.int .i64 (signV xs n d)) w) := by
  have hv' := Lib.hid hv1
  obtain ⟨ao, cap, rfl, -, -, -⟩ := id hv1
  clear hv1
  obtain ⟨l, hl⟩ : ∃ l, xs.length = l := ⟨_, rfl⟩
  rw [hl] at hm hv' ⊢
  have hl' := Lib.hid hl
  clear hl
  go_enter Try.func102, Try.ntmps102
  go_wp2
  go_loop [7, 8, 13] (fun s p i => ∃ (k : Nat) (s' p' : Int), k ≤ l ∧ i = .int .i64 k ∧ s = .int .i64 s' ∧ p = .int .i64 p' ∧ HInv xs n d k s' p') (fun _ _ i => l - (intOf i).toNat)
  case atStart => exact ⟨0, 0, 1, Nat.zero_le _, rfl, rfl, rfl, HInv.start xs n d⟩
  case round =>
    obtain ⟨k, s, p, hk, rfl, rfl, rfl, hI⟩ := hrel
    by_cases hlt : k < l
    · obtain ⟨ao', cap', e, -, -, H⟩ := hv'.out
      rw [hl'.out] at e H
      obtain ⟨rfl, _, rfl⟩ := Value.slice.inj e
      obtain ⟨b, off, rfl, hcell⟩ := H k hlt
      have hst := hI.step (by rw [hl'.out]; exact hlt)
      clear H e
      generalize nth xs k = c at hcell hst
      go_wp2
      go_round
      case rel => exact ⟨k + 1, _, _, by omega, by go_num, rfl, rfl, hst⟩
      case measure => simp [intOf]; omega
    · have ek : k = l := by omega
      have hs : sgn s = signV xs n d := by
        rw [hI.1, ek, ← hl'.out, List.take_length]; rfl
      have hs' := Lib.hid hs
      clear hs hI
      go_wp2_with fail
      refine (l1Sign_any _ _).mono ?_
      rintro e w_ ⟨rfl, rfl⟩
      go_wp2
      go_ret
      rw [← hs'.out]
      exact ⟨rfl, rfl⟩

/-- One term more from the end: the sum, the power of d. -/
def stepW (n d : Int) (s : Int × Int) (p : Int × Int) : Int × Int := (wrap64 (wrap64 (s.1 * n) + wrap64 (p.2 * s.2)), wrap64 (s.2 * d))
def backW (n d : Int) (l : List (Int × Int)) : Int × Int := l.foldl (stepW n d) (0, 1)
theorem backW_snoc (n d : Int) (l : List (Int × Int)) (p : Int × Int) : backW n d (l ++ [p]) = stepW n d (backW n d l) p := by simp [backW]
theorem backW_to (n d : Int) (xs : List Int) : ∀ k, k ≤ xs.length → backW n d (bkTo xs k) = (wrap64 (hv n d (xs.drop (xs.length - k))), wrap64 (d ^ k))
  | 0, _ => by rw [Nat.sub_zero, List.drop_length]; simp [bkTo, backW, hv, wrap64]
  | k + 1, h => by
    rw [bkTo_succ, backW_snoc, backW_to n d xs k (by omega), bkAt]
    simp only [stepW]
    rw [wrap64_mul, wrap64_mul', wrap64_mul, wrap64_add, wrap64_add', hv_drop n d (show xs.length - (k + 1) < xs.length by omega), show xs.length - (k + 1) + 1 = xs.length - k by omega, show xs.length - 1 - k = xs.length - (k + 1) by omega, show xs.length - (xs.length - k) = k by omega, Int.pow_succ]
theorem backW_all (n d : Int) (xs : List Int) : (backW n d (bkTo xs xs.length)).1 = wrap64 (hv n d xs) := by
  rw [backW_to n d xs _ (Nat.le_refl _), Nat.sub_self, List.drop_zero]

attribute [local go_sem] Oper.semAt_some in
set_option maxRecDepth 100000 in
set_option maxHeartbeats 2000000 in
theorem signAt_any (v : Value) (xs : List Int) (n d : Int) (w : World) (hv1 : IntsV w v xs) (hl9 : xs.length ≤ 1099511627776) :
    Calls Try.prog 104 #[v, .int .i64 n, .int .i64 d] w (Ret (.int .i64 (signV xs n d)) w) := by
  have hv' := Lib.hid hv1
  clear hv1
  refine (callsIn_wide (n := 8)).1 ?_
  refine callsIn_of_wp_marks Try.func104 rfl trivial ?_ rfl
  simp only [Try.ntmps104, List.size_toArray, List.length_cons, List.length_nil, Nat.reduceAdd, Nat.reduceSub, Array.replicate_succ, Array.replicate_zero, List.push_toArray, List.append_toArray, List.nil_append, List.cons_append]
  gi_wp2_with fail
  obtain ⟨N, hN⟩ : ∃ N, w.heap.size = N := ⟨_, rfl⟩
  obtain ⟨w1, hw1⟩ : ∃ W, ((((w.alloc (.cells #[.int .i64 n] 3)).alloc (.cells #[.int .i64 d] 3)).alloc (.cells #[.int .i64 0] 3)).alloc (.cells #[.int .i64 1] 3)) = W := ⟨_, rfl⟩
  have hs1 : w1.heap.size = N + 4 := by rw [← hw1]; simp [hN]
  have hB1 : Below N w w1 := by
    rw [← hw1, ← hN]
    exact ((((Below.refl _ _).alloc (Nat.le_refl _) _).alloc (by simp) _).alloc (by simp; omega) _).alloc (by simp; omega) _
  have hx1 : w1.cell? ⟨N, 0, none⟩ = some (.int .i64 n) := by
    rw [← hw1, World.cell?_alloc_past _ _ _ (by simp; omega), World.cell?_alloc_past _ _ _ (by simp; omega), World.cell?_alloc_past _ _ _ (by simp; omega), World.cell?_alloc_at _ _ _ _ hN.symm]; rfl
  have hd1 : w1.cell? ⟨N + 1, 0, none⟩ = some (.int .i64 d) := by
    rw [← hw1, World.cell?_alloc_past _ _ _ (by simp; omega), World.cell?_alloc_past _ _ _ (by simp; omega), World.cell?_alloc_at _ _ _ _ (by simp [hN])]; rfl
  have ho1 : w1.cell? ⟨N + 1 + 1, 0, none⟩ = some (.int .i64 0) := by
    rw [← hw1, World.cell?_alloc_past _ _ _ (by simp; omega), World.cell?_alloc_at _ _ _ _ (by simp [hN])]; rfl
  have hu1 : w1.cell? ⟨N + 1 + 1 + 1, 0, none⟩ = some (.int .i64 1) := by
    rw [← hw1, World.cell?_alloc_at _ _ _ _ (by simp [hN])]; rfl
  have hf1 : w1.frozen? ⟨N + 1 + 1, 0, none⟩ = false := by
    rw [← hw1, World.frozen?_alloc_past _ _ _ (by simp; omega)]; exact World.frozen?_alloc_at _ _ _ _ (by simp [hN])
  have hg1 : w1.frozen? ⟨N + 1 + 1 + 1, 0, none⟩ = false := by
    rw [← hw1]; exact World.frozen?_alloc_at _ _ _ _ (by simp [hN])
  rw [hw1, hN]
  clear hw1
  refine ⟨trivial, ((callsIn_wide (n := 7)).2 (backward_any v xs _ (hv'.out.below (hN ▸ hB1)))).mono ?_⟩
  rintro e w3 ⟨rfl, rfl⟩
  gi_wp2_with fail
  obtain ⟨w3, hw3⟩ : ∃ W, w1.alloc (.cells #[v] 29) = W := ⟨_, rfl⟩
  have hs3 : w3.heap.size = N + 5 := by rw [← hw3]; simp [hs1]
  have hbs : w3.cell? ⟨N + 4, 0, none⟩ = some v := by rw [← hw3, World.cell?_alloc_at _ _ _ _ hs1.symm]; rfl
  have hx3 : w3.cell? ⟨N, 0, none⟩ = some (.int .i64 n) := by rw [← hw3, World.cell?_alloc_past _ _ _ (by show N < w1.heap.size; omega)]; exact hx1
  have hd3 : w3.cell? ⟨N + 1, 0, none⟩ = some (.int .i64 d) := by rw [← hw3, World.cell?_alloc_past _ _ _ (by show N + 1 < w1.heap.size; omega)]; exact hd1
  have ho3 : w3.cell? ⟨N + 1 + 1, 0, none⟩ = some (.int .i64 0) := by rw [← hw3, World.cell?_alloc_past _ _ _ (by show N + 1 + 1 < w1.heap.size; omega)]; exact ho1
  have hu3 : w3.cell? ⟨N + 1 + 1 + 1, 0, none⟩ = some (.int .i64 1) := by rw [← hw3, World.cell?_alloc_past _ _ _ (by show N + 1 + 1 + 1 < w1.heap.size; omega)]; exact hu1
  have hf3 : w3.frozen? ⟨N + 1 + 1, 0, none⟩ = false := by rw [← hw3, World.frozen?_alloc_past _ _ _ (by show N + 1 + 1 < w1.heap.size; omega)]; exact hf1
  have hg3 : w3.frozen? ⟨N + 1 + 1 + 1, 0, none⟩ = false := by rw [← hw3, World.frozen?_alloc_past _ _ _ (by show N + 1 + 1 + 1 < w1.heap.size; omega)]; exact hg1
  have hB3 : Below N w w3 := by rw [← hw3]; exact hB1.alloc (by omega) _
  rw [hw3]
  clear hw3 hx1 hd1 ho1 hu1 hf1 hg1 hB1
  have hstop := backward_stops 7 (by omega) (N + 4) N v xs w3 hl9 (by omega) hbs (hv'.out.below (hN ▸ hB3)) (fun i hi b off cap e => by
    have h := hv'.out
    obtain ⟨ao, cap', e', -, -, H⟩ := h
    obtain ⟨b', off', e2, hc⟩ := H i hi
    rw [e'] at e
    obtain ⟨h1, _, _⟩ := Value.slice.inj e
    rw [e2] at h1
    cases h1
    have := World.block_lt_of_cell? w _ hc
    simp at this; omega) (by omega)
  refine wpIn_rangeFunc_ownF (n := 8) (w0 := w3) rfl (by omega) (gf := 152) (lb := #[.pointer (some ⟨N + 4, 0, none⟩)]) rfl trivial (enters_of Try.func152 (by kernel_rfl) rfl)
    hstop bkKeeps_t (bkKeeps_b (by omega) (by omega)) (Below.refl _ _) (fun _ => rfl)
    (fun pre W => (W.cell? ⟨N + 1 + 1, 0, none⟩ = some (.int .i64 (backW n d pre).1) ∧ W.cell? ⟨N + 1 + 1 + 1, 0, none⟩ = some (.int .i64 (backW n d pre).2) ∧ W.frozen? ⟨N + 1 + 1, 0, none⟩ = false ∧ W.frozen? ⟨N + 1 + 1 + 1, 0, none⟩ = false ∧ W.cell? ⟨N, 0, none⟩ = some (.int .i64 n) ∧ W.cell? ⟨N + 1, 0, none⟩ = some (.int .i64 d)) ∧ Below N w W)
    (fun _ _ _ => False)
    (OwnFrom.and (fun s A B row hs hg hr => ⟨cell_kept hs.1 hg (fun r e => (hr r e).2), cell_kept hs.2.1 hg (fun r e => (hr r e).2), (frozen_kept hs.1 hg (fun r e => (hr r e).2)).trans hs.2.2.1, (frozen_kept hs.2.1 hg (fun r e => (hr r e).2)).trans hs.2.2.2.1, cell_kept hs.2.2.2.2.1 hg (fun r e => (hr r e).2), cell_kept hs.2.2.2.2.2 hg (fun r e => (hr r e).2)⟩) (ownFrom_below (by omega) (by omega)))
    (fun _ _ _ _ _ hs _ _ => hs)
    ⟨⟨ho3, hu3, hf3, hg3, hx3, hd3⟩, hB3⟩
    (fun p => { tmps := #[v, .int .i64 n, .int .i64 d, undef, .pointer (some ⟨N, 0, none⟩), .pointer (some ⟨N + 1, 0, none⟩), .int .i64 0, .pointer (some ⟨N + 1 + 1, 0, none⟩), .pointer (some ⟨N + 1 + 1 + 1, 0, none⟩), undef, .int .i64 p.2, v, .func (.func 152) #[] #[.pointer (some ⟨N + 4, 0, none⟩)], .int .i64 p.1, .int .i64 p.2, undef, undef, undef, undef, undef, undef, undef, undef, undef, undef, undef, undef, undef, undef, undef, undef], defers := [] }) ?assign ?body ?done ?stop
  case assign =>
    intro l p W K hK
    gi_wp2
    exact hK
  case body =>
    rintro l pre p W ⟨⟨hc, hu, hf, hg, hxc, hdc⟩, hB⟩ _
    gi_wp2
    refine ⟨(KeepsOthers.setCell _ _ _).trans (KeepsOthers.setCell _ _ _), ⟨((Below.refl _ _).setCell (p := ⟨N + 1 + 1, 0, none⟩) (show N ≤ N + 1 + 1 by omega) _).setCell (p := ⟨N + 1 + 1 + 1, 0, none⟩) (show N ≤ N + 1 + 1 + 1 by omega) _, ?_⟩, ⟨?_, ?_, ?_, ?_, ?_, ?_⟩, (hB.setCell (p := ⟨N + 1 + 1, 0, none⟩) (show N ≤ N + 1 + 1 by omega) _).setCell (p := ⟨N + 1 + 1 + 1, 0, none⟩) (show N ≤ N + 1 + 1 + 1 by omega) _⟩
    · rw [Below.heap_setCell _ _ _ _ (by show N + 4 ≠ N + 1 + 1 + 1; omega), Below.heap_setCell _ _ _ _ (by show N + 4 ≠ N + 1 + 1; omega)]
    · rw [World.cell?_setCell_other _ _ _ _ (by simp), backW_snoc]; exact World.cell?_setCell_same' _ _ _ (by rw [hc]; rfl)
    · rw [backW_snoc]; exact World.cell?_setCell_same' _ _ _ (by rw [World.cell?_setCell_other _ _ _ _ (by simp), hu]; rfl)
    · rw [World.frozen?_setCell, World.frozen?_setCell]; exact hf
    · rw [World.frozen?_setCell, World.frozen?_setCell]; exact hg
    · rw [World.cell?_setCell_other _ _ _ _ (by simp), World.cell?_setCell_other _ _ _ _ (by simp)]; exact hxc
    · rw [World.cell?_setCell_other _ _ _ _ (by simp), World.cell?_setCell_other _ _ _ _ (by simp)]; exact hdc
  case done =>
    rintro D ys W hD rfl ⟨⟨hc, hu, hf, hg, hxc, hdc⟩, hB⟩ hK
    have hs := backW_all n d xs
    generalize (backW n d (bkTo xs xs.length)).1 = z at hc hs
    have hsg : sgn z = signV xs n d := by unfold signV; rw [← hs]
    clear hs
    rcases Int.lt_trichotomy z 0 with h1 | h1 | h1
    · have e : sgn z = -1 := by unfold sgn; rw [if_neg (by omega), if_pos h1]
      rw [e] at hsg
      have hsg' := Lib.hid hsg
      clear hsg e
      gi_wp2
      refine ⟨by simp, .inl ⟨_, _, rfl, run_takeDeferred hK, ?_⟩⟩
      refine ⟨_, results_tmp rfl _ _ _, ?_, ?_⟩
      · rw [← hsg'.out]; rfl
      · rw [hN]; exact hB.trans (belowK_b (w := w) (by omega) W D _ _ (by omega) hK rfl rfl)
    · have e : sgn z = 0 := by unfold sgn; rw [if_neg (by omega), if_neg (by omega)]
      rw [e] at hsg
      have hsg' := Lib.hid hsg
      clear hsg e
      subst h1
      gi_wp2
      refine ⟨by simp, .inl ⟨_, _, rfl, run_takeDeferred hK, ?_⟩⟩
      refine ⟨_, results_tmp rfl _ _ _, ?_, ?_⟩
      · rw [← hsg'.out]; rfl
      · rw [hN]; exact hB.trans (belowK_b (w := w) (by omega) W D _ _ (by omega) hK rfl rfl)
    · have e : sgn z = 1 := by unfold sgn; rw [if_pos h1]
      rw [e] at hsg
      have hsg' := Lib.hid hsg
      clear hsg e
      have h0 : ¬ z < 0 := by omega
      gi_wp2
      refine ⟨by simp, .inl ⟨_, _, rfl, run_takeDeferred hK, ?_⟩⟩
      refine ⟨_, results_tmp rfl _ _ _, ?_, ?_⟩
      · rw [← hsg'.out]; rfl
      · rw [hN]; exact hB.trans (belowK_b (w := w) (by omega) W D _ _ (by omega) hK rfl rfl)
  case stop =>
    rintro D c pre W _ _ h _
    exact h.elim

/-- A root lies in [k/d, (k+1)/d). -/
def rootB (xs : List Int) (d : Int) (k : Nat) : Bool := decide (signV xs k d = 0 ∨ signV xs k d * signV xs ((k : Int) + 1) d < 0)
theorem rootB_zero {xs : List Int} {d : Int} {k : Nat} (h : signV xs k d = 0) : rootB xs d k = true := by simp [rootB, h]
theorem rootB_else {xs : List Int} {d : Int} {k : Nat} (h : signV xs k d ≠ 0) : rootB xs d k = decide (wrap64 (signV xs k d * signV xs ((k : Int) + 1) d) < 0) := by
  have : wrap64 (signV xs k d * signV xs ((k : Int) + 1) d) = signV xs k d * signV xs ((k : Int) + 1) d := by
    rcases signV_cases xs k d with e | e | e <;> rcases signV_cases xs ((k : Int) + 1) d with e2 | e2 | e2 <;> rw [e, e2] <;> simp [wrap64]
  simp [rootB, h, this]
theorem rootB_else' {xs : List Int} {d : Int} {k : Nat} (h : signV xs k d ≠ 0) : rootB xs d k = (wrap64 (signV xs k d * signV xs ((k : Int) + 1) d) == -1) := by
  rw [rootB_else h]
  rcases signV_cases xs k d with e | e | e <;> rcases signV_cases xs ((k : Int) + 1) d with e2 | e2 | e2 <;> rw [e, e2] <;> simp [wrap64]
/-- The places below k. -/
def rootTo (xs : List Int) (d : Int) : Nat → List Int
  | 0 => []
  | k + 1 => if rootB xs d k = true then rootTo xs d k ++ [(k : Int)] else rootTo xs d k
theorem rootTo_len (xs : List Int) (d : Int) (k : Nat) : (rootTo xs d k).length ≤ k := by
  induction k with
  | zero => exact Nat.le_refl _
  | succ k ih =>
    rw [rootTo]
    split
    · rw [List.length_append, List.length_cons, List.length_nil]; omega
    · omega
theorem rootTo_in {xs : List Int} {d : Int} {k : Nat} (h : rootB xs d k = true) : rootTo xs d (k + 1) = rootTo xs d k ++ [(k : Int)] := by rw [rootTo, if_pos h]
theorem rootTo_out {xs : List Int} {d : Int} {k : Nat} (h : rootB xs d k = false) : rootTo xs d (k + 1) = rootTo xs d k := by rw [rootTo, if_neg (by rw [h]; decide)]
/-- What both functions return. -/
def RootPlaces_v (xs : List Int) (d : Int) : List Int × Bool := if (polyB xs && (decide (xs.length ≠ 0) && inB d 1 30)) = true then (rootTo xs d 30, true) else ([], false)
theorem RootPlaces_len (xs : List Int) (d : Int) : szIntS (RootPlaces_v xs d).1 ≤ 1099511627776 := by
  unfold RootPlaces_v szIntS
  split
  · have := rootTo_len xs d 30; simp only; omega
  · exact Nat.zero_le _
theorem RootPlaces_no1 {xs : List Int} {d : Int} (h : polyB xs = false) : RootPlaces_v xs d = ([], false) := by simp [RootPlaces_v, h]
theorem RootPlaces_no2 {xs : List Int} {d : Int} (h : xs.length = 0) : RootPlaces_v xs d = ([], false) := by simp [RootPlaces_v, h]
theorem RootPlaces_no3 {xs : List Int} {d : Int} (h : inB d 1 30 = false) : RootPlaces_v xs d = ([], false) := by simp [RootPlaces_v, h]
theorem RootPlaces_yes {xs : List Int} {d : Int} (h1 : polyB xs = true) (h2 : xs.length ≠ 0) (h3 : inB d 1 30 = true) : RootPlaces_v xs d = (rootTo xs d 30, true) := by
  rw [RootPlaces_v, h1, h3, decide_eq_true h2]; rfl


end Go.Proofs.Ytjoeanplgikkcaa

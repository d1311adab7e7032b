/- The value of a polynomial at an integer: the reference's sum of powers and the program's Horner scheme, both modulo 2^64. -/
import Derived.Test.YtblippeklbhepaaWrap
import Derived.Test.YtblippeklbhepaaPolyIs
import Derived.Test.YtblippeklbhepaaBackward
import Derived.Test.YtblippeklbhepaaTrim
namespace Go.Proofs.Ytblippeklbhepaa
open Go.RowKit

/-- The value of the coefficients at x. -/
def pv (x : Int) : List Int → Int
  | [] => 0
  | n :: xs => pv x xs * x + n
theorem pv_snoc (x : Int) (xs : List Int) (n : Int) : pv x (xs ++ [n]) = pv x xs + n * x ^ xs.length := by
  induction xs with
  | nil => simp [pv]
  | cons a xs ih =>
    simp only [List.cons_append, pv, ih, List.length_cons, Int.pow_succ]
    rw [Int.add_mul, Int.mul_assoc]; omega
theorem pv_take (x : Int) {xs : List Int} {k : Nat} (h : k < xs.length) : pv x (xs.take (k + 1)) = pv x (xs.take k) + nth xs k * x ^ k := by
  rw [take_nth h, pv_snoc, List.length_take, Nat.min_eq_left (by omega)]
theorem pv_drop (x : Int) {xs : List Int} {k : Nat} (h : k < xs.length) : pv x (xs.drop k) = pv x (xs.drop (k + 1)) * x + nth xs k := by
  rw [List.drop_eq_getElem_cons h, pv, nth_eq h]

/-- What both functions return. -/
def PolyValue_v (xs : List Int) (x : Int) : Int × Bool := if (polyB xs && inB x (-9) 9) = true then (wrap64 (pv x xs), true) else (0, false)
theorem PolyValue_no1 {xs : List Int} {x : Int} (h : polyB xs = false) : PolyValue_v xs x = (0, false) := by simp [PolyValue_v, h]
theorem PolyValue_no2 {xs : List Int} {x : Int} (h : inB x (-9) 9 = false) : PolyValue_v xs x = (0, false) := by simp [PolyValue_v, h]
theorem PolyValue_yes {xs : List Int} {x : Int} (h1 : polyB xs = true) (h2 : inB x (-9) 9 = true) : PolyValue_v xs x = (wrap64 (pv x xs), true) := by simp [PolyValue_v, h1, h2]

/-- After k terms: the sum, the power. -/
def VInv (xs : List Int) (x : Int) (k : Nat) (s p : Int) : Prop := s = wrap64 (pv x (xs.take k)) ∧ p = wrap64 (x ^ k)
theorem VInv.start (xs : List Int) (x : Int) : VInv xs x 0 0 1 := ⟨by rw [List.take_zero, pv]; unfold wrap64; omega, by rw [Int.pow_zero]; unfold wrap64; omega⟩
theorem VInv.step {xs : List Int} {x : Int} {k : Nat} {s p : Int} (h : VInv xs x k s p) (hk : k < xs.length) : VInv xs x (k + 1) (wrap64 (s + wrap64 (nth xs k * p))) (wrap64 (p * x)) := by
  refine ⟨?_, ?_⟩
  · rw [h.1, h.2, wrap64_mul', wrap64_add', wrap64_add, pv_take x hk]
  · rw [h.2, wrap64_mul, Int.pow_succ]

set_option maxHeartbeats 1000000 in
theorem specPolyValue_any (v : Value) (xs : List Int) (x : Int) (w : World) (hv : IntsV w v xs) (hm : szIntS xs ≤ 1099511627776) (_hi : I64 x) :
    Calls Try.prog 37 #[v, .int .i64 x] w (Ret (.tuple #[.int .i64 (PolyValue_v xs x).1, .bool (PolyValue_v xs x).2]) w) := by
  have hm' : xs.length ≤ 1099511627776 := hm
  have c1 := poGood_ret v xs w hv hm'
  clear hm
  cases h1 : polyB xs
  · rw [PolyValue_no1 h1]
    rw [h1] at c1
    have c1' := Lib.hid c1
    clear c1 h1
    go_enter Try.func37, Try.ntmps37
    go_wp2_with fail
    refine c1'.out.mono ?_
    rintro e w1 ⟨rfl, hB⟩
    go_wp2
    go_ret2
    exact ⟨rfl, hB⟩
  · rw [h1] at c1
    have c1' := Lib.hid c1
    cases h2 : inB x (-9) 9
    · rw [PolyValue_no2 h2]
      have h2' := Lib.hid h2
      clear c1 h1 h2
      go_enter Try.func37, Try.ntmps37
      go_wp2_with fail
      refine c1'.out.mono ?_
      rintro e w1 ⟨rfl, hB⟩
      go_wp2_with fail
      refine (l1In_any _ _ _ _).mono ?_
      rintro e w_ ⟨rfl, rfl⟩
      rw [h2'.out]
      go_wp2
      go_ret2
      exact ⟨rfl, hB⟩
    · rw [PolyValue_yes h1 h2]
      have h2' := Lib.hid h2
      have hv' := Lib.hid hv
      obtain ⟨ao, cap, rfl, -, -, -⟩ := id hv
      clear c1 h1 h2 hv
      obtain ⟨n, hn⟩ : ∃ n, xs.length = n := ⟨_, rfl⟩
      rw [hn] at hm' c1' hv' ⊢
      have hn' := Lib.hid hn
      clear hn
      go_enter Try.func37, Try.ntmps37
      go_wp2_with fail
      refine c1'.out.mono ?_
      rintro e w1 ⟨rfl, hB⟩
      go_wp2_with fail
      refine (l1In_any _ _ _ _).mono ?_
      rintro e w_ ⟨rfl, rfl⟩
      rw [h2'.out]
      clear c1'
      go_wp2
      go_loop [6, 7, 20] (fun s p i => ∃ (k : Nat) (s' p' : Int), k ≤ n ∧ i = .int .i64 k ∧ s = .int .i64 s' ∧ p = .int .i64 p' ∧ VInv xs x k s' p') (fun _ _ i => n - (intOf i).toNat)
      case atStart => exact ⟨0, 0, 1, Nat.zero_le _, rfl, rfl, rfl, VInv.start xs x⟩
      case round =>
        obtain ⟨k, s, p, hk, rfl, rfl, rfl, hI⟩ := hrel
        by_cases hlt : k < n
        · obtain ⟨ao', cap', e, -, -, H⟩ := hv'.out.below hB
          rw [hn'.out] at e H
          obtain ⟨rfl, _, rfl⟩ := Value.slice.inj e
          obtain ⟨b, off, rfl, hcell⟩ := H k hlt
          have hst := hI.step (by rw [hn'.out]; exact hlt)
          clear H e
          generalize nth xs k = c at hcell hst
          go_wp2
          go_round
          case rel => exact ⟨k + 1, _, _, by omega, by go_num, rfl, rfl, hst⟩
          case measure => simp [intOf]; omega
        · have ek : k = n := by omega
          have hs : s = wrap64 (pv x xs) := by
            rw [hI.1, ek, ← hn'.out, List.take_length]
          have hs' := Lib.hid hs
          clear hs hI
          go_wp2
          go_ret2
          rw [← hs'.out]
          exact ⟨rfl, hB⟩

/-- Horner's scheme over what has come. -/
def hornW (x : Int) (l : List (Int × Int)) : Int := l.foldl (fun s p => wrap64 (wrap64 (s * x) + p.2)) 0
theorem hornW_snoc (x : Int) (l : List (Int × Int)) (p : Int × Int) : hornW x (l ++ [p]) = wrap64 (wrap64 (hornW x l * x) + p.2) := by simp [hornW]
theorem hornW_to (x : Int) (xs : List Int) : ∀ k, k ≤ xs.length → hornW x (bkTo xs k) = wrap64 (pv x (xs.drop (xs.length - k)))
  | 0, _ => by rw [Nat.sub_zero, List.drop_length]; simp [bkTo, hornW, pv, wrap64]
  | k + 1, h => by
    rw [bkTo_succ, hornW_snoc, hornW_to x xs k (by omega), bkAt]
    rw [wrap64_mul, wrap64_add, pv_drop x (show xs.length - (k + 1) < xs.length by omega), show xs.length - (k + 1) + 1 = xs.length - k by omega, show xs.length - 1 - k = xs.length - (k + 1) by omega]
theorem hornW_all (x : Int) (xs : List Int) : hornW x (bkTo xs xs.length) = wrap64 (pv x xs) := by
  rw [hornW_to x xs _ (Nat.le_refl _), Nat.sub_self, List.drop_zero]

attribute [local go_sem] Oper.semAt_some in
set_option maxRecDepth 100000 in
set_option maxHeartbeats 2000000 in
theorem implPolyValue_yes (v : Value) (xs : List Int) (x : Int) (w : World) (hv : IntsV w v xs) (h1 : polyB xs = true) (h2 : inB x (-9) 9 = true) :
    Calls Try.prog 36 #[v, .int .i64 x] w (Ret (.tuple #[.int .i64 (wrap64 (pv x xs)), .bool true]) w) := by
  have hl9 := polyB_le9 h1
  have c1 := fun w' hB => isPolynomial_ret v xs w' (hv.below hB) (by omega)
  rw [h1] at c1
  have c1' := Lib.hid c1
  have h2' := Lib.hid h2
  have hv' := Lib.hid hv
  clear c1 h1 h2 hv
  have hB0 : Below w.heap.size w (w.alloc (.cells #[.int .i64 x] 3)) := (Below.refl _ _).alloc (Nat.le_refl _) _
  have hx0 : (w.alloc (.cells #[.int .i64 x] 3)).cell? ⟨w.heap.size, 0, none⟩ = some (.int .i64 x) := by rw [World.cell?_alloc_at _ _ _ _ rfl]; rfl
  refine (callsIn_wide (n := 8)).1 ?_
  refine callsIn_of_wp_marks Try.func36 rfl trivial ?_ rfl
  simp only [Try.ntmps36, List.size_toArray, List.length_cons, List.length_nil, Nat.reduceAdd, Nat.reduceSub, Array.replicate_succ, Array.replicate_zero, List.push_toArray, List.append_toArray, List.nil_append, List.cons_append]
  gi_wp2_with fail
  refine ⟨trivial, ((callsIn_wide (n := 7)).2 (c1'.out _ hB0)).mono ?_⟩
  rintro e w1 ⟨rfl, hB1⟩
  have hx1 : w1.cell? ⟨w.heap.size, 0, none⟩ = some (.int .i64 x) := (hB1.cell (p := ⟨w.heap.size, 0, none⟩) (by simp)).trans hx0
  have hs1 : w.heap.size + 1 ≤ w1.heap.size := by have := hB1.size; simp at this; omega
  have hB01 := hB0.trans (hB1.mono (by simp))
  clear hB1 hx0 c1'
  gi_wp2_with fail
  refine ⟨trivial, ((callsIn_wide (n := 7)).2 (within_any _ _ _ _)).mono ?_⟩
  rintro e w_ ⟨rfl, rfl⟩
  rw [h2'.out]
  gi_wp2_with fail
  have hB02 : Below w.heap.size w (w1.alloc (.cells #[.int .i64 0] 3)) := hB01.alloc (by omega) _
  refine ⟨trivial, ((callsIn_wide (n := 7)).2 (backward_any v xs _ (hv'.out.below hB02))).mono ?_⟩
  rintro e w3 ⟨rfl, rfl⟩
  gi_wp2_with fail
  obtain ⟨w3, hw3⟩ : ∃ W, (w1.alloc (.cells #[.int .i64 0] 3)).alloc (.cells #[v] 39) = W := ⟨_, rfl⟩
  have hs3 : w3.heap.size = w1.heap.size + 2 := by rw [← hw3]; simp
  have hbs : w3.cell? ⟨w1.heap.size + 1, 0, none⟩ = some v := by rw [← hw3, World.cell?_alloc_at _ _ _ _ (by simp)]; rfl
  have ho3 : w3.cell? ⟨w1.heap.size, 0, none⟩ = some (.int .i64 0) := by rw [← hw3, World.cell?_alloc_past _ _ _ (by simp), World.cell?_alloc_at _ _ _ _ rfl]; rfl
  have hf3 : w3.frozen? ⟨w1.heap.size, 0, none⟩ = false := by rw [← hw3, World.frozen?_alloc_past _ _ _ (by simp)]; exact World.frozen?_alloc_at _ _ _ _ rfl
  have hB03 : Below w.heap.size w w3 := by rw [← hw3]; exact hB02.alloc (by simp; omega) _
  have hB13 : Below w1.heap.size w1 w3 := by rw [← hw3]; exact ((Below.refl _ _).alloc (Nat.le_refl _) _).alloc (by simp) _
  have hx3 : w3.cell? ⟨w.heap.size, 0, none⟩ = some (.int .i64 x) := (hB13.cell (p := ⟨w.heap.size, 0, none⟩) (by show w.heap.size < w1.heap.size; omega)).trans hx1
  rw [hw3]
  clear hw3 hx1 hB0 hB02 hB13
  have hstop := backward_stops 7 (by omega) (w1.heap.size + 1) w1.heap.size v xs w3 (by omega) (by omega) hbs (hv'.out.below hB03) (fun i hi b off cap e => by
    have h := hv'.out
    obtain ⟨ao, cap', e', -, -, H⟩ := h
    obtain ⟨b', off', e2, hc⟩ := H i hi
    rw [e'] at e
    obtain ⟨h1, _, _⟩ := Value.slice.inj e
    rw [e2] at h1
    cases h1
    have := World.block_lt_of_cell? w _ hc
    simp at this; omega) (by omega)
  refine wpIn_rangeFunc_ownF (n := 8) (w0 := w3) rfl (by omega) (gf := 126) (lb := #[.pointer (some ⟨w1.heap.size + 1, 0, none⟩)]) rfl trivial (enters_of Try.func126 (by kernel_rfl) rfl)
    hstop bkKeeps_t (bkKeeps_b (by omega) (by omega)) (Below.refl _ _) (fun _ => rfl)
    (fun pre W => (W.cell? ⟨w1.heap.size, 0, none⟩ = some (.int .i64 (hornW x pre)) ∧ W.frozen? ⟨w1.heap.size, 0, none⟩ = false ∧ W.cell? ⟨w.heap.size, 0, none⟩ = some (.int .i64 x)) ∧ Below w.heap.size w W)
    (fun _ _ _ => False)
    (OwnFrom.and (fun s A B row hs hg hr => ⟨cell_kept hs.1 hg (fun r e => (hr r e).2), (frozen_kept hs.1 hg (fun r e => (hr r e).2)).trans hs.2.1, cell_kept hs.2.2 hg (fun r e => (hr r e).2)⟩) (ownFrom_below (Nat.le_refl _) (by omega)))
    (fun _ _ _ _ _ hs _ _ => hs)
    ⟨⟨ho3, hf3, hx3⟩, hB03⟩
    (fun p => { tmps := #[v, .int .i64 x, undef, .pointer (some ⟨w.heap.size, 0, none⟩), .int .i64 0, .bool false, .pointer (some ⟨w1.heap.size, 0, none⟩), undef, .int .i64 p.2, v, .bool true, .bool false, .bool false, .int .i64 x, .bool true, .bool false, .bool false, v, .func (.func 126) #[] #[.pointer (some ⟨w1.heap.size + 1, 0, none⟩)], .int .i64 p.1, .int .i64 p.2, undef, undef, undef, undef, undef, undef], defers := [] }) ?assign ?body ?done ?stop
  case assign =>
    intro l p W K hK
    gi_wp2
    exact hK
  case body =>
    rintro l pre p W ⟨⟨hc, hf, hxc⟩, hB⟩ _
    have hne : w1.heap.size ≠ w.heap.size := by omega
    have hBs := hB.setCell (p := ⟨w1.heap.size, 0, none⟩) (show w.heap.size ≤ w1.heap.size by omega) (.int .i64 (wrap64 (wrap64 (hornW x pre * x) + p.2)))
    gi_wp2
    refine ⟨KeepsOthers.setCell _ _ _, ⟨(Below.refl _ _).setCell (p := ⟨w1.heap.size, 0, none⟩) (Nat.le_refl _) _, Below.heap_setCell _ _ _ _ (by show w1.heap.size + 1 ≠ w1.heap.size; omega)⟩, ⟨by rw [hornW_snoc]; exact World.cell?_setCell_same' _ _ _ (by rw [hc]; rfl), by rw [World.frozen?_setCell]; exact hf, ?_⟩, hBs⟩
    rw [World.cell?_setCell_other _ _ _ _ (by simp)]; exact hxc
  case done =>
    rintro D ys W hD rfl ⟨⟨hc, hf, hxc⟩, hB⟩ hK
    gi_wp2
    refine ⟨by simp, .inl ⟨_, _, rfl, run_takeDeferred hK, ?_⟩⟩
    refine ⟨_, results_tmp2 rfl _ _ _, ?_⟩
    refine ⟨?_, ?_⟩
    · rw [← hornW_all]; rfl
    · exact hB.trans (belowK_b (w := w) (Nat.le_refl _) W D _ _ (by omega) hK rfl rfl)
  case stop =>
    rintro D c pre W _ _ h _
    exact h.elim

set_option maxHeartbeats 400000 in
theorem implPolyValue_any (v : Value) (xs : List Int) (x : Int) (w : World) (hv : IntsV w v xs) (hm : szIntS xs ≤ 1099511627776) (_hi : I64 x) :
    Calls Try.prog 36 #[v, .int .i64 x] w (Ret (.tuple #[.int .i64 (PolyValue_v xs x).1, .bool (PolyValue_v xs x).2]) w) := by
  have hm' : xs.length ≤ 1099511627776 := hm
  clear hm
  have hB0 : Below w.heap.size w (w.alloc (.cells #[.int .i64 x] 3)) := (Below.refl _ _).alloc (Nat.le_refl _) _
  have hx0 : (w.alloc (.cells #[.int .i64 x] 3)).cell? ⟨w.heap.size, 0, none⟩ = some (.int .i64 x) := by rw [World.cell?_alloc_at _ _ _ _ rfl]; rfl
  cases h1 : polyB xs
  · rw [PolyValue_no1 h1]
    have c1 := fun w' hB => isPolynomial_ret v xs w' (hv.below hB) hm'
    rw [h1] at c1
    have c1' := Lib.hid c1
    clear c1 h1
    go_enter Try.func36, Try.ntmps36
    go_wp2_with fail
    refine (c1'.out _ hB0).mono ?_
    rintro e w1 ⟨rfl, hB1⟩
    have hB01 := hB0.trans (hB1.mono (by simp))
    go_wp2
    go_ret2
    exact ⟨rfl, hB01⟩
  · cases h2 : inB x (-9) 9
    · rw [PolyValue_no2 h2]
      have c1 := fun w' hB => isPolynomial_ret v xs w' (hv.below hB) hm'
      rw [h1] at c1
      have c1' := Lib.hid c1
      have h2' := Lib.hid h2
      clear c1 h1 h2
      go_enter Try.func36, Try.ntmps36
      go_wp2_with fail
      refine (c1'.out _ hB0).mono ?_
      rintro e w1 ⟨rfl, hB1⟩
      have hx1 : w1.cell? ⟨w.heap.size, 0, none⟩ = some (.int .i64 x) := (hB1.cell (p := ⟨w.heap.size, 0, none⟩) (by simp)).trans hx0
      have hB01 := hB0.trans (hB1.mono (by simp))
      go_wp2_with fail
      refine (within_any _ _ _ _).mono ?_
      rintro e w_ ⟨rfl, rfl⟩
      rw [h2'.out]
      go_wp2
      go_ret2
      exact ⟨rfl, hB01⟩
    · rw [PolyValue_yes h1 h2]
      exact implPolyValue_yes v xs x w hv h1 h2

end Go.Proofs.Ytblippeklbhepaa

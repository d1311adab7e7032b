/- The laws' own helpers on []Rat. No conditions but lengths far beyond any machine. -/
import Derived.Test.YtnggopbehohjnaaFlat
import Derived.Test.YtnggopbehohjnaaRatIs
import Derived.Deep.RegionHeld3
namespace Go.Proofs.Ytnggopbehohjnaa
open Go.RowKit

theorem step_fillR (xs : List (Int × Int)) (n k : Nat) (hk : k < n) (hn : xs.length = n) :
    ((flR (xs.take k) ++ List.replicate ((n - k) * 2) 0).set (k * 2) (nthR xs k).1).set (k * 2 + 1) (nthR xs k).2 = flR (xs.take (k + 1)) ++ List.replicate ((n - (k + 1)) * 2) 0 := by
  have h1 : (n - k) * 2 = (n - (k + 1)) * 2 + 1 + 1 := by omega
  have e2 : (flR (xs.take k)).length = k * 2 := by rw [flR_len, List.length_take]; omega
  rw [h1, List.replicate_succ, List.replicate_succ, List.set_append_right _ _ (by omega), e2, Nat.sub_self, List.set_cons_zero, List.set_append_right _ _ (by omega), e2, show k * 2 + 1 - k * 2 = 1 by omega, List.set_cons_succ, List.set_cons_zero,
    take_nthR (by omega), flR_append, flR_one, List.append_assoc]; rfl

set_option maxHeartbeats 800000 in
theorem toRatS_any (v : Value) (xs : List (Int × Int)) (w : World) (hv : RatsV w v xs) (hm : szRatS xs ≤ 1099511627776) :
    Calls Try.prog 6 #[v] w (RetO OwnR xs w) := by
  replace hm : xs.length ≤ 1099511627776 := hm
  obtain ⟨ao, cap, rfl, hz, hz', H0⟩ := hv.form
  obtain ⟨n, hn⟩ : ∃ n, xs.length = n := ⟨_, rfl⟩
  rw [hn] at hm hz H0 hv ⊢
  clear H0
  obtain ⟨i, hi, hz0, hz1, hz2⟩ := info_parts Try.infoRat
  go_enter Try.func6, Try.ntmps6
  go_wp2_with (at_make; refine wpList_make_full _ rfl _ _ 24 rfl w.heap.size 33 i _ 2 Try.underlying24 hi hz0 hz1 _ _ _ _ n rfl rfl rfl rfl (by rw [hz2]; omega) (by unfold maxLen; omega) (Nat.le_refl _) ?_)
  intro w1 hown hgrow
  have hB1 : Below w.heap.size w w1 := below_made (Below.refl _ _) (Nat.le_refl _) hgrow
  have ho := rowF_made (z := #[.int .i64 0, .int .i64 0]) rfl (by omega) hown
  clear hown hgrow hi hz0 hz1 hz2
  go_wp2
  go_loopw [4] (fun i wr => ∃ k : Nat, k ≤ n ∧ i = .int .i64 k ∧ RowF 33 2 wr w.heap.size w.heap.size n n (flR (xs.take k) ++ List.replicate ((n - k) * 2) 0) ∧ Below w.heap.size w wr) (fun i _ => n - (intOf i).toNat)
  case atStart => exact ⟨0, Nat.zero_le _, rfl, by simpa [flR] using ho, hB1⟩
  case round =>
    obtain ⟨k, hk, rfl, ho', hB⟩ := hrel
    by_cases hlt : k < n
    · obtain ⟨ao', cap', e, _, _, H⟩ := (hv.below hB).form
      obtain ⟨rfl, e1, rfl⟩ := Value.slice.inj e
      clear e1
      obtain ⟨b, off, rfl, hc0, hc1⟩ := H k (by omega)
      clear H e
      have hlo := ho'.lt.2
      have c1 := fun w => toRat_any (nthR xs k) w
      have hst := step_fillR xs n k hlt hn
      clear hz hz' hB1 ho hv
      generalize nthR xs k = r at *
      obtain ⟨p, q⟩ := r
      have c1' := Lib.hid c1
      have hst' := Lib.hid hst
      have hn' := Lib.hid hn
      clear c1 hst hn
      go_wp2_with fail
      refine (c1'.out _).mono ?_
      rintro e w2 ⟨rfl, hB2⟩
      have ho2 := ho'.below hB2 hlo
      have hk0 := ho2.cell (j := k * 2) (by omega)
      have hk1 := ho2.cell (j := k * 2 + 1) (by omega)
      have hf0 := ho2.frozen (k * 2)
      have hf1 := ho2.frozen (k * 2 + 1)
      have ho3 := (ho2.stored (k * 2) p).stored (k * 2 + 1) q
      rw [hst'.out] at ho3
      have hB3 := ((hB.trans (hB2.mono (by omega))).setCell (p := ⟨w.heap.size, k * 2, none⟩) (Nat.le_refl _) (.int .i64 p)).setCell (p := ⟨w.heap.size, k * 2 + 1, none⟩) (Nat.le_refl _) (.int .i64 q)
      clear ho' ho2 hB2 hB
      go_wp2
      go_roundw
      case rel => exact ⟨k + 1, by omega, by go_num, ho3, hB3⟩
      case measure => simp [intOf]; omega
    · obtain rfl : k = n := by omega
      have ho2 : OwnR wr w.heap.size wr.heap.size (.slice (some ⟨w.heap.size, 0, none⟩) k k) xs := by
        rw [Nat.sub_self, Nat.zero_mul, List.replicate_zero, List.append_nil, List.take_of_length_le (by omega)] at ho'
        unfold OwnR; rw [hn]; exact ho'.own
      clear ho' hn
      go_wp2
      go_ret
      exact ⟨_, rfl, ho2, hB⟩

/-- Two slices that read alike: true. -/
theorem eqRatS_same (v u : Value) (xs : List (Int × Int)) (w : World) (hv : RatsV w v xs) (hu : RatsV w u xs) (hm : szRatS xs ≤ 1099511627776) :
    Calls Try.prog 8 #[v, u] w (Ret (.bool true) w) := by
  replace hm : xs.length ≤ 1099511627776 := hm
  obtain ⟨ao, cap, rfl, _, _, H⟩ := hv.form
  obtain ⟨bo, bcap, rfl, _, _, H'⟩ := hu.form
  obtain ⟨n, hn⟩ : ∃ n, xs.length = n := ⟨_, rfl⟩
  rw [hn] at hm H H' hv hu ⊢
  have hn' := Lib.hid hn
  have hv' := Lib.hid hv
  have hu' := Lib.hid hu
  clear hn hv hu
  go_enter Try.func8, Try.ntmps8
  go_wp2
  go_loopw [5] (fun i wr => ∃ k : Nat, k ≤ n ∧ i = .int .i64 k ∧ Below w.heap.size w wr) (fun i _ => n - (intOf i).toNat)
  case atStart => exact ⟨0, Nat.zero_le _, rfl, Below.refl _ _⟩
  case round =>
    obtain ⟨k, hk, rfl, hB⟩ := hrel
    by_cases hlt : k < n
    · obtain ⟨b, off, rfl, hc0, hc1⟩ := H k hlt
      obtain ⟨b', off', rfl, hc0', hc1'⟩ := H' k hlt
      clear H H'
      rw [← hB.cell (World.block_lt_of_cell? w _ hc0)] at hc0
      rw [← hB.cell (World.block_lt_of_cell? w _ hc1)] at hc1
      rw [← hB.cell (World.block_lt_of_cell? w _ hc0')] at hc0'
      rw [← hB.cell (World.block_lt_of_cell? w _ hc1')] at hc1'
      generalize nthR xs k = r at *
      obtain ⟨p, q⟩ := r
      have c1 := fun w => eqRat_same p q w
      have c1' := Lib.hid c1
      clear c1
      go_wp2_with fail
      have l0 := World.block_lt_of_cell? _ _ hc0
      have l1 := World.block_lt_of_cell? _ _ hc0'
      go_region_held3 (fun w' => (w'.cell? ⟨b, off + k * 2, none⟩ = some (.int .i64 p) ∧ w'.cell? ⟨b, off + k * 2 + 1, none⟩ = some (.int .i64 q)) ∧ w'.cell? ⟨b', off' + k * 2, none⟩ = some (.int .i64 p) ∧ w'.cell? ⟨b', off' + k * 2 + 1, none⟩ = some (.int .i64 q))
        (first | exact ⟨⟨hc0, hc1⟩, hc0', hc1'⟩ | exact ⟨⟨hd0, hd1⟩, hd0', hd1'⟩)
        (first
          | (go_at_call 17
             refine (c1'.out _).mono ?_
             rintro e w2 ⟨rfl, hB2⟩
             have hd0 := (hB2.cell (p := ⟨b, off + k * 2, none⟩) l0).trans hc0
             have hd1 := (hB2.cell (p := ⟨b, off + k * 2 + 1, none⟩) l0).trans hc1
             have hd0' := (hB2.cell (p := ⟨b', off' + k * 2, none⟩) l1).trans hc0'
             have hd1' := (hB2.cell (p := ⟨b', off' + k * 2 + 1, none⟩) l1).trans hc1'))
      have hB3 : Below w.heap.size w w2 := hB.drew.trans (hB2.mono hB.size)
      go_wp2
      go_roundw
      case rel => exact ⟨k + 1, by omega, by go_num, hB3⟩
      case measure => simp [intOf]; omega
    · clear H H'
      go_wp2
      go_ret
      exact ⟨rfl, hB⟩

/-- The list of fractions that a mark from k on leaves in the place of xs. -/
def markRatS (k : Nat) (xs : List (Int × Int)) : List (Int × Int) := (List.range xs.length).map fun i => (((k + i * 2 : Nat) : Int), ((k + (i * 2 + 1) : Nat) : Int))
theorem markRatS_len (k : Nat) (xs : List (Int × Int)) : (markRatS k xs).length = xs.length := by simp [markRatS]
theorem flR_range (k n : Nat) : flR ((List.range n).map fun i => (((k + i * 2 : Nat) : Int), ((k + (i * 2 + 1) : Nat) : Int))) = marks k (n * 2) := by
  induction n with
  | zero => rfl
  | succ n ih =>
    rw [List.range_succ, List.map_append, flR_append, ih, Nat.succ_mul]
    simp [flR, marks, List.range_succ]
theorem flR_mark (k : Nat) (xs : List (Int × Int)) : flR (markRatS k xs) = marks k (xs.length * 2) := flR_range k xs.length

theorem marks_step2 (ys : List Int) (k n j : Nat) (hj : j < n) (hn : ys.length = n * 2) (m : Int) (hm : m = ((k + j * 2 : Nat) : Int)) :
    ((marks k (j * 2) ++ ys.drop (j * 2)).set (j * 2) m).set (j * 2 + 1) (m + 1) = marks k ((j + 1) * 2) ++ ys.drop ((j + 1) * 2) := by
  rw [hm, marks_step ys k (n * 2) (j * 2) (by omega) hn, show (((k + j * 2 : Nat) : Int) + 1) = ((k + (j * 2 + 1) : Nat) : Int) by omega, marks_step ys k (n * 2) (j * 2 + 1) (by omega) hn]
  rw [show (j + 1) * 2 = j * 2 + 1 + 1 by omega]

set_option maxHeartbeats 800000 in
theorem markRatS_core (v : Value) (ys : List Int) (k n : Nat) (w : World) (B E : Nat) (hv : OwnF 33 2 w B E v n ys) (hm : n ≤ 1099511627776) (hk : k ≤ 70368744177664) :
    Calls Try.prog 9 #[v, .int .i64 k] w fun e w' => e = .returned (.int .i64 ((k + 2 * n : Nat) : Int)) ∧ OwnF 33 2 w' B E v n (marks k (n * 2)) ∧ Turned B E w w' := by
  rcases hv with ⟨rfl, ao, cap, rfl, hc, hz⟩ | ⟨g, cap, rfl, h1, h2, h3⟩
  · go_enter Try.func9, Try.ntmps9
    go_wp2
    refine wp_loop_rounds 1 ?_
    rw [rounds_succ]
    go_wp2
    go_ret
    exact ⟨rfl, .inl ⟨rfl, ao, cap, rfl, hc, hz⟩, Turned.refl _ _ _⟩
  · have h3' : RowF 33 2 w B g n cap ys := h3
    clear h3
    have hn : ys.length = n * 2 := h3'.len
    go_enter Try.func9, Try.ntmps9
    go_wp2
    go_loopw [1, 5] (fun c i wr => ∃ j : Nat, j ≤ n ∧ i = .int .i64 j ∧ c = .int .i64 ((k + j * 2 : Nat) : Int) ∧ RowF 33 2 wr B g n cap (marks k (j * 2) ++ ys.drop (j * 2)) ∧ Turned B E w wr) (fun _ i _ => n - (intOf i).toNat)
    case atStart => exact ⟨0, Nat.zero_le _, rfl, by simp, by simpa [marks] using h3', Turned.refl _ _ _⟩
    case round =>
      obtain ⟨j, hj, rfl, rfl, ho, ht⟩ := hrel
      by_cases hlt : j < n
      · have hc0 := ho.cell (j := j * 2) (by omega)
        have hf0 := ho.frozen (j * 2)
        have hst := marks_step2 ys k n j hlt hn
        obtain ⟨m, hm1⟩ : ∃ m : Int, m = ((k + j * 2 : Nat) : Int) := ⟨_, rfl⟩
        replace hst := hst m hm1
        rw [← hm1]
        have hmb : 0 ≤ m ∧ m ≤ 72567767433228 * 1000 := by omega
        have ho2 := ho.stored (j * 2) m
        have hc1 := ho2.cell (j := j * 2 + 1) (by omega)
        have hf1 := ho2.frozen (j * 2 + 1)
        have ho3 := ho2.stored (j * 2 + 1) (m + 1)
        rw [hst] at ho3
        have ht' := (ht.setCell (p := ⟨g, j * 2, none⟩) h1 h2 (.int .i64 m)).setCell (p := ⟨g, j * 2 + 1, none⟩) h1 h2 (.int .i64 (m + 1))
        have hn' := Lib.hid hn
        have hst' := Lib.hid hst
        have hm1' := Lib.hid hm1
        clear hn hst hm1
        clear ho ho2 ht
        go_wp2
        go_roundw
        case rel =>
          have := hm1'.out
          exact ⟨j + 1, by omega, by go_num, by go_num, ho3, ht'⟩
        case measure => simp [intOf]; omega
      · obtain rfl : j = n := by omega
        have ho2 : RowF 33 2 wr B g j cap (marks k (j * 2)) := by rw [List.drop_of_length_le (by omega), List.append_nil] at ho; exact ho
        clear ho hn
        go_wp2
        go_ret
        exact ⟨by simp; omega, .inr ⟨g, cap, rfl, h1, h2, ho2⟩, ht⟩

theorem markRatS_any (v : Value) (xs : List (Int × Int)) (k : Nat) (c : Int) (w : World) (B E : Nat) (hv : OwnR w B E v xs) (hm : szRatS xs ≤ 1099511627776) (hk : k ≤ 70368744177664) (hc : c = k) :
    Calls Try.prog 9 #[v, .int .i64 c] w fun e w' => e = .returned (.int .i64 ((k + cntRatS xs : Nat) : Int)) ∧ OwnR w' B E v (markRatS k xs) ∧ Turned B E w w' := by
  subst hc
  refine (markRatS_core v (flR xs) k xs.length w B E hv hm hk).mono ?_
  rintro e w' ⟨rfl, h1, h2⟩
  refine ⟨rfl, ?_, h2⟩
  unfold OwnR
  rw [markRatS_len, flR_mark]; exact h1

/-- Asked of the numbers that a mark has written: it finds them all. -/
theorem heldRatS_core (v : Value) (k n : Nat) (w : World) (hv : FlatV 2 w v n (marks k (n * 2))) (hm : n ≤ 1099511627776) (hk : k ≤ 70368744177664) :
    Calls Try.prog 10 #[v, .int .i64 k] w (Ret (.int .i64 ((k + 2 * n : Nat) : Int)) w) := by
  obtain ⟨ao, cap, rfl, _, _, H⟩ := hv
  go_enter Try.func10, Try.ntmps10
  go_wp2
  go_loop [1, 5] (fun c i => ∃ j : Nat, j ≤ n ∧ i = .int .i64 j ∧ c = .int .i64 ((k + j * 2 : Nat) : Int)) (fun _ i => n - (intOf i).toNat)
  case atStart => exact ⟨0, Nat.zero_le _, rfl, by simp⟩
  case round =>
    obtain ⟨j, hj, rfl, rfl⟩ := hrel
    by_cases hlt : j < n
    · obtain ⟨b, off, rfl, hc0⟩ := H (j * 2) (by omega)
      obtain ⟨_, _, e', hc1⟩ := H (j * 2 + 1) (by omega)
      cases e'
      rw [nth_marks (by omega)] at hc0
      rw [nth_marks (by omega), ← Nat.add_assoc off] at hc1
      obtain ⟨m, hm1⟩ : ∃ m : Int, m = ((k + j * 2 : Nat) : Int) := ⟨_, rfl⟩
      rw [show ((k + (j * 2 + 1) : Nat) : Int) = m + 1 by omega] at hc1
      rw [← hm1] at hc0 ⊢
      have hmb : 0 ≤ m ∧ m ≤ 72567767433228 * 1000 := by omega
      have hm1' := Lib.hid hm1
      clear hm1
      clear H
      go_wp2
      go_round
      case rel =>
        have := hm1'.out
        exact ⟨j + 1, by omega, by go_num, by go_num⟩
      case measure => simp [intOf]; omega
    · obtain rfl : j = n := by omega
      clear H
      go_wp2
      go_ret
      exact ⟨by simp; omega, Below.refl _ _⟩

theorem heldRatS_any (v : Value) (xs : List (Int × Int)) (k : Nat) (c : Int) (w : World) (hv : RatsV w v (markRatS k xs)) (hm : szRatS xs ≤ 1099511627776) (hk : k ≤ 70368744177664) (hc : c = k) :
    Calls Try.prog 10 #[v, .int .i64 c] w (Ret (.int .i64 ((k + cntRatS xs : Nat) : Int)) w) := by
  subst hc
  unfold RatsV at hv
  rw [markRatS_len, flR_mark] at hv
  exact heldRatS_core v k xs.length w hv hm hk

theorem szRatS_fits (v : Value) (xs : List (Int × Int)) (left : Int) (w : World) (hv : RatsV w v xs) (h : (szRatS xs : Int) ≤ left) (hb : 0 ≤ left ∧ left ≤ 1099511627776) :
    Calls Try.prog 4 #[v, .int .i64 left] w (Same (.int .i64 (left - (szRatS xs : Int))) w) := by
  unfold szRatS at *
  obtain ⟨ao, cap, rfl, _, _, _⟩ := hv.form
  generalize xs.length = n at *
  clear hv
  go_enter Try.func4, Try.ntmps4
  go_wp2
  go_ret
  exact ⟨rfl, rfl⟩
theorem szRatS_over (v : Value) (xs : List (Int × Int)) (left : Int) (w : World) (hv : RatsV w v xs) (h : left < (szRatS xs : Int)) (hb : 0 ≤ left ∧ left ≤ 1099511627776) :
    Calls Try.prog 4 #[v, .int .i64 left] w (Same (.int .i64 (-1)) w) := by
  unfold szRatS at *
  obtain ⟨ao, cap, rfl, _, hc, _⟩ := hv.form
  have hl : xs.length ≤ 9223372036854775807 := by have : maxLen = 9223372036854775807 := rfl; omega
  generalize xs.length = n at *
  clear hv
  go_enter Try.func4, Try.ntmps4
  go_wp2
  go_ret
  exact ⟨rfl, rfl⟩

end Go.Proofs.Ytnggopbehohjnaa

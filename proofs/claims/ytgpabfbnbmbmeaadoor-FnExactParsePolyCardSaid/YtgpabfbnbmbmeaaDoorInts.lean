/- The laws' own helpers on []int: toIntS copies, eqIntS compares, markIntS writes numbers, heldIntS asks for them. No conditions but lengths far beyond any machine. -/
import Derived.Test.YtgpabfbnbmbmeaaDoorLib
namespace Go.Proofs.YtgpabfbnbmbmeaaDoor
open Go.RowKit

theorem step_fill (xs : List Int) (n k : Nat) (hk : k < n) (hn : xs.length = n) : (xs.take k ++ List.replicate (n - k) 0).set k (nth xs k) = xs.take (k + 1) ++ List.replicate (n - (k + 1)) 0 := by
  have h1 : n - k = (n - (k + 1)) + 1 := by omega
  have e2 : min k xs.length = k := by omega
  rw [h1, List.replicate_succ, List.set_append_right _ _ (by rw [List.length_take]; omega), List.length_take, e2, Nat.sub_self, take_nth (by omega), List.append_assoc]; rfl

set_option maxHeartbeats 400000 in
theorem toIntS_any (v : Value) (xs : List Int) (w : World) (hv : IntsV w v xs) (hm : szIntS xs ≤ 1099511627776) :
    Calls Tryd.prog 6 #[v] w (RetO Own xs w) := by
  replace hm : xs.length ≤ 1099511627776 := hm
  obtain ⟨ao, cap, rfl, hz, hz', H0⟩ := hv
  obtain ⟨n, hn⟩ : ∃ n, xs.length = n := ⟨_, rfl⟩
  have hv : IntsV w (.slice ao n cap) xs := ⟨ao, cap, by rw [hn], hz, hz', H0⟩
  rw [hn] at hm ⊢
  clear H0 hz hz'
  obtain ⟨i, hi, hz0, hz1, hz2⟩ := info_parts Tryd.infoInt
  go_enter Tryd.func6, Tryd.ntmps6
  go_wp2_with (at_make; refine wpList_make_full _ rfl _ _ 22 rfl w.heap.size 3 i _ 1 Tryd.underlying22 hi hz0 hz1 _ _ _ _ n rfl rfl rfl rfl (by rw [hz2]; omega) (by unfold maxLen; omega) (Nat.le_refl _) ?_)
  intro w1 hown hgrow
  have hB1 : Below w.heap.size w w1 := below_made (Below.refl _ _) (Nat.le_refl _) hgrow
  have ho := row_made hown
  clear hown hgrow hi hz0 hz1 hz2
  go_wp2
  go_loopw [4] (fun i wr => ∃ k : Nat, k ≤ n ∧ i = .int .i64 k ∧ RowAt wr w.heap.size w.heap.size n n (xs.take k ++ List.replicate (n - k) 0) ∧ Below w.heap.size w wr) (fun i _ => n - (intOf i).toNat)
  case atStart => exact ⟨0, Nat.zero_le _, rfl, by simpa using ho, hB1⟩
  case round =>
    obtain ⟨k, hk, rfl, ho', hB⟩ := hrel
    by_cases hlt : k < n
    · obtain ⟨ao', cap', e, _, _, H⟩ := hv.below hB
      obtain ⟨rfl, _, rfl⟩ := Value.slice.inj e
      obtain ⟨b, off, rfl, hc0⟩ := H k (by omega)
      clear H e
      have hc := ho'.cell hlt
      have hf := ho'.frozen k
      have hst := ho'.stored k (nth xs k)
      rw [step_fill xs n k hlt hn] at hst
      have hB' := hB.setCell (p := ⟨w.heap.size, k, none⟩) (Nat.le_refl _) (.int .i64 (nth xs k))
      clear hn
      go_wp2
      go_roundw
      case rel => exact ⟨k + 1, by omega, by go_num, hst, hB'⟩
      case measure => simp [intOf]; omega
    · obtain rfl : k = n := by omega
      have ho2 : RowAt wr w.heap.size w.heap.size k k xs := by rw [Nat.sub_self, List.replicate_zero, List.append_nil, List.take_of_length_le (by omega)] at ho'; exact ho'
      clear ho' hn
      go_wp2
      go_ret
      exact ⟨_, rfl, ho2.own, hB⟩

theorem eq_upto {xs ys : List Int} (h : xs.length = ys.length) : (∀ j, j < xs.length → nth xs j = nth ys j) → xs = ys := by
  intro hj
  apply List.ext_getElem h
  intro i h1 h2
  have := hj i h1
  rwa [nth_eq h1, nth_eq h2] at this

/-- Two slices that read alike: true. -/
theorem eqIntS_same (v u : Value) (xs : List Int) (w : World) (hv : IntsV w v xs) (hu : IntsV w u xs) (hm : szIntS xs ≤ 1099511627776) :
    Calls Tryd.prog 8 #[v, u] w (Ret (.bool true) w) := by
  replace hm : xs.length ≤ 1099511627776 := hm
  obtain ⟨ao, cap, rfl, _, _, H⟩ := hv
  obtain ⟨bo, bcap, rfl, _, _, H'⟩ := hu
  obtain ⟨n, hn⟩ : ∃ n, xs.length = n := ⟨_, rfl⟩
  rw [hn] at hm H H' ⊢
  go_enter Tryd.func8, Tryd.ntmps8
  go_wp2
  go_loopw [5] (fun i wr => ∃ k : Nat, k ≤ n ∧ i = .int .i64 k ∧ ∃ q, wr = w.drewN q) (fun i _ => n - (intOf i).toNat)
  case atStart => exact ⟨0, Nat.zero_le _, rfl, 0, rfl⟩
  case round =>
    obtain ⟨k, hk, rfl, q, rfl⟩ := hrel
    by_cases hlt : k < n
    · obtain ⟨b, off, rfl, hc⟩ := H k hlt
      obtain ⟨b', off', rfl, hc'⟩ := H' k hlt
      clear H H'
      go_wp2_with fail
      go_quiet (fail)
      go_wp2
      go_roundw
      case rel => exact ⟨k + 1, by omega, by go_num, _, rfl⟩
      case measure => simp [intOf]; omega
    · clear H H'
      go_wp2
      go_ret
      exact ⟨rfl, below_drewN (Below.refl _ _) _⟩

/-- k, k + 1, .. : n numbers. -/
def marks (k n : Nat) : List Int := (List.range n).map fun j => ((k + j : Nat) : Int)
theorem marks_len (k n : Nat) : (marks k n).length = n := by simp [marks]
theorem nth_marks {k n j : Nat} (h : j < n) : nth (marks k n) j = ((k + j : Nat) : Int) := by
  rw [nth_eq (by rw [marks_len]; exact h)]; simp [marks]
theorem marks_step (xs : List Int) (k n j : Nat) (hj : j < n) (hn : xs.length = n) : (marks k j ++ xs.drop j).set j ((k + j : Nat) : Int) = marks k (j + 1) ++ xs.drop (j + 1) := by
  rw [List.set_append_right _ _ (by rw [marks_len]; omega), marks_len, Nat.sub_self, List.drop_eq_getElem_cons (by omega), List.set_cons_zero]
  simp [marks, List.range_succ]

/-- What a mark leaves: v holds the numbers from k on; blocks of [B, E) alone have turned. -/
def Marked (B E : Nat) (v : Value) (k n : Nat) (w : World) (e : Ending) (w' : World) : Prop :=
  e = .returned (.int .i64 ((k + n : Nat) : Int)) ∧ Own w' B E v (marks k n) ∧ Turned B E w w'
/-- The list of numbers that a mark from k on leaves in the place of xs. -/
def markIntS (k : Nat) (xs : List Int) : List Int := marks k xs.length

set_option maxHeartbeats 400000 in
theorem markIntS_core (v : Value) (xs : List Int) (k n : Nat) (w : World) (B E : Nat) (hv : Own w B E v xs) (hn : xs.length = n) (hm : n ≤ 1099511627776) (hk : k ≤ 70368744177664) :
    Calls Tryd.prog 11 #[v, .int .i64 k] w (Marked B E v k n w) := by
  rcases hv with ⟨rfl, ao, cap, rfl, hc, hz⟩ | ⟨g, cap, rfl, h1, h2, h3⟩
  · obtain rfl : n = 0 := hn.symm
    go_enter Tryd.func11, Tryd.ntmps11
    go_wp2
    refine wp_loop_rounds 1 ?_
    rw [rounds_succ]
    go_wp2
    go_ret
    exact ⟨rfl, .inl ⟨rfl, ao, cap, rfl, hc, hz⟩, Turned.refl _ _ _⟩
  · rw [hn] at h3 ⊢
    have h3' : RowAt w B g n cap xs := h3
    clear h3
    go_enter Tryd.func11, Tryd.ntmps11
    go_wp2
    go_loopw [1, 5] (fun c i wr => ∃ j : Nat, j ≤ n ∧ i = .int .i64 j ∧ c = .int .i64 ((k + j : Nat) : Int) ∧ RowAt wr B g n cap (marks k j ++ xs.drop j) ∧ Turned B E w wr) (fun _ i _ => n - (intOf i).toNat)
    case atStart => exact ⟨0, Nat.zero_le _, rfl, rfl, by simpa [marks] using h3', Turned.refl _ _ _⟩
    case round =>
      obtain ⟨j, hj, rfl, rfl, ho, ht⟩ := hrel
      by_cases hlt : j < n
      · have hc := ho.cell hlt
        have hf := ho.frozen j
        have hst := ho.stored j ((k + j : Nat) : Int)
        rw [marks_step xs k n j hlt hn] at hst
        have ht' := ht.setCell (p := ⟨g, j, none⟩) h1 h2 (.int .i64 ((k + j : Nat) : Int))
        have hn' := Lib.hid hn
        clear hn
        go_wp2
        go_roundw
        case rel => exact ⟨j + 1, by omega, by go_num, by go_num, hst, ht'⟩
        case measure => simp [intOf]; omega
      · obtain rfl : j = n := by omega
        have ho2 : RowAt wr B g j cap (marks k j) := by rw [List.drop_of_length_le (by omega), List.append_nil] at ho; exact ho
        have hn' := Lib.hid hn
        clear ho hn
        go_wp2
        go_ret
        refine ⟨rfl, .inr ⟨g, cap, by rw [marks_len], h1, h2, ?_⟩, ht⟩
        rw [marks_len]; exact ho2

theorem markIntS_any (v : Value) (xs : List Int) (k : Nat) (c : Int) (w : World) (B E : Nat) (hv : Own w B E v xs) (hm : szIntS xs ≤ 1099511627776) (hk : k ≤ 70368744177664) (hc : c = k) :
    Calls Tryd.prog 11 #[v, .int .i64 c] w fun e w' => e = .returned (.int .i64 ((k + cntIntS xs : Nat) : Int)) ∧ Own w' B E v (markIntS k xs) ∧ Turned B E w w' := by
  subst hc
  exact markIntS_core v xs k xs.length w B E hv rfl hm hk

/-- Asked of the numbers that a mark has written: it finds them all. -/
theorem heldIntS_core (v : Value) (k n : Nat) (w : World) (hv : IntsV w v (marks k n)) (hm : n ≤ 1099511627776) (hk : k ≤ 70368744177664) :
    Calls Tryd.prog 12 #[v, .int .i64 k] w (Ret (.int .i64 ((k + n : Nat) : Int)) w) := by
  obtain ⟨ao, cap, rfl, _, _, H⟩ := hv
  rw [marks_len] at H ⊢
  go_enter Tryd.func12, Tryd.ntmps12
  go_wp2
  go_loop [1, 5] (fun c i => ∃ j : Nat, j ≤ n ∧ i = .int .i64 j ∧ c = .int .i64 ((k + j : Nat) : Int)) (fun _ i => n - (intOf i).toNat)
  case atStart => exact ⟨0, Nat.zero_le _, rfl, rfl⟩
  case round =>
    obtain ⟨j, hj, rfl, rfl⟩ := hrel
    by_cases hlt : j < n
    · obtain ⟨b, off, rfl, hc⟩ := H j hlt
      rw [nth_marks hlt] at hc
      clear H
      go_wp2
      go_round
      case rel => exact ⟨j + 1, by omega, by go_num, by go_num⟩
      case measure => simp [intOf]; omega
    · obtain rfl : j = n := by omega
      clear H
      go_wp2
      go_ret
      exact ⟨rfl, Below.refl _ _⟩

theorem heldIntS_any (v : Value) (xs : List Int) (k : Nat) (c : Int) (w : World) (hv : IntsV w v (markIntS k xs)) (hm : szIntS xs ≤ 1099511627776) (hk : k ≤ 70368744177664) (hc : c = k) :
    Calls Tryd.prog 12 #[v, .int .i64 c] w (Ret (.int .i64 ((k + cntIntS xs : Nat) : Int)) w) := by
  subst hc
  exact heldIntS_core v k xs.length w hv hm hk

end Go.Proofs.YtgpabfbnbmbmeaaDoor

/- Marks on points and intervals. No conditions but bounds. -/
import Derived.Test.YtfcanpebagpdbaaQuadS
import Derived.Test.YtfcanpebagpdbaaRatS
namespace Go.Proofs.Ytfcanpebagpdbaa
open Go.RowKit

theorem marks_step4 (ys : List Int) (k n j : Nat) (hj : j < n) (hn : ys.length = n * 4) (m : Int) (hm : m = ((k + j * 4 : Nat) : Int)) :
    ((((marks k (j * 4) ++ ys.drop (j * 4)).set (j * 4) m).set (j * 4 + 1) (m + 1)).set (j * 4 + 2) (m + 1 + 1)).set (j * 4 + 3) (m + 1 + 1 + 1) = marks k ((j + 1) * 4) ++ ys.drop ((j + 1) * 4) := by
  rw [hm, show (((k + j * 4 : Nat) : Int) + 1 + 1 + 1) = ((k + (j * 4 + 1 + 1 + 1) : Nat) : Int) by omega, show (((k + j * 4 : Nat) : Int) + 1 + 1) = ((k + (j * 4 + 1 + 1) : Nat) : Int) by omega, show (((k + j * 4 : Nat) : Int) + 1) = ((k + (j * 4 + 1) : Nat) : Int) by omega,
    marks_step ys k (n * 4) (j * 4) (by omega) hn, marks_step ys k (n * 4) (j * 4 + 1) (by omega) hn, marks_step ys k (n * 4) (j * 4 + 1 + 1) (by omega) hn, marks_step ys k (n * 4) (j * 4 + 1 + 1 + 1) (by omega) hn]
  rw [show (j + 1) * 4 = j * 4 + 1 + 1 + 1 + 1 by omega]

/-- The list that a mark from k on leaves in the place of xs. -/
def markQ (k : Nat) (xs : List Quad) : List Quad := (List.range xs.length).map fun i => ((((k + i * 4 : Nat) : Int), ((k + (i * 4 + 1) : Nat) : Int)), (((k + (i * 4 + 2) : Nat) : Int), ((k + (i * 4 + 3) : Nat) : Int)))
theorem markQ_len (k : Nat) (xs : List Quad) : (markQ k xs).length = xs.length := by simp [markQ]
theorem fl4_range (k n : Nat) : fl4 ((List.range n).map fun i => ((((k + i * 4 : Nat) : Int), ((k + (i * 4 + 1) : Nat) : Int)), (((k + (i * 4 + 2) : Nat) : Int), ((k + (i * 4 + 3) : Nat) : Int)))) = marks k (n * 4) := by
  induction n with
  | zero => rfl
  | succ n ih =>
    rw [List.range_succ, List.map_append, fl4_append, ih, Nat.succ_mul]
    simp [fl4, marks, List.range_succ]
theorem fl4_mark (k : Nat) (xs : List Quad) : fl4 (markQ k xs) = marks k (xs.length * 4) := fl4_range k xs.length

def markPointS (k : Nat) (xs : List Quad) : List Quad := markQ k xs
set_option linter.unusedSimpArgs false in
set_option maxHeartbeats 1600000 in
theorem markPointS_core (v : Value) (ys : List Int) (k n : Nat) (w : World) (B E : Nat) (hv : OwnF 73 4 w B E v n ys) (hm : n ≤ 1099511627776) (hk : k ≤ 70368744177664) :
    Calls Try.prog 31 #[v, .int .i64 k] w fun e w' => e = .returned (.int .i64 ((k + 4 * n : Nat) : Int)) ∧ OwnF 73 4 w' B E v n (marks k (n * 4)) ∧ Turned B E w w' := by
  rcases hv with ⟨rfl, ao, cap, rfl, hc, hz⟩ | ⟨g, cap, rfl, h1, h2, h3⟩
  · go_enter Try.func31, Try.ntmps31
    go_wp2
    refine wp_loop_rounds 1 ?_
    rw [rounds_succ]
    go_wp2
    go_ret
    exact ⟨rfl, .inl ⟨rfl, ao, cap, rfl, hc, hz⟩, Turned.refl _ _ _⟩
  · have h3' : RowF 73 4 w B g n cap ys := h3
    clear h3
    have hn : ys.length = n * 4 := h3'.len
    go_enter Try.func31, Try.ntmps31
    go_wp2
    go_loopw [1, 5] (fun c i wr => ∃ j : Nat, j ≤ n ∧ i = .int .i64 j ∧ c = .int .i64 ((k + j * 4 : Nat) : Int) ∧ RowF 73 4 wr B g n cap (marks k (j * 4) ++ ys.drop (j * 4)) ∧ Turned B E w wr) (fun _ i _ => n - (intOf i).toNat)
    case atStart => exact ⟨0, Nat.zero_le _, rfl, by simp, by simpa [marks] using h3', Turned.refl _ _ _⟩
    case round =>
      obtain ⟨j, hj, rfl, rfl, ho, ht⟩ := hrel
      by_cases hlt : j < n
      · have hc0 := ho.cell (j := j * 4) (by omega)
        have hf0 := ho.frozen (j * 4)
        have hst := marks_step4 ys k n j hlt hn
        obtain ⟨m, hm1⟩ : ∃ m : Int, m = ((k + j * 4 : Nat) : Int) := ⟨_, rfl⟩
        replace hst := hst m hm1
        rw [← hm1]
        have hmb : 0 ≤ m ∧ m ≤ 72567767433228 * 1000 := by omega
        have ho2 := ho.stored (j * 4) m
        have hc1 := ho2.cell (j := j * 4 + 1) (by omega)
        have hf1 := ho2.frozen (j * 4 + 1)
        have ho3 := ho2.stored (j * 4 + 1) (m + 1)
        have hc2 := ho3.cell (j := j * 4 + 2) (by omega)
        have hf2 := ho3.frozen (j * 4 + 2)
        have ho4 := ho3.stored (j * 4 + 2) (m + 1 + 1)
        have hc3 := ho4.cell (j := j * 4 + 3) (by omega)
        have hf3 := ho4.frozen (j * 4 + 3)
        have ho5 := ho4.stored (j * 4 + 3) (m + 1 + 1 + 1)
        rw [hst] at ho5
        have ht' := (((ht.setCell (p := ⟨g, j * 4, none⟩) h1 h2 (.int .i64 m)).setCell (p := ⟨g, j * 4 + 1, none⟩) h1 h2 (.int .i64 (m + 1))).setCell (p := ⟨g, j * 4 + 2, none⟩) h1 h2 (.int .i64 (m + 1 + 1))).setCell (p := ⟨g, j * 4 + 3, none⟩) h1 h2 (.int .i64 (m + 1 + 1 + 1))
        have hn' := Lib.hid hn
        have hst' := Lib.hid hst
        have hm1' := Lib.hid hm1
        clear hn hst hm1
        clear ho ho2 ho3 ho4 ht
        go_wp2
        go_roundw
        case rel =>
          have := hm1'.out
          exact ⟨j + 1, by omega, by go_num, by go_num, ho5, ht'⟩
        case measure => simp [intOf]; omega
      · obtain rfl : j = n := by omega
        have ho2 : RowF 73 4 wr B g j cap (marks k (j * 4)) := by rw [List.drop_of_length_le (by omega), List.append_nil] at ho; exact ho
        clear ho hn
        go_wp2
        go_ret
        exact ⟨by simp; omega, .inr ⟨g, cap, rfl, h1, h2, ho2⟩, ht⟩

theorem markPointS_any (v : Value) (xs : List Quad) (k : Nat) (c : Int) (w : World) (B E : Nat) (hv : OwnP w B E v xs) (hm : szPointS xs ≤ 1099511627776) (hk : k ≤ 70368744177664) (hc : c = k) :
    Calls Try.prog 31 #[v, .int .i64 c] w fun e w' => e = .returned (.int .i64 ((k + cntPointS xs : Nat) : Int)) ∧ OwnP w' B E v (markPointS k xs) ∧ Turned B E w w' := by
  subst hc
  refine (markPointS_core v (fl4 xs) k xs.length w B E hv hm hk).mono ?_
  rintro e w' ⟨rfl, h1, h2⟩
  refine ⟨rfl, ?_, h2⟩
  unfold OwnP markPointS
  rw [markQ_len, fl4_mark]; exact h1
def markIntervalS (k : Nat) (xs : List Quad) : List Quad := markQ k xs
set_option linter.unusedSimpArgs false in
set_option maxHeartbeats 1600000 in
theorem markIntervalS_core (v : Value) (ys : List Int) (k n : Nat) (w : World) (B E : Nat) (hv : OwnF 43 4 w B E v n ys) (hm : n ≤ 1099511627776) (hk : k ≤ 70368744177664) :
    Calls Try.prog 47 #[v, .int .i64 k] w fun e w' => e = .returned (.int .i64 ((k + 4 * n : Nat) : Int)) ∧ OwnF 43 4 w' B E v n (marks k (n * 4)) ∧ Turned B E w w' := by
  rcases hv with ⟨rfl, ao, cap, rfl, hc, hz⟩ | ⟨g, cap, rfl, h1, h2, h3⟩
  · go_enter Try.func47, Try.ntmps47
    go_wp2
    refine wp_loop_rounds 1 ?_
    rw [rounds_succ]
    go_wp2
    go_ret
    exact ⟨rfl, .inl ⟨rfl, ao, cap, rfl, hc, hz⟩, Turned.refl _ _ _⟩
  · have h3' : RowF 43 4 w B g n cap ys := h3
    clear h3
    have hn : ys.length = n * 4 := h3'.len
    go_enter Try.func47, Try.ntmps47
    go_wp2
    go_loopw [1, 5] (fun c i wr => ∃ j : Nat, j ≤ n ∧ i = .int .i64 j ∧ c = .int .i64 ((k + j * 4 : Nat) : Int) ∧ RowF 43 4 wr B g n cap (marks k (j * 4) ++ ys.drop (j * 4)) ∧ Turned B E w wr) (fun _ i _ => n - (intOf i).toNat)
    case atStart => exact ⟨0, Nat.zero_le _, rfl, by simp, by simpa [marks] using h3', Turned.refl _ _ _⟩
    case round =>
      obtain ⟨j, hj, rfl, rfl, ho, ht⟩ := hrel
      by_cases hlt : j < n
      · have hc0 := ho.cell (j := j * 4) (by omega)
        have hf0 := ho.frozen (j * 4)
        have hst := marks_step4 ys k n j hlt hn
        obtain ⟨m, hm1⟩ : ∃ m : Int, m = ((k + j * 4 : Nat) : Int) := ⟨_, rfl⟩
        replace hst := hst m hm1
        rw [← hm1]
        have hmb : 0 ≤ m ∧ m ≤ 72567767433228 * 1000 := by omega
        have ho2 := ho.stored (j * 4) m
        have hc1 := ho2.cell (j := j * 4 + 1) (by omega)
        have hf1 := ho2.frozen (j * 4 + 1)
        have ho3 := ho2.stored (j * 4 + 1) (m + 1)
        have hc2 := ho3.cell (j := j * 4 + 2) (by omega)
        have hf2 := ho3.frozen (j * 4 + 2)
        have ho4 := ho3.stored (j * 4 + 2) (m + 1 + 1)
        have hc3 := ho4.cell (j := j * 4 + 3) (by omega)
        have hf3 := ho4.frozen (j * 4 + 3)
        have ho5 := ho4.stored (j * 4 + 3) (m + 1 + 1 + 1)
        rw [hst] at ho5
        have ht' := (((ht.setCell (p := ⟨g, j * 4, none⟩) h1 h2 (.int .i64 m)).setCell (p := ⟨g, j * 4 + 1, none⟩) h1 h2 (.int .i64 (m + 1))).setCell (p := ⟨g, j * 4 + 2, none⟩) h1 h2 (.int .i64 (m + 1 + 1))).setCell (p := ⟨g, j * 4 + 3, none⟩) h1 h2 (.int .i64 (m + 1 + 1 + 1))
        have hn' := Lib.hid hn
        have hst' := Lib.hid hst
        have hm1' := Lib.hid hm1
        clear hn hst hm1
        clear ho ho2 ho3 ho4 ht
        go_wp2
        go_roundw
        case rel =>
          have := hm1'.out
          exact ⟨j + 1, by omega, by go_num, by go_num, ho5, ht'⟩
        case measure => simp [intOf]; omega
      · obtain rfl : j = n := by omega
        have ho2 : RowF 43 4 wr B g j cap (marks k (j * 4)) := by rw [List.drop_of_length_le (by omega), List.append_nil] at ho; exact ho
        clear ho hn
        go_wp2
        go_ret
        exact ⟨by simp; omega, .inr ⟨g, cap, rfl, h1, h2, ho2⟩, ht⟩

theorem markIntervalS_any (v : Value) (xs : List Quad) (k : Nat) (c : Int) (w : World) (B E : Nat) (hv : OwnI w B E v xs) (hm : szIntervalS xs ≤ 1099511627776) (hk : k ≤ 70368744177664) (hc : c = k) :
    Calls Try.prog 47 #[v, .int .i64 c] w fun e w' => e = .returned (.int .i64 ((k + cntIntervalS xs : Nat) : Int)) ∧ OwnI w' B E v (markIntervalS k xs) ∧ Turned B E w w' := by
  subst hc
  refine (markIntervalS_core v (fl4 xs) k xs.length w B E hv hm hk).mono ?_
  rintro e w' ⟨rfl, h1, h2⟩
  refine ⟨rfl, ?_, h2⟩
  unfold OwnI markIntervalS
  rw [markQ_len, fl4_mark]; exact h1

end Go.Proofs.Ytfcanpebagpdbaa

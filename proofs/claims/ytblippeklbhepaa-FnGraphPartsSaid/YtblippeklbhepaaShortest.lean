/- ShortestWalk: the program's and the reference's, for all arguments. No conditions. -/
import Derived.Test.YtblippeklbhepaaShortSpec
namespace Go.Proofs.Ytblippeklbhepaa
open Go.RowKit

set_option maxHeartbeats 800000 in
theorem implShortestWalk_any (v : Value) (g : List (List Int)) (x y : Int) (w : World) (hv : RowsV w v g) (hm : szIntSS g ≤ 1099511627776) (_hx : I64 x) (_hy : I64 y) :
    Calls Try.prog 50 #[v, .int .i64 x, .int .i64 y] w (RetOB Own (ShortestWalk_v g x y) w) := by
  have hl : g.length ≤ 1099511627776 := by unfold szIntSS at hm; omega
  have hB0 : Below w.heap.size w (((w.alloc (.cells #[v] 23)).alloc (.cells #[.int .i64 x] 3)).alloc (.cells #[.int .i64 y] 3)) := (((Below.refl _ _).alloc (Nat.le_refl _) _).alloc (by simp) _).alloc (by simp; omega) _
  have c1 := fun w' (hB : Below w.heap.size w w') => isGraph_any v g w' (hv.below hB) hm
  have c2 := fun (z : Int) (w' : World) (hB : Below w.heap.size w w') => isState_any v g z w' (hv.below hB) hl
  have hv2 := hv
  obtain ⟨ao, cap, rfl, -, -, -⟩ := hv2
  obtain ⟨w0, hw0⟩ : ∃ W, ((w.alloc (.cells #[.slice ao g.length cap] 23)).alloc (.cells #[.int .i64 x] 3)).alloc (.cells #[.int .i64 y] 3) = W := ⟨_, rfl⟩
  have k1 : w0.cell? ⟨w.heap.size, 0, none⟩ = some (.slice ao g.length cap) := by rw [← hw0]; simp [go_sem]
  have k2 : w0.cell? ⟨w.heap.size + 1, 0, none⟩ = some (.int .i64 x) := by rw [← hw0]; simp [go_sem]
  have k3 : w0.cell? ⟨w.heap.size + 1 + 1, 0, none⟩ = some (.int .i64 y) := by rw [← hw0]; simp [go_sem]
  rw [hw0] at hB0
  have hw0' := Lib.hid hw0
  have c1' := Lib.hid c1
  have c2' := Lib.hid c2
  clear hw0 c1 c2
  cases h : graphB g
  · rw [ShortestWalk_no (by simp [walkAsked, h])]
    have h' := Lib.hid h
    clear h
    clear hv
    go_enter Try.func50, Try.ntmps50
    go_wp2_with fail
    rw [hw0'.out]
    go_wp2_with fail
    refine (c1'.out _ hB0).mono ?_
    rintro e w1 ⟨rfl, hB1⟩
    rw [h'.out]
    have hb1 := hB0.trans (hB1.mono hB0.size)
    go_wp2
    go_ret2
    exact ⟨_, rfl, Own.nil _ _ _, hb1⟩
  cases hx : inB x 0 ((g.length : Int) - 1)
  · rw [ShortestWalk_no (by simp [walkAsked, hx])]
    have h' := Lib.hid h
    have hx' := Lib.hid hx
    clear h hx
    clear hv
    go_enter Try.func50, Try.ntmps50
    go_wp2_with fail
    rw [hw0'.out]
    go_wp2_with fail
    refine (c1'.out _ hB0).mono ?_
    rintro e w1 ⟨rfl, hB1⟩
    rw [h'.out]
    have hb1 := hB0.trans (hB1.mono hB0.size)
    replace k1 := bkeepB hB1 k1
    replace k2 := bkeepB hB1 k2
    go_wp2_with fail
    refine (c2'.out x _ hb1).mono ?_
    rintro e w_ ⟨rfl, rfl⟩
    rw [hx'.out]
    go_wp2
    go_ret2
    exact ⟨_, rfl, Own.nil _ _ _, hb1⟩
  cases hy : inB y 0 ((g.length : Int) - 1)
  · rw [ShortestWalk_no (by simp [walkAsked, hy])]
    have h' := Lib.hid h
    have hx' := Lib.hid hx
    have hy' := Lib.hid hy
    clear h hx hy
    clear hv
    go_enter Try.func50, Try.ntmps50
    go_wp2_with fail
    rw [hw0'.out]
    go_wp2_with fail
    refine (c1'.out _ hB0).mono ?_
    rintro e w1 ⟨rfl, hB1⟩
    rw [h'.out]
    have hb1 := hB0.trans (hB1.mono hB0.size)
    replace k1 := bkeepB hB1 k1
    replace k2 := bkeepB hB1 k2
    replace k3 := bkeepB hB1 k3
    go_wp2_with fail
    refine (c2'.out x _ hb1).mono ?_
    rintro e w_ ⟨rfl, rfl⟩
    rw [hx'.out]
    go_wp2_with fail
    refine (c2'.out y _ hb1).mono ?_
    rintro e w_ ⟨rfl, rfl⟩
    rw [hy'.out]
    go_wp2
    go_ret2
    exact ⟨_, rfl, Own.nil _ _ _, hb1⟩
  obtain ⟨a, rfl, ha⟩ := inB_nat hx
  obtain ⟨b, rfl, hb⟩ := inB_nat hy
  exact implShortest_yes _ g g.length a b w hv hm h rfl ha hb
theorem specShortestWalk_any (v : Value) (g : List (List Int)) (x y : Int) (w : World) (hv : RowsV w v g) (hm : szIntSS g ≤ 1099511627776) (_hx : I64 x) (_hy : I64 y) :
    Calls Try.prog 51 #[v, .int .i64 x, .int .i64 y] w (RetOB Own (ShortestWalk_v g x y) w) := by
  have hB : Below w.heap.size w (w.alloc (.cells #[.int .i64 x, .int .i64 y] 3)) := (Below.refl _ _).alloc (Nat.le_refl _) _
  have c1 := grHas_any v _ g [x, y] _ (hv.below hB) (IntsV.two w x y) hm (by simp)
  cases hh : hasB g [x, y]
  · rw [hh] at c1
    have c1' := Lib.hid c1
    clear c1
    rw [ShortestWalk_no (by
      cases h1 : graphB g
      · simp [walkAsked, h1]
      · have : (inB x 0 ((g.length : Int) - 1) && inB y 0 ((g.length : Int) - 1)) = false := by simpa [hasB, h1, allB] using hh
        unfold walkAsked
        rw [Bool.and_assoc (graphB g), this, Bool.and_false])]
    clear hh hv
    go_enter Try.func51, Try.ntmps51
    go_wp2_with fail
    refine (c1'.out).mono ?_
    rintro e w1 ⟨rfl, rfl⟩
    go_wp2
    go_ret2
    exact ⟨_, rfl, Own.nil _ _ _, hB⟩
  have h0 : graphB g = true ∧ inB x 0 ((g.length : Int) - 1) = true ∧ inB y 0 ((g.length : Int) - 1) = true := by simpa [hasB, allB] using hh
  obtain ⟨h, hx, hy⟩ := h0
  obtain ⟨a, rfl, ha⟩ := inB_nat hx
  obtain ⟨b, rfl, hb⟩ := inB_nat hy
  exact specShortest_yes v g g.length a b w hv hm h rfl ha hb

end Go.Proofs.Ytblippeklbhepaa

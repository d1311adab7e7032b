/- Whether intervals are valid: the program's and the reference's. No conditions. -/
import Derived.Test.YtfcanpebagpdbaaIsMap
namespace Go.Proofs.Ytfcanpebagpdbaa
open Go.RowKit

/-- A valid interval. -/
def ivB (i : Quad) : Bool := unitR i.1.1 i.1.2 && unitR i.2.1 i.2.2 && ltB i.1.1 i.1.2 i.2.1 i.2.2
/-- A list of intervals. -/
def ivsB (xs : List Quad) : Bool := xs.all ivB && inB xs.length 1 8
theorem ivB_true {i : Quad} (h : ivB i = true) : unitR i.1.1 i.1.2 = true ∧ unitR i.2.1 i.2.2 = true ∧ ltB i.1.1 i.1.2 i.2.1 i.2.2 = true := by
  unfold ivB at h
  rw [Bool.and_eq_true, Bool.and_eq_true] at h
  exact ⟨h.1.1, h.1.2, h.2⟩
theorem ivsB_true {xs : List Quad} (h : ivsB xs = true) : (1 ≤ xs.length ∧ xs.length ≤ 8) ∧ ∀ i, i < xs.length → ivB (nth4 xs i) = true := by
  unfold ivsB at h
  rw [Bool.and_eq_true, inB_true] at h
  exact ⟨by omega, fun i hi => all_nth4 h.1 hi⟩
theorem unit_bd {r : Int × Int} (h : unitR r.1 r.2 = true) : BdR r.1 r.2 := good_bd (unitR_good h)

theorem RatsV.two (w : World) (a b : Int × Int) : RatsV (w.alloc (.cells #[.int .i64 a.1, .int .i64 a.2, .int .i64 b.1, .int .i64 b.2] 34)) (.slice (some ⟨w.heap.size, 0, none⟩) 2 2) [a, b] := by
  refine RatsV.mk (xs := [a, b]) ⟨Nat.le_refl _, fun e => by cases e⟩ (by simp [maxLen]) (fun i hi => ?_)
  have : i = 0 ∨ i = 1 := by simp at hi; omega
  refine ⟨_, _, rfl, ?_⟩
  rcases this with rfl | rfl
  · refine ⟨?_, ?_⟩ <;> rw [World.cell?_alloc_at _ _ _ _ rfl] <;> simp [nthR]
  · refine ⟨?_, ?_⟩ <;> rw [World.cell?_alloc_at _ _ _ _ rfl] <;> simp [nthR]

set_option maxHeartbeats 800000 in
theorem isInterval_any (i : Quad) (w : World) : Calls Try.prog 126 #[quadV i] w (Ret (.bool (ivB i)) w) := by
  have c1 := fun w' v h => areUnits_any v [i.1, i.2] w' h (by simp)
  have hu : unitsB [i.1, i.2] = (unitR i.1.1 i.1.2 && unitR i.2.1 i.2.2) := by simp [unitsB]
  rw [hu] at c1
  have c2 := fun w (h : (unitR i.1.1 i.1.2 && unitR i.2.1 i.2.2) = true) => less_any i.1.1 i.1.2 i.2.1 i.2.2 w (unit_bd (by rw [Bool.and_eq_true] at h; exact h.1)) (unit_bd (by rw [Bool.and_eq_true] at h; exact h.2))
  unfold ivB
  generalize (unitR i.1.1 i.1.2 && unitR i.2.1 i.2.2) = U at *
  generalize ltB i.1.1 i.1.2 i.2.1 i.2.2 = L at *
  obtain ⟨⟨x, y⟩, ⟨z, t⟩⟩ := i
  show Calls _ _ #[.agg #[.int .i64 x, .int .i64 y, .int .i64 z, .int .i64 t]] w _
  simp only at c1 c2
  have hB : Below w.heap.size w (w.alloc (.cells #[.int .i64 x, .int .i64 y, .int .i64 z, .int .i64 t] 43)) := (Below.refl _ _).alloc (Nat.le_refl _) _
  obtain ⟨w0, hw0⟩ : ∃ W, w.alloc (.cells #[.int .i64 x, .int .i64 y, .int .i64 z, .int .i64 t] 43) = W := ⟨_, rfl⟩
  have hx : (w0.cell? ⟨w.heap.size, 0, none⟩ = some (.int .i64 x) ∧ w0.cell? ⟨w.heap.size, 1, none⟩ = some (.int .i64 y)) ∧ w0.cell? ⟨w.heap.size, 2, none⟩ = some (.int .i64 z) ∧ w0.cell? ⟨w.heap.size, 3, none⟩ = some (.int .i64 t) := by
    rw [← hw0]; simp [go_sem]
  have hz0 : w.heap.size + 1 = w0.heap.size := by rw [← hw0]; simp
  rw [hw0] at hB
  have hr := RatsV.two w0 (x, y) (z, t)
  have hB1 : Below w0.heap.size w0 (w0.alloc (.cells #[.int .i64 x, .int .i64 y, .int .i64 z, .int .i64 t] 34)) := (Below.refl _ _).alloc (Nat.le_refl _) _
  have c1' := Lib.hid c1
  have c2' := Lib.hid c2
  have hw0' := Lib.hid hw0
  have hr' := Lib.hid hr
  have hx' := Lib.hid hx
  have hB1' := Lib.hid hB1
  have hu' := Lib.hid hu
  clear c1 c2 hw0 hr hx hB1 hu
  have hz0' := Lib.hid hz0
  clear hz0
  go_enter Try.func126, Try.ntmps126
  go_wp2_with fail
  rw [hw0'.out, hz0'.out]
  refine (c1'.out _ _ hr'.out).mono ?_
  rintro e w1 ⟨rfl, hB2⟩
  have hb2 := hB1'.out.trans (hB2.mono hB1'.out.size)
  have hbf := hB.trans (hb2.mono hB.size)
  cases U
  · go_wp2
    go_ret
    exact ⟨rfl, hbf⟩
  · have y0 := bkeep hb2 hx'.out.1.1
    have y1 := bkeep hb2 hx'.out.1.2
    have y2 := bkeep hb2 hx'.out.2.1
    have y3 := bkeep hb2 hx'.out.2.2
    go_wp2_with fail
    refine (c2'.out _ (by simp)).mono ?_
    rintro e w2 ⟨rfl, hB3⟩
    have hbg := hbf.trans (hB3.mono hbf.size)
    go_wp2
    go_ret
    exact ⟨rfl, hbg⟩
set_option maxHeartbeats 800000 in
theorem ivGood_any (i : Quad) (w : World) : Calls Try.prog 63 #[quadV i] w (Ret (.bool (ivB i)) w) := by
  have c1 := fun w => raUnit_any i.1.1 i.1.2 w
  have c2 := fun w => raUnit_any i.2.1 i.2.2 w
  have c3 := fun w (h1 : unitR i.1.1 i.1.2 = true) (h2 : unitR i.2.1 i.2.2 = true) => raCmp_any i.1.1 i.1.2 i.2.1 i.2.2 w (unit_bd h1) (unit_bd h2)
  have hl := cmpN_lt i.1.1 i.1.2 i.2.1 i.2.2
  unfold ivB
  rw [← hl]
  generalize unitR i.1.1 i.1.2 = U at *
  generalize unitR i.2.1 i.2.2 = V at *
  generalize cmpN i.1.1 i.1.2 i.2.1 i.2.2 = C at *
  clear hl
  obtain ⟨⟨x, y⟩, ⟨z, t⟩⟩ := i
  show Calls _ _ #[.agg #[.int .i64 x, .int .i64 y, .int .i64 z, .int .i64 t]] w _
  simp only at c1 c2 c3
  obtain ⟨w0, hw0⟩ : ∃ W, w.alloc (.cells #[.int .i64 x, .int .i64 y, .int .i64 z, .int .i64 t] 43) = W := ⟨_, rfl⟩
  have hB : Below w.heap.size w w0 := by rw [← hw0]; exact (Below.refl _ _).alloc (Nat.le_refl _) _
  have hx : (w0.cell? ⟨w.heap.size, 0, none⟩ = some (.int .i64 x) ∧ w0.cell? ⟨w.heap.size, 1, none⟩ = some (.int .i64 y)) ∧ w0.cell? ⟨w.heap.size, 2, none⟩ = some (.int .i64 z) ∧ w0.cell? ⟨w.heap.size, 3, none⟩ = some (.int .i64 t) := by
    rw [← hw0]; simp [go_sem]
  have c1' := Lib.hid c1
  have c2' := Lib.hid c2
  have c3' := Lib.hid c3
  have hw0' := Lib.hid hw0
  have hx' := Lib.hid hx
  clear c1 c2 c3 hw0 hx
  cases U
  · rw [Bool.false_and, Bool.false_and]
    go_enter Try.func63, Try.ntmps63
    go_wp2_with fail
    rw [hw0'.out]
    go_wp2_with fail
    refine (c1'.out _).mono ?_
    rintro e w1 ⟨rfl, hB1⟩
    have hb1 := hB.trans (hB1.mono hB.size)
    go_wp2
    go_ret
    exact ⟨rfl, hb1⟩
  · rw [Bool.true_and]
    cases V
    · rw [Bool.false_and]
      go_enter Try.func63, Try.ntmps63
      go_wp2_with fail
      rw [hw0'.out]
      go_wp2_with fail
      refine (c1'.out _).mono ?_
      rintro e w1 ⟨rfl, hB1⟩
      have hb1 := hB.trans (hB1.mono hB.size)
      have y2 := bkeep hB1 hx'.out.2.1
      have y3 := bkeep hB1 hx'.out.2.2
      go_wp2_with fail
      refine (c2'.out _).mono ?_
      rintro e w2 ⟨rfl, hB2⟩
      have hb2 := hb1.trans (hB2.mono hb1.size)
      go_wp2
      go_ret
      exact ⟨rfl, hb2⟩
    · rw [Bool.true_and]
      go_enter Try.func63, Try.ntmps63
      go_wp2_with fail
      rw [hw0'.out]
      go_wp2_with fail
      refine (c1'.out _).mono ?_
      rintro e w1 ⟨rfl, hB1⟩
      have hb1 := hB.trans (hB1.mono hB.size)
      have y2 := bkeep hB1 hx'.out.2.1
      have y3 := bkeep hB1 hx'.out.2.2
      go_wp2_with fail
      refine (c2'.out _).mono ?_
      rintro e w2 ⟨rfl, hB2⟩
      have hb2 := hb1.trans (hB2.mono hb1.size)
      have hk2 := hB1.trans (hB2.mono hB1.size)
      have z0 := bkeep hk2 hx'.out.1.1
      have z1 := bkeep hk2 hx'.out.1.2
      have z2 := bkeep hk2 hx'.out.2.1
      have z3 := bkeep hk2 hx'.out.2.2
      clear y2 y3
      go_wp2_with fail
      refine (c3'.out _ (by simp) (by simp)).mono ?_
      rintro e w3 ⟨rfl, hB3⟩
      have hb3 := hb2.trans (hB3.mono hb2.size)
      go_wp2
      go_ret
      exact ⟨rfl, hb3⟩

set_option maxHeartbeats 400000 in
theorem areIntervals1_any (i : Quad) (w : World) : Calls Try.prog 125 #[quadV i] w (Ret (.bool (!(ivB i))) w) := by
  have c1 := fun w => isInterval_any i w
  generalize ivB i = U at *
  obtain ⟨⟨x, y⟩, ⟨z, t⟩⟩ := i
  have hB : Below w.heap.size w (w.alloc (.cells #[.int .i64 x, .int .i64 y, .int .i64 z, .int .i64 t] 43)) := (Below.refl _ _).alloc (Nat.le_refl _) _
  show Calls _ _ #[.agg #[.int .i64 x, .int .i64 y, .int .i64 z, .int .i64 t]] w _
  have c1' := Lib.hid c1
  clear c1
  go_enter Try.func125, Try.ntmps125
  go_wp2_with fail
  refine (c1'.out _).mono ?_
  rintro e w1 ⟨rfl, hB1⟩
  have hb1 := hB.trans (hB1.mono hB.size)
  go_wp2
  go_ret
  exact ⟨rfl, hb1⟩
theorem areIntervals_any (v : Value) (xs : List Quad) (w : World) (hv : QuadV w v xs) (hm : xs.length ≤ 1099511627776) :
    Calls Try.prog 90 #[v] w (Ret (.bool (ivsB xs)) w) := by
  have cc := containsFuncI_any v xs 125 #[] (fun q => !(ivB q)) w (enters_of Try.func125 (by kernel_rfl) rfl) (fun i w' _ _ => areIntervals1_any _ w') hv hm
  have hany : (xs.any fun q => !(ivB q)) = !(xs.all ivB) := by rw [List.all_eq_not_any_not, Bool.not_not]
  rw [hany] at cc
  obtain ⟨ao, cap, rfl, _, _, _⟩ := hv.form
  have c1 := fun w => within_any (xs.length : Int) 1 8 w
  unfold ivsB
  rw [Bool.and_comm]
  generalize xs.all ivB = A at *
  generalize inB xs.length 1 8 = L at *
  generalize xs.length = n at *
  clear hany hv
  have c1' := Lib.hid c1
  have cc' := Lib.hid cc
  clear c1 cc
  cases L
  · rw [Bool.false_and]
    go_enter Try.func90, Try.ntmps90
    go_wp2_with fail
    refine (c1'.out _).mono ?_
    rintro e w_ ⟨rfl, rfl⟩
    go_wp2
    go_ret
    exact ⟨rfl, Below.refl _ _⟩
  · rw [Bool.true_and]
    go_enter Try.func90, Try.ntmps90
    go_wp2_with fail
    refine (c1'.out _).mono ?_
    rintro e w_ ⟨rfl, rfl⟩
    go_wp2_with fail
    refine (cc'.out).mono ?_
    rintro e w1 ⟨rfl, hB1⟩
    go_wp2
    go_ret
    exact ⟨by simp, hB1⟩

set_option maxHeartbeats 800000 in
theorem ivList_any (v : Value) (xs : List Quad) (w : World) (hv : QuadV w v xs) (hm : xs.length ≤ 1099511627776) :
    Calls Try.prog 89 #[v] w (Ret (.bool (ivsB xs)) w) := by
  obtain ⟨ao, cap, rfl, _, _, H⟩ := hv.form
  have c1 := fun w => l1In_any (xs.length : Int) 1 8 w
  have hno : ∀ k, k < xs.length → ivB (nth4 xs k) = false → ivsB xs = false := fun k hk h => by
    have : xs.all ivB = false := by
      rw [List.all_eq_false]
      exact ⟨nth4 xs k, by rw [nth4_eq hk]; exact List.getElem_mem hk, by rw [h]; simp⟩
    unfold ivsB; rw [this]; rfl
  have hyes : (∀ k, k < xs.length → ivB (nth4 xs k) = true) → ivsB xs = inB xs.length 1 8 := fun h => by
    have : xs.all ivB = true := by
      rw [List.all_eq_true]
      intro x hx
      obtain ⟨i, hi, rfl⟩ := List.getElem_of_mem hx
      have := h i hi
      rw [nth4_eq hi] at this; exact this
    unfold ivsB; rw [this]; rfl
  obtain ⟨n, hn⟩ : ∃ n, xs.length = n := ⟨_, rfl⟩
  rw [hn] at hm hv H c1 hno hyes ⊢
  generalize ivsB xs = R at *
  have c1' := Lib.hid c1
  have hno' := Lib.hid hno
  have hyes' := Lib.hid hyes
  have hn' := Lib.hid hn
  have hv' := Lib.hid hv
  have H' := Lib.hid H
  clear c1 hno hyes hn hv H
  go_enter Try.func89, Try.ntmps89
  go_wp2
  go_loopw [7] (fun i wr => ∃ k : Nat, k ≤ n ∧ i = .int .i64 k ∧ Hid (∀ j, j < k → ivB (nth4 xs j) = true) ∧ Below w.heap.size w wr) (fun i _ => n - (intOf i).toNat)
  case atStart => exact ⟨0, Nat.zero_le _, rfl, Lib.hid (fun j hj => absurd hj (Nat.not_lt_zero j)), Below.refl _ _⟩
  case round =>
    obtain ⟨k, hk, rfl, hu, hB⟩ := hrel
    by_cases hlt : k < n
    · obtain ⟨b, off, rfl, d0, d1, d2, d3⟩ := H'.out k hlt
      have l0 := World.block_lt_of_cell? w _ d0
      simp only at l0
      rw [← hB.cell (p := ⟨b, off + k * 4, none⟩) l0] at d0
      rw [← hB.cell (p := ⟨b, off + k * 4 + 1, none⟩) l0] at d1
      rw [← hB.cell (p := ⟨b, off + k * 4 + 2, none⟩) l0] at d2
      rw [← hB.cell (p := ⟨b, off + k * 4 + 3, none⟩) l0] at d3
      have c2 := fun w => ivGood_any (nth4 xs k) w
      have hn1 := hno'.out k hlt
      have hu2 : ivB (nth4 xs k) = true → ∀ j, j < k + 1 → ivB (nth4 xs j) = true := fun h j hj => by
        rcases Nat.lt_succ_iff_lt_or_eq.1 hj with h1 | rfl
        · exact hu.out j h1
        · exact h
      generalize ivB (nth4 xs k) = U at *
      obtain ⟨⟨⟨x, y⟩, ⟨z, t⟩⟩, hq⟩ : ∃ r, nth4 xs k = r := ⟨_, rfl⟩
      rw [hq] at d0 d1 d2 d3 c2
      simp only at d0 d1 d2 d3 c2
      have hB1 : Below w.heap.size w (wr.alloc (.cells #[.int .i64 x, .int .i64 y, .int .i64 z, .int .i64 t] 43)) := hB.alloc hB.size _
      have c2' := Lib.hid c2
      have hn1' := Lib.hid hn1
      have hu2' := Lib.hid hu2
      have hq' := Lib.hid hq
      clear c2 hn1 hu2 hq
      cases U
      · have hR := hn1'.out rfl
        have hR' := Lib.hid hR
        clear hR
        go_wp2_with fail
        refine (c2'.out _).mono ?_
        rintro e w2 ⟨rfl, hB2⟩
        have hb2 := hB1.trans (hB2.mono hB1.size)
        go_wp2
        go_ret
        exact ⟨by rw [hR'.out]; rfl, hb2⟩
      · have hu3 := Lib.hid (hu2'.out rfl)
        go_wp2_with fail
        refine (c2'.out _).mono ?_
        rintro e w2 ⟨rfl, hB2⟩
        have hb2 := hB1.trans (hB2.mono hB1.size)
        go_wp2
        go_roundw
        case rel => exact ⟨k + 1, by omega, by go_num, hu3, hb2⟩
        case measure => simp [intOf]; omega
    · obtain rfl : n = k := by omega
      have hR := hyes'.out hu.out
      have hR' := Lib.hid hR
      clear hR
      clear H'
      go_wp2_with fail
      refine (c1'.out _).mono ?_
      rintro e w_ ⟨rfl, rfl⟩
      go_wp2
      go_ret
      exact ⟨by rw [hR'.out]; rfl, hB⟩

end Go.Proofs.Ytfcanpebagpdbaa

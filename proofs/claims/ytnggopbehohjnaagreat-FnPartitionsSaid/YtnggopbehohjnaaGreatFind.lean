/- Finding a fraction in a list: the library's Index and Contains, mkFind, haveAll; a number in a list. No conditions. -/
import Derived.Test.YtnggopbehohjnaaGreatPkB
import Derived.Test.YtnggopbehohjnaaGreatBoxQ
namespace Go.Proofs.YtnggopbehohjnaaGreat
open Go.RowKit

/-- The first place of x, or -1. -/
def plcR (xs : List (Int × Int)) (x : Int × Int) : Int := idxQ (fun y => decide (y = x)) xs
def hasR (xs : List (Int × Int)) (x : Int × Int) : Bool := xs.any fun y => decide (y = x)
def hasI (xs : List Int) (x : Int) : Bool := xs.any fun y => decide (y = x)
theorem hasI_hit {xs : List Int} {x : Int} {k : Nat} (hk : k < xs.length) (h : nth xs k = x) : hasI xs x = true := by
  unfold hasI
  rw [List.any_eq_true]
  exact ⟨nth xs k, nth_mem hk, decide_eq_true h⟩
theorem hasI_none {xs : List Int} {x : Int} (h : ∀ j, j < xs.length → nth xs j ≠ x) : hasI xs x = false := by
  unfold hasI
  rw [List.any_eq_false]
  intro y hy
  obtain ⟨j, hj, rfl⟩ := List.getElem_of_mem hy
  rw [← nth_eq hj]
  simpa using h j hj

set_option linter.unusedSimpArgs false in
set_option maxHeartbeats 1600000 in
theorem index_any (v : Value) (xs : List (Int × Int)) (x : Int × Int) (w : World) (hv : RatsV w v xs) (hm : xs.length ≤ 1099511627776) :
    Calls Tryz.prog 227 #[v, .agg #[.int .i64 x.1, .int .i64 x.2]] w (Ret (.int .i64 (plcR xs x)) w) := by
  obtain ⟨ao, cap, rfl, _, _, H⟩ := hv.form
  obtain ⟨n, hn⟩ : ∃ n, xs.length = n := ⟨_, rfl⟩
  have hhit : ∀ k, k < n → (∀ j, j < k → nthR xs j ≠ x) → nthR xs k = x → plcR xs x = k := fun k hk hno h => by
    rw [← hn] at hk
    exact idxQ_hit hk (fun j hj => decide_eq_false (hno j hj)) (decide_eq_true h)
  have hnone : (∀ j, j < n → nthR xs j ≠ x) → plcR xs x = -1 := fun h => by
    rw [← hn] at h
    exact idxQ_none (fun j hj => decide_eq_false (h j hj))
  rw [hn] at H hm ⊢
  generalize plcR xs x = R at *
  obtain ⟨x0, x1⟩ := x
  obtain ⟨w1, hw1⟩ : ∃ W, w.alloc (.cells #[.int .i64 x0, .int .i64 x1] 50) = W := ⟨_, rfl⟩
  have hB1 : Below w.heap.size w w1 := by rw [← hw1]; exact (Below.refl _ _).alloc (Nat.le_refl _) _
  have i0 : w1.cell? ⟨w.heap.size, 0, none⟩ = some (.int .i64 x0) := by rw [← hw1]; simp [go_sem]
  have i1 : w1.cell? ⟨w.heap.size, 1, none⟩ = some (.int .i64 x1) := by rw [← hw1]; simp [go_sem]
  clear hv
  have H' := Lib.hid H
  have hn' := Lib.hid hn
  have hhit' := Lib.hid hhit
  have hnone' := Lib.hid hnone
  have hw1' := Lib.hid hw1
  clear H hn hhit hnone hw1
  show Calls _ _ #[_, .agg #[.int .i64 x0, .int .i64 x1]] w _
  go_enter Tryz.func227, Tryz.ntmps227
  go_wp2
  rw [hw1'.out]
  go_loopw [8] (fun i wr => ∃ k : Nat, k ≤ n ∧ i = .int .i64 k ∧ (∀ j, j < k → nthR xs j ≠ (x0, x1)) ∧ Below w1.heap.size w1 wr) (fun i _ => n - (intOf i).toNat)
  case atStart => exact ⟨0, Nat.zero_le _, rfl, fun j hj => absurd hj (Nat.not_lt_zero j), Below.refl _ _⟩
  case round =>
    obtain ⟨k, hk, rfl, hno, hB⟩ := hrel
    have hno' := Lib.hid hno
    clear hno
    have hb := hB1.trans (hB.mono hB1.size)
    by_cases hlt : k < n
    · obtain ⟨b, off, rfl, p0, p1⟩ := H'.out k hlt
      replace p0 := bkeep hb p0
      replace p1 := bkeep hb p1
      replace i0 := bkeep hB i0
      replace i1 := bkeep hB i1
      have hh := hhit'.out k hlt hno'.out
      obtain ⟨⟨y0, y1⟩, hy⟩ : ∃ r, nthR xs k = r := ⟨_, rfl⟩
      rw [hy] at p0 p1 hh
      simp only at p0 p1
      by_cases he : y0 = x0 ∧ y1 = x1
      · obtain ⟨rfl, rfl⟩ := he
        have hR := hh rfl
        clear hh
        subst hR
        have hy' := Lib.hid hy
        have hb' := Lib.hid hb
        have hB' := Lib.hid hB
        clear hy hb hB
        go_wp2_with fail
        go_region
        go_wp2
        go_ret
        exact ⟨rfl, hb'.out.drew⟩
      · have hne : nthR xs k ≠ (x0, x1) := fun h => he (by rw [hy] at h; exact ⟨(Prod.mk.inj h).1, (Prod.mk.inj h).2⟩)
        have hno2 : ∀ j, j < k + 1 → nthR xs j ≠ (x0, x1) := fun j hj => by
          rcases Nat.lt_succ_iff_lt_or_eq.1 hj with h | rfl
          · exact hno'.out j h
          · exact hne
        clear hh hne
        by_cases h0 : x0 = y0
        · have h1 : ¬ x1 = y1 := fun h => he ⟨h0.symm, h.symm⟩
          subst h0
          clear he
          have hy' := Lib.hid hy
          have hB' := Lib.hid hB
          have hno2' := Lib.hid hno2
          clear hy hB hno2
          go_wp2_with fail
          go_region
          go_wp2
          go_roundw
          case rel => exact ⟨k + 1, by omega, by go_num, hno2'.out, hB'.out.drew⟩
          case measure => simp [intOf]; omega
        · clear he
          have hy' := Lib.hid hy
          have hB' := Lib.hid hB
          have hno2' := Lib.hid hno2
          clear hy hB hno2
          go_wp2_with fail
          go_region
          go_wp2
          go_roundw
          case rel => exact ⟨k + 1, by omega, by go_num, hno2'.out, hB'.out.drew⟩
          case measure => simp [intOf]; omega
    · obtain rfl : k = n := by omega
      have hR := hnone'.out hno'.out
      subst hR
      clear hB
      have hb' := Lib.hid hb
      clear hb
      go_wp2
      go_ret
      exact ⟨rfl, hb'.out⟩
set_option linter.unusedSimpArgs false in
set_option maxHeartbeats 1600000 in
theorem mkFind_any (v : Value) (xs : List (Int × Int)) (x : Int × Int) (w : World) (hv : RatsV w v xs) (hm : xs.length ≤ 1099511627776) :
    Calls Tryz.prog 167 #[v, .agg #[.int .i64 x.1, .int .i64 x.2]] w (Ret (.int .i64 (plcR xs x)) w) := by
  obtain ⟨ao, cap, rfl, _, _, H⟩ := hv.form
  obtain ⟨n, hn⟩ : ∃ n, xs.length = n := ⟨_, rfl⟩
  have hhit : ∀ k, k < n → (∀ j, j < k → nthR xs j ≠ x) → nthR xs k = x → plcR xs x = k := fun k hk hno h => by
    rw [← hn] at hk
    exact idxQ_hit hk (fun j hj => decide_eq_false (hno j hj)) (decide_eq_true h)
  have hnone : (∀ j, j < n → nthR xs j ≠ x) → plcR xs x = -1 := fun h => by
    rw [← hn] at h
    exact idxQ_none (fun j hj => decide_eq_false (h j hj))
  rw [hn] at H hm ⊢
  generalize plcR xs x = R at *
  obtain ⟨x0, x1⟩ := x
  obtain ⟨w1, hw1⟩ : ∃ W, w.alloc (.cells #[.int .i64 x0, .int .i64 x1] 50) = W := ⟨_, rfl⟩
  have hB1 : Below w.heap.size w w1 := by rw [← hw1]; exact (Below.refl _ _).alloc (Nat.le_refl _) _
  have i0 : w1.cell? ⟨w.heap.size, 0, none⟩ = some (.int .i64 x0) := by rw [← hw1]; simp [go_sem]
  have i1 : w1.cell? ⟨w.heap.size, 1, none⟩ = some (.int .i64 x1) := by rw [← hw1]; simp [go_sem]
  clear hv
  have H' := Lib.hid H
  have hn' := Lib.hid hn
  have hhit' := Lib.hid hhit
  have hnone' := Lib.hid hnone
  have hw1' := Lib.hid hw1
  clear H hn hhit hnone hw1
  show Calls _ _ #[_, .agg #[.int .i64 x0, .int .i64 x1]] w _
  go_enter Tryz.func167, Tryz.ntmps167
  go_wp2
  rw [hw1'.out]
  go_loopw [9] (fun i wr => ∃ k : Nat, k ≤ n ∧ i = .int .i64 k ∧ (∀ j, j < k → nthR xs j ≠ (x0, x1)) ∧ Below w1.heap.size w1 wr) (fun i _ => n - (intOf i).toNat)
  case atStart => exact ⟨0, Nat.zero_le _, rfl, fun j hj => absurd hj (Nat.not_lt_zero j), Below.refl _ _⟩
  case round =>
    obtain ⟨k, hk, rfl, hno, hB⟩ := hrel
    have hno' := Lib.hid hno
    clear hno
    have hb := hB1.trans (hB.mono hB1.size)
    by_cases hlt : k < n
    · obtain ⟨b, off, rfl, p0, p1⟩ := H'.out k hlt
      replace p0 := bkeep hb p0
      replace p1 := bkeep hb p1
      have j0 := bkeep hB i0
      have j1 := bkeep hB i1
      clear i0 i1
      have hil : w.heap.size < wr.heap.size := World.block_lt_of_cell? _ _ j0
      have hh := hhit'.out k hlt hno'.out
      obtain ⟨⟨y0, y1⟩, hy⟩ : ∃ r, nthR xs k = r := ⟨_, rfl⟩
      rw [hy] at p0 p1 hh
      simp only at p0 p1
      have hb2 := hb.alloc hb.size (.cells #[.int .i64 y0, .int .i64 y1] 50)
      have hB2 := hB.alloc hB.size (.cells #[.int .i64 y0, .int .i64 y1] 50)
      by_cases he : y0 = x0 ∧ y1 = x1
      · obtain ⟨rfl, rfl⟩ := he
        have hR := hh rfl
        clear hh hb hB hB2
        subst hR
        have hy' := Lib.hid hy
        have hb2' := Lib.hid hb2
        clear hy hb2
        go_wp2
        go_ret
        exact ⟨rfl, hb2'.out⟩
      · have hne : nthR xs k ≠ (x0, x1) := fun h => he (by rw [hy] at h; exact ⟨(Prod.mk.inj h).1, (Prod.mk.inj h).2⟩)
        have hno2 : ∀ j, j < k + 1 → nthR xs j ≠ (x0, x1) := fun j hj => by
          rcases Nat.lt_succ_iff_lt_or_eq.1 hj with h | rfl
          · exact hno'.out j h
          · exact hne
        clear hh hne hb hb2 hB
        by_cases h0 : x0 = y0
        · have h1 : ¬ x1 = y1 := fun h => he ⟨h0.symm, h.symm⟩
          subst h0
          clear he
          have hy' := Lib.hid hy
          have hB2' := Lib.hid hB2
          have hno2' := Lib.hid hno2
          clear hy hB2 hno2
          go_wp2
          go_roundw
          case rel => exact ⟨k + 1, by omega, by go_num, hno2'.out, hB2'.out⟩
          case measure => simp [intOf]; omega
        · clear he
          have hy' := Lib.hid hy
          have hB2' := Lib.hid hB2
          have hno2' := Lib.hid hno2
          clear hy hB2 hno2
          go_wp2
          go_roundw
          case rel => exact ⟨k + 1, by omega, by go_num, hno2'.out, hB2'.out⟩
          case measure => simp [intOf]; omega
    · obtain rfl : k = n := by omega
      have hR := hnone'.out hno'.out
      subst hR
      clear hB
      have hb' := Lib.hid hb
      clear hb
      go_wp2
      go_ret
      exact ⟨rfl, hb'.out⟩
set_option maxHeartbeats 800000 in
theorem l1Has_any (v : Value) (xs : List Int) (x : Int) (w : World) (hv : IntsV w v xs) (hm : xs.length ≤ 1099511627776) :
    Calls Tryz.prog 206 #[v, .int .i64 x] w (Same (.bool (hasI xs x)) w) := by
  obtain ⟨ao, cap, rfl, _, _, H⟩ := hv
  obtain ⟨n, hn⟩ : ∃ n, xs.length = n := ⟨_, rfl⟩
  have hhit : ∀ k, k < n → nth xs k = x → hasI xs x = true := fun k hk h => hasI_hit (by rw [hn]; exact hk) h
  have hnone : (∀ j, j < n → nth xs j ≠ x) → hasI xs x = false := fun h => by rw [← hn] at h; exact hasI_none h
  rw [hn] at H hm ⊢
  generalize hasI xs x = R at *
  have H' := Lib.hid H
  have hn' := Lib.hid hn
  have hhit' := Lib.hid hhit
  have hnone' := Lib.hid hnone
  clear H hn hhit hnone
  go_enter Tryz.func206, Tryz.ntmps206
  go_wp2
  go_loopw [9] (fun i wr => ∃ k : Nat, k ≤ n ∧ i = .int .i64 k ∧ (∀ j, j < k → nth xs j ≠ x) ∧ wr = w) (fun i _ => n - (intOf i).toNat)
  case atStart => exact ⟨0, Nat.zero_le _, rfl, fun j hj => absurd hj (Nat.not_lt_zero j), rfl⟩
  case round =>
    obtain ⟨k, hk, rfl, hno, rfl⟩ := hrel
    have hno' := Lib.hid hno
    clear hno
    by_cases hlt : k < n
    · obtain ⟨b, off, rfl, p0⟩ := H'.out k hlt
      have hh := hhit'.out k hlt
      obtain ⟨y, hy⟩ : ∃ r, nth xs k = r := ⟨_, rfl⟩
      rw [hy] at p0 hh
      by_cases he : y = x
      · have hR := hh he
        subst hR
        subst he
        clear hh
        have hy' := Lib.hid hy
        clear hy
        go_wp2
        go_ret
        exact ⟨rfl, rfl⟩
      · have hno2 : ∀ j, j < k + 1 → nth xs j ≠ x := fun j hj => by
          rcases Nat.lt_succ_iff_lt_or_eq.1 hj with h | rfl
          · exact hno'.out j h
          · rw [hy]; exact he
        clear hh
        have hy' := Lib.hid hy
        have hno2' := Lib.hid hno2
        clear hy hno2
        go_wp2
        go_roundw
        case rel => exact ⟨k + 1, by omega, by go_num, hno2'.out, by trivial⟩
        case measure => simp [intOf]; omega
    · obtain rfl : k = n := by omega
      have hR := hnone'.out hno'.out
      subst hR
      go_wp2
      go_ret
      exact ⟨rfl, rfl⟩
theorem contains_any (v : Value) (xs : List (Int × Int)) (x : Int × Int) (w : World) (hv : RatsV w v xs) (hm : xs.length ≤ 1099511627776) :
    Calls Tryz.prog 204 #[v, .agg #[.int .i64 x.1, .int .i64 x.2]] w (Ret (.bool (hasR xs x)) w) := by
  have c1 := fun w' (hB : Below w.heap.size w w') => index_any v xs x w' (hv.below hB) hm
  have e : decide (plcR xs x ≥ 0) = hasR xs x := idxQ_geq _ _
  rw [← e]
  generalize plcR xs x = R at *
  obtain ⟨x0, x1⟩ := x
  obtain ⟨w1, hw1⟩ : ∃ W, w.alloc (.cells #[.int .i64 x0, .int .i64 x1] 50) = W := ⟨_, rfl⟩
  have hB1 : Below w.heap.size w w1 := by rw [← hw1]; exact (Below.refl _ _).alloc (Nat.le_refl _) _
  clear hv e
  have c1' := Lib.hid c1
  have hw1' := Lib.hid hw1
  clear c1 hw1
  show Calls _ _ #[_, .agg #[.int .i64 x0, .int .i64 x1]] w _
  go_enter Tryz.func204, Tryz.ntmps204
  go_wp2_with fail
  rw [hw1'.out]
  go_wp2_with fail
  refine (c1'.out _ hB1).mono ?_
  rintro e w2 ⟨rfl, hB2⟩
  have hb2 := hB1.trans (hB2.mono hB1.size)
  go_wp2
  go_ret
  exact ⟨rfl, hb2⟩

set_option maxHeartbeats 800000 in
theorem haveAll1_any (u : Value) (xs : List (Int × Int)) (bx : Nat) (x : Int × Int) (w : World) (hu : RatsV w u xs) (hbx : w.cell? ⟨bx, 0, none⟩ = some u) (hm : xs.length ≤ 1099511627776) :
    Calls Tryz.prog 203 #[.agg #[.int .i64 x.1, .int .i64 x.2], .pointer (some ⟨bx, 0, none⟩)] w (Ret (.bool (!(hasR xs x))) w) := by
  have c1 := fun w' (hB : Below w.heap.size w w') => contains_any u xs x w' (hu.below hB) hm
  generalize hasR xs x = R at *
  obtain ⟨x0, x1⟩ := x
  obtain ⟨ao, cap, rfl, _, _, _⟩ := hu.form
  obtain ⟨w1, hw1⟩ : ∃ W, w.alloc (.cells #[.int .i64 x0, .int .i64 x1] 50) = W := ⟨_, rfl⟩
  have hB1 : Below w.heap.size w w1 := by rw [← hw1]; exact (Below.refl _ _).alloc (Nat.le_refl _) _
  have hbl := World.block_lt_of_cell? _ _ hbx
  simp only at hbl
  clear hu
  have c1' := Lib.hid c1
  have hw1' := Lib.hid hw1
  clear c1 hw1
  show Calls _ _ #[.agg #[.int .i64 x0, .int .i64 x1], _] w _
  go_enter Tryz.func203, Tryz.ntmps203
  go_wp2_with fail
  rw [hw1'.out]
  go_wp2_with fail
  refine (c1'.out _ hB1).mono ?_
  rintro e w2 ⟨rfl, hB2⟩
  have hb2 := hB1.trans (hB2.mono hB1.size)
  go_wp2
  go_ret
  exact ⟨rfl, hb2⟩
/-- All of a list are in another one. -/
theorem haveAll_any (u v : Value) (xs ys : List (Int × Int)) (w : World) (hu : RatsV w u xs) (hv : RatsV w v ys) (hm : xs.length ≤ 1099511627776) (hn : ys.length ≤ 1099511627776) :
    Calls Tryz.prog 123 #[u, v] w (Ret (.bool (ys.all (hasR xs))) w) := by
  have e : ys.all (hasR xs) = !(ys.any fun x => !(hasR xs x)) := by rw [List.all_eq_not_any_not]
  rw [e]
  obtain ⟨w1, hw1⟩ : ∃ W, w.alloc (.cells #[u] 24) = W := ⟨_, rfl⟩
  have hB1 : Below w.heap.size w w1 := by rw [← hw1]; exact (Below.refl _ _).alloc (Nat.le_refl _) _
  have k0 : w1.cell? ⟨w.heap.size, 0, none⟩ = some u := by rw [← hw1]; simp [go_sem]
  have c1 := containsFuncQ_any v ys 203 #[.pointer (some ⟨w.heap.size, 0, none⟩)] (fun x => !(hasR xs x)) w1 (enters_of Tryz.func203 (by kernel_rfl) rfl)
    (fun x w2 hB2 => haveAll1_any u xs w.heap.size x w2 ((hu.below hB1).below hB2) (bkeep hB2 k0) hm) (hv.below hB1) hn
  generalize (ys.any fun x => !(hasR xs x)) = R at *
  clear hv e
  obtain ⟨ao, cap, rfl, _, _, _⟩ := hu.form
  clear hu
  have c1' := Lib.hid c1
  have hw1' := Lib.hid hw1
  clear c1 hw1
  go_enter Tryz.func123, Tryz.ntmps123
  go_wp2_with fail
  rw [hw1'.out]
  go_wp2_with fail
  refine (c1'.out).mono ?_
  rintro e w2 ⟨rfl, hB2⟩
  have hb2 := hB1.trans (hB2.mono hB1.size)
  go_wp2
  go_ret
  exact ⟨rfl, hb2⟩

end Go.Proofs.YtnggopbehohjnaaGreat

/- Whether points are a map: the program's isMap; the X of points. No conditions. -/
import Derived.Test.YtfcanpebagpdbaaMapIs
import Derived.Test.YtfcanpebagpdbaaQuadIdx
namespace Go.Proofs.Ytfcanpebagpdbaa
open Go.RowKit

set_option maxHeartbeats 800000 in
theorem xsOf_any (v : Value) (f : List Quad) (w : World) (hv : QuadV w v f) (hm : f.length ≤ 1099511627776) :
    Calls Try.prog 85 #[v] w (RetO OwnR (xsL f) w) := by
  obtain ⟨ao, cap, rfl, _, _, H⟩ := hv.form
  have hst : ∀ k, k < f.length → xsL (f.take (k + 1)) = xsL (f.take k) ++ [(nth4 f k).1] := fun k hk => by
    rw [take_nth4 hk]; simp [xsL]
  have hln : ∀ k, k ≤ f.length → (xsL (f.take k)).length = k := fun k hk => by rw [xsL_len, List.length_take]; omega
  have hall : xsL (f.take f.length) = xsL f := by rw [List.take_length]
  have h0 : xsL (f.take 0) = [] := rfl
  obtain ⟨n, hn⟩ : ∃ n, f.length = n := ⟨_, rfl⟩
  rw [hn] at hm hv H hst hln hall ⊢
  generalize xsL f = R at *
  have hn' := Lib.hid hn
  have hv' := Lib.hid hv
  have H' := Lib.hid H
  have hst' := Lib.hid hst
  have hln' := Lib.hid hln
  have hall' := Lib.hid hall
  have h0' := Lib.hid h0
  clear hn hv H hst hln hall h0
  go_enter Try.func85, Try.ntmps85
  go_wp2
  go_loopw [3, 8] (fun o i wr => ∃ k : Nat, k ≤ n ∧ i = .int .i64 k ∧ GrowR wr w.heap.size o (xsL (f.take k)) ∧ Below w.heap.size w wr) (fun _ i _ => n - (intOf i).toNat)
  case atStart => exact ⟨0, Nat.zero_le _, rfl, by rw [h0'.out]; exact GrowR.nil _ _, Below.refl _ _⟩
  case round =>
    obtain ⟨k, hk, rfl, hg, hB⟩ := hrel
    by_cases hlt : k < n
    · obtain ⟨b, off, rfl, d0, d1, d2, d3⟩ := H'.out k hlt
      have l0 := World.block_lt_of_cell? w _ d0
      simp only at l0
      rw [← hB.cell (p := ⟨b, off + k * 4, none⟩) l0] at d0
      rw [← hB.cell (p := ⟨b, off + k * 4 + 1, none⟩) l0] at d1
      rw [← hB.cell (p := ⟨b, off + k * 4 + 2, none⟩) l0] at d2
      rw [← hB.cell (p := ⟨b, off + k * 4 + 3, none⟩) l0] at d3
      have hst1 := hst'.out k hlt
      have hl1 := hln'.out k hk
      obtain ⟨⟨⟨x, y⟩, ⟨z, t⟩⟩, hq⟩ : ∃ r, nth4 f k = r := ⟨_, rfl⟩
      rw [hq] at d0 d1 d2 d3 hst1
      simp only at d0 d1 d2 d3 hst1
      obtain ⟨w1, hw1⟩ : ∃ W, wr.alloc (.cells #[.int .i64 x, .int .i64 y, .int .i64 z, .int .i64 t] 73) = W := ⟨_, rfl⟩
      have hB1 : Below wr.heap.size wr w1 := by rw [← hw1]; exact (Below.refl _ _).alloc (Nat.le_refl _) _
      have hz1 : wr.heap.size + 1 = w1.heap.size := by rw [← hw1]; simp
      have hg1 := hg.below hB1
      have hb1 := hB.trans (hB1.mono hB.size)
      have hs1 : w.heap.size ≤ w1.heap.size := hb1.size
      generalize hA : xsL (f.take k) = A at *
      have hst1' := Lib.hid hst1
      have hq' := Lib.hid hq
      have hw1' := Lib.hid hw1
      have hg1' := Lib.hid hg1
      have hz1' := Lib.hid hz1
      have hA' := Lib.hid hA
      clear hst1 hq hw1 hg1 hz1 hA
      clear hg hB1
      go_wp2_with (at_builtin; rw [hw1'.out, hz1'.out]; refine wpList_append_rat rfl _ _ rfl w.heap.size u3 A x y _ rfl rfl hg1'.out (by omega) hs1 ?_)
      intro v' w' hown' hgrow
      have hbf := hg1'.out.belowB hb1 (Nat.le_refl _) hs1 hgrow
      go_wp2
      go_roundw
      case rel => exact ⟨k + 1, by omega, by go_num, by rw [hst1'.out]; exact hown', hbf⟩
      case measure => simp [intOf]; omega
    · obtain rfl : n = k := by omega
      rw [hall'.out] at hg
      have ho := hg.own
      clear hg
      have ho' := Lib.hid ho
      clear ho
      clear H'
      go_wp2
      go_ret
      exact ⟨_, rfl, ho'.out, hB⟩
set_option maxHeartbeats 800000 in
theorem coXs_any (v : Value) (f : List Quad) (w : World) (hv : QuadV w v f) (hm : f.length ≤ 1099511627776) :
    Calls Try.prog 144 #[v] w (RetO OwnR (xsL f) w) := by
  obtain ⟨ao, cap, rfl, _, _, H⟩ := hv.form
  have hst : ∀ k, k < f.length → xsL (f.take (k + 1)) = xsL (f.take k) ++ [(nth4 f k).1] := fun k hk => by
    rw [take_nth4 hk]; simp [xsL]
  have hln : ∀ k, k ≤ f.length → (xsL (f.take k)).length = k := fun k hk => by rw [xsL_len, List.length_take]; omega
  have hall : xsL (f.take f.length) = xsL f := by rw [List.take_length]
  have h0 : xsL (f.take 0) = [] := rfl
  obtain ⟨n, hn⟩ : ∃ n, f.length = n := ⟨_, rfl⟩
  rw [hn] at hm hv H hst hln hall ⊢
  generalize xsL f = R at *
  have hn' := Lib.hid hn
  have hv' := Lib.hid hv
  have H' := Lib.hid H
  have hst' := Lib.hid hst
  have hln' := Lib.hid hln
  have hall' := Lib.hid hall
  have h0' := Lib.hid h0
  clear hn hv H hst hln hall h0
  go_enter Try.func144, Try.ntmps144
  go_wp2
  go_loopw [3, 8] (fun o i wr => ∃ k : Nat, k ≤ n ∧ i = .int .i64 k ∧ GrowR wr w.heap.size o (xsL (f.take k)) ∧ Below w.heap.size w wr) (fun _ i _ => n - (intOf i).toNat)
  case atStart => exact ⟨0, Nat.zero_le _, rfl, by rw [h0'.out]; exact GrowR.nil _ _, Below.refl _ _⟩
  case round =>
    obtain ⟨k, hk, rfl, hg, hB⟩ := hrel
    by_cases hlt : k < n
    · obtain ⟨b, off, rfl, d0, d1, d2, d3⟩ := H'.out k hlt
      have l0 := World.block_lt_of_cell? w _ d0
      simp only at l0
      rw [← hB.cell (p := ⟨b, off + k * 4, none⟩) l0] at d0
      rw [← hB.cell (p := ⟨b, off + k * 4 + 1, none⟩) l0] at d1
      rw [← hB.cell (p := ⟨b, off + k * 4 + 2, none⟩) l0] at d2
      rw [← hB.cell (p := ⟨b, off + k * 4 + 3, none⟩) l0] at d3
      have hst1 := hst'.out k hlt
      have hl1 := hln'.out k hk
      obtain ⟨⟨⟨x, y⟩, ⟨z, t⟩⟩, hq⟩ : ∃ r, nth4 f k = r := ⟨_, rfl⟩
      rw [hq] at d0 d1 d2 d3 hst1
      simp only at d0 d1 d2 d3 hst1
      obtain ⟨w1, hw1⟩ : ∃ W, wr.alloc (.cells #[.int .i64 x, .int .i64 y, .int .i64 z, .int .i64 t] 73) = W := ⟨_, rfl⟩
      have hB1 : Below wr.heap.size wr w1 := by rw [← hw1]; exact (Below.refl _ _).alloc (Nat.le_refl _) _
      have hz1 : wr.heap.size + 1 = w1.heap.size := by rw [← hw1]; simp
      have hg1 := hg.below hB1
      have hb1 := hB.trans (hB1.mono hB.size)
      have hs1 : w.heap.size ≤ w1.heap.size := hb1.size
      generalize hA : xsL (f.take k) = A at *
      have hst1' := Lib.hid hst1
      have hq' := Lib.hid hq
      have hw1' := Lib.hid hw1
      have hg1' := Lib.hid hg1
      have hz1' := Lib.hid hz1
      have hA' := Lib.hid hA
      clear hst1 hq hw1 hg1 hz1 hA
      clear hg hB1
      go_wp2_with (at_builtin; rw [hw1'.out, hz1'.out]; refine wpList_append_rat rfl _ _ rfl w.heap.size u3 A x y _ rfl rfl hg1'.out (by omega) hs1 ?_)
      intro v' w' hown' hgrow
      have hbf := hg1'.out.belowB hb1 (Nat.le_refl _) hs1 hgrow
      go_wp2
      go_roundw
      case rel => exact ⟨k + 1, by omega, by go_num, by rw [hst1'.out]; exact hown', hbf⟩
      case measure => simp [intOf]; omega
    · obtain rfl : n = k := by omega
      rw [hall'.out] at hg
      have ho := hg.own
      clear hg
      have ho' := Lib.hid ho
      clear ho
      clear H'
      go_wp2
      go_ret
      exact ⟨_, rfl, ho'.out, hB⟩

set_option maxHeartbeats 400000 in
theorem isMap1_any (q : Quad) (w : World) : Calls Try.prog 106 #[quadV q] w (Ret (.bool (!(coordP q))) w) := by
  obtain ⟨⟨x, y⟩, ⟨z, t⟩⟩ := q
  have c1 := fun w => isCoord_any (x, y) w
  have c2 := fun w => isCoord_any (z, t) w
  simp only at c1 c2
  show Calls _ _ #[.agg #[.int .i64 x, .int .i64 y, .int .i64 z, .int .i64 t]] w (Ret (.bool (!(coordR (x, y) && coordR (z, t)))) w)
  generalize coordR (x, y) = U at *
  generalize coordR (z, t) = V at *
  have hB : Below w.heap.size w (w.alloc (.cells #[.int .i64 x, .int .i64 y, .int .i64 z, .int .i64 t] 73)) := (Below.refl _ _).alloc (Nat.le_refl _) _
  have x1 : (w.alloc (.cells #[.int .i64 x, .int .i64 y, .int .i64 z, .int .i64 t] 73)).cell? ⟨w.heap.size, 2, none⟩ = some (.int .i64 z) := by simp [go_sem]
  have x2 : (w.alloc (.cells #[.int .i64 x, .int .i64 y, .int .i64 z, .int .i64 t] 73)).cell? ⟨w.heap.size, 3, none⟩ = some (.int .i64 t) := by simp [go_sem]
  have c1' := Lib.hid c1
  have c2' := Lib.hid c2
  have x1' := Lib.hid x1
  have x2' := Lib.hid x2
  clear c1 c2 x1 x2
  cases U
  · rw [Bool.false_and]
    go_enter Try.func106, Try.ntmps106
    go_wp2_with fail
    refine (c1'.out _).mono ?_
    rintro e w1 ⟨rfl, hB1⟩
    have hb1 := hB.trans (hB1.mono hB.size)
    go_wp2
    go_ret
    exact ⟨rfl, hb1⟩
  · rw [Bool.true_and]
    go_enter Try.func106, Try.ntmps106
    go_wp2_with fail
    refine (c1'.out _).mono ?_
    rintro e w1 ⟨rfl, hB1⟩
    have hb1 := hB.trans (hB1.mono hB.size)
    have y1 := bkeep hB1 x1'.out
    have y2 := bkeep hB1 x2'.out
    go_wp2_with fail
    refine (c2'.out _).mono ?_
    rintro e w2 ⟨rfl, hB2⟩
    have hb2 := hb1.trans (hB2.mono hb1.size)
    go_wp2
    go_ret
    exact ⟨rfl, hb2⟩

set_option linter.unusedSimpArgs false in
set_option maxHeartbeats 2000000 in
theorem isMap_any (v : Value) (f : List Quad) (w : World) (hv : QuadV w v f) (hm : f.length ≤ 1099511627776) :
    Calls Try.prog 71 #[v] w (Ret (.bool (mapB f)) w) := by
  have cc := containsFuncP_any v f 106 #[] (fun q => !(coordP q)) w (enters_of Try.func106 (by kernel_rfl) rfl) (fun i w' _ _ => isMap1_any _ w') hv hm
  have cx := fun w' (hB : Below w.heap.size w w') => xsOf_any v f w' (hv.below hB) hm
  obtain ⟨ao, cap, rfl, _, _, H⟩ := hv.form
  have c1 := fun w => within_any (f.length : Int) 2 12 w
  cases hw : inB f.length 2 12
  · rw [hw] at c1
    rw [mapB_no_len hw]
    clear hw cc cx
    generalize f.length = n at *
    have c1' := Lib.hid c1
    clear c1
    clear H
    go_enter Try.func71, Try.ntmps71
    go_wp2_with fail
    refine (c1'.out _).mono ?_
    rintro e w_ ⟨rfl, rfl⟩
    go_wp2
    go_ret
    exact ⟨rfl, Below.refl _ _⟩
  rw [hw] at c1
  have hw2 := inB_true.1 hw
  have hany : (f.any fun q => !(coordP q)) = !(f.all coordP) := by
    rw [List.all_eq_not_any_not, Bool.not_not]
  rw [hany] at cc
  cases ha : f.all coordP
  · rw [ha] at cc
    rw [show mapB f = false by unfold mapB; rw [ha]; simp]
    clear ha hany hw cx H
    generalize f.length = n at *
    have c1' := Lib.hid c1
    have cc' := Lib.hid cc
    clear c1 cc
    go_enter Try.func71, Try.ntmps71
    go_wp2_with fail
    refine (c1'.out _).mono ?_
    rintro e w_ ⟨rfl, rfl⟩
    go_wp2_with fail
    refine (cc'.out).mono ?_
    rintro e w1 ⟨rfl, hB1⟩
    go_wp2
    go_ret
    exact ⟨rfl, hB1⟩
  · rw [ha] at cc
    have hb : ∀ i, i < (xsL f).length → BdR (nthR (xsL f) i).1 (nthR (xsL f) i).2 := fun i hi => by
      rw [xsL_len] at hi
      rw [nthR_xsL hi]
      have := all_nth4 ha hi
      unfold coordP at this
      rw [Bool.and_eq_true] at this
      exact good_bd (unitR_good (coordR_unit this.1))
    have ci := fun u w' (hu : RatsV w' u (xsL f)) => isRising_any u (xsL f) w' hu (by rw [xsL_len]; exact hm) hb
    rw [xsL_len] at ci
    have hval : mapB f = (riseK (xsL f) f.length && (decide ((nth4 f 0).1 = (0, 1)) && decide ((nth4 f (f.length - 1)).1 = (1, 1)))) := by
      unfold mapB; rw [hw, ha, Bool.true_and, Bool.true_and]
    rw [hval]
    obtain ⟨b, off, e, p0, p1, _⟩ := H 0 (by omega)
    cases e
    obtain ⟨_, _, e, q0, q1, _⟩ := H (f.length - 1) (by omega)
    cases e
    clear hval ha hany hw H hb
    generalize riseK (xsL f) f.length = K at *
    obtain ⟨n, hn⟩ : ∃ n, f.length = n := ⟨_, rfl⟩
    rw [hn] at hw2 hm hv c1 cc cx q0 q1 ⊢
    obtain ⟨m, hm1⟩ : ∃ m, n - 1 = m := ⟨_, rfl⟩
    rw [hm1] at q0 q1 ⊢
    obtain ⟨⟨⟨p, q⟩, _⟩, hr1⟩ : ∃ r, nth4 f 0 = r := ⟨_, rfl⟩
    obtain ⟨⟨⟨p', q'⟩, _⟩, hr2⟩ : ∃ r, nth4 f m = r := ⟨_, rfl⟩
    rw [hr1] at p0 p1 ⊢
    rw [hr2] at q0 q1 ⊢
    simp only at p0 p1 q0 q1
    rw [Nat.zero_mul, Nat.add_zero] at p0 p1
    have e1 : IntKind.i64.wrap ((n : Int) - 1) = (m : Int) := by rw [IntKind.wrap_i64]; omega
    have e2 : (0 : Int) ≤ (m : Int) := by omega
    have e3 : (m : Int) < (n : Int) := by omega
    have e4 : (0 : Int) ≤ (n : Int) := by omega
    have e5 : (0 : Int) < (n : Int) := by omega
    have e6 : 0 < n := by omega
    have e7 : m < n := by omega
    have at' : ∀ w', Below w.heap.size w w' → (w'.cell? ⟨b, off, none⟩ = some (.int .i64 p) ∧ w'.cell? ⟨b, off + 1, none⟩ = some (.int .i64 q)) ∧ w'.cell? ⟨b, off + m * 4, none⟩ = some (.int .i64 p') ∧ w'.cell? ⟨b, off + m * 4 + 1, none⟩ = some (.int .i64 q') := fun w' h =>
      ⟨⟨bkeep h p0, bkeep h p1⟩, bkeep h q0, bkeep h q1⟩
    clear p0 p1 q0 q1
    obtain ⟨V, hV⟩ : ∃ V, (K && (decide ((p, q) = ((0 : Int), (1 : Int))) && decide ((p', q') = ((1 : Int), (1 : Int))))) = V := ⟨_, rfl⟩
    rw [hV]
    have c1' := Lib.hid c1
    have cc' := Lib.hid cc
    have cx' := Lib.hid cx
    have ci' := Lib.hid ci
    have hn' := Lib.hid hn
    have hm1' := Lib.hid hm1
    have hr1' := Lib.hid hr1
    have hr2' := Lib.hid hr2
    have at'' := Lib.hid at'
    have hV' := Lib.hid hV
    have hv' := Lib.hid hv
    clear c1 cc cx ci hn hm1 hr1 hr2 at' hV hv
    go_enter Try.func71, Try.ntmps71
    go_wp2_with fail
    refine (c1'.out _).mono ?_
    rintro e w_ ⟨rfl, rfl⟩
    go_wp2_with fail
    refine (cc'.out).mono ?_
    rintro e w1 ⟨rfl, hB1⟩
    have hk1 := hB1.drew
    by_cases h1 : (p, q) = ((0 : Int), (1 : Int))
    rotate_left
    · have hV2 := hV'.out
      rw [decide_eq_false h1, Bool.false_and, Bool.and_false] at hV2
      subst hV2
      clear hV'
      go_wp2_with fail
      refine wp_region_held_drew (S := (fun w' => (w'.cell? ⟨b, off, none⟩ = some (.int .i64 p) ∧ w'.cell? ⟨b, off + 1, none⟩ = some (.int .i64 q)) ∧ w'.cell? ⟨b, off + m * 4, none⟩ = some (.int .i64 p') ∧ w'.cell? ⟨b, off + m * 4 + 1, none⟩ = some (.int .i64 q'))) (by kernel_rfl) (by (try dsimp only); (first | exact at''.out _ hk1 | exact at''.out _ hk2)) (fun hHeld => ?_)
      refine wpAnyH_take (i := 0) (oi := Oper.mk _ _ _ _ _ _) (v := ?_) rfl (by kernel_rfl) (by kernel_rfl) (by kernel_rfl) (fun _ _ _ h => h) (Or.inl ⟨by kernel_rfl, ?_⟩) hHeld ?_
      rotate_left
      · (intro wS hSw; (try dsimp only at hSw); go_simp; all_goals (with_reducible rfl))
      try simp only [Act.put, List.setIfInBounds_toArray, List.set_cons_zero, List.set_cons_succ]
      refine wpAnyH_take (i := 1) (oi := Oper.mk _ _ _ _ _ _) (v := ?_) rfl (by kernel_rfl) (by kernel_rfl) (by kernel_rfl) (fun _ _ _ h => h) (Or.inl ⟨by kernel_rfl, ?_⟩) hHeld ?_
      rotate_left
      · (intro wS hSw; (try dsimp only at hSw); go_simp; all_goals (with_reducible rfl))
      try simp only [Act.put, List.setIfInBounds_toArray, List.set_cons_zero, List.set_cons_succ]
      refine wpAnyH_take (i := 2) (oi := Oper.mk _ _ _ _ _ _) (v := ?_) rfl (by kernel_rfl) (by kernel_rfl) (by kernel_rfl) (fun _ _ _ h => h) (Or.inl ⟨by kernel_rfl, ?_⟩) hHeld ?_
      rotate_left
      · (intro wS hSw; (try dsimp only at hSw); go_simp; all_goals (with_reducible rfl))
      try simp only [Act.put, List.setIfInBounds_toArray, List.set_cons_zero, List.set_cons_succ]
      refine wpAnyH_take (i := 3) (oi := Oper.mk _ _ _ _ _ _) (v := ?_) rfl (by kernel_rfl) (by kernel_rfl) (by kernel_rfl) (fun _ _ _ h => h) (Or.inl ⟨by kernel_rfl, ?_⟩) hHeld ?_
      rotate_left
      · (intro wS hSw; (try dsimp only at hSw); go_simp; all_goals (with_reducible rfl))
      try simp only [Act.put, List.setIfInBounds_toArray, List.set_cons_zero, List.set_cons_succ]
      refine wpAnyH_ready (rs := [4]) (by kernel_rfl) (by simp) ?_
      refine AllReadyH.cons (o := Oper.mk _ _ _ _ _ _) rfl (fun KK hKK => ?_) AllReadyH.nil
      rw [if_pos (by kernel_rfl)]
      go_simp
      refine (zero_any _).mono ?_
      rintro e w2 ⟨rfl, hB2⟩
      have hk2 := hk1.trans (hB2.mono hk1.size)
      try dsimp only
      refine hKK.out _ _ (by (try dsimp only); (first | exact at''.out _ hk1 | exact at''.out _ hk2)) (fun hHeld => ?_)
      clear hKK KK
      try simp only [Act.put, List.setIfInBounds_toArray, List.set_cons_zero, List.set_cons_succ]
      refine wpAnyH_take (i := 5) (oi := Oper.mk _ _ _ _ _ _) (v := .bool false) rfl (by kernel_rfl) (by kernel_rfl) (by kernel_rfl) (fun _ _ _ h => h) (Or.inl ⟨by kernel_rfl, ?_⟩) hHeld ?_
      · (intro wS hSw; (try dsimp only at hSw); go_simp; by_cases ha : p = 0 <;> by_cases hb : q = 1 <;> simp_all)
      try simp only [Act.put, List.setIfInBounds_toArray, List.set_cons_zero, List.set_cons_succ]
      refine wpAnyH_take (i := 6) (oi := Oper.mk _ _ _ _ _ _) (v := ?_) rfl (by kernel_rfl) (by kernel_rfl) (by kernel_rfl) (fun _ _ _ h => h) (Or.inl ⟨by kernel_rfl, ?_⟩) hHeld ?_
      rotate_left
      · (intro wS hSw; (try dsimp only at hSw); go_simp; all_goals (with_reducible rfl))
      try simp only [Act.put, List.setIfInBounds_toArray, List.set_cons_zero, List.set_cons_succ]
      refine wpAnyH_take (i := 7) (oi := Oper.mk _ _ _ _ _ _) (v := undef) rfl (by kernel_rfl) (by kernel_rfl) (by kernel_rfl) (fun _ _ _ h => h) (Or.inr ⟨by kernel_rfl, rfl⟩) hHeld ?_
      try simp only [Act.put, List.setIfInBounds_toArray, List.set_cons_zero, List.set_cons_succ]
      refine wpAnyH_take (i := 8) (oi := Oper.mk _ _ _ _ _ _) (v := undef) rfl (by kernel_rfl) (by kernel_rfl) (by kernel_rfl) (fun _ _ _ h => h) (Or.inr ⟨by kernel_rfl, rfl⟩) hHeld ?_
      try simp only [Act.put, List.setIfInBounds_toArray, List.set_cons_zero, List.set_cons_succ]
      refine wpAnyH_take (i := 9) (oi := Oper.mk _ _ _ _ _ _) (v := undef) rfl (by kernel_rfl) (by kernel_rfl) (by kernel_rfl) (fun _ _ _ h => h) (Or.inr ⟨by kernel_rfl, rfl⟩) hHeld ?_
      try simp only [Act.put, List.setIfInBounds_toArray, List.set_cons_zero, List.set_cons_succ]
      refine wpAnyH_take (i := 10) (oi := Oper.mk _ _ _ _ _ _) (v := undef) rfl (by kernel_rfl) (by kernel_rfl) (by kernel_rfl) (fun _ _ _ h => h) (Or.inr ⟨by kernel_rfl, rfl⟩) hHeld ?_
      try simp only [Act.put, List.setIfInBounds_toArray, List.set_cons_zero, List.set_cons_succ]
      refine wpAnyH_take (i := 11) (oi := Oper.mk _ _ _ _ _ _) (v := undef) rfl (by kernel_rfl) (by kernel_rfl) (by kernel_rfl) (fun _ _ _ h => h) (Or.inr ⟨by kernel_rfl, rfl⟩) hHeld ?_
      try simp only [Act.put, List.setIfInBounds_toArray, List.set_cons_zero, List.set_cons_succ]
      refine wpAnyH_take (i := 12) (oi := Oper.mk _ _ _ _ _ _) (v := undef) rfl (by kernel_rfl) (by kernel_rfl) (by kernel_rfl) (fun _ _ _ h => h) (Or.inr ⟨by kernel_rfl, rfl⟩) hHeld ?_
      try simp only [Act.put, List.setIfInBounds_toArray, List.set_cons_zero, List.set_cons_succ]
      refine wpAnyH_take (i := 13) (oi := Oper.mk _ _ _ _ _ _) (v := undef) rfl (by kernel_rfl) (by kernel_rfl) (by kernel_rfl) (fun _ _ _ h => h) (Or.inr ⟨by kernel_rfl, rfl⟩) hHeld ?_
      try simp only [Act.put, List.setIfInBounds_toArray, List.set_cons_zero, List.set_cons_succ]
      refine wpAnyH_take (i := 14) (oi := Oper.mk _ _ _ _ _ _) (v := undef) rfl (by kernel_rfl) (by kernel_rfl) (by kernel_rfl) (fun _ _ _ h => h) (Or.inr ⟨by kernel_rfl, rfl⟩) hHeld ?_
      try simp only [Act.put, List.setIfInBounds_toArray, List.set_cons_zero, List.set_cons_succ]
      refine wpAnyH_take (i := 15) (oi := Oper.mk _ _ _ _ _ _) (v := undef) rfl (by kernel_rfl) (by kernel_rfl) (by kernel_rfl) (fun _ _ _ h => h) (Or.inr ⟨by kernel_rfl, rfl⟩) hHeld ?_
      try simp only [Act.put, List.setIfInBounds_toArray, List.set_cons_zero, List.set_cons_succ]
      refine wpAnyH_take (i := 16) (oi := Oper.mk _ _ _ _ _ _) (v := ?_) rfl (by kernel_rfl) (by kernel_rfl) (by kernel_rfl) (fun _ _ _ h => h) (Or.inl ⟨by kernel_rfl, ?_⟩) hHeld ?_
      rotate_left
      · (intro wS hSw; (try dsimp only at hSw); go_simp; all_goals (with_reducible rfl))
      try simp only [Act.put, List.setIfInBounds_toArray, List.set_cons_zero, List.set_cons_succ]
      refine wpAnyH_take (i := 17) (oi := Oper.mk _ _ _ _ _ _) (v := ?_) rfl (by kernel_rfl) (by kernel_rfl) (by kernel_rfl) (fun _ _ _ h => h) (Or.inl ⟨by kernel_rfl, ?_⟩) hHeld ?_
      rotate_left
      · (intro wS hSw; (try dsimp only at hSw); go_simp; all_goals (with_reducible rfl))
      try simp only [Act.put, List.setIfInBounds_toArray, List.set_cons_zero, List.set_cons_succ]
      refine wpAnyH_take (i := 18) (oi := Oper.mk _ _ _ _ _ _) (v := undef) rfl (by kernel_rfl) (by kernel_rfl) (by kernel_rfl) (fun _ _ _ h => h) (Or.inr ⟨by kernel_rfl, rfl⟩) hHeld ?_
      try simp only [Act.put, List.setIfInBounds_toArray, List.set_cons_zero, List.set_cons_succ]
      refine wpAnyH_take (i := 19) (oi := Oper.mk _ _ _ _ _ _) (v := undef) rfl (by kernel_rfl) (by kernel_rfl) (by kernel_rfl) (fun _ _ _ h => h) (Or.inr ⟨by kernel_rfl, rfl⟩) hHeld ?_
      try simp only [Act.put, List.setIfInBounds_toArray, List.set_cons_zero, List.set_cons_succ]
      refine wpAnyH_take (i := 20) (oi := Oper.mk _ _ _ _ _ _) (v := undef) rfl (by kernel_rfl) (by kernel_rfl) (by kernel_rfl) (fun _ _ _ h => h) (Or.inr ⟨by kernel_rfl, rfl⟩) hHeld ?_
      try simp only [Act.put, List.setIfInBounds_toArray, List.set_cons_zero, List.set_cons_succ]
      refine wpAnyH_take (i := 21) (oi := Oper.mk _ _ _ _ _ _) (v := ?_) rfl (by kernel_rfl) (by kernel_rfl) (by kernel_rfl) (fun _ _ _ h => h) (Or.inl ⟨by kernel_rfl, ?_⟩) hHeld ?_
      rotate_left
      · (intro wS hSw; (try dsimp only at hSw); go_simp; all_goals (with_reducible rfl))
      try simp only [Act.put, List.setIfInBounds_toArray, List.set_cons_zero, List.set_cons_succ]
      refine wpAnyH_take (i := 22) (oi := Oper.mk _ _ _ _ _ _) (v := ?_) rfl (by kernel_rfl) (by kernel_rfl) (by kernel_rfl) (fun _ _ _ h => h) (Or.inl ⟨by kernel_rfl, ?_⟩) hHeld ?_
      rotate_left
      · (intro wS hSw; (try dsimp only at hSw); go_simp; all_goals (with_reducible rfl))
      try simp only [Act.put, List.setIfInBounds_toArray, List.set_cons_zero, List.set_cons_succ]
      refine wpAnyH_done (by kernel_rfl) ?_ _
      go_wp2
      go_ret
      exact ⟨rfl, hk2⟩
    cases h1
    by_cases h2 : (p', q') = ((1 : Int), (1 : Int))
    rotate_left
    · have hV2 := hV'.out
      rw [decide_eq_false h2, Bool.and_false, Bool.and_false] at hV2
      subst hV2
      clear hV'
      go_wp2_with fail
      refine wp_region_held_drew (S := (fun w' => (w'.cell? ⟨b, off, none⟩ = some (.int .i64 0) ∧ w'.cell? ⟨b, off + 1, none⟩ = some (.int .i64 1)) ∧ w'.cell? ⟨b, off + m * 4, none⟩ = some (.int .i64 p') ∧ w'.cell? ⟨b, off + m * 4 + 1, none⟩ = some (.int .i64 q'))) (by kernel_rfl) (by (try dsimp only); (first | exact at''.out _ hk1 | exact at''.out _ hk2 | exact at''.out _ hk3)) (fun hHeld => ?_)
      refine wpAnyH_take (i := 0) (oi := Oper.mk _ _ _ _ _ _) (v := ?_) rfl (by kernel_rfl) (by kernel_rfl) (by kernel_rfl) (fun _ _ _ h => h) (Or.inl ⟨by kernel_rfl, ?_⟩) hHeld ?_
      rotate_left
      · (intro wS hSw; (try dsimp only at hSw); go_simp; all_goals (with_reducible rfl))
      try simp only [Act.put, List.setIfInBounds_toArray, List.set_cons_zero, List.set_cons_succ]
      refine wpAnyH_take (i := 1) (oi := Oper.mk _ _ _ _ _ _) (v := ?_) rfl (by kernel_rfl) (by kernel_rfl) (by kernel_rfl) (fun _ _ _ h => h) (Or.inl ⟨by kernel_rfl, ?_⟩) hHeld ?_
      rotate_left
      · (intro wS hSw; (try dsimp only at hSw); go_simp; all_goals (with_reducible rfl))
      try simp only [Act.put, List.setIfInBounds_toArray, List.set_cons_zero, List.set_cons_succ]
      refine wpAnyH_take (i := 2) (oi := Oper.mk _ _ _ _ _ _) (v := ?_) rfl (by kernel_rfl) (by kernel_rfl) (by kernel_rfl) (fun _ _ _ h => h) (Or.inl ⟨by kernel_rfl, ?_⟩) hHeld ?_
      rotate_left
      · (intro wS hSw; (try dsimp only at hSw); go_simp; all_goals (with_reducible rfl))
      try simp only [Act.put, List.setIfInBounds_toArray, List.set_cons_zero, List.set_cons_succ]
      refine wpAnyH_take (i := 3) (oi := Oper.mk _ _ _ _ _ _) (v := ?_) rfl (by kernel_rfl) (by kernel_rfl) (by kernel_rfl) (fun _ _ _ h => h) (Or.inl ⟨by kernel_rfl, ?_⟩) hHeld ?_
      rotate_left
      · (intro wS hSw; (try dsimp only at hSw); go_simp; all_goals (with_reducible rfl))
      try simp only [Act.put, List.setIfInBounds_toArray, List.set_cons_zero, List.set_cons_succ]
      refine wpAnyH_ready (rs := [4]) (by kernel_rfl) (by simp) ?_
      refine AllReadyH.cons (o := Oper.mk _ _ _ _ _ _) rfl (fun KK hKK => ?_) AllReadyH.nil
      rw [if_pos (by kernel_rfl)]
      go_simp
      refine (zero_any _).mono ?_
      rintro e w2 ⟨rfl, hB2⟩
      have hk2 := hk1.trans (hB2.mono hk1.size)
      try dsimp only
      refine hKK.out _ _ (by (try dsimp only); (first | exact at''.out _ hk1 | exact at''.out _ hk2 | exact at''.out _ hk3)) (fun hHeld => ?_)
      clear hKK KK
      try simp only [Act.put, List.setIfInBounds_toArray, List.set_cons_zero, List.set_cons_succ]
      refine wpAnyH_take (i := 5) (oi := Oper.mk _ _ _ _ _ _) (v := ?_) rfl (by kernel_rfl) (by kernel_rfl) (by kernel_rfl) (fun _ _ _ h => h) (Or.inl ⟨by kernel_rfl, ?_⟩) hHeld ?_
      rotate_left
      · (intro wS hSw; (try dsimp only at hSw); go_simp; all_goals (with_reducible rfl))
      try simp only [Act.put, List.setIfInBounds_toArray, List.set_cons_zero, List.set_cons_succ]
      refine wpAnyH_take (i := 6) (oi := Oper.mk _ _ _ _ _ _) (v := ?_) rfl (by kernel_rfl) (by kernel_rfl) (by kernel_rfl) (fun _ _ _ h => h) (Or.inl ⟨by kernel_rfl, ?_⟩) hHeld ?_
      rotate_left
      · (intro wS hSw; (try dsimp only at hSw); go_simp; all_goals (with_reducible rfl))
      try simp only [Act.put, List.setIfInBounds_toArray, List.set_cons_zero, List.set_cons_succ]
      refine wpAnyH_take (i := 7) (oi := Oper.mk _ _ _ _ _ _) (v := ?_) rfl (by kernel_rfl) (by kernel_rfl) (by kernel_rfl) (fun _ _ _ h => h) (Or.inl ⟨by kernel_rfl, ?_⟩) hHeld ?_
      rotate_left
      · (intro wS hSw; (try dsimp only at hSw); go_simp; all_goals (with_reducible rfl))
      try simp only [Act.put, List.setIfInBounds_toArray, List.set_cons_zero, List.set_cons_succ]
      refine wpAnyH_take (i := 8) (oi := Oper.mk _ _ _ _ _ _) (v := ?_) rfl (by kernel_rfl) (by kernel_rfl) (by kernel_rfl) (fun _ _ _ h => h) (Or.inl ⟨by kernel_rfl, ?_⟩) hHeld ?_
      rotate_left
      · (intro wS hSw; (try dsimp only at hSw); go_simp; all_goals (with_reducible rfl))
      try simp only [Act.put, List.setIfInBounds_toArray, List.set_cons_zero, List.set_cons_succ]
      refine wpAnyH_take (i := 9) (oi := Oper.mk _ _ _ _ _ _) (v := ?_) rfl (by kernel_rfl) (by kernel_rfl) (by kernel_rfl) (fun _ _ _ h => h) (Or.inl ⟨by kernel_rfl, ?_⟩) hHeld ?_
      rotate_left
      · (intro wS hSw; (try dsimp only at hSw); go_simp; all_goals (with_reducible rfl))
      try simp only [Act.put, List.setIfInBounds_toArray, List.set_cons_zero, List.set_cons_succ]
      refine wpAnyH_take (i := 10) (oi := Oper.mk _ _ _ _ _ _) (v := ?_) rfl (by kernel_rfl) (by kernel_rfl) (by kernel_rfl) (fun _ _ _ h => h) (Or.inl ⟨by kernel_rfl, ?_⟩) hHeld ?_
      rotate_left
      · (intro wS hSw; (try dsimp only at hSw); go_simp; all_goals (with_reducible rfl))
      try simp only [Act.put, List.setIfInBounds_toArray, List.set_cons_zero, List.set_cons_succ]
      refine wpAnyH_take (i := 11) (oi := Oper.mk _ _ _ _ _ _) (v := ?_) rfl (by kernel_rfl) (by kernel_rfl) (by kernel_rfl) (fun _ _ _ h => h) (Or.inl ⟨by kernel_rfl, ?_⟩) hHeld ?_
      rotate_left
      · (intro wS hSw; (try dsimp only at hSw); go_simp; all_goals (with_reducible rfl))
      try simp only [Act.put, List.setIfInBounds_toArray, List.set_cons_zero, List.set_cons_succ]
      refine wpAnyH_take (i := 12) (oi := Oper.mk _ _ _ _ _ _) (v := ?_) rfl (by kernel_rfl) (by kernel_rfl) (by kernel_rfl) (fun _ _ _ h => h) (Or.inl ⟨by kernel_rfl, ?_⟩) hHeld ?_
      rotate_left
      · (intro wS hSw; (try dsimp only at hSw); go_simp; all_goals (with_reducible rfl))
      try simp only [Act.put, List.setIfInBounds_toArray, List.set_cons_zero, List.set_cons_succ]
      refine wpAnyH_take (i := 13) (oi := Oper.mk _ _ _ _ _ _) (v := ?_) rfl (by kernel_rfl) (by kernel_rfl) (by kernel_rfl) (fun _ _ _ h => h) (Or.inl ⟨by kernel_rfl, ?_⟩) hHeld ?_
      rotate_left
      · (intro wS hSw; (try dsimp only at hSw); go_simp; all_goals (with_reducible rfl))
      try simp only [Act.put, List.setIfInBounds_toArray, List.set_cons_zero, List.set_cons_succ]
      refine wpAnyH_ready (rs := [14]) (by kernel_rfl) (by simp) ?_
      refine AllReadyH.cons (o := Oper.mk _ _ _ _ _ _) rfl (fun KK hKK => ?_) AllReadyH.nil
      rw [if_pos (by kernel_rfl)]
      go_simp
      refine (oneRat_any _).mono ?_
      rintro e w3 ⟨rfl, hB3⟩
      have hk3 := hk2.trans (hB3.mono hk2.size)
      try dsimp only
      refine hKK.out _ _ (by (try dsimp only); (first | exact at''.out _ hk1 | exact at''.out _ hk2 | exact at''.out _ hk3)) (fun hHeld => ?_)
      clear hKK KK
      try simp only [Act.put, List.setIfInBounds_toArray, List.set_cons_zero, List.set_cons_succ]
      refine wpAnyH_take (i := 15) (oi := Oper.mk _ _ _ _ _ _) (v := .bool false) rfl (by kernel_rfl) (by kernel_rfl) (by kernel_rfl) (fun _ _ _ h => h) (Or.inl ⟨by kernel_rfl, ?_⟩) hHeld ?_
      · (intro wS hSw; (try dsimp only at hSw); go_simp; by_cases ha : p' = 1 <;> by_cases hb : q' = 1 <;> simp_all)
      try simp only [Act.put, List.setIfInBounds_toArray, List.set_cons_zero, List.set_cons_succ]
      refine wpAnyH_take (i := 16) (oi := Oper.mk _ _ _ _ _ _) (v := ?_) rfl (by kernel_rfl) (by kernel_rfl) (by kernel_rfl) (fun _ _ _ h => h) (Or.inl ⟨by kernel_rfl, ?_⟩) hHeld ?_
      rotate_left
      · (intro wS hSw; (try dsimp only at hSw); go_simp; all_goals (with_reducible rfl))
      try simp only [Act.put, List.setIfInBounds_toArray, List.set_cons_zero, List.set_cons_succ]
      refine wpAnyH_take (i := 17) (oi := Oper.mk _ _ _ _ _ _) (v := ?_) rfl (by kernel_rfl) (by kernel_rfl) (by kernel_rfl) (fun _ _ _ h => h) (Or.inl ⟨by kernel_rfl, ?_⟩) hHeld ?_
      rotate_left
      · (intro wS hSw; (try dsimp only at hSw); go_simp; all_goals (with_reducible rfl))
      try simp only [Act.put, List.setIfInBounds_toArray, List.set_cons_zero, List.set_cons_succ]
      refine wpAnyH_take (i := 18) (oi := Oper.mk _ _ _ _ _ _) (v := undef) rfl (by kernel_rfl) (by kernel_rfl) (by kernel_rfl) (fun _ _ _ h => h) (Or.inr ⟨by kernel_rfl, rfl⟩) hHeld ?_
      try simp only [Act.put, List.setIfInBounds_toArray, List.set_cons_zero, List.set_cons_succ]
      refine wpAnyH_take (i := 19) (oi := Oper.mk _ _ _ _ _ _) (v := undef) rfl (by kernel_rfl) (by kernel_rfl) (by kernel_rfl) (fun _ _ _ h => h) (Or.inr ⟨by kernel_rfl, rfl⟩) hHeld ?_
      try simp only [Act.put, List.setIfInBounds_toArray, List.set_cons_zero, List.set_cons_succ]
      refine wpAnyH_take (i := 20) (oi := Oper.mk _ _ _ _ _ _) (v := undef) rfl (by kernel_rfl) (by kernel_rfl) (by kernel_rfl) (fun _ _ _ h => h) (Or.inr ⟨by kernel_rfl, rfl⟩) hHeld ?_
      try simp only [Act.put, List.setIfInBounds_toArray, List.set_cons_zero, List.set_cons_succ]
      refine wpAnyH_take (i := 21) (oi := Oper.mk _ _ _ _ _ _) (v := ?_) rfl (by kernel_rfl) (by kernel_rfl) (by kernel_rfl) (fun _ _ _ h => h) (Or.inl ⟨by kernel_rfl, ?_⟩) hHeld ?_
      rotate_left
      · (intro wS hSw; (try dsimp only at hSw); go_simp; all_goals (with_reducible rfl))
      try simp only [Act.put, List.setIfInBounds_toArray, List.set_cons_zero, List.set_cons_succ]
      refine wpAnyH_take (i := 22) (oi := Oper.mk _ _ _ _ _ _) (v := ?_) rfl (by kernel_rfl) (by kernel_rfl) (by kernel_rfl) (fun _ _ _ h => h) (Or.inl ⟨by kernel_rfl, ?_⟩) hHeld ?_
      rotate_left
      · (intro wS hSw; (try dsimp only at hSw); go_simp; all_goals (with_reducible rfl))
      try simp only [Act.put, List.setIfInBounds_toArray, List.set_cons_zero, List.set_cons_succ]
      refine wpAnyH_done (by kernel_rfl) ?_ _
      go_wp2
      go_ret
      exact ⟨rfl, hk3⟩
    cases h2
    have hV2 := hV'.out
    rw [decide_eq_true rfl, decide_eq_true rfl, Bool.and_true, Bool.and_true] at hV2
    subst hV2
    clear hV'
    go_wp2_with fail
    refine wp_region_held_drew (S := (fun w' => (w'.cell? ⟨b, off, none⟩ = some (.int .i64 0) ∧ w'.cell? ⟨b, off + 1, none⟩ = some (.int .i64 1)) ∧ w'.cell? ⟨b, off + m * 4, none⟩ = some (.int .i64 1) ∧ w'.cell? ⟨b, off + m * 4 + 1, none⟩ = some (.int .i64 1))) (by kernel_rfl) (by (try dsimp only); (first | exact at''.out _ hk1 | exact at''.out _ hk2 | exact at''.out _ hk3 | exact at''.out _ hk4 | exact at''.out _ hk5)) (fun hHeld => ?_)
    refine wpAnyH_take (i := 0) (oi := Oper.mk _ _ _ _ _ _) (v := ?_) rfl (by kernel_rfl) (by kernel_rfl) (by kernel_rfl) (fun _ _ _ h => h) (Or.inl ⟨by kernel_rfl, ?_⟩) hHeld ?_
    rotate_left
    · (intro wS hSw; (try dsimp only at hSw); go_simp; all_goals (with_reducible rfl))
    try simp only [Act.put, List.setIfInBounds_toArray, List.set_cons_zero, List.set_cons_succ]
    refine wpAnyH_take (i := 1) (oi := Oper.mk _ _ _ _ _ _) (v := ?_) rfl (by kernel_rfl) (by kernel_rfl) (by kernel_rfl) (fun _ _ _ h => h) (Or.inl ⟨by kernel_rfl, ?_⟩) hHeld ?_
    rotate_left
    · (intro wS hSw; (try dsimp only at hSw); go_simp; all_goals (with_reducible rfl))
    try simp only [Act.put, List.setIfInBounds_toArray, List.set_cons_zero, List.set_cons_succ]
    refine wpAnyH_take (i := 2) (oi := Oper.mk _ _ _ _ _ _) (v := ?_) rfl (by kernel_rfl) (by kernel_rfl) (by kernel_rfl) (fun _ _ _ h => h) (Or.inl ⟨by kernel_rfl, ?_⟩) hHeld ?_
    rotate_left
    · (intro wS hSw; (try dsimp only at hSw); go_simp; all_goals (with_reducible rfl))
    try simp only [Act.put, List.setIfInBounds_toArray, List.set_cons_zero, List.set_cons_succ]
    refine wpAnyH_take (i := 3) (oi := Oper.mk _ _ _ _ _ _) (v := ?_) rfl (by kernel_rfl) (by kernel_rfl) (by kernel_rfl) (fun _ _ _ h => h) (Or.inl ⟨by kernel_rfl, ?_⟩) hHeld ?_
    rotate_left
    · (intro wS hSw; (try dsimp only at hSw); go_simp; all_goals (with_reducible rfl))
    try simp only [Act.put, List.setIfInBounds_toArray, List.set_cons_zero, List.set_cons_succ]
    refine wpAnyH_ready (rs := [4]) (by kernel_rfl) (by simp) ?_
    refine AllReadyH.cons (o := Oper.mk _ _ _ _ _ _) rfl (fun KK hKK => ?_) AllReadyH.nil
    rw [if_pos (by kernel_rfl)]
    go_simp
    refine (zero_any _).mono ?_
    rintro e w2 ⟨rfl, hB2⟩
    have hk2 := hk1.trans (hB2.mono hk1.size)
    try dsimp only
    refine hKK.out _ _ (by (try dsimp only); (first | exact at''.out _ hk1 | exact at''.out _ hk2 | exact at''.out _ hk3 | exact at''.out _ hk4 | exact at''.out _ hk5)) (fun hHeld => ?_)
    clear hKK KK
    try simp only [Act.put, List.setIfInBounds_toArray, List.set_cons_zero, List.set_cons_succ]
    refine wpAnyH_take (i := 5) (oi := Oper.mk _ _ _ _ _ _) (v := ?_) rfl (by kernel_rfl) (by kernel_rfl) (by kernel_rfl) (fun _ _ _ h => h) (Or.inl ⟨by kernel_rfl, ?_⟩) hHeld ?_
    rotate_left
    · (intro wS hSw; (try dsimp only at hSw); go_simp; all_goals (with_reducible rfl))
    try simp only [Act.put, List.setIfInBounds_toArray, List.set_cons_zero, List.set_cons_succ]
    refine wpAnyH_take (i := 6) (oi := Oper.mk _ _ _ _ _ _) (v := ?_) rfl (by kernel_rfl) (by kernel_rfl) (by kernel_rfl) (fun _ _ _ h => h) (Or.inl ⟨by kernel_rfl, ?_⟩) hHeld ?_
    rotate_left
    · (intro wS hSw; (try dsimp only at hSw); go_simp; all_goals (with_reducible rfl))
    try simp only [Act.put, List.setIfInBounds_toArray, List.set_cons_zero, List.set_cons_succ]
    refine wpAnyH_take (i := 7) (oi := Oper.mk _ _ _ _ _ _) (v := ?_) rfl (by kernel_rfl) (by kernel_rfl) (by kernel_rfl) (fun _ _ _ h => h) (Or.inl ⟨by kernel_rfl, ?_⟩) hHeld ?_
    rotate_left
    · (intro wS hSw; (try dsimp only at hSw); go_simp; all_goals (with_reducible rfl))
    try simp only [Act.put, List.setIfInBounds_toArray, List.set_cons_zero, List.set_cons_succ]
    refine wpAnyH_take (i := 8) (oi := Oper.mk _ _ _ _ _ _) (v := ?_) rfl (by kernel_rfl) (by kernel_rfl) (by kernel_rfl) (fun _ _ _ h => h) (Or.inl ⟨by kernel_rfl, ?_⟩) hHeld ?_
    rotate_left
    · (intro wS hSw; (try dsimp only at hSw); go_simp; all_goals (with_reducible rfl))
    try simp only [Act.put, List.setIfInBounds_toArray, List.set_cons_zero, List.set_cons_succ]
    refine wpAnyH_take (i := 9) (oi := Oper.mk _ _ _ _ _ _) (v := ?_) rfl (by kernel_rfl) (by kernel_rfl) (by kernel_rfl) (fun _ _ _ h => h) (Or.inl ⟨by kernel_rfl, ?_⟩) hHeld ?_
    rotate_left
    · (intro wS hSw; (try dsimp only at hSw); go_simp; all_goals (with_reducible rfl))
    try simp only [Act.put, List.setIfInBounds_toArray, List.set_cons_zero, List.set_cons_succ]
    refine wpAnyH_take (i := 10) (oi := Oper.mk _ _ _ _ _ _) (v := ?_) rfl (by kernel_rfl) (by kernel_rfl) (by kernel_rfl) (fun _ _ _ h => h) (Or.inl ⟨by kernel_rfl, ?_⟩) hHeld ?_
    rotate_left
    · (intro wS hSw; (try dsimp only at hSw); go_simp; all_goals (with_reducible rfl))
    try simp only [Act.put, List.setIfInBounds_toArray, List.set_cons_zero, List.set_cons_succ]
    refine wpAnyH_take (i := 11) (oi := Oper.mk _ _ _ _ _ _) (v := ?_) rfl (by kernel_rfl) (by kernel_rfl) (by kernel_rfl) (fun _ _ _ h => h) (Or.inl ⟨by kernel_rfl, ?_⟩) hHeld ?_
    rotate_left
    · (intro wS hSw; (try dsimp only at hSw); go_simp; all_goals (with_reducible rfl))
    try simp only [Act.put, List.setIfInBounds_toArray, List.set_cons_zero, List.set_cons_succ]
    refine wpAnyH_take (i := 12) (oi := Oper.mk _ _ _ _ _ _) (v := ?_) rfl (by kernel_rfl) (by kernel_rfl) (by kernel_rfl) (fun _ _ _ h => h) (Or.inl ⟨by kernel_rfl, ?_⟩) hHeld ?_
    rotate_left
    · (intro wS hSw; (try dsimp only at hSw); go_simp; all_goals (with_reducible rfl))
    try simp only [Act.put, List.setIfInBounds_toArray, List.set_cons_zero, List.set_cons_succ]
    refine wpAnyH_take (i := 13) (oi := Oper.mk _ _ _ _ _ _) (v := ?_) rfl (by kernel_rfl) (by kernel_rfl) (by kernel_rfl) (fun _ _ _ h => h) (Or.inl ⟨by kernel_rfl, ?_⟩) hHeld ?_
    rotate_left
    · (intro wS hSw; (try dsimp only at hSw); go_simp; all_goals (with_reducible rfl))
    try simp only [Act.put, List.setIfInBounds_toArray, List.set_cons_zero, List.set_cons_succ]
    refine wpAnyH_ready (rs := [14]) (by kernel_rfl) (by simp) ?_
    refine AllReadyH.cons (o := Oper.mk _ _ _ _ _ _) rfl (fun KK hKK => ?_) AllReadyH.nil
    rw [if_pos (by kernel_rfl)]
    go_simp
    refine (oneRat_any _).mono ?_
    rintro e w3 ⟨rfl, hB3⟩
    have hk3 := hk2.trans (hB3.mono hk2.size)
    try dsimp only
    refine hKK.out _ _ (by (try dsimp only); (first | exact at''.out _ hk1 | exact at''.out _ hk2 | exact at''.out _ hk3 | exact at''.out _ hk4 | exact at''.out _ hk5)) (fun hHeld => ?_)
    clear hKK KK
    try simp only [Act.put, List.setIfInBounds_toArray, List.set_cons_zero, List.set_cons_succ]
    refine wpAnyH_take (i := 15) (oi := Oper.mk _ _ _ _ _ _) (v := ?_) rfl (by kernel_rfl) (by kernel_rfl) (by kernel_rfl) (fun _ _ _ h => h) (Or.inl ⟨by kernel_rfl, ?_⟩) hHeld ?_
    rotate_left
    · (intro wS hSw; (try dsimp only at hSw); go_simp; all_goals (with_reducible rfl))
    try simp only [Act.put, List.setIfInBounds_toArray, List.set_cons_zero, List.set_cons_succ]
    refine wpAnyH_take (i := 16) (oi := Oper.mk _ _ _ _ _ _) (v := ?_) rfl (by kernel_rfl) (by kernel_rfl) (by kernel_rfl) (fun _ _ _ h => h) (Or.inl ⟨by kernel_rfl, ?_⟩) hHeld ?_
    rotate_left
    · (intro wS hSw; (try dsimp only at hSw); go_simp; all_goals (with_reducible rfl))
    try simp only [Act.put, List.setIfInBounds_toArray, List.set_cons_zero, List.set_cons_succ]
    refine wpAnyH_take (i := 17) (oi := Oper.mk _ _ _ _ _ _) (v := ?_) rfl (by kernel_rfl) (by kernel_rfl) (by kernel_rfl) (fun _ _ _ h => h) (Or.inl ⟨by kernel_rfl, ?_⟩) hHeld ?_
    rotate_left
    · (intro wS hSw; (try dsimp only at hSw); go_simp; all_goals (with_reducible rfl))
    try simp only [Act.put, List.setIfInBounds_toArray, List.set_cons_zero, List.set_cons_succ]
    refine wpAnyH_take (i := 18) (oi := Oper.mk _ _ _ _ _ _) (v := ?_) rfl (by kernel_rfl) (by kernel_rfl) (by kernel_rfl) (fun _ _ _ h => h) (Or.inl ⟨by kernel_rfl, ?_⟩) hHeld ?_
    rotate_left
    · (intro wS hSw; (try dsimp only at hSw); go_simp; all_goals (with_reducible rfl))
    try simp only [Act.put, List.setIfInBounds_toArray, List.set_cons_zero, List.set_cons_succ]
    refine wpAnyH_ready (rs := [19]) (by kernel_rfl) (by simp) ?_
    refine AllReadyH.cons (o := Oper.mk _ _ _ _ _ _) rfl (fun KK hKK => ?_) AllReadyH.nil
    rw [if_pos (by kernel_rfl)]
    go_simp
    refine (cx'.out _ hk3).mono ?_
    rintro e w4 ⟨u, rfl, hu, hB4⟩
    have hk4 := hk3.trans (hB4.mono hk3.size)
    have hu4 := Lib.hid hu.read
    clear hu
    try dsimp only
    refine hKK.out _ _ (by (try dsimp only); (first | exact at''.out _ hk1 | exact at''.out _ hk2 | exact at''.out _ hk3 | exact at''.out _ hk4 | exact at''.out _ hk5)) (fun hHeld => ?_)
    clear hKK KK
    try simp only [Act.put, List.setIfInBounds_toArray, List.set_cons_zero, List.set_cons_succ]
    refine wpAnyH_ready (rs := [20]) (by kernel_rfl) (by simp) ?_
    refine AllReadyH.cons (o := Oper.mk _ _ _ _ _ _) rfl (fun KK hKK => ?_) AllReadyH.nil
    rw [if_pos (by kernel_rfl)]
    go_simp
    refine (ci'.out u _ hu4.out).mono ?_
    rintro e w5 ⟨rfl, hB5⟩
    have hk5 := hk4.trans (hB5.mono hk4.size)
    try dsimp only
    refine hKK.out _ _ (by (try dsimp only); (first | exact at''.out _ hk1 | exact at''.out _ hk2 | exact at''.out _ hk3 | exact at''.out _ hk4 | exact at''.out _ hk5)) (fun hHeld => ?_)
    clear hKK KK
    try simp only [Act.put, List.setIfInBounds_toArray, List.set_cons_zero, List.set_cons_succ]
    refine wpAnyH_take (i := 21) (oi := Oper.mk _ _ _ _ _ _) (v := ?_) rfl (by kernel_rfl) (by kernel_rfl) (by kernel_rfl) (fun _ _ _ h => h) (Or.inl ⟨by kernel_rfl, ?_⟩) hHeld ?_
    rotate_left
    · (intro wS hSw; (try dsimp only at hSw); go_simp; all_goals (with_reducible rfl))
    try simp only [Act.put, List.setIfInBounds_toArray, List.set_cons_zero, List.set_cons_succ]
    refine wpAnyH_take (i := 22) (oi := Oper.mk _ _ _ _ _ _) (v := ?_) rfl (by kernel_rfl) (by kernel_rfl) (by kernel_rfl) (fun _ _ _ h => h) (Or.inl ⟨by kernel_rfl, ?_⟩) hHeld ?_
    rotate_left
    · (intro wS hSw; (try dsimp only at hSw); go_simp; all_goals (with_reducible rfl))
    try simp only [Act.put, List.setIfInBounds_toArray, List.set_cons_zero, List.set_cons_succ]
    refine wpAnyH_done (by kernel_rfl) ?_ _
    go_wp2
    go_ret
    exact ⟨rfl, hk5⟩

end Go.Proofs.Ytfcanpebagpdbaa

/- Drawn maps, told loosely: any map, mostly a valid one. No conditions but small sizes. -/
import Derived.Test.YtfhhofecfllbfaaGreatDrawF2
import Derived.Test.YtfhhofecfllbfaaGreatRefS
namespace Go.Proofs.YtfhhofecfllbfaaGreat
open Go.RowKit
set_option maxRecDepth 100000

theorem QuadV.takeQ {w : World} {b off n cap : Nat} {xs : List Quad} (h : QuadV w (.slice (some ⟨b, off, none⟩) n cap) xs) {k : Nat} (hk : k ≤ xs.length) : QuadV w (.slice (some ⟨b, off, none⟩) k cap) (xs.take k) := by
  obtain ⟨ao, cap', e, h1, h2, H⟩ := h.form
  obtain ⟨rfl, e1, rfl⟩ := Value.slice.inj e
  have hl : (xs.take k).length = k := by rw [List.length_take]; omega
  have hq : QuadV w (.slice (some ⟨b, off, none⟩) (xs.take k).length cap) (xs.take k) := QuadV.mk ⟨by rw [hl]; omega, fun e => by cases e⟩ h2 fun i hi => by
    rw [hl] at hi
    have e4 : nth4 (xs.take k) i = nth4 xs i := by unfold nth4; rw [List.getElem?_take_of_lt hi]
    rw [e4]
    exact H i (by omega)
  rwa [hl] at hq
theorem AllI.take {f : List Quad} (h : AllI f) (k : Nat) : AllI (f.take k) := fun i hi => by
  rw [List.length_take] at hi
  have e4 : nth4 (f.take k) i = nth4 f i := by unfold nth4; rw [List.getElem?_take_of_lt (by omega)]
  rw [e4]; exact h i (by omega)
theorem GrowP.newB {w : World} {B : Nat} {v : Value} {xs : List Quad} (h : GrowP w B v xs) : NewB B v := by
  intro b off k cap e
  rcases h.2 with ⟨rfl, _⟩ | ⟨g, cap', cur, rfl, h1, _⟩
  · cases e
  · obtain ⟨e1, _, _⟩ := Value.slice.inj e
    cases e1
    exact h1
/-- It returns some list of points in a new block. -/
def PicksH (c N : Nat) (w : World) (e : Ending) (w' : World) : Prop := ∃ v f, e = .returned v ∧ QuadV w' v f ∧ (Off c v ∧ NewB w.heap.size v) ∧ f.length ≤ 13 ∧ AllI f ∧ CurAt w' c N ∧ w.grownBy w' (some c)
/-- It returns some list of points that does not lie in the cursor's block. -/
def PicksG (c N : Nat) (w : World) (e : Ending) (w' : World) : Prop := ∃ v f, e = .returned v ∧ QuadV w' v f ∧ Off c v ∧ f.length ≤ 13 ∧ AllI f ∧ CurAt w' c N ∧ w.grownBy w' (some c)

set_option linter.unusedSimpArgs false in
set_option maxHeartbeats 3200000 in
theorem anyIm_new (c N : Nat) (w : World) (h : CurAt w c N) (hN : N ≤ 549755600000) :
    Calls Tryz.prog 80 #[.pointer (some ⟨c, 0, none⟩)] w (PicksH c (N + 500) w) := by
  have hlt := h.lt
  have c1 := im_any c N w h (by omega)
  clear h
  have c1' := Lib.hid c1
  clear c1
  go_enter Tryz.func80, Tryz.ntmps80
  go_wp2_with fail
  refine (c1'.out).mono ?_
  rintro e w1 ⟨v1, f, rfl, hG1, hl1, hm1, hfI, hc1, hg1⟩
  obtain ⟨g, cap, rfl, -⟩ := GrowF.form hG1 (by omega)
  obtain ⟨n, hn⟩ : ∃ n, f.length = n := ⟨_, rfl⟩
  rw [hn] at hG1 hl1 hm1 ⊢
  have hcapm : n ≤ cap ∧ cap ≤ maxLen := by
    obtain ⟨_, _, e, h1, h2, _⟩ := hG1.read.form
    obtain ⟨_, h3, rfl⟩ := Value.slice.inj e
    exact ⟨by omega, h2⟩
  have hoff : Off c _ ∧ NewB w.heap.size _ := ⟨hG1.off hlt, hG1.newB⟩
  have hG1' := Lib.hid hG1
  have hn' := Lib.hid hn
  have hfI' := Lib.hid hfI
  have hoff' := Lib.hid hoff
  clear hG1 hn hfI hoff
  go_wp2_with fail
  refine (pick_any c _ n w1 hc1 (by omega) hl1 (by omega)).mono ?_
  rintro e w2 ⟨v, rfl, ⟨i, rfl, hi⟩, hc2, hg2⟩
  have q1 : (0 : Int) ≤ (i : Int) := by omega
  have q2 : (i : Int) < (n : Int) := by omega
  go_wp2_with fail
  refine (pick_any c _ 36 w2 hc2 (by omega) (by omega) (by omega)).mono ?_
  rintro e w3 ⟨v, rfl, ⟨k, rfl, hk⟩, hc3, hg3⟩
  have hg23 := hg2.trans hg3
  have hG3 := hG1'.out.kept hg23 hlt
  have g3 := hg1.trans hg23
  clear hc1 hc2 hg1 hg2 hg3 hg23 hG1'
  have hG3' := Lib.hid hG3
  have g3' := Lib.hid g3
  clear hG3 g3
  have hk5 : k = 0 ∨ k = 1 ∨ k = 2 ∨ k = 3 ∨ k = 4 ∨ 5 ≤ k := by omega
  obtain rfl | rfl | rfl | rfl | rfl | hk5 := hk5
  · go_wp2_with fail
    refine (anyRat_any c _ w3 hc3 (by omega)).mono ?_
    rintro e w4 ⟨⟨a, b⟩, rfl, hab, hc4, hg4⟩
    have hG4 := hG3'.out.kept hg4 hlt
    have g4 := g3'.out.trans hg4
    obtain ⟨-, hrow⟩ := hG4.row (by rw [hn'.out]; omega)
    have z0 := hrow.cell (j := i * 4) (by omega)
    have z1 := hrow.cell (j := i * 4 + 1) (by omega)
    have y0 := hrow.frozen (i * 4)
    have y1 := hrow.frozen (i * 4 + 1)
    have hgf := hrow.lt
    have hput := (hG4.putX (i := i) (by rw [hn'.out]; exact hi) a b).read
    have hB : Below w.heap.size w4 ((w4.setCell ⟨g, i * 4, none⟩ (.int .i64 a)).setCell ⟨g, i * 4 + 1, none⟩ (.int .i64 b)) := ((Below.refl _ _).setCell (p := ⟨g, i * 4, none⟩) hgf.1 _).setCell (p := ⟨g, i * 4 + 1, none⟩) hgf.1 _
    have hend := picks_end hc4 g4 hlt (Nat.le_refl _) hB
    have hI2 := hfI'.out.set (p := ((a, b), (nth4 f i).2)) ⟨hab, (hfI'.out i (by rw [hn'.out]; exact hi)).2⟩ i
    clear hrow hG4 hB hg4 g4 hc3 hc4 hab
    have hput' := Lib.hid hput
    have hend' := Lib.hid hend
    have hI2' := Lib.hid hI2
    clear hput hend hI2
    go_wp2
    go_ret
    exact ⟨_, _, rfl, hput'.out, hoff'.out, by rw [List.length_set, hn'.out]; omega, hI2'.out, hend'.out.1.mono (by omega), hend'.out.2⟩
  · go_wp2_with fail
    refine (anyRat_any c _ w3 hc3 (by omega)).mono ?_
    rintro e w4 ⟨⟨a, b⟩, rfl, hab, hc4, hg4⟩
    have hG4 := hG3'.out.kept hg4 hlt
    have g4 := g3'.out.trans hg4
    obtain ⟨-, hrow⟩ := hG4.row (by rw [hn'.out]; omega)
    have z0 := hrow.cell (j := i * 4 + 2) (by omega)
    have z1 := hrow.cell (j := i * 4 + 3) (by omega)
    have y0 := hrow.frozen (i * 4 + 2)
    have y1 := hrow.frozen (i * 4 + 3)
    have hgf := hrow.lt
    have hput := (hG4.putY (i := i) (by rw [hn'.out]; exact hi) a b).read
    have hB : Below w.heap.size w4 ((w4.setCell ⟨g, i * 4 + 2, none⟩ (.int .i64 a)).setCell ⟨g, i * 4 + 3, none⟩ (.int .i64 b)) := ((Below.refl _ _).setCell (p := ⟨g, i * 4 + 2, none⟩) hgf.1 _).setCell (p := ⟨g, i * 4 + 3, none⟩) hgf.1 _
    have hend := picks_end hc4 g4 hlt (Nat.le_refl _) hB
    have hI2 := hfI'.out.set (p := ((nth4 f i).1, (a, b))) ⟨(hfI'.out i (by rw [hn'.out]; exact hi)).1, hab⟩ i
    clear hrow hG4 hB hg4 g4 hc3 hc4 hab
    have hput' := Lib.hid hput
    have hend' := Lib.hid hend
    have hI2' := Lib.hid hI2
    clear hput hend hI2
    go_wp2
    go_ret
    exact ⟨_, _, rfl, hput'.out, hoff'.out, by rw [List.length_set, hn'.out]; omega, hI2'.out, hend'.out.1.mono (by omega), hend'.out.2⟩
  · go_wp2_with fail
    refine (pick_any c _ 50 w3 hc3 (by omega) (by omega) (by omega)).mono ?_
    rintro e w4 ⟨v, rfl, ⟨t, rfl, ht⟩, hc4, hg4⟩
    have cm := raMake_any t 101 w4 (by omega) (by omega) (by omega)
    have hab := mkR_i64 t 101
    generalize mkR (t : Int) 101 = R at *
    obtain ⟨⟨a, b⟩, ok⟩ := R
    simp only at cm hab
    have hG4 := hG3'.out.kept hg4 hlt
    have g4 := g3'.out.trans hg4
    clear hg4 hc3
    have cm' := Lib.hid cm
    have hG4' := Lib.hid hG4
    have g4' := Lib.hid g4
    have hab' := Lib.hid hab
    clear cm hG4 g4 hab
    go_wp2_with fail
    refine (cm'.out).mono ?_
    rintro e w5 ⟨rfl, hB5⟩
    have hG5 := hG4'.out.below hB5
    obtain ⟨-, hrow⟩ := hG5.row (by rw [hn'.out]; omega)
    have z0 := hrow.cell (j := i * 4 + 2) (by omega)
    have z1 := hrow.cell (j := i * 4 + 3) (by omega)
    have y0 := hrow.frozen (i * 4 + 2)
    have y1 := hrow.frozen (i * 4 + 3)
    have hgf := hrow.lt
    have hput := (hG5.putY (i := i) (by rw [hn'.out]; exact hi) a b).read
    have hB : Below w.heap.size w4 ((w5.setCell ⟨g, i * 4 + 2, none⟩ (.int .i64 a)).setCell ⟨g, i * 4 + 3, none⟩ (.int .i64 b)) := ((hB5.mono g4'.out.size).setCell (p := ⟨g, i * 4 + 2, none⟩) hgf.1 _).setCell (p := ⟨g, i * 4 + 3, none⟩) hgf.1 _
    have hend := picks_end hc4 g4'.out hlt (Nat.le_refl _) hB
    have hI2 := hfI'.out.set (p := ((nth4 f i).1, (a, b))) ⟨(hfI'.out i (by rw [hn'.out]; exact hi)).1, hab'.out⟩ i
    clear hrow hG5 hB hB5 hc4
    have hput' := Lib.hid hput
    have hend' := Lib.hid hend
    have hI2' := Lib.hid hI2
    clear hput hend hI2
    go_wp2
    go_ret
    exact ⟨_, _, rfl, hput'.out, hoff'.out, by rw [List.length_set, hn'.out]; omega, hI2'.out, hend'.out.1.mono (by omega), hend'.out.2⟩
  · have hgnew := hoff'.out.2 g 0 n cap rfl
    have ht := hG3'.out.read.takeQ (k := n - 1) (by rw [hn'.out]; omega)
    have q3 : (n : Int) - 1 = ((n - 1 : Nat) : Int) := by omega
    have q4 : n - 1 ≤ cap := by omega
    have q5 : IntKind.i64.wrap ((n : Int) - 1) = ((n - 1 : Nat) : Int) := by rw [IntKind.wrap_i64]; omega
    have hoff2 : Off c (.slice (some ⟨g, 0, none⟩) (n - 1) cap) ∧ NewB w.heap.size (.slice (some ⟨g, 0, none⟩) (n - 1) cap) := ⟨fun b o k' cap' e => by
      obtain ⟨e1, _, _⟩ := Value.slice.inj e
      exact hoff'.out.1 b o n cap (by rw [e1]), fun b o k' cap' e => by
      obtain ⟨e1, _, _⟩ := Value.slice.inj e
      cases e1
      exact hgnew⟩
    clear hgnew
    have ht' := Lib.hid ht
    have hoff2' := Lib.hid hoff2
    have hc3' := Lib.hid hc3
    clear ht hoff2 hc3
    go_wp2
    go_ret
    exact ⟨_, _, rfl, ht'.out, hoff2'.out, by rw [List.length_take, hn'.out]; omega, hfI'.out.take _, hc3'.out.mono (by omega), g3'.out⟩
  · have hst : LaidAt c (N + 410) 13 w (.slice none 0 0) 0 w3 := ⟨by omega, [], GrowP.nil _ _, rfl, AllI.nil, hc3.mono (by omega), g3'.out⟩
    clear hc3 g3' hG3'
    have hst' := Lib.hid hst
    clear hst
    go_wp2_with fail
    go_loopw [3] (fun o wr => ∃ k : Nat, LaidAt c (N + 410) 13 w o k wr) (fun o _ => 13 - sliceN o)
    case atStart => exact ⟨0, hst'.out⟩
    case round =>
      clear hst'
      obtain ⟨k, hk, f2, hG, hfl, hfI2, hc, hgw⟩ := hrel
      obtain ⟨w6, rfl⟩ : ∃ wo : World, wo = wr := ⟨_, rfl⟩
      obtain ⟨ao2, cap2, rfl⟩ := hG.shape
      rw [hfl] at hG ⊢
      by_cases hlt2 : k < 13
      · have q3 : (k : Int) < 13 := by omega
        have cm := raMake_any k 12 w6 (by omega) (by omega) (by omega)
        have hxi := mkR_i64 k 12
        generalize mkR (k : Int) 12 = R at *
        obtain ⟨⟨x0, x1⟩, ok⟩ := R
        simp only at cm hxi
        have cm' := Lib.hid cm
        have hxi' := Lib.hid hxi
        have hG' := Lib.hid hG
        have hfI2' := Lib.hid hfI2
        have hfl' := Lib.hid hfl
        have hc' := Lib.hid hc
        have hgw' := Lib.hid hgw
        clear cm hxi hG hfI2 hfl hc hgw
        go_wp2_with fail
        refine (cm'.out).mono ?_
        rintro e w5 ⟨rfl, hB5⟩
        obtain ⟨w7, hw7⟩ : ∃ W, w5.alloc (.cells #[.int .i64 x0, .int .i64 x1] 42) = W := ⟨_, rfl⟩
        have hB57 : Below w5.heap.size w5 w7 := by rw [← hw7]; exact (Below.refl _ _).alloc (Nat.le_refl _) _
        have hB7 := hB5.trans (hB57.mono hB5.size)
        have a0 : w7.cell? ⟨w5.heap.size, 0, none⟩ = some (.int .i64 x0) := by rw [← hw7]; simp [go_sem]
        have a1 : w7.cell? ⟨w5.heap.size, 1, none⟩ = some (.int .i64 x1) := by rw [← hw7]; simp [go_sem]
        have at' : ∀ w', Below w7.heap.size w7 w' → w'.cell? ⟨w5.heap.size, 0, none⟩ = some (.int .i64 x0) ∧ w'.cell? ⟨w5.heap.size, 1, none⟩ = some (.int .i64 x1) := fun w' h => ⟨bkeep h a0, bkeep h a1⟩
        have hne : (Value.slice ao2 k cap2).ownBlock ≠ some w5.heap.size := fun e => by have := (World.ownsRow.lt hG'.out _ e).2; have := hB5.size; omega
        have hblk := hG'.out.block
        have hfl2 : f2.length ≤ 1099511627776 := by rw [hfl'.out]; omega
        have hGd := fun w' (hB : Below w7.heap.size w7 w') => (hG'.out.below hB7).below hB
        have hsw : w.heap.size ≤ w7.heap.size := Nat.le_trans hgw'.out.size hB7.size
        have hdA : Below w7.heap.size w7 w7.drew := (Below.refl _ _).drew
        clear a0 a1 hB5 hB57
        have hw7' := Lib.hid hw7
        have at'' := Lib.hid at'
        have hfl2' := Lib.hid hfl2
        have hblk' := Lib.hid hblk
        have hGd' := Lib.hid hGd
        have hB7' := Lib.hid hB7
        clear hw7 at' hfl2 hblk hGd hB7
        go_wp2_with fail
        rw [hw7'.out]
        go_wp2_with fail
        refine wp_region_held_drew (S := (fun w' => w'.cell? ⟨w5.heap.size, 0, none⟩ = some (.int .i64 x0) ∧ w'.cell? ⟨w5.heap.size, 1, none⟩ = some (.int .i64 x1))) (by kernel_rfl) (by (try dsimp only); (first | exact at''.out _ hdA | exact at''.out _ hdB | exact at''.out _ hdC | exact hD)) (fun hHeld => ?_)
        refine ly_q 0 (v := ?_) hHeld ?_
        try simp only [Act.put, lyA, lyB, lyC]
        refine ly_q 1 (v := ?_) hHeld ?_
        try simp only [Act.put, lyA, lyB, lyC]
        refine ly_a 2 (fun KK hKK => ?_)
        go_simp
        refine (raInt_any _ _).mono ?_
        rintro e w8 ⟨rfl, hB8⟩
        have hdB := hdA.trans (hB8.mono hdA.size)
        try dsimp only
        refine hKK.out _ _ (by (try dsimp only); (first | exact at''.out _ hdA | exact at''.out _ hdB | exact at''.out _ hdC | exact hD)) (fun hHeld => ?_)
        clear hKK KK
        try simp only [Act.put, lyA, lyB, lyC]
        refine ly_q 3 (v := ?_) hHeld ?_
        try simp only [Act.put, lyA, lyB, lyC]
        refine ly_a 4 (fun KK hKK => ?_)
        go_simp
        have hdC := hdB.alloc hdB.size (.cells #[.int .i64 x0, .int .i64 x1, .int .i64 0, .int .i64 1] 80)
        try dsimp only
        refine hKK.out _ _ (by (try dsimp only); (first | exact at''.out _ hdA | exact at''.out _ hdB | exact at''.out _ hdC | exact hD)) (fun hHeld => ?_)
        clear hKK KK
        try simp only [Act.put, lyA, lyB, lyC]
        refine ly_a 5 (fun KK hKK => ?_)
        refine wp_append_P _ _ rfl w.heap.size (.slice ao2 k cap2) f2 x0 x1 0 1 _ rfl rfl (hGd'.out _ hdB) hfl2'.out (Nat.le_trans hsw hdB.size) ?_
        intro v9 w9 hG9 hgr
        have hD : w9.cell? ⟨w5.heap.size, 0, none⟩ = some (.int .i64 x0) ∧ w9.cell? ⟨w5.heap.size, 1, none⟩ = some (.int .i64 x1) := ⟨gcell hgr (at''.out _ hdB).1 hne, gcell hgr (at''.out _ hdB).2 hne⟩
        try dsimp only
        refine hKK.out _ _ (by (try dsimp only); (first | exact at''.out _ hdA | exact at''.out _ hdB | exact at''.out _ hdC | exact hD)) (fun hHeld => ?_)
        clear hKK KK
        try simp only [Act.put, lyA, lyB, lyC]
        refine ly_q 6 (v := ?_) hHeld ?_
        try simp only [Act.put, lyA, lyB, lyC]
        refine wpAnyH_done (by kernel_rfl) ?_ _
        have hgB := bgrow hB7'.out (some c)
        have hcl : c < w6.heap.size := hc'.out.lt
        have hst : LaidAt c (N + 410) 13 w v9 (k + 1) w9 := ⟨by omega, _, hG9, by rw [List.length_append, hfl'.out]; rfl, hfI2'.out.snoc ⟨hxi'.out, (good_i64 (x := (0, 1)) (by decide))⟩, ((hc'.out.below hB7'.out hcl).below hdB (by have := hB7'.out.size; omega)).kept hgr (fun g e => Nat.lt_of_lt_of_le hlt (hblk'.out g e)), grown_new (hgw'.out.trans (hgB.trans (bgrow hdB (some c)))) hgr (hblk'.out)⟩
        obtain ⟨_, _, rfl⟩ := hG9.shape
        have hl9 : (f2 ++ [((x0, x1), ((0 : Int), (1 : Int)))]).length = k + 1 := by rw [List.length_append, hfl'.out]; rfl
        rw [hl9] at hst ⊢
        clear hG9 hgr hD hHeld hgB hdA hdB hdC hl9
        have hst' := Lib.hid hst
        clear hst
        go_wp2
        go_roundw
        case rel => exact ⟨k + 1, hst'.out⟩
        case measure => simp [sliceN]; omega
      · have q3 : ¬ (k : Int) < 13 := by omega
        have hr := hG.read
        have hof : Off c _ ∧ NewB w.heap.size _ := ⟨hG.off hlt, hG.newB⟩
        have hr' := Lib.hid hr
        have hof' := Lib.hid hof
        have hfI2' := Lib.hid hfI2
        have hc' := Lib.hid hc
        have hgw' := Lib.hid hgw
        have hfl' := Lib.hid hfl
        clear hr hof hfI2 hc hgw hfl
        clear hG
        go_wp2
        go_ret
        exact ⟨_, f2, rfl, hr'.out, hof'.out, by rw [hfl'.out]; exact hk, hfI2'.out, hc'.out.mono (by omega), hgw'.out⟩
  · have q30 : ((k : Int) == 0) = false := by rw [beq_eq_false_iff_ne]; omega
    have q31 : ((k : Int) == 1) = false := by rw [beq_eq_false_iff_ne]; omega
    have q32 : ((k : Int) == 2) = false := by rw [beq_eq_false_iff_ne]; omega
    have q33 : ((k : Int) == 3) = false := by rw [beq_eq_false_iff_ne]; omega
    have q34 : ((k : Int) == 4) = false := by rw [beq_eq_false_iff_ne]; omega
    have hr := hG3'.out.read
    have hr' := Lib.hid hr
    have hc3' := Lib.hid hc3
    clear hr hc3
    go_wp2
    go_ret
    exact ⟨_, f, rfl, hr'.out, hoff'.out, by rw [hn'.out]; omega, hfI'.out, hc3'.out.mono (by omega), g3'.out⟩
theorem anyIm_any (c N : Nat) (w : World) (h : CurAt w c N) (hN : N ≤ 549755600000) :
    Calls Tryz.prog 80 #[.pointer (some ⟨c, 0, none⟩)] w (PicksG c (N + 500) w) := by
  refine (anyIm_new c N w h hN).mono ?_
  rintro e w' ⟨v, f, rfl, h1, ⟨h2, -⟩, h3⟩
  exact ⟨v, f, rfl, h1, h2, h3⟩
end Go.Proofs.YtfhhofecfllbfaaGreat

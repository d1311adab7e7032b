/- Drawn maps, told loosely: tents and others. No conditions but small sizes. -/
import Derived.Test.YtfhhofecfllbfaaGreatDrawF
namespace Go.Proofs.YtfhhofecfllbfaaGreat
open Go.RowKit
set_option maxRecDepth 100000

theorem fl4_setX : ∀ (f : List Quad) (i : Nat) (a b : Int), i < f.length → ((fl4 f).set (i * 4) a).set (i * 4 + 1) b = fl4 (f.set i ((a, b), (nth4 f i).2)) := by
  intro f
  induction f with
  | nil => intro i a b h; simp at h
  | cons x t ih =>
    intro i a b h
    have e : ∀ y : Quad, fl4 (y :: t) = y.1.1 :: y.1.2 :: y.2.1 :: y.2.2 :: fl4 t := fun y => rfl
    cases i with
    | zero => rw [e]; rfl
    | succ i =>
      have h2 := ih i a b (by simpa using h)
      have e2 : nth4 (x :: t) (i + 1) = nth4 t i := rfl
      rw [e, e2, show (i + 1) * 4 = i * 4 + 1 + 1 + 1 + 1 by omega, show i * 4 + 1 + 1 + 1 + 1 + 1 = (i * 4 + 1) + 1 + 1 + 1 + 1 by omega]
      simp only [List.set_cons_succ]
      rw [h2]; rfl
theorem fl4_setY : ∀ (f : List Quad) (i : Nat) (a b : Int), i < f.length → ((fl4 f).set (i * 4 + 2) a).set (i * 4 + 3) b = fl4 (f.set i ((nth4 f i).1, (a, b))) := by
  intro f
  induction f with
  | nil => intro i a b h; simp at h
  | cons x t ih =>
    intro i a b h
    have e : ∀ y : Quad, fl4 (y :: t) = y.1.1 :: y.1.2 :: y.2.1 :: y.2.2 :: fl4 t := fun y => rfl
    cases i with
    | zero => rw [e]; rfl
    | succ i =>
      have h2 := ih i a b (by simpa using h)
      have e2 : nth4 (x :: t) (i + 1) = nth4 t i := rfl
      rw [e, e2, show (i + 1) * 4 + 2 = (i * 4 + 2) + 1 + 1 + 1 + 1 by omega, show (i + 1) * 4 + 3 = (i * 4 + 3) + 1 + 1 + 1 + 1 by omega]
      simp only [List.set_cons_succ]
      rw [h2]; rfl
theorem AllI.set {f : List Quad} {p : Quad} (h : AllI f) (hp : I64I p) (i : Nat) : AllI (f.set i p) := fun j hj => by
  rw [List.length_set] at hj
  by_cases q : j = i
  · subst q
    have : nth4 (f.set j p) j = p := by unfold nth4; simp [hj]
    rw [this]; exact hp
  · have : nth4 (f.set i p) j = nth4 f j := by unfold nth4; rw [List.getElem?_set_ne (fun e => q e.symm)]
    rw [this]; exact h j hj
theorem GrowP.row {w : World} {B g n cap : Nat} {f : List Quad} (h : GrowP w B (.slice (some ⟨g, 0, none⟩) n cap) f) (h0 : 0 < f.length) : n = f.length ∧ RowF 80 4 w B g n cap (fl4 f) := by
  obtain ⟨g', cap', e, hrow⟩ := GrowF.form h h0
  obtain ⟨e1, rfl, rfl⟩ := Value.slice.inj e
  cases e1
  exact ⟨rfl, hrow⟩
theorem GrowP.putX {w : World} {B g n cap : Nat} {f : List Quad} (h : GrowP w B (.slice (some ⟨g, 0, none⟩) n cap) f) {i : Nat} (hi : i < f.length) (a b : Int) :
    GrowP ((w.setCell ⟨g, i * 4, none⟩ (.int .i64 a)).setCell ⟨g, i * 4 + 1, none⟩ (.int .i64 b)) B (.slice (some ⟨g, 0, none⟩) n cap) (f.set i ((a, b), (nth4 f i).2)) := by
  obtain ⟨e, hrow⟩ := h.row (by omega)
  have h2 := (hrow.stored (i * 4) a).stored (i * 4 + 1) b
  rw [fl4_setX f i a b hi] at h2
  subst e
  unfold GrowP
  rw [List.length_set]
  exact h2
theorem GrowP.putY {w : World} {B g n cap : Nat} {f : List Quad} (h : GrowP w B (.slice (some ⟨g, 0, none⟩) n cap) f) {i : Nat} (hi : i < f.length) (a b : Int) :
    GrowP ((w.setCell ⟨g, i * 4 + 2, none⟩ (.int .i64 a)).setCell ⟨g, i * 4 + 3, none⟩ (.int .i64 b)) B (.slice (some ⟨g, 0, none⟩) n cap) (f.set i ((nth4 f i).1, (a, b))) := by
  obtain ⟨e, hrow⟩ := h.row (by omega)
  have h2 := (hrow.stored (i * 4 + 2) a).stored (i * 4 + 3) b
  rw [fl4_setY f i a b hi] at h2
  subst e
  unfold GrowP
  rw [List.length_set]
  exact h2

/-- The state of a loop that lays points. -/
def LaidAt (c N L : Nat) (w : World) (o : Value) (k : Nat) (wr : World) : Prop := k ≤ L ∧ ∃ f, GrowP wr w.heap.size o f ∧ f.length = k ∧ AllI f ∧ CurAt wr c N ∧ w.grownBy wr (some c)
theorem tmod2 (j : Nat) : -1 ≤ Int.tmod (j : Int) 2 ∧ Int.tmod (j : Int) 2 ≤ 1 := by
  have e : Int.tmod (j : Int) 2 = ((j % 2 : Nat) : Int) := rfl
  rw [e]; omega
theorem tmod2_i64 (j : Nat) : I64R (Int.tmod (j : Int) 2, 1) := by
  have h := tmod2 j
  exact ⟨i64_of (show -1000000001 ≤ Int.tmod (j : Int) 2 by omega) (show Int.tmod (j : Int) 2 ≤ 1000000001 by omega), (show I64 1 from i64_of (by decide) (by decide))⟩

set_option linter.unusedSimpArgs false in
set_option maxHeartbeats 3200000 in
theorem im_any (c N : Nat) (w : World) (h : CurAt w c N) (hN : N ≤ 549755700000) :
    Calls Tryz.prog 143 #[.pointer (some ⟨c, 0, none⟩)] w (PicksF c (N + 400) 12 w) := by
  have hlt := h.lt
  have c1 := among_list c N [1, 2, 2, 3, 4, 4, 6, 12, 100] w 9 h (by omega) rfl (by omega) (by omega)
  clear h
  have c1' := Lib.hid c1
  clear c1
  go_enter Tryz.func143, Tryz.ntmps143
  go_wp2_with fail
  refine (c1'.out).mono ?_
  rintro e w1 ⟨v, rfl, ⟨d, rfl, hd⟩, hc1, hg1⟩
  obtain ⟨n, rfl, hn1, hn2⟩ : ∃ q : Nat, d = (q : Int) ∧ 1 ≤ q ∧ q ≤ 1000 := ⟨d.toNat, by simp at hd; omega, by simp at hd; omega, by simp at hd; omega⟩
  go_wp2_with fail
  refine (imGrid_any c _ n w1 hc1 (by omega) hn1 hn2).mono ?_
  rintro e w2 ⟨v2, f2, rfl, hG2, hl2, hm2, hf2, hc2, hg2⟩
  obtain ⟨ao2, cap2, rfl⟩ := hG2.shape
  obtain ⟨n2, hn2'⟩ : ∃ n2, f2.length = n2 := ⟨_, rfl⟩
  rw [hn2'] at hG2 hl2 hm2 ⊢
  have hn2'' := Lib.hid hn2'
  have hG2' := Lib.hid hG2
  have hf2' := Lib.hid hf2
  clear hn2' hG2 hf2
  go_wp2_with fail
  refine (one_any c _ 3 w2 hc2 (by omega) (by omega) (by omega)).mono ?_
  rintro e w3 ⟨v, rfl, ⟨b, rfl⟩, hc3, hg3⟩
  have hs1 := hg1.size
  have g3 := hg1.trans (hg2.trans hg3)
  have hG3 := (hG2'.out.kept hg3 (Nat.lt_of_lt_of_le hlt hs1)).mono hs1
  clear hc1 hc2 hd hg1 hg2 hg3 hG2'
  have g3' := Lib.hid g3
  have hG3' := Lib.hid hG3
  clear g3 hG3
  cases b
  · have hc3' := Lib.hid hc3
    clear hc3
    go_wp2
    go_ret
    exact ⟨_, f2, rfl, hG3'.out, by rw [hn2''.out]; exact hl2, by rw [hn2''.out]; exact hm2, hf2'.out, hc3'.out.mono (by omega), g3'.out⟩
  · clear hG3' hf2' hn2''
    go_wp2_with fail
    refine (among_list c _ [2, 2, 3, 4] w3 4 hc3 (by omega) rfl (by omega) (by omega)).mono ?_
    rintro e w4 ⟨v, rfl, ⟨d, rfl, hd⟩, hc4, hg4⟩
    obtain ⟨m, rfl, hm1, hm4⟩ : ∃ q : Nat, d = (q : Int) ∧ 2 ≤ q ∧ q ≤ 4 := ⟨d.toNat, by simp at hd; omega, by simp at hd; omega, by simp at hd; omega⟩
    have hst : LaidAt c (N + 310) (m + 1) w (.slice none 0 0) 0 w4 := ⟨by omega, [], GrowP.nil _ _, rfl, AllI.nil, hc4.mono (by omega), g3'.out.trans hg4⟩
    clear hd hc3 hc4 hg4 g3'
    have hst' := Lib.hid hst
    clear hst
    go_wp2_with fail
    go_loopw [4, 6] (fun o i wr => ∃ k : Nat, i = .int .i64 k ∧ LaidAt c (N + 310) (m + 1) w o k wr) (fun _ i _ => m + 1 - (intOf i).toNat)
    case atStart => exact ⟨0, rfl, hst'.out⟩
    case round =>
      clear hst'
      obtain ⟨k, rfl, hk, f, hG, hfl, hfI, hc, hgw⟩ := hrel
      obtain ⟨w6, rfl⟩ : ∃ wo : World, wo = wr := ⟨_, rfl⟩
      by_cases hlt2 : k ≤ m
      · have q2 : (k : Int) ≤ (m : Int) := by omega
        have cm := raMake_any k m w6 (by omega) (by omega) (by omega)
        have hxi := mkR_i64 k m
        generalize mkR (k : Int) m = R at *
        obtain ⟨⟨x0, x1⟩, ok⟩ := R
        simp only at cm hxi
        have cm' := Lib.hid cm
        have hxi' := Lib.hid hxi
        have hG' := Lib.hid hG
        have hfI' := Lib.hid hfI
        have hfl' := Lib.hid hfl
        have hc' := Lib.hid hc
        have hgw' := Lib.hid hgw
        clear cm hxi hG hfI hfl hc hgw
        go_wp2_with fail
        refine (cm'.out).mono ?_
        rintro e w5 ⟨rfl, hB5⟩
        obtain ⟨w7, hw7⟩ : ∃ W, w5.alloc (.cells #[.int .i64 x0, .int .i64 x1] 42) = W := ⟨_, rfl⟩
        have hB57 : Below w5.heap.size w5 w7 := by rw [← hw7]; exact (Below.refl _ _).alloc (Nat.le_refl _) _
        have hB7 := hB5.trans (hB57.mono hB5.size)
        have a0 : w7.cell? ⟨w5.heap.size, 0, none⟩ = some (.int .i64 x0) := by rw [← hw7]; simp [go_sem]
        have a1 : w7.cell? ⟨w5.heap.size, 1, none⟩ = some (.int .i64 x1) := by rw [← hw7]; simp [go_sem]
        have at' : ∀ w', Below w7.heap.size w7 w' → w'.cell? ⟨w5.heap.size, 0, none⟩ = some (.int .i64 x0) ∧ w'.cell? ⟨w5.heap.size, 1, none⟩ = some (.int .i64 x1) := fun w' h => ⟨bkeep h a0, bkeep h a1⟩
        have hne : u4.ownBlock ≠ some w5.heap.size := fun e => by have := (World.ownsRow.lt hG'.out _ e).2; have := hB5.size; omega
        have hblk := hG'.out.block
        have hfl2 : f.length ≤ 1099511627776 := by rw [hfl'.out]; omega
        have hGd := fun w' (hB : Below w7.heap.size w7 w') => (hG'.out.below hB7).below hB
        have hsw : w.heap.size ≤ w7.heap.size := Nat.le_trans hgw'.out.size hB7.size
        have hdA : Below w7.heap.size w7 w7.drew := (Below.refl _ _).drew
        clear a0 a1 hB5 hB57
        have hw7' := Lib.hid hw7
        have at'' := Lib.hid at'
        have hfl2' := Lib.hid hfl2
        have hblk' := Lib.hid hblk
        have hGd' := Lib.hid hGd
        have hB7' := Lib.hid hB7
        clear hw7 at' hfl2 hblk hGd hB7
        go_wp2_with fail
        rw [hw7'.out]
        go_wp2_with fail
        refine wp_region_held_drew (S := (fun w' => w'.cell? ⟨w5.heap.size, 0, none⟩ = some (.int .i64 x0) ∧ w'.cell? ⟨w5.heap.size, 1, none⟩ = some (.int .i64 x1))) (by kernel_rfl) (by (try dsimp only); (first | exact at''.out _ hdA | exact at''.out _ hdB | exact at''.out _ hdC | exact hD)) (fun hHeld => ?_)
        refine ly_q 0 (v := ?_) hHeld ?_
        try simp only [Act.put, lyA, lyB, lyC]
        refine ly_q 1 (v := ?_) hHeld ?_
        try simp only [Act.put, lyA, lyB, lyC]
        refine ly_q 2 (v := ?_) hHeld ?_
        try simp only [Act.put, lyA, lyB, lyC]
        refine ly_q 3 (v := ?_) hHeld ?_
        try simp only [Act.put, lyA, lyB, lyC]
        refine ly_a 4 (fun KK hKK => ?_)
        go_simp
        refine (raInt_any _ _).mono ?_
        rintro e w8 ⟨rfl, hB8⟩
        have hdB := hdA.trans (hB8.mono hdA.size)
        try dsimp only
        refine hKK.out _ _ (by (try dsimp only); (first | exact at''.out _ hdA | exact at''.out _ hdB | exact at''.out _ hdC | exact hD)) (fun hHeld => ?_)
        clear hKK KK
        try simp only [Act.put, lyA, lyB, lyC]
        refine ly_q 5 (v := ?_) hHeld ?_
        try simp only [Act.put, lyA, lyB, lyC]
        refine ly_a 6 (fun KK hKK => ?_)
        go_simp
        have hdC := hdB.alloc hdB.size (.cells #[.int .i64 x0, .int .i64 x1, .int .i64 (Int.tmod (k : Int) 2), .int .i64 1] 80)
        try dsimp only
        refine hKK.out _ _ (by (try dsimp only); (first | exact at''.out _ hdA | exact at''.out _ hdB | exact at''.out _ hdC | exact hD)) (fun hHeld => ?_)
        clear hKK KK
        try simp only [Act.put, lyA, lyB, lyC]
        refine ly_a 7 (fun KK hKK => ?_)
        refine wp_append_P _ _ rfl w.heap.size u4 f x0 x1 (Int.tmod (k : Int) 2) 1 _ rfl rfl (hGd'.out _ hdB) hfl2'.out (Nat.le_trans hsw hdB.size) ?_
        intro v9 w9 hG9 hgr
        have hD : w9.cell? ⟨w5.heap.size, 0, none⟩ = some (.int .i64 x0) ∧ w9.cell? ⟨w5.heap.size, 1, none⟩ = some (.int .i64 x1) := ⟨gcell hgr (at''.out _ hdB).1 hne, gcell hgr (at''.out _ hdB).2 hne⟩
        try dsimp only
        refine hKK.out _ _ (by (try dsimp only); (first | exact at''.out _ hdA | exact at''.out _ hdB | exact at''.out _ hdC | exact hD)) (fun hHeld => ?_)
        clear hKK KK
        try simp only [Act.put, lyA, lyB, lyC]
        refine ly_q 8 (v := ?_) hHeld ?_
        try simp only [Act.put, lyA, lyB, lyC]
        refine wpAnyH_done (by kernel_rfl) ?_ _
        have hgB := bgrow hB7'.out (some c)
        have hcl : c < w6.heap.size := hc'.out.lt
        have hst : LaidAt c (N + 310) (m + 1) w v9 (k + 1) w9 := ⟨by omega, _, hG9, by rw [List.length_append, hfl'.out]; rfl, hfI'.out.snoc ⟨hxi'.out, (tmod2_i64 k)⟩, ((hc'.out.below hB7'.out hcl).below hdB (by have := hB7'.out.size; omega)).kept hgr (fun g e => Nat.lt_of_lt_of_le hlt (hblk'.out g e)), grown_new (hgw'.out.trans (hgB.trans (bgrow hdB (some c)))) hgr (hblk'.out)⟩
        obtain ⟨_, _, rfl⟩ := hG9.shape
        have hl9 : (f ++ [((x0, x1), (Int.tmod (k : Int) 2, (1 : Int)))]).length = k + 1 := by rw [List.length_append, hfl'.out]; rfl
        rw [hl9] at hst ⊢
        clear hl9 hG9 hgr hD hHeld hgB hdA hdB hdC
        have hst' := Lib.hid hst
        clear hst
        go_wp2
        go_roundw
        case rel => exact ⟨k + 1, by go_num, hst'.out⟩
        case measure => simp [intOf]; omega
      · obtain rfl : k = m + 1 := by omega
        have q2 : ¬ ((m + 1 : Nat) : Int) ≤ (m : Int) := by omega
        obtain ⟨gf, cf, rfl, -⟩ := GrowF.form hG (by omega)
        obtain ⟨nf, hnf⟩ : ∃ nf, f.length = nf := ⟨_, rfl⟩
        have hnf2 : nf = m + 1 := by omega
        have hnf3 : 2 < nf := by omega
        have hnf4 : nf ≤ 5 := by omega
        rw [hnf] at hG ⊢
        clear hnf2 hfl
        have hG' := Lib.hid hG
        have hfI' := Lib.hid hfI
        have hgw' := Lib.hid hgw
        have hnf' := Lib.hid hnf
        clear hG hfI hgw hnf
        go_wp2_with fail
        refine (one_any c _ 2 w6 hc (by omega) (by omega) (by omega)).mono ?_
        rintro e w7 ⟨v, rfl, ⟨b2, rfl⟩, hc7, hg7⟩
        have hG7 := hG'.out.kept hg7 hlt
        have hg8 := hgw'.out.trans hg7
        clear hg7 hc hG' hgw'
        have hG7' := Lib.hid hG7
        have hg8' := Lib.hid hg8
        clear hG7 hg8
        cases b2
        · have hc7' := Lib.hid hc7
          clear hc7
          go_wp2
          go_ret
          exact ⟨_, f, rfl, hG7'.out, by rw [hnf'.out]; omega, by rw [hnf'.out]; omega, hfI'.out, hc7'.out.mono (by omega), hg8'.out⟩
        · go_wp2_with fail
          refine (gridRat_any c _ n w7 hc7 (by omega) hn1 hn2).mono ?_
          rintro e w8 ⟨⟨a, b⟩, rfl, hu, hc8, hg9⟩
          have hG8 := hG7'.out.kept hg9 hlt
          have hg10 := hg8'.out.trans hg9
          obtain ⟨-, hrow⟩ := hG8.row (by rw [hnf'.out]; omega)
          have z2 := hrow.cell (j := 6) (by omega)
          have z3 := hrow.cell (j := 7) (by omega)
          have y2 := hrow.frozen 6
          have y3 := hrow.frozen 7
          have hgf := hrow.lt
          have hput := hG8.putY (i := 1) (by rw [hnf'.out]; omega) a b
          have hB : Below w.heap.size w8 ((w8.setCell ⟨gf, 6, none⟩ (.int .i64 a)).setCell ⟨gf, 7, none⟩ (.int .i64 b)) := ((Below.refl _ _).setCell (p := ⟨gf, 6, none⟩) hgf.1 _).setCell (p := ⟨gf, 7, none⟩) hgf.1 _
          have hend := picks_end hc8 hg10 hlt (Nat.le_refl _) hB
          have hI2 := hfI'.out.set (p := ((nth4 f 1).1, (a, b))) ⟨(hfI'.out 1 (by rw [hnf'.out]; omega)).1, unit_i64 hu⟩ 1
          have q5 : (1 : Int) < (nf : Int) := by omega
          have q6 : 1 < nf := by omega
          clear hrow hG8 hB hg9 hg10 hc7 hc8 hu
          have hput' := Lib.hid hput
          have hend' := Lib.hid hend
          have hI2' := Lib.hid hI2
          clear hput hend hI2
          go_wp2
          go_ret
          exact ⟨_, _, rfl, hput'.out, by rw [List.length_set, hnf'.out]; omega, by rw [List.length_set, hnf'.out]; omega, hI2'.out, hend'.out.1.mono (by omega), hend'.out.2⟩
end Go.Proofs.YtfhhofecfllbfaaGreat

/- A drawn map with two intervals, told loosely. No conditions but small sizes. -/
import Derived.Test.YtfhhofecfllbfaaGreatDrawI3
namespace Go.Proofs.YtfhhofecfllbfaaGreat
open Go.RowKit

/-- It returns a map and two intervals. -/
def DrawFIK (w : World) (e : Ending) (w' : World) : Prop := ∃ v f i k, e = .returned (.tuple #[v, quadV i, quadV k]) ∧ (QuadV w' v f ∧ f.length ≤ 13) ∧ NewB w.heap.size v ∧ Below w.heap.size w w'
/-- It returns a map and a list of intervals. -/
def DrawFL (w : World) (e : Ending) (w' : World) : Prop := ∃ v f u l, e = .returned (.tuple #[v, u]) ∧ (QuadV w' v f ∧ f.length ≤ 13) ∧ (QuadV w' u l ∧ l.length ≤ 12) ∧ Below w.heap.size w w'

theorem grow_self4 (w : World) (b : Nat) (q : Quad) : w.grownBy (set4 w b q) (some b) := by
  unfold YtfhhofecfllbfaaGreat.set4
  exact (((grownBy_setCell_some w b 0 _).trans (grownBy_setCell_some _ b 1 _)).trans (grownBy_setCell_some _ b 2 _)).trans (grownBy_setCell_some _ b 3 _)
theorem BoxQ.set4o {w : World} {b g : Nat} {r : Quad} (h : BoxQ w b r) (hne : g ≠ b) (q : Quad) : BoxQ (YtfhhofecfllbfaaGreat.set4 w g q) b r := h.grown (grow_self4 w g q) (fun e => hne (Option.some.inj e))
theorem imgR_bd {f : List Quad} (hf : MapP f) (a b : Int × Int) (h : (imgR f a b).2 = true) : BdR (imgR f a b).1.1.1 (imgR f a b).1.1.2 ∧ BdR (imgR f a b).1.2.1 (imgR f a b).1.2.2 := by
  cases hi : imgOk f a b
  · rw [imgR_bad hi] at h; cases h
  · rw [imgR_ok hi]
    have := imS_good hf a b f.length (Nat.le_refl _)
    exact ⟨goodR_bd this.1, goodR_bd this.2⟩

set_option linter.unusedSimpArgs false in
set_option maxHeartbeats 6400000 in
theorem DrawCoversInterval_any (v : Value) (n : Nat) (w : World) (h : CodeV w v n) : Calls Tryz.prog 62 #[v] w (DrawFIK w) := by
  obtain ⟨w0, hw0⟩ : ∃ W, (w.alloc (.cells #[.int .i64 0, .int .i64 0, .int .i64 0, .int .i64 0] 44)).alloc (.cells #[.int .i64 0, .int .i64 0, .int .i64 0, .int .i64 0] 44) = W := ⟨_, rfl⟩
  have hB0 : Below w.heap.size w w0 := by rw [← hw0]; exact ((Below.refl _ _).alloc (Nat.le_refl _) _).alloc (by simp) _
  have x3 : BoxW w0 w.heap.size ((0, 0), (0, 0)) := by rw [← hw0]; refine ⟨⟨?_, ?_, ?_, ?_⟩, ?_, ?_, ?_, ?_⟩ <;> simp [go_sem]
  have x4 : BoxW w0 (w.heap.size + 1) ((0, 0), (0, 0)) := by rw [← hw0]; refine ⟨⟨?_, ?_, ?_, ?_⟩, ?_, ?_, ?_, ?_⟩ <;> simp [go_sem]
  have hs0 : w0.heap.size = w.heap.size + 1 + 1 := by rw [← hw0]; simp
  have c1 := anyIm_new w0.heap.size 0 _ (CurAt.start (h.below hB0)) (by omega)
  obtain ⟨c, hc⟩ : ∃ c, w.heap.size + 1 + 1 = c := ⟨_, rfl⟩
  rw [hs0, hc] at c1
  obtain ⟨ao, cap, rfl, -, -⟩ := h
  have c1' := Lib.hid c1
  have hw0' := Lib.hid hw0
  have x3' := Lib.hid x3
  have x4' := Lib.hid x4
  have hs0' := Lib.hid hs0
  clear c1 hw0 x3 x4 hs0
  go_enter Tryz.func62, Tryz.ntmps62
  go_wp2_with fail
  rw [hw0'.out]
  go_wp2_with fail
  refine (c1'.out).mono ?_
  rintro e w1 ⟨v1, f, rfl, hq1, ⟨ho, hnb⟩, hl1, hI1, hc1, hg1⟩
  have hB1 : Below w0.heap.size w0 w1 := start_below (w := w0) (by rw [hs0'.out, hc]; exact hg1)
  have hb1 : Below w.heap.size w w1 := hB0.trans (hB1.mono hB0.size)
  have x31 := x3'.out.below hB1
  have x41 := x4'.out.below hB1
  have hnb2 : NewB c v1 := fun b off k cap e => by have h1 := hnb b off k cap e; simp at h1; have := hs0'.out; omega
  have hcr : w.heap.size + 1 < c := by omega
  have hclt := hc1.lt
  obtain ⟨ao1, cap1, rfl, -⟩ := hq1.form
  have hqw := fun (w' : World) (hg : w1.grownBy w' (some c)) => hq1.cellOff ho hg
  have ci := fun (w' : World) (M : Nat) (hc : CurAt w' c M) (hM : M ≤ 1000) (hg : w1.grownBy w' (some c)) => intervalOf_any c M _ f w' hc (by omega) (hqw w' hg) ho hI1 (by omega)
  have ca := fun (w' : World) (hg : w1.grownBy w' (some c)) => imGood_any _ f w' (hqw w' hg) (by omega)
  have cm := fun (w' : World) (hg : w1.grownBy w' (some c)) (a b : Int × Int) (hA : mapB f = true) (ha : unitR a.1 a.2 = true) (hb : unitR b.1 b.2 = true) => imImage_any _ f a b w' (hqw w' hg) (mapB_true hA) ha hb
  have hbd := fun (a b : Int × Int) (hA : mapB f = true) => imgR_bd (mapB_true hA) a b
  have hfin : ∀ (wx : World), w1.grownBy wx (some c) → ∀ i k : Quad, QuadV (set4 (set4 wx w.heap.size i) (w.heap.size + 1) k).drew (.slice ao1 f.length cap1) f ∧ Below w.heap.size w (set4 (set4 wx w.heap.size i) (w.heap.size + 1) k).drew := fun wx hg i k => by
    have h1 := hqw wx hg
    have h2 := h1.cellOff (hnb2.off (by omega)) (grow_self4 wx w.heap.size i)
    have h3 := h2.cellOff (hnb2.off (by omega)) (grow_self4 _ (w.heap.size + 1) k)
    have hb : Below w.heap.size w wx := hb1.grown hg (by omega) (fun j hj => by have := Option.some.inj hj; omega)
    exact ⟨h3.below (Below.refl _ _).drew, (below_set4 (below_set4 hb (Nat.le_refl _) i) (Nat.le_succ _) k).drew⟩
  obtain ⟨m, hm⟩ : ∃ m, f.length = m := ⟨_, rfl⟩
  rw [hm] at hl1 ci ca cm hfin ⊢
  have hnbw : NewB w.heap.size (.slice ao1 m cap1) := fun b off k cap e => by
    obtain ⟨e1, -, e3⟩ := Value.slice.inj e
    have := hnb2 b off f.length cap (by rw [e1, e3]); omega
  clear hnb hnb2 hqw hq1 ho hI1 hB1 hb1 hg1 c1' hB0 x3' x4' hw0'
  have ci' := Lib.hid ci
  have ca' := Lib.hid ca
  have cm' := Lib.hid cm
  have hfin' := Lib.hid hfin
  have hbd' := Lib.hid hbd
  have x31' := Lib.hid x31
  have x41' := Lib.hid x41
  have hm' := Lib.hid hm
  have hnbw' := Lib.hid hnbw
  clear ci ca cm hfin hbd x31 x41 hm hnbw
  go_wp2_with fail
  refine (ci'.out w1 _ hc1 (by omega) (World.grownBy.refl _ _)).mono ?_
  rintro e w2 ⟨⟨⟨i0, i1⟩, ⟨i2, i3⟩⟩, rfl, hc2, hg2⟩
  go_wp2_with fail
  refine (ci'.out w2 _ hc2 (by omega) hg2).mono ?_
  rintro e w3 ⟨⟨⟨k0, k1⟩, ⟨k2, k3⟩⟩, rfl, hc3, hg3⟩
  obtain ⟨w4, hw4⟩ : ∃ W, (w3.alloc (.cells #[.int .i64 i0, .int .i64 i1, .int .i64 i2, .int .i64 i3] 44)).alloc (.cells #[.int .i64 k0, .int .i64 k1, .int .i64 k2, .int .i64 k3] 44) = W := ⟨_, rfl⟩
  have hB4 : Below w3.heap.size w3 w4 := by rw [← hw4]; exact ((Below.refl _ _).alloc (Nat.le_refl _) _).alloc (by simp) _
  have xi4 : BoxQ w4 w3.heap.size ((i0, i1), (i2, i3)) := by rw [← hw4]; refine ⟨?_, ?_, ?_, ?_⟩ <;> simp [go_sem]
  have xk4 : BoxW w4 (w3.heap.size + 1) ((k0, k1), (k2, k3)) := by rw [← hw4]; refine ⟨⟨?_, ?_, ?_, ?_⟩, ?_, ?_, ?_, ?_⟩ <;> simp [go_sem]
  have hc4 := hc3.below hB4 hc3.lt
  have hg23 := hg2.trans hg3
  have g4 := hg23.trans (bgrow hB4 _)
  have h13 : w1.heap.size ≤ w3.heap.size := hg23.size
  have hne1 : some c ≠ some w3.heap.size := fun e => by have := Option.some.inj e; omega
  have hne2 : some c ≠ some (w3.heap.size + 1) := fun e => by have := Option.some.inj e; omega
  clear hc1 hc2 hc3 hg2 hg3 hg23 hB4 ci'
  have hw4' := Lib.hid hw4
  have xi4' := Lib.hid xi4
  have xk4' := Lib.hid xk4
  have hc4' := Lib.hid hc4
  have g4' := Lib.hid g4
  have hne1' := Lib.hid hne1
  have hne2' := Lib.hid hne2
  clear hw4 xi4 xk4 hc4 g4 hne1 hne2
  go_upto_region 4 with fail
  rw [hw4'.out]
  go_cut [34] from 25 to 34 (fun s34 wx => ∃ t : Bool, s34 = .bool t ∧ w1.grownBy wx (some c) ∧ BoxQ wx w3.heap.size ((i0, i1), (i2, i3)) ∧ BoxW wx (w3.heap.size + 1) ((k0, k1), (k2, k3)) ∧ CurAt wx c 800 ∧ (t = true → mapB f = true ∧ unitR i0 i1 = true ∧ unitR i2 i3 = true))
  case first =>
    go_wp2_with fail
    refine (ca'.out w4 g4'.out).mono ?_
    rintro e w5 ⟨rfl, hB5⟩
    have xi5 := xi4'.out.below hB5
    have xk5 := xk4'.out.below hB5
    have hc5 := hc4'.out.below hB5 hc4'.out.lt
    have g5 := g4'.out.trans (bgrow hB5 _)
    generalize mapB f = A at *
    clear hB5 xi4' xk4' hc4' g4' hw4'
    cases A
    · have g5' := Lib.hid g5
      have xi5' := Lib.hid xi5
      have xk5' := Lib.hid xk5
      have hc5' := Lib.hid hc5
      clear g5 xi5 xk5 hc5
      go_wp2_with fail
      go_meet
      exact ⟨_, rfl, g5'.out, xi5'.out, xk5'.out, hc5'.out.mono (by omega), fun h => by cases h⟩
    obtain ⟨a0, a1, a2, a3⟩ := id xi5
    simp only at a0 a1 a2 a3
    have g5' := Lib.hid g5
    have xi5' := Lib.hid xi5
    have xk5' := Lib.hid xk5
    have hc5' := Lib.hid hc5
    clear g5 xi5 xk5 hc5
    go_wp2_with fail
    refine (ivGood_any ((i0, i1), (i2, i3)) _).mono ?_
    rintro e w6 ⟨rfl, hB6⟩
    have hiv : ivB ((i0, i1), (i2, i3)) = true → unitR i0 i1 = true ∧ unitR i2 i3 = true := fun h => ⟨(ivB_true h).1, (ivB_true h).2.1⟩
    generalize ivB ((i0, i1), (i2, i3)) = I at *
    have xi6 := xi5'.out.below hB6
    have xk6 := xk5'.out.below hB6
    have hc6 := hc5'.out.below hB6 hc5'.out.lt
    have g6 := g5'.out.trans (bgrow hB6 _)
    clear hB6 g5' xi5' xk5' hc5' a0 a1 a2 a3
    cases I
    · have g6' := Lib.hid g6
      have xi6' := Lib.hid xi6
      have xk6' := Lib.hid xk6
      have hc6' := Lib.hid hc6
      clear g6 xi6 xk6 hc6
      go_wp2_with fail
      go_meet
      exact ⟨_, rfl, g6'.out, xi6'.out, xk6'.out, hc6'.out.mono (by omega), fun h => by cases h⟩
    replace hiv := hiv rfl
    have g6' := Lib.hid g6
    have xi6' := Lib.hid xi6
    have xk6' := Lib.hid xk6
    have hiv' := Lib.hid hiv
    clear g6 xi6 xk6 hiv
    go_wp2_with fail
    refine (one_any c _ 2 w6 hc6 (by omega) (by omega) (by omega)).mono ?_
    rintro e w7 ⟨v7, rfl, ⟨b, rfl⟩, hc7, hg7⟩
    have xi7 := xi6'.out.grown hg7 hne1'.out
    have xk7 := xk6'.out.grown hg7 hne2'.out
    have g7 := g6'.out.trans hg7
    clear hg7 g6' xi6' xk6' hc6
    cases b
    · have g7' := Lib.hid g7
      have xi7' := Lib.hid xi7
      have xk7' := Lib.hid xk7
      have hc7' := Lib.hid hc7
      clear g7 xi7 xk7 hc7
      go_wp2_with fail
      go_meet
      exact ⟨_, rfl, g7'.out, xi7'.out, xk7'.out, hc7'.out.mono (by omega), fun h => by cases h⟩
    have g7' := Lib.hid g7
    have xi7' := Lib.hid xi7
    have xk7' := Lib.hid xk7
    have hc7' := Lib.hid hc7
    clear g7 xi7 xk7 hc7
    go_wp2_with fail
    go_meet
    exact ⟨_, rfl, g7'.out, xi7'.out, xk7'.out, hc7'.out.mono (by omega), fun _ => ⟨by simp, hiv'.out⟩⟩
  case rest =>
  obtain ⟨t, rfl, g7, xi7, xk7, hc7, ht⟩ := hcut
  obtain ⟨w7, rfl⟩ : ∃ wo : World, wo = wc := ⟨_, rfl⟩
  clear xi4' xk4' hc4' g4' hw4' ca'
  go_upto_if 34 with fail
  go_cut [] from 35 to 66 (fun wx => w1.grownBy wx (some c) ∧ BoxQ wx w3.heap.size ((i0, i1), (i2, i3)) ∧ ∃ k' : Quad, BoxW wx (w3.heap.size + 1) k')
  case first =>
    cases t
    · have g7' := Lib.hid g7
      have xi7' := Lib.hid xi7
      have xk7' := Lib.hid xk7
      clear g7 xi7 xk7
      go_wp2_with fail
      go_meet
      exact ⟨g7'.out, xi7'.out, _, xk7'.out⟩
    obtain ⟨hA, hiv⟩ := ht rfl
    clear ht
    obtain ⟨a0, a1, a2, a3⟩ := id xi7
    simp only at a0 a1 a2 a3
    have c8 := cm'.out w7 g7 (i0, i1) (i2, i3) hA hiv.1 hiv.2
    have hb8 := hbd'.out (i0, i1) (i2, i3) hA
    generalize imgR f (i0, i1) (i2, i3) = R at *
    obtain ⟨⟨⟨l0, l1⟩, ⟨h0, h1⟩⟩, ro⟩ := R
    simp only at c8 hb8
    clear hA hiv
    have g7' := Lib.hid g7
    have xi7' := Lib.hid xi7
    have xk7' := Lib.hid xk7
    have hc7' := Lib.hid hc7
    have c8' := Lib.hid c8
    have hb8' := Lib.hid hb8
    clear g7 xi7 xk7 hc7 c8 hb8
    go_wp2_with fail
    refine c8'.out.mono ?_
    rintro e w8 ⟨rfl, hB8⟩
    obtain ⟨w9, hw9⟩ : ∃ W, (w8.alloc (.cells #[.int .i64 l0, .int .i64 l1] 42)).alloc (.cells #[.int .i64 h0, .int .i64 h1] 42) = W := ⟨_, rfl⟩
    have hB9 : Below w8.heap.size w8 w9 := by rw [← hw9]; exact ((Below.refl _ _).alloc (Nat.le_refl _) _).alloc (by simp) _
    have y0 : w9.cell? ⟨w8.heap.size, 0, none⟩ = some (.int .i64 l0) := by rw [← hw9]; simp [go_sem]
    have y1 : w9.cell? ⟨w8.heap.size, 1, none⟩ = some (.int .i64 l1) := by rw [← hw9]; simp [go_sem]
    have y2 : w9.cell? ⟨w8.heap.size + 1, 0, none⟩ = some (.int .i64 h0) := by rw [← hw9]; simp [go_sem]
    have y3 : w9.cell? ⟨w8.heap.size + 1, 1, none⟩ = some (.int .i64 h1) := by rw [← hw9]; simp [go_sem]
    have hB89 := hB8.trans (hB9.mono hB8.size)
    have xi9 := xi7'.out.below hB89
    have xk9 := xk7'.out.below hB89
    have hc9 := hc7'.out.below hB89 hc7'.out.lt
    have g9 := g7'.out.trans (bgrow hB89 _)
    have h38 : w3.heap.size + 1 < w8.heap.size := by have := (xk7'.out.below hB8).lt; exact this
    clear hB9 hB89 hB8 g7' xi7' xk7' hc7' c8' a0 a1 a2 a3 hbd' cm'
    have g9' := Lib.hid g9
    have xi9' := Lib.hid xi9
    have xk9' := Lib.hid xk9
    have hc9' := Lib.hid hc9
    have hw9' := Lib.hid hw9
    clear g9 xi9 xk9 hc9 hw9
    cases ro
    · go_upto_region 6 with fail
      rw [hw9'.out]
      go_wp2_with fail
      go_meet
      exact ⟨g9'.out, xi9'.out, _, xk9'.out⟩
    by_cases hs : l0 = h0 ∧ l1 = h1
    · obtain ⟨rfl, rfl⟩ := hs
      go_upto_region 6 with fail
      rw [hw9'.out]
      go_wp2_with fail
      go_meet
      exact ⟨g9'.out, xi9'.out, _, xk9'.out⟩
    have hne : ¬ l0 = h0 ∨ l0 = h0 ∧ ¬ l1 = h1 := by
      by_cases h : l0 = h0
      · exact .inr ⟨h, fun e => hs ⟨h, e⟩⟩
      · exact .inl h
    clear hs
    have hb10 := hb8'.out rfl
    obtain ⟨w10, hw10⟩ : ∃ W, set4 w9 (w3.heap.size + 1) ((l0, l1), (h0, h1)) = W := ⟨_, rfl⟩
    have hgs := grow_self4 w9 (w3.heap.size + 1) ((l0, l1), (h0, h1))
    have xi10 := xi9'.out.set4o (g := w3.heap.size + 1) (by omega) ((l0, l1), (h0, h1))
    have xk10 := xk9'.out.set4 ((l0, l1), (h0, h1))
    have g10 := grow_set4 g9'.out (b := w3.heap.size + 1) (by omega) ((l0, l1), (h0, h1))
    have hc10 := hc9'.out.kept hgs (fun g e => by have := Option.some.inj e; omega)
    have hno : ∀ b, w3.heap.size + 1 < b → some (w3.heap.size + 1) ≠ some b := fun b hb e => by have := Option.some.inj e; omega
    have z0 := gcell hgs y0 (hno w8.heap.size h38)
    have z1 := gcell hgs y1 (hno w8.heap.size h38)
    have z2 := gcell hgs y2 (hno (w8.heap.size + 1) (by omega))
    have z3 := gcell hgs y3 (hno (w8.heap.size + 1) (by omega))
    rw [hw10] at xi10 xk10 g10 hc10 z0 z1 z2 z3
    unfold set4 at hw10
    simp only at hw10
    obtain ⟨⟨n0, n1, n2, n3⟩, f0, f1, f2, f3⟩ := xk9'.out
    clear hgs hno xi9' xk9' g9' hc9' hb8'
    have xi10' := Lib.hid xi10
    have xk10' := Lib.hid xk10
    have g10' := Lib.hid g10
    have hc10' := Lib.hid hc10
    have hw10' := Lib.hid hw10
    have hb10' := Lib.hid hb10
    clear xi10 xk10 g10 hc10 hw10 hb10
    rcases hne with hne | ⟨rfl, hne⟩
    · go_upto_region 6 with fail
      rw [hw9'.out]
      go_upto_region 8 with fail
      rw [hw10'.out]
      clear hw9' hw10' y0 y1 y2 y3 n0 n1 n2 n3 f0 f1 f2 f3
      go_wp2_with fail
      refine (raHalf_any _ _ _ _ _ hb10'.out.1 hb10'.out.2).mono ?_
      rintro e w11 ⟨⟨t0, t1⟩, th, rfl, hB11⟩
      obtain ⟨w12, hw12⟩ : ∃ W, w11.alloc (.cells #[.int .i64 t0, .int .i64 t1] 42) = W := ⟨_, rfl⟩
      have hB12 : Below w11.heap.size w11 w12 := by rw [← hw12]; exact (Below.refl _ _).alloc (Nat.le_refl _) _
      have u0 : w12.cell? ⟨w11.heap.size, 0, none⟩ = some (.int .i64 t0) := by rw [← hw12]; simp [go_sem]
      have u1 : w12.cell? ⟨w11.heap.size, 1, none⟩ = some (.int .i64 t1) := by rw [← hw12]; simp [go_sem]
      have hB112 := hB11.trans (hB12.mono hB11.size)
      have xi12 := xi10'.out.below hB112
      have xk12 := xk10'.out.below hB112
      have hc12 := hc10'.out.below hB112 hc10'.out.lt
      have g12 := g10'.out.trans (bgrow hB112 _)
      have hcu : some c ≠ some w11.heap.size := fun e => by have := Option.some.inj e; have := hc10'.out.lt; have := hB11.size; omega
      clear hB12 hB112 hB11 xi10' xk10' hc10' g10' z0 z1 z2 z3
      have hw12' := Lib.hid hw12
      have xi12' := Lib.hid xi12
      have xk12' := Lib.hid xk12
      have g12' := Lib.hid g12
      clear hw12 xi12 xk12 g12
      go_upto_region 9 with fail
      rw [hw12'.out]
      clear hw12'
      cases th
      · go_wp2_with fail
        go_meet
        exact ⟨g12'.out, xi12'.out, _, xk12'.out⟩
      go_wp2_with fail
      refine (one_any c _ 2 w12 hc12 (by omega) (by omega) (by omega)).mono ?_
      rintro e w13 ⟨v13, rfl, ⟨b, rfl⟩, hc13, hg13⟩
      have xi13 := xi12'.out.grown hg13 hne1'.out
      have xk13 := xk12'.out.grown hg13 hne2'.out
      have g13 := g12'.out.trans hg13
      replace u0 := gcell hg13 u0 hcu
      replace u1 := gcell hg13 u1 hcu
      clear hg13 xi12' xk12' g12' hc12 hcu hc13
      cases b
      · have g13' := Lib.hid g13
        have xi13' := Lib.hid xi13
        have xk13' := Lib.hid xk13
        clear g13 xi13 xk13
        go_wp2_with fail
        go_meet
        exact ⟨g13'.out, xi13'.out, _, xk13'.out⟩
      have hgs1 := (grownBy_setCell_some w13 (w3.heap.size + 1) 2 (.int .i64 t0)).trans (grownBy_setCell_some _ (w3.heap.size + 1) 3 (.int .i64 t1))
      have gF := grow_set (grow_set g13 (b := w3.heap.size + 1) (o := 2) (by omega) (.int .i64 t0)) (b := w3.heap.size + 1) (o := 3) (by omega) (.int .i64 t1)
      have xiF := xi13.grown hgs1 (fun e => by have := Option.some.inj e; omega)
      obtain ⟨⟨n0, n1, n2, n3⟩, f0, f1, f2, f3⟩ := xk13
      have xkF : BoxW ((w13.setCell ⟨w3.heap.size + 1, 2, none⟩ (.int .i64 t0)).setCell ⟨w3.heap.size + 1, 3, none⟩ (.int .i64 t1)) (w3.heap.size + 1) ((l0, l1), (t0, t1)) := by
        refine ⟨⟨?_, ?_, ?_, ?_⟩, ?_, ?_, ?_, ?_⟩ <;> simp [go_sem, n0, n1, n2, n3, f0, f1, f2, f3]
      clear hgs1 xi13 g13
      have gF' := Lib.hid gF
      have xiF' := Lib.hid xiF
      have xkF' := Lib.hid xkF
      clear gF xiF xkF
      go_wp2_with fail
      go_meet
      exact ⟨gF'.out, xiF'.out, _, xkF'.out⟩
    · go_upto_region 6 with fail
      rw [hw9'.out]
      go_upto_region 8 with fail
      rw [hw10'.out]
      clear hw9' hw10' y0 y1 y2 y3 n0 n1 n2 n3 f0 f1 f2 f3
      go_wp2_with fail
      refine (raHalf_any _ _ _ _ _ hb10'.out.1 hb10'.out.2).mono ?_
      rintro e w11 ⟨⟨t0, t1⟩, th, rfl, hB11⟩
      obtain ⟨w12, hw12⟩ : ∃ W, w11.alloc (.cells #[.int .i64 t0, .int .i64 t1] 42) = W := ⟨_, rfl⟩
      have hB12 : Below w11.heap.size w11 w12 := by rw [← hw12]; exact (Below.refl _ _).alloc (Nat.le_refl _) _
      have u0 : w12.cell? ⟨w11.heap.size, 0, none⟩ = some (.int .i64 t0) := by rw [← hw12]; simp [go_sem]
      have u1 : w12.cell? ⟨w11.heap.size, 1, none⟩ = some (.int .i64 t1) := by rw [← hw12]; simp [go_sem]
      have hB112 := hB11.trans (hB12.mono hB11.size)
      have xi12 := xi10'.out.below hB112
      have xk12 := xk10'.out.below hB112
      have hc12 := hc10'.out.below hB112 hc10'.out.lt
      have g12 := g10'.out.trans (bgrow hB112 _)
      have hcu : some c ≠ some w11.heap.size := fun e => by have := Option.some.inj e; have := hc10'.out.lt; have := hB11.size; omega
      clear hB12 hB112 hB11 xi10' xk10' hc10' g10' z0 z1 z2 z3
      have hw12' := Lib.hid hw12
      have xi12' := Lib.hid xi12
      have xk12' := Lib.hid xk12
      have g12' := Lib.hid g12
      clear hw12 xi12 xk12 g12
      go_upto_region 9 with fail
      rw [hw12'.out]
      clear hw12'
      cases th
      · go_wp2_with fail
        go_meet
        exact ⟨g12'.out, xi12'.out, _, xk12'.out⟩
      go_wp2_with fail
      refine (one_any c _ 2 w12 hc12 (by omega) (by omega) (by omega)).mono ?_
      rintro e w13 ⟨v13, rfl, ⟨b, rfl⟩, hc13, hg13⟩
      have xi13 := xi12'.out.grown hg13 hne1'.out
      have xk13 := xk12'.out.grown hg13 hne2'.out
      have g13 := g12'.out.trans hg13
      replace u0 := gcell hg13 u0 hcu
      replace u1 := gcell hg13 u1 hcu
      clear hg13 xi12' xk12' g12' hc12 hcu hc13
      cases b
      · have g13' := Lib.hid g13
        have xi13' := Lib.hid xi13
        have xk13' := Lib.hid xk13
        clear g13 xi13 xk13
        go_wp2_with fail
        go_meet
        exact ⟨g13'.out, xi13'.out, _, xk13'.out⟩
      have hgs1 := (grownBy_setCell_some w13 (w3.heap.size + 1) 2 (.int .i64 t0)).trans (grownBy_setCell_some _ (w3.heap.size + 1) 3 (.int .i64 t1))
      have gF := grow_set (grow_set g13 (b := w3.heap.size + 1) (o := 2) (by omega) (.int .i64 t0)) (b := w3.heap.size + 1) (o := 3) (by omega) (.int .i64 t1)
      have xiF := xi13.grown hgs1 (fun e => by have := Option.some.inj e; omega)
      obtain ⟨⟨n0, n1, n2, n3⟩, f0, f1, f2, f3⟩ := xk13
      have xkF : BoxW ((w13.setCell ⟨w3.heap.size + 1, 2, none⟩ (.int .i64 t0)).setCell ⟨w3.heap.size + 1, 3, none⟩ (.int .i64 t1)) (w3.heap.size + 1) ((l0, l1), (t0, t1)) := by
        refine ⟨⟨?_, ?_, ?_, ?_⟩, ?_, ?_, ?_, ?_⟩ <;> simp [go_sem, n0, n1, n2, n3, f0, f1, f2, f3]
      clear hgs1 xi13 g13
      have gF' := Lib.hid gF
      have xiF' := Lib.hid xiF
      have xkF' := Lib.hid xkF
      clear gF xiF xkF
      go_wp2_with fail
      go_meet
      exact ⟨gF'.out, xiF'.out, _, xkF'.out⟩
  case rest =>
  obtain ⟨gx, xix, ⟨⟨k0', k1'⟩, ⟨k2', k3'⟩⟩, xkx⟩ := hcut
  obtain ⟨wx, rfl⟩ : ∃ wo : World, wo = wc := ⟨_, rfl⟩
  have x3x := x31'.out.grown gx (fun e => by have := Option.some.inj e; omega)
  have x4x := x41'.out.grown gx (fun e => by have := Option.some.inj e; omega)
  have hq := hfin'.out wx gx ((i0, i1), (i2, i3)) ((k0', k1'), (k2', k3'))
  obtain ⟨a0, a1, a2, a3⟩ := xix
  obtain ⟨⟨b0, b1, b2, b3⟩, -⟩ := xkx
  obtain ⟨⟨n0, n1, n2, n3⟩, f0, f1, f2, f3⟩ := id x3x
  obtain ⟨⟨n4, n5, n6, n7⟩, f4, f5, f6, f7⟩ := id x4x
  simp only at a0 a1 a2 a3 b0 b1 b2 b3 n0 n1 n2 n3 n4 n5 n6 n7
  have hl3 := x3x.lt
  have hl4 := x4x.lt
  have hn34 : ¬ w.heap.size = w3.heap.size := by omega
  have hn35 : ¬ w.heap.size = w3.heap.size + 1 := by omega
  have hn36 : ¬ w.heap.size + 1 = w3.heap.size := by omega
  have hlr : w.heap.size < w3.heap.size := by omega
  clear gx x3x x4x x31' x41' hfin' cm' hbd' g7 xi7 xk7 hc7 ht
  have hq' := Lib.hid hq
  clear hq
  go_wp2_with fail
  go_region
  all_goals
    go_wp2
    exact bodyPost_ret (v := .tuple #[.slice ao1 m cap1, quadV ((i0, i1), (i2, i3)), quadV ((k0', k1'), (k2', k3'))]) (by simp [results, Tryz.results62, go_sem, n0, n1, n2, n3, n4, n5, n6, n7, hl3, hl4, quadV]) rfl ⟨_, f, _, _, rfl, ⟨hq'.out.1, by rw [hm'.out]; exact hl1⟩, hnbw'.out, hq'.out.2⟩
end Go.Proofs.YtfhhofecfllbfaaGreat

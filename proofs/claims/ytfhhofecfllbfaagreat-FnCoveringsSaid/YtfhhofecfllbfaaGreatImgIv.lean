/- ImageOf at intervals, and ImageInterval: the program's and the reference's. No conditions but small sizes. -/
import Derived.Test.YtfhhofecfllbfaaGreatShrinkTo
import Derived.Test.YtfhhofecfllbfaaGreatBoxV
namespace Go.Proofs.YtfhhofecfllbfaaGreat
open Go.RowKit

def ImageOf_v (f : List Quad) (a b : Int × Int) : ((Int × Int) × (Int × Int)) × Bool := if mapB f = true then imgR f a b else (((0, 0), (0, 0)), false)
theorem iv_asym {i : Quad} (h : ivB i = true) : ltB i.2.1 i.2.2 i.1.1 i.1.2 = false := by
  obtain ⟨h1, h2, h3⟩ := ivB_true h
  rw [ltB_qv (unitR_good h1) (unitR_good h2)] at h3
  rw [ltB_qvf (unitR_good h2) (unitR_good h1)]
  grind
set_option linter.unusedSimpArgs false in
set_option linter.unusedVariables false in
set_option maxRecDepth 10000 in
set_option maxHeartbeats 4000000 in
theorem implImageOf_any (v : Value) (f : List Quad) (a b : Int × Int) (w : World) (hv : QuadV w v f) (hm : f.length ≤ 1099511627776) (ha : unitR a.1 a.2 = true) (hb : unitR b.1 b.2 = true) (hab : ltB b.1 b.2 a.1 a.2 = false) :
    Calls Tryz.prog 34 #[v, .agg #[.int .i64 a.1, .int .i64 a.2], .agg #[.int .i64 b.1, .int .i64 b.2]] w (Ret (.tuple #[ratV (ImageOf_v f a b).1.1, ratV (ImageOf_v f a b).1.2, .bool (ImageOf_v f a b).2]) w) := by
  have c1 := fun w' (hB : Below w.heap.size w w') => isMap_any v f w' (hv.below hB) hm
  have c2 := fun w' v h => areUnits_any v [a, b] w' h (by simp)
  have hu : unitsB [a, b] = true := by simp [unitsB, ha, hb]
  rw [hu] at c2
  have c3 := fun w' => less_any b.1 b.2 a.1 a.2 w' (unit_bd hb) (unit_bd ha)
  rw [hab] at c3
  have c4 := fun (hq : mapB f = true) (g : Nat) w' hB hg0 hc => cimage_any g false v f a b w w' hv hB hg0 (mapB_true hq) ha hb hc
  have hV : ImageOf_v f a b = if mapB f = true then imgR f a b else (((0, 0), (0, 0)), false) := rfl
  have hR : imgR f a b = if imgOk f a b = true then (imS f a b f.length, true) else (((0, 0), (0, 0)), false) := rfl
  generalize ImageOf_v f a b = V at *
  generalize imgR f a b = IR at *
  generalize imgOk f a b = IG at *
  generalize imS f a b f.length = IS at *
  generalize mapB f = A at *
  have h2v := fun w' => RatsV.two w' a b
  obtain ⟨a0, a1⟩ := a
  obtain ⟨b0, b1⟩ := b
  simp only at c2 c3 c4 h2v
  obtain ⟨w1, hw1⟩ : ∃ W, (((w.alloc (.cells #[.int .i64 a0, .int .i64 a1] 42)).alloc (.cells #[.int .i64 b0, .int .i64 b1] 42)).alloc (.cells #[.int .i64 0, .int .i64 0] 42)).alloc (.cells #[.int .i64 0, .int .i64 0] 42) = W := ⟨_, rfl⟩
  have hB1 : Below w.heap.size w w1 := by rw [← hw1]; exact ((((Below.refl _ _).alloc (Nat.le_refl _) _).alloc (by simp) _).alloc (by simp; omega) _).alloc (by simp; omega) _
  have xa : BoxV w1 w.heap.size (a0, a1) := by rw [← hw1]; refine ⟨⟨?_, ?_⟩, ?_, ?_⟩ <;> simp [go_sem]
  have xb : BoxV w1 (w.heap.size + 1) (b0, b1) := by rw [← hw1]; refine ⟨⟨?_, ?_⟩, ?_, ?_⟩ <;> simp [go_sem]
  have xl : BoxV w1 (w.heap.size + 1 + 1) (0, 0) := by rw [← hw1]; refine ⟨⟨?_, ?_⟩, ?_, ?_⟩ <;> simp [go_sem]
  have xh : BoxV w1 (w.heap.size + 1 + 1 + 1) (0, 0) := by rw [← hw1]; refine ⟨⟨?_, ?_⟩, ?_, ?_⟩ <;> simp [go_sem]
  clear hv
  have c1' := Lib.hid c1
  have c2' := Lib.hid c2
  have c3' := Lib.hid c3
  have c4' := Lib.hid c4
  have hV' := Lib.hid hV
  have hR' := Lib.hid hR
  have hw1' := Lib.hid hw1
  have xa' := Lib.hid xa
  have xb' := Lib.hid xb
  have xl' := Lib.hid xl
  have xh' := Lib.hid xh
  have hu' := Lib.hid hu
  have h2v' := Lib.hid h2v
  clear c1 c2 c3 c4 hV hR hw1 xa xb xl xh hu h2v
  go_enter Tryz.func34, Tryz.ntmps34
  go_wp2_with fail
  rw [hw1'.out]
  go_wp2_with fail
  refine (c1'.out _ hB1).mono ?_
  rintro e w2 ⟨rfl, hB2⟩
  have hb2 := hB1.trans (hB2.mono hB1.size)
  have xa2 := xa'.out.below hB2
  have xb2 := xb'.out.below hB2
  have xl2 := xl'.out.below hB2
  have xh2 := xh'.out.below hB2
  clear hB2 hB1 xa' xb' xl' xh' hw1' c1'
  cases A
  · have hV2 := hV'.out
    rw [if_neg (by decide)] at hV2
    subst hV2
    obtain ⟨⟨n0, n1⟩, f0, f1⟩ := id xl2
    obtain ⟨⟨n2, n3⟩, f2, f3⟩ := id xh2
    have hle : ∀ o, w.heap.size ≤ w.heap.size + o := fun o => Nat.le_add_right _ _
    have hbf : Below w.heap.size w ((((w2.setCell ⟨w.heap.size + 1 + 1, 0, none⟩ (.int .i64 0)).setCell ⟨w.heap.size + 1 + 1, 1, none⟩ (.int .i64 0)).setCell ⟨w.heap.size + 1 + 1 + 1, 0, none⟩ (.int .i64 0)).setCell ⟨w.heap.size + 1 + 1 + 1, 1, none⟩ (.int .i64 0)) :=
      (((hb2.setCell (p := ⟨w.heap.size + 1 + 1, 0, none⟩) (hle 2) _).setCell (p := ⟨w.heap.size + 1 + 1, 1, none⟩) (hle 2) _).setCell (p := ⟨w.heap.size + 1 + 1 + 1, 0, none⟩) (hle 3) _).setCell (p := ⟨w.heap.size + 1 + 1 + 1, 1, none⟩) (hle 3) _
    clear xa2 xb2 xl2 xh2 hb2 hle
    have hbf' := Lib.hid hbf
    clear hbf
    go_wp2
    exact bodyPost_ret (v := .tuple #[ratV (0, 0), ratV (0, 0), .bool false]) (by simp [results, Tryz.results34, go_sem, n0, n1, n2, n3, ratV]) rfl ⟨rfl, hbf'.out⟩
  · have hV2 := hV'.out
    rw [if_pos rfl] at hV2
    subst hV2
    have hR2 := hR'.out
    obtain ⟨⟨a0', a1'⟩, _, _⟩ := id xa2
    obtain ⟨⟨b0', b1'⟩, _, _⟩ := id xb2
    have hr3 := h2v'.out w2
    obtain ⟨w3, hw3⟩ : ∃ W, w2.alloc (.cells #[.int .i64 a0, .int .i64 a1, .int .i64 b0, .int .i64 b1] 42) = W := ⟨_, rfl⟩
    have hB3 : Below w2.heap.size w2 w3 := by rw [← hw3]; exact (Below.refl _ _).alloc (Nat.le_refl _) _
    rw [hw3] at hr3
    have hb3 := hb2.trans (hB3.mono hb2.size)
    have xa3 := xa2.below hB3
    have xb3 := xb2.below hB3
    have xl3 := xl2.below hB3
    have xh3 := xh2.below hB3
    have c5 := c2'.out w3 _ hr3
    clear hB3 xa2 xb2 xl2 xh2 hr3 c2' h2v' hV' hR'
    have hw3' := Lib.hid hw3
    have hb3' := Lib.hid hb3
    have xa3' := Lib.hid xa3
    have xb3' := Lib.hid xb3
    have xl3' := Lib.hid xl3
    have xh3' := Lib.hid xh3
    have c5' := Lib.hid c5
    have hR2' := Lib.hid hR2
    have hb2' := Lib.hid hb2
    clear hw3 hb3 xa3 xb3 xl3 xh3 c5 hR2 hb2
    go_wp2_with fail
    rw [hw3'.out]
    refine c5'.out.mono ?_
    rintro e w4 ⟨rfl, hB4⟩
    have hb4 := hb3'.out.trans (hB4.mono hb3'.out.size)
    have xa4 := xa3'.out.below hB4
    have xb4 := xb3'.out.below hB4
    have xl4 := xl3'.out.below hB4
    have xh4 := xh3'.out.below hB4
    obtain ⟨⟨a0'', a1''⟩, _, _⟩ := id xa4
    obtain ⟨⟨b0'', b1''⟩, _, _⟩ := id xb4
    clear hB4 hb3' xa3' xb3' xl3' xh3' c5' a0' a1' b0' b1' hw3' hb2'
    have hb4' := Lib.hid hb4
    have xa4' := Lib.hid xa4
    have xb4' := Lib.hid xb4
    have xl4' := Lib.hid xl4
    have xh4' := Lib.hid xh4
    clear hb4 xa4 xb4 xl4 xh4
    simp only at a0'' a1'' b0'' b1''
    go_wp2_with fail
    refine (c3'.out _).mono ?_
    rintro e w5 ⟨rfl, hB5⟩
    have hb5 := hb4'.out.trans (hB5.mono hb4'.out.size)
    have xa5 := xa4'.out.below hB5
    have xb5 := xb4'.out.below hB5
    have xl5 := xl4'.out.below hB5
    have xh5 := xh4'.out.below hB5
    clear hB5 hb4' xa4' xb4' xl4' xh4' c3' a0'' a1'' b0'' b1''
    obtain ⟨⟨a2, a3⟩, _, _⟩ := id xa5
    obtain ⟨⟨b2, b3⟩, _, _⟩ := id xb5
    simp only at a2 a3 b2 b3
    obtain ⟨g, hg⟩ : ∃ g, w5.heap.size = g := ⟨_, rfl⟩
    obtain ⟨w6, hw6⟩ : ∃ W, w5.alloc (.cells #[.bool false] 92) = W := ⟨_, rfl⟩
    have hB6 : Below w5.heap.size w5 w6 := by rw [← hw6]; exact (Below.refl _ _).alloc (Nat.le_refl _) _
    have hc6 : CalcAt w6 g false := by rw [← hg, ← hw6]; exact ⟨by simp [go_sem], by simp [go_sem]⟩
    have hb6 := hb5.trans (hB6.mono hb5.size)
    have hg0 : w.heap.size ≤ g := by rw [← hg]; exact hb5.size
    have q0 : w.heap.size < g := by have h := xa5.lt; omega
    have q1 : w.heap.size + 1 < g := by have h := xb5.lt; omega
    have q2 : ¬ w.heap.size = g := by omega
    have q3 : ¬ w.heap.size + 1 = g := by omega
    have q4 : w.heap.size + 1 + 1 < g := by have h := xl5.lt; omega
    have q5 : w.heap.size + 1 + 1 + 1 < g := by have h := xh5.lt; omega
    have c7 := c4'.out (by simp) g w6 hb6 hg0 hc6
    have xl6 := xl5.below hB6
    have xh6 := xh5.below hB6
    clear hB6 xa5 xb5 xl5 xh5 c4' hc6
    have hw6' := Lib.hid hw6
    have hb6' := Lib.hid hb6
    have hb5' := Lib.hid hb5
    have xl6' := Lib.hid xl6
    have xh6' := Lib.hid xh6
    have c7' := Lib.hid c7
    clear hw6 hb6 hb5 xl6 xh6 c7
    go_wp2_with fail
    rw [hw6'.out]
    refine c7'.out.mono ?_
    rintro e w7 ⟨rfl, hg7, hc7⟩
    have hb7 := below_gr hb6'.out hg0 hg7
    have xl7 := xl6'.out.grown hg7 (fun e => by have := Option.some.inj e; omega)
    have xh7 := xh6'.out.grown hg7 (fun e => by have := Option.some.inj e; omega)
    have k0 := hc7.1
    have hgl : g < w7.heap.size := hc7.lt
    have hll : w.heap.size + 1 + 1 < w7.heap.size := xl7.lt
    have hlh : w.heap.size + 1 + 1 + 1 < w7.heap.size := xh7.lt
    obtain ⟨⟨l0, l1⟩, ⟨h0, h1⟩⟩ := IS
    obtain ⟨⟨n0, n1⟩, f0, f1⟩ := id xl7
    obtain ⟨⟨n2, n3⟩, f2, f3⟩ := id xh7
    simp only at n0 n1 n2 n3 hR2'
    obtain ⟨w8, hw8⟩ : ∃ W, (w7.alloc (.cells #[.int .i64 l0, .int .i64 l1] 42)).alloc (.cells #[.int .i64 h0, .int .i64 h1] 42) = W := ⟨_, rfl⟩
    have hB8 : Below w7.heap.size w7 w8 := by rw [← hw8]; exact ((Below.refl _ _).alloc (Nat.le_refl _) _).alloc (by simp) _
    have hb8 := hb7.trans (hB8.mono hb7.size)
    have xl8 := xl7.below hB8
    have xh8 := xh7.below hB8
    have k8 := bkeep hB8 k0
    have y0 : w8.cell? ⟨w7.heap.size, 0, none⟩ = some (.int .i64 l0) := by rw [← hw8]; simp [go_sem]
    have y1 : w8.cell? ⟨w7.heap.size, 1, none⟩ = some (.int .i64 l1) := by rw [← hw8]; simp [go_sem]
    have y2 : w8.cell? ⟨w7.heap.size + 1, 0, none⟩ = some (.int .i64 h0) := by rw [← hw8]; simp [go_sem]
    have y3 : w8.cell? ⟨w7.heap.size + 1, 1, none⟩ = some (.int .i64 h1) := by rw [← hw8]; simp [go_sem]
    clear n0 n1 n2 n3 f0 f1 f2 f3 hB8 xl7 xh7 hg7 a2 a3 b2 b3 hb5' hb6' xl6' xh6' c7' hw6'
    have hset : ∀ (W : World), Below w.heap.size w W → ∀ z0 z1 z2 z3, Below w.heap.size w ((((W.setCell ⟨w.heap.size + 1 + 1, 0, none⟩ z0).setCell ⟨w.heap.size + 1 + 1, 1, none⟩ z1).setCell ⟨w.heap.size + 1 + 1 + 1, 0, none⟩ z2).setCell ⟨w.heap.size + 1 + 1 + 1, 1, none⟩ z3) := fun W hb z0 z1 z2 z3 => by
      have hle : ∀ o, w.heap.size ≤ w.heap.size + o := fun o => Nat.le_add_right _ _
      exact (((hb.setCell (p := ⟨w.heap.size + 1 + 1, 0, none⟩) (hle 2) _).setCell (p := ⟨w.heap.size + 1 + 1, 1, none⟩) (hle 2) _).setCell (p := ⟨w.heap.size + 1 + 1 + 1, 0, none⟩) (hle 3) _).setCell (p := ⟨w.heap.size + 1 + 1 + 1, 1, none⟩) (hle 3) _
    obtain ⟨⟨n0, n1⟩, f0, f1⟩ := id xl8
    obtain ⟨⟨n2, n3⟩, f2, f3⟩ := id xh8
    simp only at n0 n1 n2 n3
    have hR3 := hR2'.out
    cases IG
    · rw [if_neg (by decide)] at hR3
      subst hR3
      replace k8 : w8.cell? ⟨g, 0, none⟩ = some (.bool true) := k8
      have hbf := hset _ hb8 (.int .i64 0) (.int .i64 0) (.int .i64 0) (.int .i64 0)
      clear hR2' xl8 xh8 hset hc7 k0
      have hw8' := Lib.hid hw8
      have hb8' := Lib.hid hb8
      have hbf' := Lib.hid hbf
      have hb7' := Lib.hid hb7
      clear hw8 hb8 hbf hb7
      go_upto_region 5 with fail
      rw [hw8'.out]
      go_wp2
      exact bodyPost_ret (v := .tuple #[ratV (0, 0), ratV (0, 0), .bool false]) (by simp [results, Tryz.results34, go_sem, n0, n1, n2, n3, ratV]) rfl ⟨rfl, hbf'.out⟩
    · rw [if_pos rfl] at hR3
      subst hR3
      replace k8 : w8.cell? ⟨g, 0, none⟩ = some (.bool false) := k8
      have hbf := (hset _ hb8 (.int .i64 l0) (.int .i64 l1) (.int .i64 h0) (.int .i64 h1)).drew
      clear hR2' xl8 xh8 hset hc7 k0
      have hw8' := Lib.hid hw8
      have hb8' := Lib.hid hb8
      have hbf' := Lib.hid hbf
      have hb7' := Lib.hid hb7
      clear hw8 hb8 hbf hb7
      go_upto_region 5 with fail
      rw [hw8'.out]
      go_wp2_with fail
      go_region
      all_goals
        go_wp2
        exact bodyPost_ret (v := .tuple #[ratV (l0, l1), ratV (h0, h1), .bool true]) (by simp [results, Tryz.results34, go_sem, n0, n1, n2, n3, ratV]) rfl ⟨rfl, hbf'.out⟩
def ImageInterval_v (f : List Quad) (i : Quad) : Quad × Bool := if ivB i = true ∧ (ImageOf_v f i.1 i.2).2 = true ∧ ¬ (ImageOf_v f i.1 i.2).1.1 = (ImageOf_v f i.1 i.2).1.2 then ((ImageOf_v f i.1 i.2).1, true) else (zeroQ, false)
theorem imageOf_is (f : List Quad) (a b : Int × Int) : ImageOf_v f a b = if mapB f = true then imgR f a b else (((0, 0), (0, 0)), false) := rfl
theorem iiv_no {f : List Quad} {i : Quad} (h : mapB f = false ∨ ivB i = false) : ImageInterval_v f i = (zeroQ, false) := by
  unfold ImageInterval_v
  rw [if_neg]
  rintro ⟨h1, h2, _⟩
  rcases h with h | h
  · unfold ImageOf_v at h2
    rw [if_neg (by rw [h]; decide)] at h2
    cases h2
  · rw [h] at h1; cases h1
theorem iiv_bad {f : List Quad} {i : Quad} (_ : ivB i = true) (h : (ImageOf_v f i.1 i.2).2 = false) : ImageInterval_v f i = (zeroQ, false) := by
  unfold ImageInterval_v
  rw [if_neg]
  rintro ⟨_, h2, _⟩
  rw [h] at h2
  cases h2
theorem iiv_same {f : List Quad} {i : Quad} (_ : ivB i = true) (_ : (ImageOf_v f i.1 i.2).2 = true) (h : (ImageOf_v f i.1 i.2).1.1 = (ImageOf_v f i.1 i.2).1.2) : ImageInterval_v f i = (zeroQ, false) := by
  unfold ImageInterval_v
  rw [if_neg]
  rintro ⟨_, _, h3⟩
  exact h3 h
theorem iiv_yes {f : List Quad} {i : Quad} (h1 : ivB i = true) (h2 : (ImageOf_v f i.1 i.2).2 = true) (h : ¬ (ImageOf_v f i.1 i.2).1.1 = (ImageOf_v f i.1 i.2).1.2) : ImageInterval_v f i = ((ImageOf_v f i.1 i.2).1, true) := by
  unfold ImageInterval_v
  rw [if_pos ⟨h1, h2, h⟩]

set_option linter.unusedSimpArgs false in
set_option linter.unusedVariables false in
set_option maxRecDepth 10000 in
set_option maxHeartbeats 4000000 in
theorem implImageIv_any (v : Value) (f : List Quad) (i : Quad) (w : World) (hv : QuadV w v f) (hm : f.length ≤ 1099511627776) :
    Calls Tryz.prog 24 #[v, quadV i] w (Ret (.tuple #[quadV (ImageInterval_v f i).1, .bool (ImageInterval_v f i).2]) w) := by
  have c1 := fun w' => isInterval_any i w'
  have c2 := fun w' (hB : Below w.heap.size w w') (hq : ivB i = true) => implImageOf_any v f i.1 i.2 w' (hv.below hB) hm (ivB_true hq).1 (ivB_true hq).2.1 (iv_asym hq)
  have hno := iiv_no (f := f) (i := i)
  have hbad := iiv_bad (f := f) (i := i)
  have hsame := iiv_same (f := f) (i := i)
  have hyes := iiv_yes (f := f) (i := i)
  have hio := imageOf_is f i.1 i.2
  generalize ImageInterval_v f i = V at *
  generalize ImageOf_v f i.1 i.2 = R at *
  generalize ivB i = B at *
  obtain ⟨⟨p0, p1⟩, ⟨p2, p3⟩⟩ := i
  simp only at c2
  obtain ⟨w1, hw1⟩ : ∃ W, (w.alloc (.cells #[.int .i64 p0, .int .i64 p1, .int .i64 p2, .int .i64 p3] 44)).alloc (.cells #[.int .i64 0, .int .i64 0, .int .i64 0, .int .i64 0] 44) = W := ⟨_, rfl⟩
  have hB1 : Below w.heap.size w w1 := by rw [← hw1]; exact ((Below.refl _ _).alloc (Nat.le_refl _) _).alloc (by simp) _
  have xi : BoxQ w1 w.heap.size ((p0, p1), (p2, p3)) := by rw [← hw1]; refine ⟨?_, ?_, ?_, ?_⟩ <;> simp [go_sem]
  have xr : BoxW w1 (w.heap.size + 1) ((0, 0), (0, 0)) := by rw [← hw1]; refine ⟨⟨?_, ?_, ?_, ?_⟩, ?_, ?_, ?_, ?_⟩ <;> simp [go_sem]
  obtain ⟨rb, hrbe⟩ : ∃ b, w.heap.size + 1 = b := ⟨_, rfl⟩
  rw [hrbe] at xr
  have hrbl : w.heap.size ≤ rb := by omega
  obtain ⟨a0, a1, a2, a3⟩ := id xi
  rw [← hw1] at a0 a1 a2 a3
  clear hv hio
  have c1' := Lib.hid c1
  have c2' := Lib.hid c2
  have hno' := Lib.hid hno
  have hbad' := Lib.hid hbad
  have hsame' := Lib.hid hsame
  have hyes' := Lib.hid hyes
  have hw1' := Lib.hid hw1
  have xi' := Lib.hid xi
  have xr' := Lib.hid xr
  clear c1 c2 hno hbad hsame hyes hw1 xi xr
  show Calls _ _ #[_, .agg #[.int .i64 p0, .int .i64 p1, .int .i64 p2, .int .i64 p3]] w _
  go_enter Tryz.func24, Tryz.ntmps24
  go_wp2_with fail
  rw [hw1'.out]
  clear a0 a1 a2 a3
  go_wp2_with fail
  refine (c1'.out _).mono ?_
  rintro e w3 ⟨rfl, hB3⟩
  have hb3 := hB1.trans (hB3.mono hB1.size)
  have xi3 := xi'.out.below hB3
  have xr3 := xr'.out.grown (bgrow hB3 none) (by simp)
  clear hB3 hB1 xi' xr' hw1' c1'
  cases B
  · have hV := hno'.out (.inr (by simp))
    subst hV
    obtain ⟨⟨n0, n1, n2, n3⟩, f0, f1, f2, f3⟩ := id xr3
    have hbf := below_set4 hb3 hrbl ((0, 0), (0, 0))
    clear xi3 xr3 hb3
    have hbf' := Lib.hid hbf
    clear hbf
    go_wp2
    exact bodyPost_ret (v := .tuple #[quadV ((0, 0), (0, 0)), .bool false]) (by simp [results, Tryz.results24, go_sem, n0, n1, n2, n3, quadV]) rfl ⟨rfl, hbf'.out⟩
  · obtain ⟨a0, a1, a2, a3⟩ := id xi3
    simp only at a0 a1 a2 a3
    have c3 := c2'.out w3 hb3 (by simp)
    clear c2'
    have c3' := Lib.hid c3
    have hb3' := Lib.hid hb3
    have xi3' := Lib.hid xi3
    have xr3' := Lib.hid xr3
    clear c3 hb3 xi3 xr3
    go_wp2_with fail
    refine c3'.out.mono ?_
    rintro e w4 ⟨rfl, hB4⟩
    have hb4 := hb3'.out.trans (hB4.mono hb3'.out.size)
    have xr4 := xr3'.out.grown (bgrow hB4 none) (by simp)
    have hrl : rb < w4.heap.size := xr4.1.lt
    obtain ⟨⟨⟨l0, l1⟩, ⟨h0, h1⟩⟩, ro⟩ := R
    obtain ⟨⟨n0, n1, n2, n3⟩, f0, f1, f2, f3⟩ := id xr4
    simp only at n0 n1 n2 n3
    have hb5 := below_set4 hb4 hrbl ((0, 0), (0, 0))
    have hbf0 := (hb5.alloc hb5.size (.cells #[.int .i64 l0, .int .i64 l1] 42))
    have hbf := (hbf0.alloc hbf0.size (.cells #[.int .i64 h0, .int .i64 h1] 42))
    have hb6 := below_set4 hb4 hrbl ((l0, l1), (h0, h1))
    have hbg0 := (hb6.alloc hb6.size (.cells #[.int .i64 l0, .int .i64 l1] 42))
    have hbg := (hbg0.alloc hbg0.size (.cells #[.int .i64 h0, .int .i64 h1] 42))
    clear hB4 xr4 hb5 hb6 hbf0 hbg0 hb3' xi3' xr3' a0 a1 a2 a3
    simp only
    cases ro
    · have hV := hbad'.out (by simp) rfl
      subst hV
      have hbf' := Lib.hid hbf
      have hbg' := Lib.hid hbg
      have hb4' := Lib.hid hb4
      clear hbf hbg hb4
      go_wp2
      exact bodyPost_ret (v := .tuple #[quadV ((0, 0), (0, 0)), .bool false]) (by simp [results, Tryz.results24, go_sem, n0, n1, n2, n3, hrl, quadV]) rfl ⟨rfl, hbf'.out⟩
    · by_cases hs : l0 = h0 ∧ l1 = h1
      · obtain ⟨rfl, rfl⟩ := hs
        have hV := hsame'.out (by simp) rfl rfl
        subst hV
        have hbf' := Lib.hid hbf
        have hbg' := Lib.hid hbg
        have hb4' := Lib.hid hb4
        clear hbf hbg hb4
        go_wp2
        exact bodyPost_ret (v := .tuple #[quadV ((0, 0), (0, 0)), .bool false]) (by simp [results, Tryz.results24, go_sem, n0, n1, n2, n3, hrl, quadV]) rfl ⟨rfl, hbf'.out⟩
      · have hV := hyes'.out (by simp) rfl (fun e => hs (Prod.mk.inj e))
        simp only at hV
        subst hV
        have hne : ¬ l0 = h0 ∨ l0 = h0 ∧ ¬ l1 = h1 := by
          by_cases h : l0 = h0
          · exact .inr ⟨h, fun e => hs ⟨h, e⟩⟩
          · exact .inl h
        clear hs
        have hbf' := Lib.hid hbf
        have hbg' := Lib.hid hbg
        have hb4' := Lib.hid hb4
        clear hbf hbg hb4
        rcases hne with hne | ⟨rfl, hne⟩
        · go_wp2
          exact bodyPost_ret (v := .tuple #[quadV ((l0, l1), (h0, h1)), .bool true]) (by simp [results, Tryz.results24, go_sem, n0, n1, n2, n3, hrl, quadV]) rfl ⟨rfl, hbg'.out⟩
        · go_wp2
          exact bodyPost_ret (v := .tuple #[quadV ((l0, l1), (l0, h1)), .bool true]) (by simp [results, Tryz.results24, go_sem, n0, n1, n2, n3, hrl, quadV]) rfl ⟨rfl, hbg'.out⟩

set_option linter.unusedSimpArgs false in
set_option linter.unusedVariables false in
set_option maxRecDepth 10000 in
set_option maxHeartbeats 4000000 in
theorem specImageIv_any (v : Value) (f : List Quad) (i : Quad) (w : World) (hv : QuadV w v f) (hm : f.length ≤ 1099511627776) :
    Calls Tryz.prog 25 #[v, quadV i] w (Ret (.tuple #[quadV (ImageInterval_v f i).1, .bool (ImageInterval_v f i).2]) w) := by
  have c0 := fun w' (hB : Below w.heap.size w w') => imGood_any v f w' (hv.below hB) hm
  have c1 := fun w' => ivGood_any i w'
  have c2 := fun w' (hB : Below w.heap.size w w') (hq : ivB i = true) (hf : mapB f = true) => imImage_any v f i.1 i.2 w' (hv.below hB) (mapB_true hf) (ivB_true hq).1 (ivB_true hq).2.1
  have hno := iiv_no (f := f) (i := i)
  have hbad := iiv_bad (f := f) (i := i)
  have hsame := iiv_same (f := f) (i := i)
  have hyes := iiv_yes (f := f) (i := i)
  have hio := imageOf_is f i.1 i.2
  generalize ImageInterval_v f i = V at *
  obtain ⟨R, hR⟩ : ∃ R, ImageOf_v f i.1 i.2 = R := ⟨_, rfl⟩
  have hRi : mapB f = true → imgR f i.1 i.2 = R := fun h => by rw [← hR]; unfold ImageOf_v; rw [if_pos h]
  have hRf : mapB f = false → R.2 = false := fun h => by rw [← hR]; unfold ImageOf_v; rw [if_neg (by rw [h]; decide)]
  rw [hR] at hbad hsame hyes
  generalize imgR f i.1 i.2 = IR at *
  generalize mapB f = A at *
  clear hR hio
  generalize ivB i = B at *
  obtain ⟨⟨p0, p1⟩, ⟨p2, p3⟩⟩ := i
  simp only at c2
  obtain ⟨w1, hw1⟩ : ∃ W, (w.alloc (.cells #[.int .i64 p0, .int .i64 p1, .int .i64 p2, .int .i64 p3] 44)).alloc (.cells #[.int .i64 0, .int .i64 0, .int .i64 0, .int .i64 0] 44) = W := ⟨_, rfl⟩
  have hB1 : Below w.heap.size w w1 := by rw [← hw1]; exact ((Below.refl _ _).alloc (Nat.le_refl _) _).alloc (by simp) _
  have xi : BoxQ w1 w.heap.size ((p0, p1), (p2, p3)) := by rw [← hw1]; refine ⟨?_, ?_, ?_, ?_⟩ <;> simp [go_sem]
  have xr : BoxW w1 (w.heap.size + 1) ((0, 0), (0, 0)) := by rw [← hw1]; refine ⟨⟨?_, ?_, ?_, ?_⟩, ?_, ?_, ?_, ?_⟩ <;> simp [go_sem]
  obtain ⟨rb, hrbe⟩ : ∃ b, w.heap.size + 1 = b := ⟨_, rfl⟩
  rw [hrbe] at xr
  have hrbl : w.heap.size ≤ rb := by omega
  clear hv
  have c0' := Lib.hid c0
  have c1' := Lib.hid c1
  have c2' := Lib.hid c2
  have hno' := Lib.hid hno
  have hbad' := Lib.hid hbad
  have hsame' := Lib.hid hsame
  have hyes' := Lib.hid hyes
  have hw1' := Lib.hid hw1
  have xi' := Lib.hid xi
  have xr' := Lib.hid xr
  have hRi' := Lib.hid hRi
  have hRf' := Lib.hid hRf
  clear c0 c1 c2 hno hbad hsame hyes hw1 xi xr hRi hRf
  show Calls _ _ #[_, .agg #[.int .i64 p0, .int .i64 p1, .int .i64 p2, .int .i64 p3]] w _
  go_enter Tryz.func25, Tryz.ntmps25
  go_wp2_with fail
  rw [hw1'.out]
  go_wp2_with fail
  refine (c0'.out _ hB1).mono ?_
  rintro e w2 ⟨rfl, hB2⟩
  have hb2 := hB1.trans (hB2.mono hB1.size)
  have xi2 := xi'.out.below hB2
  have xr2 := xr'.out.grown (bgrow hB2 none) (by simp)
  clear hB2 hB1 xi' xr' hw1' c0'
  cases A
  · have hV := hno'.out (.inl (by simp))
    subst hV
    obtain ⟨⟨n0, n1, n2, n3⟩, f0, f1, f2, f3⟩ := id xr2
    have hbf := below_set4 hb2 hrbl ((0, 0), (0, 0))
    clear xi2 xr2 hb2
    have hbf' := Lib.hid hbf
    clear hbf
    go_wp2
    exact bodyPost_ret (v := .tuple #[quadV ((0, 0), (0, 0)), .bool false]) (by simp [results, Tryz.results25, go_sem, n0, n1, n2, n3, quadV]) rfl ⟨rfl, hbf'.out⟩
  · obtain ⟨a0, a1, a2, a3⟩ := id xi2
    simp only at a0 a1 a2 a3
    have hb2' := Lib.hid hb2
    have xi2' := Lib.hid xi2
    have xr2' := Lib.hid xr2
    clear hb2 xi2 xr2
    go_wp2_with fail
    refine (c1'.out _).mono ?_
    rintro e w3 ⟨rfl, hB3⟩
    have hb3 := hb2'.out.trans (hB3.mono hb2'.out.size)
    have xi3 := xi2'.out.below hB3
    have xr3 := xr2'.out.grown (bgrow hB3 none) (by simp)
    clear hB3 hb2' xi2' xr2' c1' a0 a1 a2 a3
    cases B
    · have hV := hno'.out (.inr (by simp))
      subst hV
      obtain ⟨⟨n0, n1, n2, n3⟩, f0, f1, f2, f3⟩ := id xr3
      have hbf := below_set4 hb3 hrbl ((0, 0), (0, 0))
      clear xi3 xr3 hb3
      have hbf' := Lib.hid hbf
      clear hbf
      go_wp2
      exact bodyPost_ret (v := .tuple #[quadV ((0, 0), (0, 0)), .bool false]) (by simp [results, Tryz.results25, go_sem, n0, n1, n2, n3, quadV]) rfl ⟨rfl, hbf'.out⟩
    · obtain ⟨a0, a1, a2, a3⟩ := id xi3
      simp only at a0 a1 a2 a3
      have c3 := c2'.out w3 hb3 (by simp) (by simp)
      have hRe := hRi'.out (by simp)
      subst hRe
      clear c2' hRi' hRf'
      have c3' := Lib.hid c3
      have hb3' := Lib.hid hb3
      have xi3' := Lib.hid xi3
      have xr3' := Lib.hid xr3
      clear c3 hb3 xi3 xr3
      go_wp2_with fail
      refine c3'.out.mono ?_
      rintro e w4 ⟨rfl, hB4⟩
      have hb4 := hb3'.out.trans (hB4.mono hb3'.out.size)
      have xr4 := xr3'.out.grown (bgrow hB4 none) (by simp)
      have hrl : rb < w4.heap.size := xr4.1.lt
      obtain ⟨⟨⟨l0, l1⟩, ⟨h0, h1⟩⟩, ro⟩ := IR
      obtain ⟨⟨n0, n1, n2, n3⟩, f0, f1, f2, f3⟩ := id xr4
      simp only at n0 n1 n2 n3
      have hb5 := below_set4 hb4 hrbl ((0, 0), (0, 0))
      have hbf0 := (hb5.alloc hb5.size (.cells #[.int .i64 l0, .int .i64 l1] 42))
      have hbf := (hbf0.alloc hbf0.size (.cells #[.int .i64 h0, .int .i64 h1] 42))
      have hb6 := below_set4 hb4 hrbl ((l0, l1), (h0, h1))
      have hbg0 := (hb6.alloc hb6.size (.cells #[.int .i64 l0, .int .i64 l1] 42))
      have hbg := (hbg0.alloc hbg0.size (.cells #[.int .i64 h0, .int .i64 h1] 42))
      clear hB4 xr4 hb5 hb6 hbf0 hbg0 hb3' xi3' xr3' a0 a1 a2 a3
      simp only
      cases ro
      · have hV := hbad'.out (by simp) rfl
        subst hV
        have hbf' := Lib.hid hbf
        have hbg' := Lib.hid hbg
        have hb4' := Lib.hid hb4
        clear hbf hbg hb4
        go_wp2
        exact bodyPost_ret (v := .tuple #[quadV ((0, 0), (0, 0)), .bool false]) (by simp [results, Tryz.results25, go_sem, n0, n1, n2, n3, hrl, quadV]) rfl ⟨rfl, hbf'.out⟩
      · by_cases hs : l0 = h0 ∧ l1 = h1
        · obtain ⟨rfl, rfl⟩ := hs
          have hV := hsame'.out (by simp) rfl rfl
          subst hV
          have hbf' := Lib.hid hbf
          have hbg' := Lib.hid hbg
          have hb4' := Lib.hid hb4
          clear hbf hbg hb4
          go_wp2
          exact bodyPost_ret (v := .tuple #[quadV ((0, 0), (0, 0)), .bool false]) (by simp [results, Tryz.results25, go_sem, n0, n1, n2, n3, hrl, quadV]) rfl ⟨rfl, hbf'.out⟩
        · have hV := hyes'.out (by simp) rfl (fun e => hs (Prod.mk.inj e))
          simp only at hV
          subst hV
          have hne : ¬ l0 = h0 ∨ l0 = h0 ∧ ¬ l1 = h1 := by
            by_cases h : l0 = h0
            · exact .inr ⟨h, fun e => hs ⟨h, e⟩⟩
            · exact .inl h
          clear hs
          have hbf' := Lib.hid hbf
          have hbg' := Lib.hid hbg
          have hb4' := Lib.hid hb4
          clear hbf hbg hb4
          rcases hne with hne | ⟨rfl, hne⟩
          · go_wp2
            exact bodyPost_ret (v := .tuple #[quadV ((l0, l1), (h0, h1)), .bool true]) (by simp [results, Tryz.results25, go_sem, n0, n1, n2, n3, hrl, quadV]) rfl ⟨rfl, hbg'.out⟩
          · go_wp2
            exact bodyPost_ret (v := .tuple #[quadV ((l0, l1), (l0, h1)), .bool true]) (by simp [results, Tryz.results25, go_sem, n0, n1, n2, n3, hrl, quadV]) rfl ⟨rfl, hbg'.out⟩
end Go.Proofs.YtfhhofecfllbfaaGreat

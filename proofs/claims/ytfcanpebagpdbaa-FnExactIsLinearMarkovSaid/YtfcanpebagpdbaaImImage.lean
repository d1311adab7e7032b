/- The reference's image of an interval. No conditions but valid maps. -/
import Derived.Test.YtfcanpebagpdbaaCimage
import Derived.Test.YtfcanpebagpdbaaOrbit
import Derived.Test.YtfcanpebagpdbaaPkE
namespace Go.Proofs.Ytfcanpebagpdbaa
open Go.RowKit

/-- The image, or nothing where a value is too large. -/
def imgR (f : List Quad) (a b : Int × Int) : ((Int × Int) × (Int × Int)) × Bool := if imgOk f a b = true then (imS f a b f.length, true) else (((0, 0), (0, 0)), false)
theorem imgR_ok {f : List Quad} {a b : Int × Int} (h : imgOk f a b = true) : imgR f a b = (imS f a b f.length, true) := by unfold imgR; rw [if_pos h]
theorem imgR_bad {f : List Quad} {a b : Int × Int} (h : imgOk f a b = false) : imgR f a b = (((0, 0), (0, 0)), false) := by unfold imgR; rw [if_neg (by rw [h]; decide)]
/-- Low and high after the first j values. -/
def fdJ (y : Int × Int) (l : List (Int × Int)) (j : Nat) : (Int × Int) × (Int × Int) := fold2 y (l.take j)
theorem fdJ_zero (y : Int × Int) (l : List (Int × Int)) : fdJ y l 0 = (y, y) := rfl
theorem fdJ_step {y : Int × Int} {l : List (Int × Int)} {j : Nat} (h : j < l.length) : fdJ y l (j + 1) = (lessR (fdJ y l j).1 (nthR l j), greatR (fdJ y l j).2 (nthR l j)) := by
  unfold fdJ fold2; rw [take_nthR h, List.foldl_append]; rfl
theorem fdJ_end (y : Int × Int) (l : List (Int × Int)) : fdJ y l l.length = fold2 y l := by unfold fdJ; rw [List.take_of_length_le (Nat.le_refl _)]
theorem fdJ_good {y : Int × Int} {l : List (Int × Int)} (hy : goodR y.1 y.2 = true) (hl : ∀ z ∈ l, goodR z.1 z.2 = true) (j : Nat) : goodR (fdJ y l j).1.1 (fdJ y l j).1.2 = true ∧ goodR (fdJ y l j).2.1 (fdJ y l j).2.2 = true :=
  fold2_good _ _ hy hy (fun z hz => hl z (List.mem_of_mem_take hz))

theorem Two.refl (b c : Nat) (w : World) : Two b c w w := ⟨rfl, rfl, rfl, Nat.le_refl _, fun _ _ _ _ => rfl⟩
theorem Two.below {b c : Nat} {w w1 w2 : World} (h : Two b c w w1) (hB : Below w1.heap.size w1 w2) : Two b c w w2 :=
  ⟨hB.os.trans h.1, hB.tape.trans h.2.1, hB.output.trans h.2.2.1, Nat.le_trans h.2.2.2.1 hB.size, fun k hk h1 h2 => (hB.block k (Nat.lt_of_lt_of_le hk h.2.2.2.1)).trans (h.2.2.2.2 k hk h1 h2)⟩
theorem Two.setL {b c : Nat} {w w1 : World} (h : Two b c w w1) (o : Nat) (u : Value) : Two b c w (w1.setCell ⟨b, o, none⟩ u) :=
  ⟨h.1, h.2.1, h.2.2.1, by simpa [World.setCell] using h.2.2.2.1, fun k hk h1 h2 => (Below.heap_setCell _ _ _ _ (by exact h1)).trans (h.2.2.2.2 k hk h1 h2)⟩
theorem Two.setR {b c : Nat} {w w1 : World} (h : Two b c w w1) (o : Nat) (u : Value) : Two b c w (w1.setCell ⟨c, o, none⟩ u) :=
  ⟨h.1, h.2.1, h.2.2.1, by simpa [World.setCell] using h.2.2.2.1, fun k hk h1 h2 => (Below.heap_setCell _ _ _ _ (by exact h2)).trans (h.2.2.2.2 k hk h1 h2)⟩
theorem Two.cell {b c x o : Nat} {v : Value} {w w1 : World} (h : Two b c w w1) (hc : w.cell? ⟨x, o, none⟩ = some v) (h1 : x ≠ b) (h2 : x ≠ c) : w1.cell? ⟨x, o, none⟩ = some v := by
  have hb := h.2.2.2.2 x (World.block_lt_of_cell? w _ hc) h1 h2
  rw [← hc]; unfold World.cell?; simp only [hb]
theorem Two.under {b c E : Nat} {w0 w w1 : World} (h : Below E w0 w) (ht : Two b c w w1) (h1 : E ≤ b) (h2 : E ≤ c) (h3 : E ≤ w.heap.size) : Below E w0 w1 :=
  ⟨ht.1.trans h.os, ht.2.1.trans h.tape, ht.2.2.1.trans h.output, Nat.le_trans h.size ht.2.2.2.1, fun k hk => (ht.2.2.2.2 k (by omega) (by omega) (by omega)).trans (h.block k hk)⟩
theorem BoxR.set2 {w : World} {b : Nat} {x : Int × Int} (h : BoxR w b x) (y : Int × Int) : BoxR ((w.setCell ⟨b, 0, none⟩ (.int .i64 y.1)).setCell ⟨b, 1, none⟩ (.int .i64 y.2)) b y := by
  obtain ⟨⟨h0, h1⟩, h2, h3⟩ := h
  refine ⟨⟨?_, ?_⟩, ?_, ?_⟩ <;> simp [go_sem, h0, h1, h2, h3]
set_option linter.unusedSimpArgs false in
theorem BoxR.setO {w : World} {b c o : Nat} {x : Int × Int} (h : BoxR w b x) (hne : b ≠ c) (u : Value) : BoxR (w.setCell ⟨c, o, none⟩ u) b x := by
  obtain ⟨⟨h0, h1⟩, h2, h3⟩ := h
  have hne2 := hne.symm
  refine ⟨⟨?_, ?_⟩, ?_, ?_⟩ <;> simp [go_sem, h0, h1, h2, h3, hne, hne2]
theorem BoxR.belowE {w w' : World} {b E : Nat} {x : Int × Int} (h : BoxR w b x) (hB : Below E w w') (hE : b < E) : BoxR w' b x := by
  have hb := hB.block b hE
  obtain ⟨⟨h0, h1⟩, h2, h3⟩ := h
  refine ⟨⟨?_, ?_⟩, ?_, ?_⟩
  · rw [← h0]; unfold World.cell?; simp only [hb]
  · rw [← h1]; unfold World.cell?; simp only [hb]
  · rw [← h2]; unfold World.frozen?; simp only [hb]
  · rw [← h3]; unfold World.frozen?; simp only [hb]

set_option linter.unusedSimpArgs false in
set_option maxRecDepth 10000 in
set_option maxHeartbeats 4000000 in
/-- A value is too large. -/
theorem imImage_bad (v : Value) (a b x y : Int × Int) (o1 o2 : Bool) (w : World) (ho : (o1 && o2) = false)
    (c1 : ∀ w', Below w.heap.size w w' → Calls Try.prog 70 #[v, .agg #[.int .i64 a.1, .int .i64 a.2]] w' (Ret (.tuple #[ratV x, .bool o1]) w'))
    (c2 : ∀ w', Below w.heap.size w w' → Calls Try.prog 70 #[v, .agg #[.int .i64 b.1, .int .i64 b.2]] w' (Ret (.tuple #[ratV y, .bool o2]) w')) :
    Calls Try.prog 100 #[v, .agg #[.int .i64 a.1, .int .i64 a.2], .agg #[.int .i64 b.1, .int .i64 b.2]] w (Ret (.tuple #[ratV (0, 0), ratV (0, 0), .bool false]) w) := by
  obtain ⟨a0, a1⟩ := a
  obtain ⟨b0, b1⟩ := b
  obtain ⟨x0, x1⟩ := x
  obtain ⟨y0, y1⟩ := y
  simp only at c1 c2
  obtain ⟨w1, hw1⟩ : ∃ W, (((w.alloc (.cells #[.int .i64 a0, .int .i64 a1] 34)).alloc (.cells #[.int .i64 b0, .int .i64 b1] 34)).alloc (.cells #[.int .i64 0, .int .i64 0] 34)).alloc (.cells #[.int .i64 0, .int .i64 0] 34) = W := ⟨_, rfl⟩
  have hB1 : Below w.heap.size w w1 := by rw [← hw1]; exact ((((Below.refl _ _).alloc (Nat.le_refl _) _).alloc (by simp) _).alloc (by simp; omega) _).alloc (by simp; omega) _
  have hz1 : w1.heap.size = w.heap.size + 4 := by rw [← hw1]; simp
  have k1 : BoxR w1 (w.heap.size + 1) (b0, b1) := by rw [← hw1]; refine ⟨⟨?_, ?_⟩, ?_, ?_⟩ <;> simp [go_sem]
  have k2 : BoxR w1 (w.heap.size + 1 + 1) (0, 0) := by rw [← hw1]; refine ⟨⟨?_, ?_⟩, ?_, ?_⟩ <;> simp [go_sem]
  have k3 : BoxR w1 (w.heap.size + 1 + 1 + 1) (0, 0) := by rw [← hw1]; refine ⟨⟨?_, ?_⟩, ?_, ?_⟩ <;> simp [go_sem]
  have cc1 := c1 w1 hB1
  clear c1
  have cc1' := Lib.hid cc1
  have c2' := Lib.hid c2
  have hw1' := Lib.hid hw1
  have k1' := Lib.hid k1
  have k2' := Lib.hid k2
  have k3' := Lib.hid k3
  clear cc1 c2 hw1 k1 k2 k3
  show Calls _ _ #[_, .agg #[.int .i64 a0, .int .i64 a1], .agg #[.int .i64 b0, .int .i64 b1]] w _
  go_enter Try.func100, Try.ntmps100
  go_wp2_with fail
  rw [hw1'.out]
  go_wp2_with fail
  refine (cc1'.out).mono ?_
  rintro e w2 ⟨rfl, hB2⟩
  obtain ⟨w3, hw3⟩ : ∃ W, w2.alloc (.cells #[.int .i64 x0, .int .i64 x1] 34) = W := ⟨_, rfl⟩
  have hB3 : Below w1.heap.size w1 w3 := by rw [← hw3]; exact hB2.alloc hB2.size _
  have k1 := k1'.out.below hB3
  have k2 := k2'.out.below hB3
  have k3 := k3'.out.below hB3
  have hb3 := hB1.trans (hB3.mono hB1.size)
  have cc2 := c2'.out w3 hb3
  obtain ⟨⟨q0, q1⟩, _, _⟩ := id k1
  rw [← hw3] at q0 q1
  clear hB2 hB3 hB1 k1'
  have cc2' := Lib.hid cc2
  have hw3' := Lib.hid hw3
  have k1' := Lib.hid k1
  have k2' := Lib.hid k2
  have k3' := Lib.hid k3
  have hb3' := Lib.hid hb3
  clear cc2 hw3 k1 k2 k3 hb3
  go_wp2_with fail
  rw [hw3'.out]
  clear q0 q1
  go_wp2_with fail
  refine (cc2'.out).mono ?_
  rintro e w4 ⟨rfl, hB4⟩
  obtain ⟨w5, hw5⟩ : ∃ W, w4.alloc (.cells #[.int .i64 y0, .int .i64 y1] 34) = W := ⟨_, rfl⟩
  have hB5 : Below w3.heap.size w3 w5 := by rw [← hw5]; exact hB4.alloc hB4.size _
  obtain ⟨⟨p0, p1⟩, p2, p3⟩ := k2'.out.below hB5
  obtain ⟨⟨q0, q1⟩, q2, q3⟩ := k3'.out.below hB5
  have hb5 := hb3'.out.trans (hB5.mono hb3'.out.size)
  rw [← hw5] at p0 p1 p2 p3 q0 q1 q2 q3
  have hse : ∀ (W : World), Below w.heap.size w W → ∀ (b : Nat) o u, w.heap.size ≤ b → Below w.heap.size w (W.setCell ⟨b, o, none⟩ u) := fun W h b o u hb => h.setCell (p := ⟨b, o, none⟩) hb u
  rw [← hw5] at hb5
  clear hw5 hB5 hB4 k2' k3' k1'
  have hb5' := Lib.hid hb5
  have hse' := Lib.hid hse
  clear hb5 hse
  cases o1 <;> cases o2
  case true.true => cases ho
  all_goals
    go_wp2
    refine bodyPost_ret (v := .tuple #[ratV (0, 0), ratV (0, 0), .bool false]) (by simp [results, Try.results100, go_sem, p0, p1, q0, q1, ratV]) rfl ⟨rfl, ?_⟩
    iterate 4 refine hse'.out _ ?_ _ _ _ (by omega)
    exact hb5'.out

set_option linter.unusedSimpArgs false in
set_option maxRecDepth 10000 in
set_option maxHeartbeats 4000000 in
/-- Both values are told. -/
theorem imImage_ok (v : Value) (f : List Quad) (a b : Int × Int) (w : World) (hv : QuadV w v f) (hf : MapP f) (ha : unitR a.1 a.2 = true) (hb : unitR b.1 b.2 = true) (h1 : atOk f a = true) (h2 : atOk f b = true) :
    Calls Try.prog 100 #[v, .agg #[.int .i64 a.1, .int .i64 a.2], .agg #[.int .i64 b.1, .int .i64 b.2]] w (Ret (.tuple #[ratV (imS f a b f.length).1, ratV (imS f a b f.length).2, .bool true]) w) := by
  have c1 := fun w' (hB : Below w.heap.size w w') => imAt_any v f a w' (hv.below hB) hf ha
  have c2 := fun w' (hB : Below w.heap.size w w') => imAt_any v f b w' (hv.below hB) hf hb
  rw [atR_ok h1] at c1
  rw [atR_ok h2] at c2
  have hgV := imV_good hf a b f.length (Nat.le_refl _)
  have hlV := imV_len f a b
  have gL := atZ_good f a
  have hS : imS f a b f.length = fdJ (atZ f a) (imV f a b f.length) (imV f a b f.length).length := (fdJ_end _ _).symm
  rw [hS]
  have hV0 : imV f a b 0 = [atZ f b] := rfl
  have hstep : ∀ k, imV f a b (k + 1) = if midB a b (nth4 f k) = true then imV f a b k ++ [(nth4 f k).2] else imV f a b k := fun k => rfl
  have hmid : ∀ k, midB a b (nth4 f k) = (decide (cmpN a.1 a.2 (nth4 f k).1.1 (nth4 f k).1.2 < 0) && decide (cmpN (nth4 f k).1.1 (nth4 f k).1.2 b.1 b.2 < 0)) := fun k => by rw [cmpN_lt, cmpN_lt]; rfl
  have cm1 := fun (k : Nat) (w' : World) (h : k < f.length) => raCmp_any a.1 a.2 (nth4 f k).1.1 (nth4 f k).1.2 w' (unit_bd ha) (unit_bd (coordR_unit (hf.coord k h).1))
  have cm2 := fun (k : Nat) (w' : World) (h : k < f.length) => raCmp_any (nth4 f k).1.1 (nth4 f k).1.2 b.1 b.2 w' (unit_bd (coordR_unit (hf.coord k h).1)) (unit_bd hb)
  generalize imV f a b = V at *
  generalize atZ f a = L at *
  generalize atZ f b = E at *
  clear hS h1 h2
  obtain ⟨a0, a1⟩ := a
  obtain ⟨b0, b1⟩ := b
  obtain ⟨l0, l1⟩ := L
  obtain ⟨e0, e1⟩ := E
  simp only at c1 c2 cm1 cm2 hmid
  have hlen := hf.len
  clear hf ha hb
  obtain ⟨w1, hw1⟩ : ∃ W, (((w.alloc (.cells #[.int .i64 a0, .int .i64 a1] 34)).alloc (.cells #[.int .i64 b0, .int .i64 b1] 34)).alloc (.cells #[.int .i64 0, .int .i64 0] 34)).alloc (.cells #[.int .i64 0, .int .i64 0] 34) = W := ⟨_, rfl⟩
  have hB1 : Below w.heap.size w w1 := by rw [← hw1]; exact ((((Below.refl _ _).alloc (Nat.le_refl _) _).alloc (by simp) _).alloc (by simp; omega) _).alloc (by simp; omega) _
  have hz1 : w1.heap.size = w.heap.size + 4 := by rw [← hw1]; simp
  have k0 : BoxR w1 w.heap.size (a0, a1) := by rw [← hw1]; exact (((BoxR.lit w (a0, a1)).alloc _).alloc _).alloc _
  have k1 : BoxR w1 (w.heap.size + 1) (b0, b1) := by rw [← hw1]; refine ⟨⟨?_, ?_⟩, ?_, ?_⟩ <;> simp [go_sem]
  have k2 : BoxR w1 (w.heap.size + 1 + 1) (0, 0) := by rw [← hw1]; refine ⟨⟨?_, ?_⟩, ?_, ?_⟩ <;> simp [go_sem]
  have k3 : BoxR w1 (w.heap.size + 1 + 1 + 1) (0, 0) := by rw [← hw1]; refine ⟨⟨?_, ?_⟩, ?_, ?_⟩ <;> simp [go_sem]
  have cc1 := c1 w1 hB1
  obtain ⟨ao, cap, rfl, _, _, H⟩ := hv.form
  obtain ⟨n, hn⟩ : ∃ n, f.length = n := ⟨_, rfl⟩
  rw [hn] at H hgV cm1 cm2 hlen cc1 c2 ⊢
  obtain ⟨m, hm⟩ : ∃ m, (V n).length = m := ⟨_, rfl⟩
  rw [hm]
  have hm1 : 1 ≤ m ∧ m ≤ 1048576 := by have := hlV n; omega
  have hVl : ∀ k, k ≤ n → (V k).length ≤ 1048576 := fun k hk => by have := (hlV k).2; omega
  have hst2 := fun (j : Nat) (h : j < m) => fdJ_step (y := (l0, l1)) (l := V n) (j := j) (by rw [hm]; exact h)
  have hgd := fdJ_good gL hgV
  have hz2 := fdJ_zero (l0, l1) (V n)
  have hgn : ∀ j, j < m → goodR (nthR (V n) j).1 (nthR (V n) j).2 = true := fun j hj => by
    rw [← hm] at hj
    rw [nthR_eq hj]; exact hgV _ (List.getElem_mem hj)
  generalize fdJ (l0, l1) (V n) = FJ at *
  clear c1 hv hgV hlV
  have cc1' := Lib.hid cc1
  have c2' := Lib.hid c2
  have hw1' := Lib.hid hw1
  have k0' := Lib.hid k0
  have k1' := Lib.hid k1
  have k2' := Lib.hid k2
  have k3' := Lib.hid k3
  have hn' := Lib.hid hn
  have H' := Lib.hid H
  have hV0' := Lib.hid hV0
  have hstep' := Lib.hid hstep
  have hmid' := Lib.hid hmid
  have cm1' := Lib.hid cm1
  have cm2' := Lib.hid cm2
  have hm' := Lib.hid hm
  have hVl' := Lib.hid hVl
  have hst2' := Lib.hid hst2
  have hgd' := Lib.hid hgd
  have hz2' := Lib.hid hz2
  have hgn' := Lib.hid hgn
  clear cc1 c2 hw1 k0 k1 k2 k3 hn H hV0 hstep hmid cm1 cm2 hm hVl hst2 hgd hz2 hgn
  show Calls _ _ #[_, .agg #[.int .i64 a0, .int .i64 a1], .agg #[.int .i64 b0, .int .i64 b1]] w _
  go_enter Try.func100, Try.ntmps100
  go_wp2_with fail
  rw [hw1'.out]
  go_wp2_with fail
  refine (cc1'.out).mono ?_
  rintro e w2 ⟨rfl, hB2⟩
  obtain ⟨w3, hw3⟩ : ∃ W, w2.alloc (.cells #[.int .i64 l0, .int .i64 l1] 34) = W := ⟨_, rfl⟩
  have hB3 : Below w1.heap.size w1 w3 := by rw [← hw3]; exact hB2.alloc hB2.size _
  have m0 := k0'.out.below hB3
  have m1 := k1'.out.below hB3
  have m2 := k2'.out.below hB3
  have m3 := k3'.out.below hB3
  have mL : BoxR w3 w2.heap.size (l0, l1) := by rw [← hw3]; exact BoxR.lit w2 (l0, l1)
  have hs2 : w.heap.size + 4 ≤ w2.heap.size := by have := hB2.size; omega
  have hs3 : w3.heap.size = w2.heap.size + 1 := by rw [← hw3]; simp
  have hb3 := hB1.trans (hB3.mono hB1.size)
  have cc2 := c2'.out w3 hb3
  obtain ⟨⟨q0, q1⟩, _, _⟩ := id m1
  rw [← hw3] at q0 q1
  clear hB2 hB3 hB1 k0' k1' k2' k3'
  obtain ⟨bl, hbl⟩ : ∃ bl, w2.heap.size = bl := ⟨_, rfl⟩
  have cc2' := Lib.hid cc2
  have hw3' := Lib.hid hw3
  have m0' := Lib.hid m0
  have m1' := Lib.hid m1
  have m2' := Lib.hid m2
  have m3' := Lib.hid m3
  have mL' := Lib.hid mL
  have hb3' := Lib.hid hb3
  clear cc2 hw3 m0 m1 m2 m3 mL hb3
  go_wp2_with fail
  rw [hw3'.out]
  clear q0 q1
  go_wp2_with fail
  refine (cc2'.out).mono ?_
  rintro e w4 ⟨rfl, hB4⟩
  obtain ⟨w5, hw5⟩ : ∃ W, ((w4.alloc (.cells #[.int .i64 e0, .int .i64 e1] 34)).alloc (.cells #[.int .i64 l0, .int .i64 l1] 34)).alloc (.cells #[.int .i64 e0, .int .i64 e1] 34) = W := ⟨_, rfl⟩
  have hB5 : Below w3.heap.size w3 w5 := by rw [← hw5]; exact ((hB4.alloc hB4.size _).alloc (by have := hB4.size; simp; omega) _).alloc (by have := hB4.size; simp; omega) _
  have hs4 : w3.heap.size ≤ w4.heap.size := hB4.size
  have n0 := m0'.out.below hB5
  have n1 := m1'.out.below hB5
  have n2 := m2'.out.below hB5
  have n3 := m3'.out.below hB5
  have nL := mL'.out.below hB5
  have nH : BoxR w5 (w4.heap.size + 1) (l0, l1) := by rw [← hw5]; refine ⟨⟨?_, ?_⟩, ?_, ?_⟩ <;> simp [go_sem]
  have hg : GrowR w5 (w4.heap.size + 1 + 1) (.slice (some ⟨w4.heap.size + 1 + 1, 0, none⟩) 1 1) (V 0) := by
    have := GrowR.lit ((w4.alloc (.cells #[.int .i64 e0, .int .i64 e1] 34)).alloc (.cells #[.int .i64 l0, .int .i64 l1] 34)) (e0, e1)
    rw [hV0'.out, ← hw5]
    simpa using this
  have hb5 := hb3'.out.trans (hB5.mono hb3'.out.size)
  have hs5 : w5.heap.size = w4.heap.size + 3 := by rw [← hw5]; simp
  obtain ⟨⟨q0, q1⟩, _, _⟩ := id (mL'.out.below hB4)
  rw [hbl] at nL q0 q1
  obtain ⟨bh, hbh⟩ : ∃ bh, w4.heap.size + 1 = bh := ⟨_, rfl⟩
  rw [hbh] at nH
  have hne : bl ≠ bh := by omega
  obtain ⟨bV, hbV⟩ : ∃ bV, w4.heap.size + 1 + 1 = bV := ⟨_, rfl⟩
  rw [hbV] at hg
  have hlt1 : bl < w4.heap.size := by omega
  clear hB4 hB5 m0' m1' m2' m3' mL' cc1' cc2' hw1' hw3' hb3'
  have hw5' := Lib.hid hw5
  have n0' := Lib.hid n0
  have n1' := Lib.hid n1
  have n2' := Lib.hid n2
  have n3' := Lib.hid n3
  have nL' := Lib.hid nL
  have nH' := Lib.hid nH
  have hg' := Lib.hid hg
  have hb5' := Lib.hid hb5
  clear hw5 n0 n1 n2 n3 nL nH hg hb5
  have hne2 := hne.symm
  have hbb : bl < bV ∧ bh < bV ∧ w.heap.size + 4 ≤ bl ∧ w.heap.size + 4 ≤ bh ∧ bV < w5.heap.size := by omega
  clear hbl hs2 hs3 hs4 hs5
  have hbh' := Lib.hid hbh
  have hbV' := Lib.hid hbV
  clear hbh hbV
  go_wp2_with fail
  rw [hw5'.out, hbV'.out, hbh'.out]
  clear q0 q1 hw5' hbh' hbV'
  go_loopw [14, 44] (fun o i wr => ∃ k : Nat, k ≤ n ∧ i = .int .i64 k ∧ GrowR wr bV o (V k) ∧ Below bV w5 wr) (fun _ i _ => n - (intOf i).toNat)
  case atStart => exact ⟨0, Nat.zero_le _, rfl, hg'.out, Below.refl _ _⟩
  case round =>
    obtain ⟨k, hk, rfl, hgr, hbr⟩ := hrel
    clear hg'
    have r0 := n0'.out.belowE hbr (by omega)
    have r1 := n1'.out.belowE hbr (by omega)
    have r2 := n2'.out.belowE hbr (by omega)
    have r3 := n3'.out.belowE hbr (by omega)
    have rL := nL'.out.belowE hbr (by omega)
    have rH := nH'.out.belowE hbr (by omega)
    have hbw := hb5'.out.trans (hbr.mono (by omega))
    have hsr := hbr.size
    clear n0' n1' n2' n3' nL' nH' hb5'
    by_cases hlt : k < n
    · obtain ⟨bb, off, rfl, p0, p1, p2, p3⟩ := H'.out k hlt
      replace p0 := bkeep hbw p0
      replace p1 := bkeep hbw p1
      replace p2 := bkeep hbw p2
      replace p3 := bkeep hbw p3
      have cc1 := fun w' => cm1'.out k w' hlt
      have cc2 := fun w' => cm2'.out k w' hlt
      have hst := hstep'.out k
      have hVk := hVl'.out k hk
      rw [hmid'.out k] at hst
      generalize cmpN a0 a1 (nth4 f k).1.1 (nth4 f k).1.2 = U at *
      generalize cmpN (nth4 f k).1.1 (nth4 f k).1.2 b0 b1 = L at *
      generalize nth4 f k = P at *
      obtain ⟨⟨q0, q1⟩, ⟨q2, q3⟩⟩ := P
      simp only at p0 p1 p2 p3 cc1 cc2 hst
      obtain ⟨w6, hw6⟩ : ∃ W, wr.alloc (.cells #[.int .i64 q0, .int .i64 q1, .int .i64 q2, .int .i64 q3] 73) = W := ⟨_, rfl⟩
      have hB6 : Below wr.heap.size wr w6 := by rw [← hw6]; exact (Below.refl _ _).alloc (Nat.le_refl _) _
      have i0 : w6.cell? ⟨wr.heap.size, 0, none⟩ = some (.int .i64 q0) := by rw [← hw6]; simp [go_sem]
      have i1 : w6.cell? ⟨wr.heap.size, 1, none⟩ = some (.int .i64 q1) := by rw [← hw6]; simp [go_sem]
      have i2 : w6.cell? ⟨wr.heap.size, 2, none⟩ = some (.int .i64 q2) := by rw [← hw6]; simp [go_sem]
      have i3 : w6.cell? ⟨wr.heap.size, 3, none⟩ = some (.int .i64 q3) := by rw [← hw6]; simp [go_sem]
      have s0 := r0.below hB6
      have s1 := r1.below hB6
      have hg6 := hgr.below hB6
      have hb6 := hbr.trans (hB6.mono (by omega))
      obtain ⟨⟨x0, x1⟩, _, _⟩ := id s0
      rw [← hw6] at x0 x1
      clear r0 r1 r2 r3 rL rH hgr hB6
      have hs6 := hb6.size
      have s1' := Lib.hid s1
      have hg6' := Lib.hid hg6
      have hb6' := Lib.hid hb6
      have cc1' := Lib.hid cc1
      have cc2' := Lib.hid cc2
      have hst' := Lib.hid hst
      have hw6' := Lib.hid hw6
      have i0' := Lib.hid i0
      have i1' := Lib.hid i1
      have i2' := Lib.hid i2
      have i3' := Lib.hid i3
      have hVk' := Lib.hid hVk
      clear s1 hg6 hb6 cc1 cc2 hst hw6 i0 i1 i2 i3 hVk
      clear s0
      go_wp2_with fail
      rw [hw6'.out]
      clear x0 x1 p0 p1 p2 p3
      go_wp2_with fail
      refine (cc1'.out _).mono ?_
      rintro e w7 ⟨rfl, hB7⟩
      have s1 := s1'.out.below hB7
      have hg7 := hg6'.out.below hB7
      have hb7 := hb6'.out.trans (hB7.mono (by omega))
      have hs7 := hb7.size
      by_cases hU : U < 0
      · have i0 := bkeep hB7 i0'.out
        have i1 := bkeep hB7 i1'.out
        have i2 := bkeep hB7 i2'.out
        have i3 := bkeep hB7 i3'.out
        obtain ⟨⟨x0, x1⟩, _, _⟩ := s1
        clear i0' i1' i2' i3' hB7 s1' hg6' hb6'
        have hg7' := Lib.hid hg7
        have hb7' := Lib.hid hb7
        have i2' := Lib.hid i2
        have i3' := Lib.hid i3
        clear hg7 hb7 i2 i3
        go_wp2_with fail
        refine (cc2'.out _).mono ?_
        rintro e w8 ⟨rfl, hB8⟩
        have i2 := bkeep hB8 i2'.out
        have i3 := bkeep hB8 i3'.out
        have hg8 := hg7'.out.below hB8
        have hb8 := hb7'.out.trans (hB8.mono (by omega))
        have hs8 := hb8.size
        clear i0 i1 i2' i3' x0 x1 hB8 hg7' hb7'
        by_cases hL : L < 0
        · have e2 : V (k + 1) = V k ++ [(q2, q3)] := by rw [hst'.out, decide_eq_true hU, decide_eq_true hL]; rfl
          clear hst'
          have hg8' := Lib.hid hg8
          have hb8' := Lib.hid hb8
          have e2' := Lib.hid e2
          clear hg8 hb8 e2
          go_wp2_with (at_builtin; refine wpList_append_rat rfl _ _ rfl bV u14 (V k) q2 q3 1 rfl rfl hg8'.out (by have := hVk'.out; omega) (by omega) ?_)
          intro v' w' hown' hgrow
          have hB9 := hg8'.out.belowB hb8'.out (Nat.le_refl _) (by omega) hgrow
          clear hgrow hg8' hb8'
          have hown'' := Lib.hid hown'
          have hB9' := Lib.hid hB9
          clear hown' hB9
          go_wp2
          go_roundw
          case rel => exact ⟨k + 1, by omega, by go_num, by rw [e2'.out]; exact hown''.out, hB9'.out⟩
          case measure => simp [intOf]; omega
        · have e2 : V (k + 1) = V k := by rw [hst'.out, decide_eq_false hL, Bool.and_false]; rfl
          clear hst'
          have hg8' := Lib.hid hg8
          have hb8' := Lib.hid hb8
          have e2' := Lib.hid e2
          clear hg8 hb8 e2
          go_wp2
          go_roundw
          case rel => exact ⟨k + 1, by omega, by go_num, by rw [e2'.out]; exact hg8'.out, hb8'.out⟩
          case measure => simp [intOf]; omega
      · have e2 : V (k + 1) = V k := by rw [hst'.out, decide_eq_false hU, Bool.false_and]; rfl
        clear hst' hB7
        have hg7' := Lib.hid hg7
        have hb7' := Lib.hid hb7
        have e2' := Lib.hid e2
        clear hg7 hb7 e2
        go_wp2
        go_roundw
        case rel => exact ⟨k + 1, by omega, by go_num, by rw [e2'.out]; exact hg7'.out, hb7'.out⟩
        case measure => simp [intOf]; omega
    · obtain rfl : k = n := by omega
      obtain ⟨wo, rfl⟩ : ∃ wo : World, wo = wr := ⟨_, rfl⟩
      obtain ⟨gV, capV, e, hrow⟩ := GrowF.form hgr (by have := hm'.out; omega)
      subst e
      rw [hm'.out] at hrow ⊢
      obtain ⟨hgV1, hgV2⟩ := hrow.lt
      have hcell : ∀ j, j < m → wo.cell? ⟨gV, j * 2, none⟩ = some (.int .i64 (nthR (V k) j).1) ∧ wo.cell? ⟨gV, j * 2 + 1, none⟩ = some (.int .i64 (nthR (V k) j).2) := fun j hj => by
        have h0 := hrow.cell (j := j * 2) (by omega)
        have h1 := hrow.cell (j := j * 2 + 1) (by omega)
        obtain ⟨e0, e1⟩ := nth_flR (xs := V k) (i := j) (by rw [hm'.out]; exact hj)
        rw [e0] at h0
        rw [e1] at h1
        exact ⟨h0, h1⟩
      have hgne : gV ≠ bl ∧ gV ≠ bh := by omega
      clear hgr hrow hbr H' hm' hstep' hmid' cm1' cm2' hVl'
      have rL' : BoxR wo bl (FJ 0).1 := by rw [hz2'.out]; exact rL
      have rH' : BoxR wo bh (FJ 0).2 := by rw [hz2'.out]; exact rH
      clear rL rH hz2'
      have hbw' := Lib.hid hbw
      have hcell' := Lib.hid hcell
      have r0' := Lib.hid r0
      have r1' := Lib.hid r1
      clear hbw hcell r0 r1
      have r2' := Lib.hid r2
      have r3' := Lib.hid r3
      clear r2 r3
      have rL'' := Lib.hid rL'
      have rH'' := Lib.hid rH'
      clear rL' rH'
      go_wp2
      go_loopw [68] (fun i wr => ∃ j : Nat, j ≤ m ∧ i = .int .i64 j ∧ Two bl bh wo wr ∧ BoxR wr bl (FJ j).1 ∧ BoxR wr bh (FJ j).2) (fun i _ => m - (intOf i).toNat)
      case atStart => exact ⟨0, Nat.zero_le _, rfl, Two.refl _ _ _, rL''.out, rH''.out⟩
      case round =>
        obtain ⟨j, hj, rfl, hT, tL, tH⟩ := hrel
        clear rL'' rH''
        have hsx := hT.2.2.2.1
        by_cases hjl : j < m
        · obtain ⟨p0, p1⟩ := hcell'.out j hjl
          replace p0 := hT.cell p0 hgne.1 hgne.2
          replace p1 := hT.cell p1 hgne.1 hgne.2
          have hgy := hgn'.out j hjl
          obtain ⟨hgl, hgh⟩ := hgd'.out j
          have hs := hst2'.out j hjl
          generalize FJ j = F0 at *
          generalize nthR (V k) j = Y at *
          obtain ⟨y0, y1⟩ := Y
          obtain ⟨⟨x0, x1⟩, ⟨h0, h1⟩⟩ := F0
          simp only at p0 p1 hgy hgl hgh hs
          have cA := fun w' => raCmp_any y0 y1 x0 x1 w' (good_bd (r := (y0, y1)) hgy) (good_bd (r := (x0, x1)) hgl)
          have cB := fun w' => raCmp_any h0 h1 y0 y1 w' (good_bd (r := (h0, h1)) hgh) (good_bd (r := (y0, y1)) hgy)
          have el : lessR (x0, x1) (y0, y1) = if cmpN y0 y1 x0 x1 < 0 then (y0, y1) else (x0, x1) := by
            unfold lessR; rw [← cmpN_lt]; simp only [decide_eq_true_eq]
          have eh : greatR (h0, h1) (y0, y1) = if cmpN h0 h1 y0 y1 < 0 then (y0, y1) else (h0, h1) := by
            unfold greatR; rw [← cmpN_lt]; simp only [decide_eq_true_eq]
          rw [el, eh] at hs
          clear el eh hgy hgl hgh
          generalize cmpN y0 y1 x0 x1 = U at *
          generalize cmpN h0 h1 y0 y1 = L at *
          obtain ⟨wy, hwy⟩ : ∃ W, wr.alloc (.cells #[.int .i64 y0, .int .i64 y1] 34) = W := ⟨_, rfl⟩
          have hBy : Below wr.heap.size wr wy := by rw [← hwy]; exact (Below.refl _ _).alloc (Nat.le_refl _) _
          have tY : BoxR wy wr.heap.size (y0, y1) := by rw [← hwy]; exact BoxR.lit wr (y0, y1)
          have hT := hT.below hBy
          have tL := tL.below hBy
          have tH := tH.below hBy
          obtain ⟨⟨z0, z1⟩, _, _⟩ := id tL
          rw [← hwy] at z0 z1
          have hlx : bl < wr.heap.size := by omega
          have hyl : bl ≠ wr.heap.size ∧ wr.heap.size ≠ bl ∧ bh ≠ wr.heap.size ∧ wr.heap.size ≠ bh := by omega
          obtain ⟨hy1, hy2, hy3, hy4⟩ := hyl
          clear hBy
          rename_i hTold tLold tHold
          clear hTold tLold tHold
          have cA' := Lib.hid cA
          have cB' := Lib.hid cB
          have hs' := Lib.hid hs
          have hwy' := Lib.hid hwy
          have hT' := Lib.hid hT
          have tL' := Lib.hid tL
          have tH' := Lib.hid tH
          have tY' := Lib.hid tY
          clear cA cB hs hwy hT tL tH tY
          go_wp2_with fail
          rw [hwy'.out]
          clear z0 z1 p0 p1
          go_wp2_with fail
          refine (cA'.out _).mono ?_
          rintro e w7 ⟨rfl, hB7⟩
          have hT := hT'.out.below hB7
          have tL := tL'.out.below hB7
          have tH := tH'.out.below hB7
          have tY := tY'.out.below hB7
          clear hT' tL' tH' tY' hB7
          obtain ⟨⟨v0, v1⟩, _, _⟩ := id tY
          obtain ⟨⟨c0, c1⟩, c2, c3⟩ := id tL
          obtain ⟨⟨d0, d1⟩, d2, d3⟩ := id tH
          simp only at v0 v1 c0 c1 d0 d1
          by_cases hU : U < 0
          · obtain ⟨w8, hw8⟩ : ∃ W, (w7.setCell ⟨bl, 0, none⟩ (.int .i64 y0)).setCell ⟨bl, 1, none⟩ (.int .i64 y1) = W := ⟨_, rfl⟩
            have hT8 : Two bl bh wo w8 := by rw [← hw8]; exact (hT.setL _ _).setL _ _
            have uL : BoxR w8 bl (y0, y1) := by rw [← hw8]; exact tL.set2 (y0, y1)
            have uH : BoxR w8 bh (h0, h1) := by rw [← hw8]; exact (tH.setO hne2 _).setO hne2 _
            have uY : BoxR w8 wr.heap.size (y0, y1) := by rw [← hw8]; exact (tY.setO hy2 _).setO hy2 _
            clear hT tL tH tY
            have hT8' := Lib.hid hT8
            have uL' := Lib.hid uL
            have uH' := Lib.hid uH
            have uY' := Lib.hid uY
            have hw8' := Lib.hid hw8
            clear hT8 uL uH uY hw8
            go_wp2_with fail
            rw [hw8'.out]
            clear v0 v1 c0 c1 c2 c3 d0 d1 d2 d3
            go_wp2_with fail
            refine (cB'.out _).mono ?_
            rintro e w9 ⟨rfl, hB9⟩
            have hT := hT8'.out.below hB9
            have uL := uL'.out.below hB9
            have uH := uH'.out.below hB9
            have uY := uY'.out.below hB9
            clear hB9 hT8' uL' uH' uY' hw8'
            by_cases hL : L < 0
            · obtain ⟨⟨v0, v1⟩, _, _⟩ := id uY
              obtain ⟨⟨d0, d1⟩, d2, d3⟩ := id uH
              simp only at v0 v1 d0 d1
              have e2 := hs'.out
              rw [if_pos hU, if_pos hL] at e2
              have hT2 := (hT.setR 0 (.int .i64 y0)).setR 1 (.int .i64 y1)
              have zL := (uL.setO hne (.int .i64 y0) (o := 0)).setO hne (.int .i64 y1) (o := 1)
              have zH := uH.set2 (y0, y1)
              clear uL uH uY hT hs'
              have e2' := Lib.hid e2
              have hT2' := Lib.hid hT2
              have zL' := Lib.hid zL
              have zH' := Lib.hid zH
              clear e2 hT2 zL zH
              go_wp2
              go_roundw
              case rel => exact ⟨j + 1, by omega, by go_num, hT2'.out, by rw [e2'.out]; exact zL'.out, by rw [e2'.out]; exact zH'.out⟩
              case measure => simp [intOf]; omega
            · have e2 := hs'.out
              rw [if_pos hU, if_neg (by omega : ¬ L < 0)] at e2
              have hT2 := hT
              have zL := uL
              have zH := uH
              clear uL uH uY hT hs'
              have e2' := Lib.hid e2
              have hT2' := Lib.hid hT2
              have zL' := Lib.hid zL
              have zH' := Lib.hid zH
              clear e2 hT2 zL zH
              go_wp2
              go_roundw
              case rel => exact ⟨j + 1, by omega, by go_num, hT2'.out, by rw [e2'.out]; exact zL'.out, by rw [e2'.out]; exact zH'.out⟩
              case measure => simp [intOf]; omega
          · have hT' := Lib.hid hT
            have tL' := Lib.hid tL
            have tH' := Lib.hid tH
            have tY' := Lib.hid tY
            clear hT tL tH tY
            go_wp2_with fail
            refine (cB'.out _).mono ?_
            rintro e w9 ⟨rfl, hB9⟩
            have hT := hT'.out.below hB9
            have uL := tL'.out.below hB9
            have uH := tH'.out.below hB9
            have uY := tY'.out.below hB9
            clear hB9 hT' tL' tH' tY' v0 v1 c0 c1 c2 c3 d0 d1 d2 d3
            by_cases hL : L < 0
            · obtain ⟨⟨v0, v1⟩, _, _⟩ := id uY
              obtain ⟨⟨d0, d1⟩, d2, d3⟩ := id uH
              simp only at v0 v1 d0 d1
              have e2 := hs'.out
              rw [if_neg (by omega : ¬ U < 0), if_pos hL] at e2
              have hT2 := (hT.setR 0 (.int .i64 y0)).setR 1 (.int .i64 y1)
              have zL := (uL.setO hne (.int .i64 y0) (o := 0)).setO hne (.int .i64 y1) (o := 1)
              have zH := uH.set2 (y0, y1)
              clear uL uH uY hT hs'
              have e2' := Lib.hid e2
              have hT2' := Lib.hid hT2
              have zL' := Lib.hid zL
              have zH' := Lib.hid zH
              clear e2 hT2 zL zH
              go_wp2
              go_roundw
              case rel => exact ⟨j + 1, by omega, by go_num, hT2'.out, by rw [e2'.out]; exact zL'.out, by rw [e2'.out]; exact zH'.out⟩
              case measure => simp [intOf]; omega
            · have e2 := hs'.out
              rw [if_neg (by omega : ¬ U < 0), if_neg (by omega : ¬ L < 0)] at e2
              have hT2 := hT
              have zL := uL
              have zH := uH
              clear uL uH uY hT hs'
              have e2' := Lib.hid e2
              have hT2' := Lib.hid hT2
              have zL' := Lib.hid zL
              have zH' := Lib.hid zH
              clear e2 hT2 zL zH
              go_wp2
              go_roundw
              case rel => exact ⟨j + 1, by omega, by go_num, hT2'.out, by rw [e2'.out]; exact zL'.out, by rw [e2'.out]; exact zH'.out⟩
              case measure => simp [intOf]; omega
        · obtain rfl : j = m := by omega
          generalize FJ j = F0 at *
          obtain ⟨⟨x0, x1⟩, ⟨h0, h1⟩⟩ := F0
          obtain ⟨⟨p0, p1⟩, _, _⟩ := tL
          obtain ⟨⟨q0, q1⟩, _, _⟩ := tH
          obtain ⟨⟨s0, s1⟩, s2, s3⟩ := r2'.out.two hT (by omega) (by omega)
          obtain ⟨⟨t0, t1⟩, t2, t3⟩ := r3'.out.two hT (by omega) (by omega)
          have hbe := Two.under hbw'.out hT (by omega) (by omega) (by have := hbw'.out.size; omega)
          have hse : ∀ (W : World), Below w.heap.size w W → ∀ (b : Nat) o u, w.heap.size ≤ b → Below w.heap.size w (W.setCell ⟨b, o, none⟩ u) := fun W h b o u hb => h.setCell (p := ⟨b, o, none⟩) hb u
          simp only at p0 p1 q0 q1
          clear hT
          have hbe' := Lib.hid hbe
          have hse' := Lib.hid hse
          clear hbe hse
          go_wp2_with fail
          go_region
          go_wp2
          refine bodyPost_ret (v := .tuple #[ratV (x0, x1), ratV (h0, h1), .bool true]) (by simp [results, Try.results100, go_sem, s0, s1, s2, s3, t0, t1, t2, t3, ratV]) rfl ⟨rfl, Below.drew ?_⟩
          iterate 4 refine hse'.out _ ?_ _ _ _ (by omega)
          exact hbe'.out

theorem imImage_any (v : Value) (f : List Quad) (a b : Int × Int) (w : World) (hv : QuadV w v f) (hf : MapP f) (ha : unitR a.1 a.2 = true) (hb : unitR b.1 b.2 = true) :
    Calls Try.prog 100 #[v, .agg #[.int .i64 a.1, .int .i64 a.2], .agg #[.int .i64 b.1, .int .i64 b.2]] w (Ret (.tuple #[ratV (imgR f a b).1.1, ratV (imgR f a b).1.2, .bool (imgR f a b).2]) w) := by
  cases h : imgOk f a b
  · rw [imgR_bad h]
    refine imImage_bad v a b (atR f a).1 (atR f b).1 (atR f a).2 (atR f b).2 w ?_ (fun w' hB => imAt_any v f a w' (hv.below hB) hf ha) (fun w' hB => imAt_any v f b w' (hv.below hB) hf hb)
    unfold imgOk at h
    cases h1 : atOk f a
    · rw [atR_bad h1]; rfl
    · rw [h1, Bool.true_and] at h
      rw [atR_bad h]; exact Bool.and_false _
  · rw [imgR_ok h]
    unfold imgOk at h
    rw [Bool.and_eq_true] at h
    exact imImage_ok v f a b w hv hf ha hb h.1 h.2

end Go.Proofs.Ytfcanpebagpdbaa

/- ShrinkTo: the program's and the reference's. No conditions but small sizes. -/
import Derived.Test.YtfhhofecfllbfaaGreatCoversIv
namespace Go.Proofs.YtfhhofecfllbfaaGreat
open Go.RowKit

def zeroQ : Quad := ((0, 0), (0, 0))
def ShrinkTo_v (f : List Quad) (i k : Quad) : Quad × Bool := if mapB f = true ∧ ivB i = true ∧ ivB k = true then ivR f i k else (zeroQ, false)
theorem sht_yes {f : List Quad} {i k : Quad} (h : mapB f = true ∧ ivB i = true ∧ ivB k = true) : ShrinkTo_v f i k = ivR f i k := by unfold ShrinkTo_v; rw [if_pos h]
theorem sht_no {f : List Quad} {i k : Quad} (h : ¬ (mapB f = true ∧ ivB i = true ∧ ivB k = true)) : ShrinkTo_v f i k = (zeroQ, false) := by unfold ShrinkTo_v; rw [if_neg h]
theorem cvi_true {f : List Quad} {i k : Quad} (h : CoversInterval_v f i k = (true, true)) : (mapB f = true ∧ ivB i = true ∧ ivB k = true) ∧ imgOk f i.1 i.2 = true ∧ covB f i k = true := by
  by_cases q : mapB f = true ∧ ivB i = true ∧ ivB k = true
  · rw [cvi_yes q] at h
    refine ⟨q, ?_⟩
    unfold covR at h
    by_cases o : imgOk f i.1 i.2 = true
    · rw [if_pos o] at h
      exact ⟨o, (Prod.mk.inj h).1⟩
    · rw [if_neg o] at h
      cases h
  · rw [cvi_no q] at h
    cases h
theorem shrV_zero (f : List Quad) (i k : Quad) (h : (shrV f i k).2 = false) : shrV f i k = (zeroQ, false) := by
  cases ho : shrOk f i k
  · exact shrV_bad ho
  · rw [shrV_ok ho] at h ⊢
    unfold shrR at h ⊢
    cases hf : fstN (shrD f (shrL f i k)) ((shrL f i k).length - 1) 1 with
    | none => rfl
    | some n => rw [hf] at h; cases h
theorem sht_cov {f : List Quad} {i k : Quad} (h : ¬ CoversInterval_v f i k = (true, true)) : ShrinkTo_v f i k = (zeroQ, false) := by
  by_cases q : mapB f = true ∧ ivB i = true ∧ ivB k = true
  · rw [sht_yes q]
    unfold ivR
    rw [if_neg]
    · rfl
    · rintro ⟨h1, h2⟩
      apply h
      rw [cvi_yes q]
      unfold covR
      rw [if_pos h1, h2]
  · exact sht_no q
theorem sht_shr {f : List Quad} {i k : Quad} (h : CoversInterval_v f i k = (true, true)) : ShrinkTo_v f i k = shrV f i k := by
  obtain ⟨q, h1, h2⟩ := cvi_true h
  rw [sht_yes q]
  unfold ivR
  rw [if_pos ⟨h1, h2⟩]

set_option linter.unusedSimpArgs false in
set_option maxHeartbeats 4000000 in
theorem implShrinkTo_any (v : Value) (f : List Quad) (i k : Quad) (w : World) (hv : QuadV w v f) (hm : f.length ≤ 1099511627776) :
    Calls Tryz.prog 20 #[v, quadV i, quadV k] w (Ret (.tuple #[quadV (ShrinkTo_v f i k).1, .bool (ShrinkTo_v f i k).2]) w) := by
  have c1 := fun w' (hB : Below w.heap.size w w') => implCoversIv_any v f i k w' (hv.below hB) hm
  have hno := sht_cov (f := f) (i := i) (k := k)
  have hyes := sht_shr (f := f) (i := i) (k := k)
  have htrue := cvi_true (f := f) (i := i) (k := k)
  have cS := fun (hq : mapB f = true ∧ ivB i = true ∧ ivB k = true) (g : Nat) w' hB hg0 hc => cshrink_any g v f i k w w' hv hB hg0 (mapB_true hq.1) hq.2.1 hq.2.2 hc
  have hS0 := shrV_zero f i k
  generalize ShrinkTo_v f i k = V at *
  generalize shrV f i k = S at *
  obtain ⟨⟨ca, cb⟩, hC⟩ : ∃ r, CoversInterval_v f i k = r := ⟨_, rfl⟩
  rw [hC] at c1 hno hyes htrue
  obtain ⟨⟨p0, p1⟩, ⟨p2, p3⟩⟩ := i
  obtain ⟨⟨q0, q1⟩, ⟨q2, q3⟩⟩ := k
  obtain ⟨w1, hw1⟩ : ∃ W, ((w.alloc (.cells #[.int .i64 p0, .int .i64 p1, .int .i64 p2, .int .i64 p3] 44)).alloc (.cells #[.int .i64 q0, .int .i64 q1, .int .i64 q2, .int .i64 q3] 44)).alloc (.cells #[.int .i64 0, .int .i64 0, .int .i64 0, .int .i64 0] 44) = W := ⟨_, rfl⟩
  have hB1 : Below w.heap.size w w1 := by rw [← hw1]; exact (((Below.refl _ _).alloc (Nat.le_refl _) _).alloc (by simp) _).alloc (by simp; omega) _
  have xi : BoxQ w1 w.heap.size ((p0, p1), (p2, p3)) := by rw [← hw1]; refine ⟨?_, ?_, ?_, ?_⟩ <;> simp [go_sem]
  have xk : BoxQ w1 (w.heap.size + 1) ((q0, q1), (q2, q3)) := by rw [← hw1]; refine ⟨?_, ?_, ?_, ?_⟩ <;> simp [go_sem]
  have xr : BoxW w1 (w.heap.size + 1 + 1) ((0, 0), (0, 0)) := by rw [← hw1]; refine ⟨⟨?_, ?_, ?_, ?_⟩, ?_, ?_, ?_, ?_⟩ <;> simp [go_sem]
  obtain ⟨rb, hrbe⟩ : ∃ b, w.heap.size + 1 + 1 = b := ⟨_, rfl⟩
  rw [hrbe] at xr
  have hrbl : w.heap.size ≤ rb := by omega
  obtain ⟨a0, a1, a2, a3⟩ := id xi
  obtain ⟨b0, b1, b2, b3⟩ := id xk
  rw [← hw1] at a0 a1 a2 a3 b0 b1 b2 b3
  clear hv
  have c1' := Lib.hid c1
  have cS' := Lib.hid cS
  have hno' := Lib.hid hno
  have hyes' := Lib.hid hyes
  have htrue' := Lib.hid htrue
  have hw1' := Lib.hid hw1
  have xi' := Lib.hid xi
  have xk' := Lib.hid xk
  have xr' := Lib.hid xr
  have hC' := Lib.hid hC
  clear c1 cS hno hyes htrue hw1 xi xk xr hC
  show Calls _ _ #[_, .agg #[.int .i64 p0, .int .i64 p1, .int .i64 p2, .int .i64 p3], .agg #[.int .i64 q0, .int .i64 q1, .int .i64 q2, .int .i64 q3]] w _
  go_enter Tryz.func20, Tryz.ntmps20
  go_wp2_with fail
  rw [hw1'.out]
  clear a0 a1 a2 a3 b0 b1 b2 b3
  go_wp2_with fail
  refine (c1'.out _ hB1).mono ?_
  rintro e w2 ⟨rfl, hB2⟩
  have hb2 := hB1.trans (hB2.mono hB1.size)
  have xi2 := xi'.out.below hB2
  have xk2 := xk'.out.below hB2
  have xr2 := xr'.out.grown (bgrow hB2 none) (by simp)
  clear hB2 hB1 xi' xk' xr' hw1' c1'
  simp only
  by_cases hcc : (ca, cb) = (true, true)
  · have hq := htrue'.out hcc
    have hV := hyes'.out hcc
    subst hV
    obtain ⟨rfl, rfl⟩ := Prod.mk.inj hcc
    clear hcc hno' hyes' htrue'
    obtain ⟨a0, a1, a2, a3⟩ := id xi2
    obtain ⟨b0, b1, b2, b3⟩ := id xk2
    simp only at a0 a1 a2 a3 b0 b1 b2 b3
    obtain ⟨g, hg⟩ : ∃ g, w2.heap.size = g := ⟨_, rfl⟩
    obtain ⟨w5, hw5⟩ : ∃ W, w2.alloc (.cells #[.bool false] 92) = W := ⟨_, rfl⟩
    have hc5 : CalcAt w5 g false := by rw [← hg, ← hw5]; exact ⟨by simp [go_sem], by simp [go_sem]⟩
    have hB5 : Below w2.heap.size w2 w5 := by rw [← hw5]; exact (Below.refl _ _).alloc (Nat.le_refl _) _
    have hb5 := hb2.trans (hB5.mono hb2.size)
    have hg0 : w.heap.size ≤ g := by rw [← hg]; exact hb2.size
    have xr5 := xr2.grown (bgrow hB5 none) (by simp)
    have hrg : rb ≠ g := by have := xr2.1.lt; omega
    have c6 := cS'.out hq.1 g w5 hb5 hg0 hc5
    have hl0 : w.heap.size < g := by have h := xi2.lt; omega
    have hl1 : w.heap.size + 1 < g := by have h := xk2.lt; omega
    have hl2 : ¬ w.heap.size = g := by omega
    have hl3 : ¬ w.heap.size + 1 = g := by omega
    clear cS' hq xi2 xk2 hB5 xr2
    have hw5' := Lib.hid hw5
    have c6' := Lib.hid c6
    have hb5' := Lib.hid hb5
    have hb2' := Lib.hid hb2
    have xr5' := Lib.hid xr5
    clear hw5 c6 hb5 hb2 xr5
    go_wp2_with fail
    rw [hw5'.out]
    refine c6'.out.mono ?_
    rintro e w6 ⟨rfl, hg6, hc6⟩
    have hb6 := below_gr hb5'.out hg0 hg6
    have xr6 := xr5'.out.grown hg6 (fun e => hrg (Option.some.inj e).symm)
    have k0 := hc6.1
    obtain ⟨⟨⟨r0, r1⟩, ⟨r2, r3⟩⟩, rb2⟩ := V
    have hrb6 : rb < w6.heap.size := xr6.1.lt
    have hgl6 : g < w6.heap.size := hc6.lt
    obtain ⟨⟨n0, n1, n2, n3⟩, f0, f1, f2, f3⟩ := id xr6
    simp only at n0 n1 n2 n3 k0 hS0
    clear a0 a1 a2 a3 b0 b1 b2 b3 hc6 hg6 xr6
    cases rb2
    · have hz := hS0 rfl
      simp only [zeroQ, Prod.mk.injEq, and_true] at hz
      obtain ⟨⟨rfl, rfl⟩, rfl, rfl⟩ := hz
      have hbs := below_set4 hb6 hrbl ((0, 0), (0, 0))
      have hbf := hbs.alloc hbs.size (.cells #[.int .i64 0, .int .i64 0, .int .i64 0, .int .i64 0] 44)
      replace k0 : w6.cell? ⟨g, 0, none⟩ = some (.bool true) := k0
      clear hS0
      clear hbs
      have hbf' := Lib.hid hbf
      have hb6' := Lib.hid hb6
      clear hbf hb6
      go_wp2
      exact bodyPost_ret (v := .tuple #[quadV ((0, 0), (0, 0)), .bool false]) (by simp [results, Tryz.results20, go_sem, n0, n1, n2, n3, hrb6, quadV]) rfl ⟨rfl, hbf'.out⟩
    · have hbs := below_set4 hb6 hrbl ((r0, r1), (r2, r3))
      have hbf := hbs.alloc hbs.size (.cells #[.int .i64 r0, .int .i64 r1, .int .i64 r2, .int .i64 r3] 44)
      replace k0 : w6.cell? ⟨g, 0, none⟩ = some (.bool false) := k0
      clear hS0
      clear hbs
      have hbf' := Lib.hid hbf
      have hb6' := Lib.hid hb6
      clear hbf hb6
      go_wp2
      exact bodyPost_ret (v := .tuple #[quadV ((r0, r1), (r2, r3)), .bool true]) (by simp [results, Tryz.results20, go_sem, n0, n1, n2, n3, hrb6, quadV]) rfl ⟨rfl, hbf'.out⟩
  · have hV := hno'.out hcc
    subst hV
    obtain ⟨⟨n0, n1, n2, n3⟩, f0, f1, f2, f3⟩ := id xr2
    have hbf := below_set4 hb2 hrbl ((0, 0), (0, 0))
    clear xi2 xk2 xr2 hb2
    have hbf' := Lib.hid hbf
    clear hbf
    cases cb
    · go_wp2
      exact bodyPost_ret (v := .tuple #[quadV ((0, 0), (0, 0)), .bool false]) (by simp [results, Tryz.results20, go_sem, n0, n1, n2, n3, quadV]) rfl ⟨rfl, hbf'.out⟩
    · obtain rfl : ca = false := by cases ca <;> simp_all
      clear hcc
      go_wp2
      exact bodyPost_ret (v := .tuple #[quadV ((0, 0), (0, 0)), .bool false]) (by simp [results, Tryz.results20, go_sem, n0, n1, n2, n3, quadV]) rfl ⟨rfl, hbf'.out⟩
set_option linter.unusedSimpArgs false in
set_option maxHeartbeats 4000000 in
theorem specShrinkTo_any (v : Value) (f : List Quad) (i k : Quad) (w : World) (hv : QuadV w v f) (hm : f.length ≤ 1099511627776) :
    Calls Tryz.prog 21 #[v, quadV i, quadV k] w (Ret (.tuple #[quadV (ShrinkTo_v f i k).1, .bool (ShrinkTo_v f i k).2]) w) := by
  have c1 := fun w' (hB : Below w.heap.size w w') => imGood_any v f w' (hv.below hB) hm
  have c2 := fun w' => ivGood_any i w'
  have c3 := fun w' => ivGood_any k w'
  have hyes := sht_yes (f := f) (i := i) (k := k)
  have hno := sht_no (f := f) (i := i) (k := k)
  have c5 := fun (hq : mapB f = true ∧ ivB i = true ∧ ivB k = true) w' (hB : Below w.heap.size w w') => ivShrink_any v f i k w' (hv.below hB) (mapB_true hq.1) hq.2.1 hq.2.2
  generalize ShrinkTo_v f i k = V at *
  generalize ivR f i k = S at *
  generalize mapB f = A at *
  generalize ivB i = B at *
  generalize ivB k = C at *
  obtain ⟨⟨p0, p1⟩, ⟨p2, p3⟩⟩ := i
  obtain ⟨⟨q0, q1⟩, ⟨q2, q3⟩⟩ := k
  obtain ⟨w1, hw1⟩ : ∃ W, ((w.alloc (.cells #[.int .i64 p0, .int .i64 p1, .int .i64 p2, .int .i64 p3] 44)).alloc (.cells #[.int .i64 q0, .int .i64 q1, .int .i64 q2, .int .i64 q3] 44)).alloc (.cells #[.int .i64 0, .int .i64 0, .int .i64 0, .int .i64 0] 44) = W := ⟨_, rfl⟩
  have hB1 : Below w.heap.size w w1 := by rw [← hw1]; exact (((Below.refl _ _).alloc (Nat.le_refl _) _).alloc (by simp) _).alloc (by simp; omega) _
  have xi : BoxQ w1 w.heap.size ((p0, p1), (p2, p3)) := by rw [← hw1]; refine ⟨?_, ?_, ?_, ?_⟩ <;> simp [go_sem]
  have xk : BoxQ w1 (w.heap.size + 1) ((q0, q1), (q2, q3)) := by rw [← hw1]; refine ⟨?_, ?_, ?_, ?_⟩ <;> simp [go_sem]
  have xr : BoxW w1 (w.heap.size + 1 + 1) ((0, 0), (0, 0)) := by rw [← hw1]; refine ⟨⟨?_, ?_, ?_, ?_⟩, ?_, ?_, ?_, ?_⟩ <;> simp [go_sem]
  obtain ⟨rb, hrbe⟩ : ∃ b, w.heap.size + 1 + 1 = b := ⟨_, rfl⟩
  rw [hrbe] at xr
  have hrbl : w.heap.size ≤ rb := by omega
  clear hv
  have c1' := Lib.hid c1
  have c2' := Lib.hid c2
  have c3' := Lib.hid c3
  have c5' := Lib.hid c5
  have hyes' := Lib.hid hyes
  have hno' := Lib.hid hno
  have hw1' := Lib.hid hw1
  have xi' := Lib.hid xi
  have xk' := Lib.hid xk
  have xr' := Lib.hid xr
  clear c1 c2 c3 c5 hyes hno hw1 xi xk xr
  show Calls _ _ #[_, .agg #[.int .i64 p0, .int .i64 p1, .int .i64 p2, .int .i64 p3], .agg #[.int .i64 q0, .int .i64 q1, .int .i64 q2, .int .i64 q3]] w _
  go_enter Tryz.func21, Tryz.ntmps21
  go_wp2_with fail
  rw [hw1'.out]
  go_wp2_with fail
  refine (c1'.out _ hB1).mono ?_
  rintro e w2 ⟨rfl, hB2⟩
  have hb2 := hB1.trans (hB2.mono hB1.size)
  have xi2 := xi'.out.below hB2
  have xk2 := xk'.out.below hB2
  have xr2 := xr'.out.grown (bgrow hB2 none) (by simp)
  clear hB2 hB1 xi' xk' xr' hw1' c1'
  cases A
  · have hV := hno'.out (fun h => by cases h.1)
    subst hV
    obtain ⟨⟨n0, n1, n2, n3⟩, f0, f1, f2, f3⟩ := id xr2
    have hbf := below_set4 hb2 hrbl ((0, 0), (0, 0))
    clear xi2 xk2 xr2 hb2
    have hbf' := Lib.hid hbf
    clear hbf
    go_wp2
    exact bodyPost_ret (v := .tuple #[quadV ((0, 0), (0, 0)), .bool false]) (by simp [results, Tryz.results21, go_sem, n0, n1, n2, n3, quadV]) rfl ⟨rfl, hbf'.out⟩
  · obtain ⟨a0, a1, a2, a3⟩ := id xi2
    simp only at a0 a1 a2 a3
    have hb2' := Lib.hid hb2
    have xi2' := Lib.hid xi2
    have xk2' := Lib.hid xk2
    have xr2' := Lib.hid xr2
    clear hb2 xi2 xk2 xr2
    go_wp2_with fail
    refine (c2'.out _).mono ?_
    rintro e w3 ⟨rfl, hB3⟩
    have hb3 := hb2'.out.trans (hB3.mono hb2'.out.size)
    have xi3 := xi2'.out.below hB3
    have xk3 := xk2'.out.below hB3
    have xr3 := xr2'.out.grown (bgrow hB3 none) (by simp)
    clear hB3 hb2' xi2' xk2' xr2' c2' a0 a1 a2 a3
    cases B
    · have hV := hno'.out (fun h => by cases h.2.1)
      subst hV
      obtain ⟨⟨n0, n1, n2, n3⟩, f0, f1, f2, f3⟩ := id xr3
      have hbf := below_set4 hb3 hrbl ((0, 0), (0, 0))
      clear xi3 xk3 xr3 hb3
      have hbf' := Lib.hid hbf
      clear hbf
      go_wp2
      exact bodyPost_ret (v := .tuple #[quadV ((0, 0), (0, 0)), .bool false]) (by simp [results, Tryz.results21, go_sem, n0, n1, n2, n3, quadV]) rfl ⟨rfl, hbf'.out⟩
    · obtain ⟨a0, a1, a2, a3⟩ := id xk3
      simp only at a0 a1 a2 a3
      have hb3' := Lib.hid hb3
      have xi3' := Lib.hid xi3
      have xk3' := Lib.hid xk3
      have xr3' := Lib.hid xr3
      clear hb3 xi3 xk3 xr3
      go_wp2_with fail
      refine (c3'.out _).mono ?_
      rintro e w4 ⟨rfl, hB4⟩
      have hb4 := hb3'.out.trans (hB4.mono hb3'.out.size)
      have xi4 := xi3'.out.below hB4
      have xk4 := xk3'.out.below hB4
      have xr4 := xr3'.out.grown (bgrow hB4 none) (by simp)
      clear hB4 hb3' xi3' xk3' xr3' c3' a0 a1 a2 a3
      cases C
      · have hV := hno'.out (fun h => by cases h.2.2)
        subst hV
        obtain ⟨⟨n0, n1, n2, n3⟩, f0, f1, f2, f3⟩ := id xr4
        have hbf := below_set4 hb4 hrbl ((0, 0), (0, 0))
        clear xi4 xk4 xr4 hb4
        have hbf' := Lib.hid hbf
        clear hbf
        go_wp2
        exact bodyPost_ret (v := .tuple #[quadV ((0, 0), (0, 0)), .bool false]) (by simp [results, Tryz.results21, go_sem, n0, n1, n2, n3, quadV]) rfl ⟨rfl, hbf'.out⟩
      · have hV := hyes'.out ⟨by simp, by simp, by simp⟩
        subst hV
        obtain ⟨a0, a1, a2, a3⟩ := id xi4
        obtain ⟨b0, b1, b2, b3⟩ := id xk4
        simp only at a0 a1 a2 a3 b0 b1 b2 b3
        have c6 := c5'.out ⟨by simp, by simp, by simp⟩ w4 hb4
        obtain ⟨⟨⟨r0, r1⟩, ⟨r2, r3⟩⟩, rb2⟩ := V
        clear c5' xi4 xk4
        have c6' := Lib.hid c6
        have hb4' := Lib.hid hb4
        have xr4' := Lib.hid xr4
        clear c6 hb4 xr4
        go_wp2_with fail
        refine c6'.out.mono ?_
        rintro e w6 ⟨rfl, hB6⟩
        have xr6 := xr4'.out.grown (bgrow hB6 none) (by simp)
        obtain ⟨⟨n0, n1, n2, n3⟩, f0, f1, f2, f3⟩ := id xr6
        have hbf := below_set4 (hb4'.out.trans (hB6.mono hb4'.out.size)) hrbl ((r0, r1), (r2, r3))
        clear a0 a1 a2 a3 b0 b1 b2 b3 hB6 xr6
        have hbf' := Lib.hid hbf
        clear hbf
        simp only
        go_wp2
        exact bodyPost_ret (v := .tuple #[quadV ((r0, r1), (r2, r3)), .bool rb2]) (by simp [results, Tryz.results21, go_sem, n0, n1, n2, n3, quadV]) rfl ⟨rfl, hbf'.out⟩
end Go.Proofs.YtfhhofecfllbfaaGreat

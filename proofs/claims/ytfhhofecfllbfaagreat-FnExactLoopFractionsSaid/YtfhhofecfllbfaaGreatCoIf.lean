/- coIf: the simple map of points, if they are a map. No conditions but small sizes. -/
import Derived.Test.YtfhhofecfllbfaaGreatCoSimple
import Derived.Test.YtfhhofecfllbfaaGreatCompLaw
import Derived.Test.YtfhhofecfllbfaaGreatPkL
namespace Go.Proofs.YtfhhofecfllbfaaGreat
open Go.RowKit

def fineK (f : List Quad) (k : Nat) : Bool := (List.range k).all fun i => coordP (nth4 f i)
theorem fineK_step (f : List Quad) (k : Nat) : fineK f (k + 1) = (fineK f k && coordP (nth4 f k)) := by simp [fineK, List.range_succ, List.all_append]
theorem fineK_false {f : List Quad} {k n : Nat} (h : k < n) (hb : coordP (nth4 f k) = false) : fineK f n = false := by
  unfold fineK
  rw [List.all_eq_false]
  exact ⟨k, List.mem_range.2 h, by rw [hb]; simp⟩
/-- What coIf returns. -/
def coIf_v (f : List Quad) : List Quad × Bool := if fineK f f.length = true then cmIf (smL f) else ([], false)

set_option linter.unusedSimpArgs false in
set_option linter.unusedVariables false in
set_option maxRecDepth 10000 in
set_option maxHeartbeats 4000000 in
theorem coIf_any (v : Value) (f : List Quad) (w : World) (hv : QuadV w v f) (hl : f.length ≤ 1000) (hf : fineK f f.length = true → LineP f) :
    Calls Tryz.prog 168 #[v] w (RetOB OwnP (coIf_v f) w) := by
  have c1 := fun (hq : fineK f f.length = true) w' (hB : Below w.heap.size w w') => coSimpleL_any v f w' (hv.below hB) (hf hq)
  have c2 := fun (r : Value) w' (hr : QuadV w' r (smL f)) (hsl : (smL f).length ≤ 1099511627776) => imGood_any r (smL f) w' hr hsl
  have hyes : fineK f f.length = true → coIf_v f = cmIf (smL f) := fun h => by unfold coIf_v; rw [if_pos h]
  have hno : fineK f f.length = false → coIf_v f = ([], false) := fun h => by unfold coIf_v; rw [if_neg (by rw [h]; decide)]
  have hbad := fun k (h : k < f.length) (hb : coordP (nth4 f k) = false) => hno (fineK_false h hb)
  have hstep := fineK_step f
  have hsl : (smL f).length ≤ f.length + 2 := by unfold smL; have := (smK_len f (f.length - 2)).2; simp; omega
  obtain ⟨ao, cap, rfl, -, -, H⟩ := hv.form
  obtain ⟨n, hn⟩ : ∃ n, f.length = n := ⟨_, rfl⟩
  rw [hn] at hl H c1 hyes hno hbad ⊢
  generalize coIf_v f = V at *
  obtain ⟨FK, hFK⟩ : ∃ K, fineK f = K := ⟨_, rfl⟩
  rw [hFK] at hyes hno c1 hstep
  have hF0 : FK 0 = true := by rw [← hFK]; rfl
  clear hv hf hFK
  have c1' := Lib.hid c1
  have c2' := Lib.hid c2
  have hyes' := Lib.hid hyes
  have hno' := Lib.hid hno
  have hbad' := Lib.hid hbad
  have hstep' := Lib.hid hstep
  have hsl' := Lib.hid hsl
  have hn' := Lib.hid hn
  have H' := Lib.hid H
  clear c1 c2 hyes hno hbad hstep hsl hn H
  go_enter Tryz.func168, Tryz.ntmps168
  go_wp2
  go_loopw [9] (fun i wr => ∃ k : Nat, k ≤ n ∧ i = .int .i64 k ∧ FK k = true ∧ Below w.heap.size w wr) (fun i _ => n - (intOf i).toNat)
  case atStart => exact ⟨0, Nat.zero_le _, rfl, hF0, Below.refl _ _⟩
  case round =>
    obtain ⟨k, hk, rfl, hF, hB⟩ := hrel
    obtain ⟨wo, rfl⟩ : ∃ wo : World, wo = wr := ⟨_, rfl⟩
    by_cases hlt : k < n
    · obtain ⟨b, off, rfl, y0, y1, y2, y3⟩ := H'.out k hlt
      replace y0 := bkeep hB y0
      replace y1 := bkeep hB y1
      replace y2 := bkeep hB y2
      replace y3 := bkeep hB y3
      have hs1 := hstep'.out k
      have hb1 := hbad'.out k hlt
      have i1 := fun w' => imCoord_any (nth4 f k).1 w'
      have i2 := fun w' => imCoord_any (nth4 f k).2 w'
      have hcp : coordP (nth4 f k) = (coordR (nth4 f k).1 && coordR (nth4 f k).2) := rfl
      rw [hcp] at hs1 hb1
      generalize coordR (nth4 f k).1 = A at *
      generalize coordR (nth4 f k).2 = C at *
      generalize nth4 f k = P at *
      obtain ⟨⟨p0, p1⟩, ⟨p2, p3⟩⟩ := P
      simp only at y0 y1 y2 y3 i1 i2
      obtain ⟨w1, hw1⟩ : ∃ W, wo.alloc (.cells #[.int .i64 p0, .int .i64 p1, .int .i64 p2, .int .i64 p3] 80) = W := ⟨_, rfl⟩
      have hB1 : Below wo.heap.size wo w1 := by rw [← hw1]; exact (Below.refl _ _).alloc (Nat.le_refl _) _
      have xp : BoxQ w1 wo.heap.size ((p0, p1), (p2, p3)) := by rw [← hw1]; refine ⟨?_, ?_, ?_, ?_⟩ <;> simp [go_sem]
      have hb2 := hB.trans (hB1.mono hB.size)
      clear hB1 hB hcp
      have hs1' := Lib.hid hs1
      have hb1' := Lib.hid hb1
      have i1' := Lib.hid i1
      have i2' := Lib.hid i2
      have hw1' := Lib.hid hw1
      have hb2' := Lib.hid hb2
      have xp' := Lib.hid xp
      clear hs1 hb1 i1 i2 hw1 hb2 xp
      go_upto_region 4 with fail
      rw [hw1'.out]
      clear y0 y1 y2 y3
      obtain ⟨y0, y1, y2, y3⟩ := xp'.out
      simp only at y0 y1 y2 y3
      go_wp2_with fail
      refine (i1'.out _).mono ?_
      rintro e w2 ⟨rfl, hB2⟩
      have hb3 := hb2'.out.trans (hB2.mono hb2'.out.size)
      cases A
      · have hV := hb1'.out rfl
        subst hV
        clear hB2 y0 y1 y2 y3
        have hb3' := Lib.hid hb3
        clear hb3
        go_wp2
        go_ret2
        exact ⟨_, rfl, OwnP.nil _ _ _, hb3'.out⟩
      · obtain ⟨t0, t1, t2, t3⟩ := xp'.out.below hB2
        simp only at t0 t1 t2 t3
        clear hB2 y0 y1 y2 y3 hb2' i1'
        have hb3' := Lib.hid hb3
        clear hb3
        go_wp2_with fail
        refine (i2'.out _).mono ?_
        rintro e w3 ⟨rfl, hB3⟩
        have hb4 := hb3'.out.trans (hB3.mono hb3'.out.size)
        clear t0 t1 t2 t3 hB3
        cases C
        · have hV := hb1'.out rfl
          subst hV
          have hb4' := Lib.hid hb4
          clear hb4
          go_wp2
          go_ret2
          exact ⟨_, rfl, OwnP.nil _ _ _, hb4'.out⟩
        · have hF1 : FK (k + 1) = true := by rw [hs1'.out, hF]; rfl
          have hb4' := Lib.hid hb4
          have hF1' := Lib.hid hF1
          clear hb4 hF1
          go_wp2
          go_roundw
          case rel => exact ⟨k + 1, by omega, by go_num, hF1'.out, hb4'.out⟩
          case measure => simp [intOf]; omega
    · obtain rfl : k = n := by omega
      have c3 := c1'.out hF wo hB
      have hV := hyes'.out hF
      subst hV
      have hszw : w.heap.size ≤ wo.heap.size := hB.size
      clear H'
      have c3' := Lib.hid c3
      have hB' := Lib.hid hB
      clear c3 hB
      go_wp2_with fail
      refine (c3'.out).mono ?_
      rintro e w1 ⟨v1, rfl, ho, hB1⟩
      have c4 := c2'.out v1 w1 ho.read (by have := hsl'.out; have := hn'.out; omega)
      have hb1 := hB'.out.trans (hB1.mono hB'.out.size)
      obtain ⟨ao1, cap1, rfl, -⟩ := ho.read.form
      generalize (smL f).length = m at *
      have hmB : cmIf (smL f) = if mapB (smL f) = true then (smL f, true) else ([], false) := rfl
      generalize mapB (smL f) = M at *
      generalize cmIf (smL f) = R at *
      have hos := fun w' (h : Below w1.heap.size w1 w') => OwnP.below ho h (Nat.le_refl _)
      clear ho hB1 c3' hB'
      have c4' := Lib.hid c4
      have hb1' := Lib.hid hb1
      have hmB' := Lib.hid hmB
      have hos' := Lib.hid hos
      clear c4 hb1 hmB hos
      go_wp2_with fail
      refine (c4'.out).mono ?_
      rintro e w2 ⟨rfl, hB2⟩
      have hb2 := hb1'.out.trans (hB2.mono hb1'.out.size)
      have ho2 := hos'.out w2 hB2
      have hM := hmB'.out
      cases M
      · rw [if_neg (by decide)] at hM
        subst hM
        clear hB2 ho2
        have hb2' := Lib.hid hb2
        clear hb2
        go_wp2
        go_ret2
        exact ⟨_, rfl, OwnP.nil _ _ _, hb2'.out⟩
      · rw [if_pos rfl] at hM
        subst hM
        have ho3 := OwnP.mono ho2 (hB := hszw) (hE := hB2.size)
        clear hB2
        have hb2' := Lib.hid hb2
        have ho3' := Lib.hid ho3
        clear hb2 ho3
        go_wp2
        go_ret2
        exact ⟨_, rfl, ho3'.out, hb2'.out⟩
end Go.Proofs.YtfhhofecfllbfaaGreat

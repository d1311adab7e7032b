/- Several texts in one: Ls LsS. No conditions but those that each theorem states. -/
import Derived.Test.YtfhhofecfllbfaaGreatCommon
import Derived.Test.YtfhhofecfllbfaaGreatSlopes

namespace Go.Proofs.YtfhhofecfllbfaaGreat
open Go.RowKit
set_option maxRecDepth 100000

theorem ls_yes {f : List Quad} {i : Quad} (h : mapB f = true ∧ ivB i = true) : LeastSlope_v f i = (minL (lsL f i (f.length - 1)), true) := by unfold LeastSlope_v; rw [if_pos h]
theorem ls_no {f : List Quad} {i : Quad} (h : ¬ (mapB f = true ∧ ivB i = true)) : LeastSlope_v f i = ((0, 0), false) := by unfold LeastSlope_v; rw [if_neg h]

set_option linter.unusedSimpArgs false in
set_option linter.unusedVariables false in
set_option maxRecDepth 10000 in
set_option maxHeartbeats 4000000 in
theorem implLeastSlope_any (v : Value) (f : List Quad) (i : Quad) (w : World) (hv : QuadV w v f) (hm : f.length ≤ 1099511627776) :
    Calls Tryz.prog 26 #[v, quadV i] w (Ret (.tuple #[ratV (LeastSlope_v f i).1, .bool (LeastSlope_v f i).2]) w) := by
  have c1 := fun w' (hB : Below w.heap.size w w') => isMap_any v f w' (hv.below hB) hm
  have c2 := fun w' => isInterval_any i w'
  have hyes := ls_yes (f := f) (i := i)
  have hno := ls_no (f := f) (i := i)
  have c3 := fun (hf : MapP f) w' (hB : Below w.heap.size w w') => slopes_any v f w' (hv.below hB) hf
  have c4 := fun (hf : MapP f) (hi : ivB i = true) (k : Nat) (hk : k + 1 < f.length) w' => common_any i ((nth4 f k).1, (nth4 f (k + 1)).1) w' hi (unitR_good (coordR_unit (hf.coord k (by omega)).1)) (unitR_good (coordR_unit (hf.coord (k + 1) hk).1)) (hf.rise k hk)
  have hsl : (slL f).length = f.length - 1 := slK_len f _
  have hsn : ∀ k, k < f.length - 1 → nthR (slL f) k = slopeR (nth4 f k) (nth4 f (k + 1)) := fun k h => nthR_slK f h
  have hsg := fun (hf : MapP f) (k : Nat) (hk : k + 1 < f.length) => slope_good hf (i := k) hk
  have hstep := lsL_step f i
  have hllen := lsL_len f i
  have hlgood := fun (hf : MapP f) (k : Nat) (hk : k + 1 ≤ f.length) => lsL_good hf i k hk
  have hlne := fun (hf : MapP f) (hi : ivB i = true) => lsL_ne hf hi
  have hl00 : lsL f i 0 = [] := rfl
  have hLB : ∀ k, lsB i ((nth4 f k).1, (nth4 f k).1) ((nth4 f (k + 1)).1, (nth4 f (k + 1)).1) = lsB i (nth4 f k) (nth4 f (k + 1)) := fun _ => rfl
  have hmp := fun (h : mapB f = true) => mapB_true h
  obtain ⟨ao, cap, rfl, _, _, H⟩ := hv.form
  generalize LeastSlope_v f i = V at *
  generalize lsL f i = LS at *
  obtain ⟨n, hn⟩ : ∃ n, f.length = n := ⟨_, rfl⟩
  rw [hn] at c1 hyes c3 c4 hsl hsn hsg hlgood hlne H hm ⊢
  generalize slL f = SL at *
  obtain ⟨A, hA⟩ : ∃ A, mapB f = A := ⟨_, rfl⟩
  obtain ⟨B, hB'⟩ : ∃ B, ivB i = B := ⟨_, rfl⟩
  rw [hA] at c1 hyes hno hmp
  rw [hB'] at c2 hyes hno c4 hlne
  have hlen2 := fun (hf : MapP f) => hf.len
  obtain ⟨I, hI⟩ : ∃ I, i = I := ⟨_, rfl⟩
  rw [hI] at c2 c4 ⊢
  obtain ⟨⟨p0, p1⟩, ⟨p2, p3⟩⟩ := I
  obtain ⟨w1, hw1⟩ : ∃ W, (w.alloc (.cells #[.int .i64 p0, .int .i64 p1, .int .i64 p2, .int .i64 p3] 44)).alloc (.cells #[.int .i64 0, .int .i64 0] 42) = W := ⟨_, rfl⟩
  have hB1 : Below w.heap.size w w1 := by rw [← hw1]; exact ((Below.refl _ _).alloc (Nat.le_refl _) _).alloc (by simp) _
  have xi : BoxQ w1 w.heap.size ((p0, p1), (p2, p3)) := by rw [← hw1]; refine ⟨?_, ?_, ?_, ?_⟩ <;> simp [go_sem]
  have xr : BoxV w1 (w.heap.size + 1) (0, 0) := by rw [← hw1]; refine ⟨⟨?_, ?_⟩, ?_, ?_⟩ <;> simp [go_sem]
  obtain ⟨rb, hrbe⟩ : ∃ b, w.heap.size + 1 = b := ⟨_, rfl⟩
  rw [hrbe] at xr
  have hrbl : w.heap.size ≤ rb := by omega
  clear hv
  have c1' := Lib.hid c1
  have c2' := Lib.hid c2
  have c3' := Lib.hid c3
  have c4' := Lib.hid c4
  have hyes' := Lib.hid hyes
  have hno' := Lib.hid hno
  have hsl' := Lib.hid hsl
  have hsn' := Lib.hid hsn
  have hsg' := Lib.hid hsg
  have hstep' := Lib.hid hstep
  have hllen' := Lib.hid hllen
  have hlgood' := Lib.hid hlgood
  have hlne' := Lib.hid hlne
  have hl00' := Lib.hid hl00
  have hLB' := Lib.hid hLB
  have hmp' := Lib.hid hmp
  have hA' := Lib.hid hA
  have hB'' := Lib.hid hB'
  have hI' := Lib.hid hI
  have hw1' := Lib.hid hw1
  have xi' := Lib.hid xi
  have xr' := Lib.hid xr
  have hlen2' := Lib.hid hlen2
  have hn' := Lib.hid hn
  have H' := Lib.hid H
  clear c1 c2 c3 c4 hyes hno hsl hsn hsg hstep hllen hlgood hlne hl00 hLB hmp hA hB' hI hw1 xi xr hlen2 hn H
  show Calls _ _ #[_, .agg #[.int .i64 p0, .int .i64 p1, .int .i64 p2, .int .i64 p3]] w _
  go_enter Tryz.func26, Tryz.ntmps26
  go_wp2_with fail
  rw [hw1'.out]
  go_wp2_with fail
  refine (c1'.out _ hB1).mono ?_
  rintro e w2 ⟨rfl, hB2⟩
  have hb2 := hB1.trans (hB2.mono hB1.size)
  have xi2 := xi'.out.below hB2
  have xr2 := xr'.out.below hB2
  clear hB2 hB1 xi' xr' hw1' c1'
  cases A
  · have hV := hno'.out (fun h => by cases h.1)
    subst hV
    obtain ⟨⟨n0, n1⟩, f0, f1⟩ := id xr2
    have hbf := (hb2.setCell (p := ⟨rb, 0, none⟩) hrbl (.int .i64 0)).setCell (p := ⟨rb, 1, none⟩) hrbl (.int .i64 0)
    clear xi2 xr2 hb2
    have hbf' := Lib.hid hbf
    clear hbf
    go_wp2
    exact bodyPost_ret (v := .tuple #[ratV (0, 0), .bool false]) (by simp [results, Tryz.results26, go_sem, n0, n1, ratV]) rfl ⟨rfl, hbf'.out⟩
  · obtain ⟨a0, a1, a2, a3⟩ := id xi2
    simp only at a0 a1 a2 a3
    have hb2' := Lib.hid hb2
    have xi2' := Lib.hid xi2
    have xr2' := Lib.hid xr2
    clear hb2 xi2 xr2
    go_wp2_with fail
    refine (c2'.out _).mono ?_
    rintro e w3 ⟨rfl, hB3⟩
    have hb3 := hb2'.out.trans (hB3.mono hb2'.out.size)
    have xi3 := xi2'.out.below hB3
    have xr3 := xr2'.out.below hB3
    clear hB3 hb2' xi2' xr2' c2' a0 a1 a2 a3
    cases B
    · have hV := hno'.out (fun h => by cases h.2)
      subst hV
      obtain ⟨⟨n0, n1⟩, f0, f1⟩ := id xr3
      have hbf := (hb3.setCell (p := ⟨rb, 0, none⟩) hrbl (.int .i64 0)).setCell (p := ⟨rb, 1, none⟩) hrbl (.int .i64 0)
      clear xi3 xr3 hb3
      have hbf' := Lib.hid hbf
      clear hbf
      go_wp2
      exact bodyPost_ret (v := .tuple #[ratV (0, 0), .bool false]) (by simp [results, Tryz.results26, go_sem, n0, n1, ratV]) rfl ⟨rfl, hbf'.out⟩
    · have hV := hyes'.out ⟨by simp, by simp⟩
      subst hV
      have hf := hmp'.out (by simp)
      have hnl := hlen2'.out hf
      rw [hn'.out] at hnl
      have hne := hlne'.out hf (by simp)
      have c5 := c3'.out hf w3 hb3
      have hgood := hlgood'.out hf
      clear hyes' hno' hmp' c3' hlen2' hlne' hlgood'
      obtain ⟨n1, hn1⟩ : ∃ m, n - 1 = m := ⟨_, rfl⟩
      rw [hn1] at hne ⊢
      have hnn1 : n = n1 + 1 := by omega
      have hn12 : 1 ≤ n1 ∧ n1 ≤ 11 := by omega
      have hb3' := Lib.hid hb3
      have xi3' := Lib.hid xi3
      have xr3' := Lib.hid xr3
      have hne' := Lib.hid hne
      have c5' := Lib.hid c5
      have hgood' := Lib.hid hgood
      have hn1' := Lib.hid hn1
      have hnn1' := Lib.hid hnn1
      clear hb3 xi3 xr3 hne c5 hgood hn1 hnn1
      go_wp2_with fail
      refine c5'.out.mono ?_
      rintro e w4 ⟨sv, rfl, hsv, hB4⟩
      have hb4 := hb3'.out.trans (hB4.mono hb3'.out.size)
      have xi4 := xi3'.out.below hB4
      have xr4 := xr3'.out.below hB4
      obtain ⟨so, scap, rfl, _, _, HS⟩ := hsv.read.form
      rw [hsl'.out, hn1'.out] at HS ⊢
      clear hB4 hb3' xi3' xr3' c5' hsv hsl'
      have hl1 : w.heap.size < w4.heap.size := xi4.lt
      have hl2 : rb < w4.heap.size := xr4.lt
      have hb4' := Lib.hid hb4
      have xi4' := Lib.hid xi4
      have xr4' := Lib.hid xr4
      have HS' := Lib.hid HS
      clear hb4 xi4 xr4 HS
      go_wp2
      go_loopw [6, 23] (fun o j W => ∃ k : Nat, k ≤ n1 ∧ j = .int .i64 k ∧ GrowR W w4.heap.size o (LS k) ∧ Below w4.heap.size w4 W) (fun _ j _ => n1 - (intOf j).toNat)
      case atStart => exact ⟨0, Nat.zero_le _, rfl, by rw [hl00'.out]; exact GrowR.nil _ _, Below.refl _ _⟩
      case round =>
        obtain ⟨k, hk, rfl, hg, hB⟩ := hrel
        have hsr := hB.size
        by_cases hlt : k < n1
        · obtain ⟨q, hq⟩ : ∃ q : Nat, q = k + 1 := ⟨_, rfl⟩
          obtain ⟨b, off, rfl, a0, a1, _⟩ := H'.out k (by have := hnn1'.out; omega)
          obtain ⟨_, _, e, b0, b1, _⟩ := H'.out q (by have := hnn1'.out; omega)
          cases e
          obtain ⟨sb, soff, rfl, s0, s1⟩ := HS'.out k hlt
          have hkn : k + 1 < n := by have := hnn1'.out; omega
          have cc := c4'.out hf (by simp) k hkn
          have hst := hstep'.out k
          have hsk := hsn'.out k (by have := hnn1'.out; omega)
          have hgs := hsg'.out hf k hkn
          have hLBk := hLB'.out k
          have hle := hllen'.out k
          rw [← hq] at cc hst hsk hgs hLBk
          rw [hsk] at s0 s1
          have hb4r := hb4'.out.trans (hB.mono hb4'.out.size)
          replace a0 := bkeep hb4r a0
          replace a1 := bkeep hb4r a1
          replace b0 := bkeep hb4r b0
          replace b1 := bkeep hb4r b1
          replace s0 := bkeep hB s0
          replace s1 := bkeep hB s1
          obtain ⟨M, hM⟩ : ∃ M, lsB i (nth4 f k) (nth4 f q) = M := ⟨_, rfl⟩
          have hMc : lsB ((p0, p1), (p2, p3)) ((nth4 f k).1, (nth4 f k).1) ((nth4 f q).1, (nth4 f q).1) = M := by rw [← hI'.out, hLBk, hM]
          rw [hM] at hst
          rw [hMc] at cc
          obtain ⟨X, hX⟩ : ∃ X, (nth4 f k).1 = X := ⟨_, rfl⟩
          obtain ⟨Y, hY⟩ : ∃ Y, (nth4 f q).1 = Y := ⟨_, rfl⟩
          obtain ⟨Z, hZ⟩ : ∃ Z, slopeR (nth4 f k) (nth4 f q) = Z := ⟨_, rfl⟩
          rw [hX] at a0 a1 cc
          rw [hY] at b0 b1 cc
          rw [hZ] at s0 s1 hst hgs
          obtain ⟨x0, x1⟩ := X
          obtain ⟨y0, y1⟩ := Y
          obtain ⟨z0, z1⟩ := Z
          have hst2 : LS q = if M = true then LS k ++ [((z0.natAbs : Int), z1)] else LS k := hst
          simp only at a0 a1 b0 b1 s0 s1 hgs
          have hzb := goodR_bd hgs
          have g0 : (0 : Int) ≤ (k : Int) := by omega
          have g1 : (k : Int) < (n1 : Int) := by omega
          have g2 : (0 : Int) ≤ (q : Int) := by omega
          have g3 : (q : Int) < (n : Int) := by omega
          have g4 : IntKind.i64.wrap ((k : Int) + 1) = (q : Int) := by rw [IntKind.wrap_i64]; omega
          have g5 : q < n := by omega
          have g6 : k < n := by omega
          have g7 : (k : Int) < (n : Int) := by omega
          obtain ⟨w6, hw6⟩ : ∃ W, wr.alloc (.cells #[.int .i64 z0, .int .i64 z1] 42) = W := ⟨_, rfl⟩
          have hB6 : Below wr.heap.size wr w6 := by rw [← hw6]; exact (Below.refl _ _).alloc (Nat.le_refl _) _
          have e0 : w6.cell? ⟨wr.heap.size, 0, none⟩ = some (.int .i64 z0) := by rw [← hw6]; simp [go_sem]
          have e1 : w6.cell? ⟨wr.heap.size, 1, none⟩ = some (.int .i64 z1) := by rw [← hw6]; simp [go_sem]
          have hb6 := hB.trans (hB6.mono hsr)
          have hg6 := hg.below hB6
          have hob : ∀ jj, u6.ownBlock = some jj → jj < wr.heap.size := fun jj e => (World.ownsRow.lt hg jj e).2
          have hw6r : wr.heap.size < w6.heap.size := by rw [← hw6]; simp
          have xi6 := xi4'.out.below hb6
          have at' : ∀ w', Below w6.heap.size w6 w' → (w'.cell? ⟨w.heap.size, 0, none⟩ = some (.int .i64 p0) ∧ w'.cell? ⟨w.heap.size, 1, none⟩ = some (.int .i64 p1) ∧ w'.cell? ⟨w.heap.size, 2, none⟩ = some (.int .i64 p2) ∧ w'.cell? ⟨w.heap.size, 3, none⟩ = some (.int .i64 p3)) ∧ (w'.cell? ⟨b, off + k * 4, none⟩ = some (.int .i64 x0) ∧ w'.cell? ⟨b, off + k * 4 + 1, none⟩ = some (.int .i64 x1)) ∧ w'.cell? ⟨b, off + q * 4, none⟩ = some (.int .i64 y0) ∧ w'.cell? ⟨b, off + q * 4 + 1, none⟩ = some (.int .i64 y1) := fun w' h => ⟨xi6.below h, ⟨bkeep h (bkeep hB6 a0), bkeep h (bkeep hB6 a1)⟩, bkeep h (bkeep hB6 b0), bkeep h (bkeep hB6 b1)⟩
          have hd : Below w6.heap.size w6 w6.drew := (Below.refl _ _).drew
          clear a0 a1 b0 b1 hst hB6 hb4r xi6 hsk hLBk hMc hg hB
          have hq' := Lib.hid hq
          have cc' := Lib.hid cc
          have hst2' := Lib.hid hst2
          have hle' := Lib.hid hle
          have hM' := Lib.hid hM
          have hX' := Lib.hid hX
          have hY' := Lib.hid hY
          have hZ' := Lib.hid hZ
          have hw6' := Lib.hid hw6
          have e0' := Lib.hid e0
          have e1' := Lib.hid e1
          have hb6' := Lib.hid hb6
          have hg6' := Lib.hid hg6
          have hob' := Lib.hid hob
          have at'' := Lib.hid at'
          clear hq cc hst2 hle hM hX hY hZ hw6 e0 e1 hb6 hg6 hob at'
          go_upto_region 7 with fail
          rw [hw6'.out]
          clear s0 s1
          go_cut [9, 10, 28, 42, 43, 44] from 29 to 44 (fun _ s10 _ _ _ _ wx => s10 = .bool M ∧ Below w6.heap.size w6 wx)
          case first =>
            refine wp_region_held_drew (S := (fun w' => Below w6.heap.size w6 w' ∧ (w'.cell? ⟨w.heap.size, 0, none⟩ = some (.int .i64 p0) ∧ w'.cell? ⟨w.heap.size, 1, none⟩ = some (.int .i64 p1) ∧ w'.cell? ⟨w.heap.size, 2, none⟩ = some (.int .i64 p2) ∧ w'.cell? ⟨w.heap.size, 3, none⟩ = some (.int .i64 p3)) ∧ (w'.cell? ⟨b, off + k * 4, none⟩ = some (.int .i64 x0) ∧ w'.cell? ⟨b, off + k * 4 + 1, none⟩ = some (.int .i64 x1)) ∧ w'.cell? ⟨b, off + q * 4, none⟩ = some (.int .i64 y0) ∧ w'.cell? ⟨b, off + q * 4 + 1, none⟩ = some (.int .i64 y1))) (by kernel_rfl) (by (try dsimp only); (first | exact ⟨hd, at''.out _ hd⟩ | exact ⟨hdp.alloc hdp.size _, at''.out _ (hdp.alloc hdp.size _)⟩ | exact ⟨below_set4 hd hlow ((zq0, zq1), (zq2, zq3)), at''.out _ (below_set4 hd hlow ((zq0, zq1), (zq2, zq3)))⟩)) (fun hHeld => ?_)
            refine ly_q 0 (v := ?_) hHeld ?_
            try simp only [Act.put, lyA, lyB, lyC]
            refine ly_q 1 (v := ?_) hHeld ?_
            try simp only [Act.put, lyA, lyB, lyC]
            refine ly_q 2 (v := ?_) hHeld ?_
            try simp only [Act.put, lyA, lyB, lyC]
            refine ly_q 3 (v := ?_) hHeld ?_
            try simp only [Act.put, lyA, lyB, lyC]
            refine ly_q 4 (v := ?_) hHeld ?_
            try simp only [Act.put, lyA, lyB, lyC]
            refine ly_q 5 (v := ?_) hHeld ?_
            try simp only [Act.put, lyA, lyB, lyC]
            refine ly_q 6 (v := ?_) hHeld ?_
            try simp only [Act.put, lyA, lyB, lyC]
            refine ly_q 7 (v := ?_) hHeld ?_
            try simp only [Act.put, lyA, lyB, lyC]
            refine ly_q 8 (v := ?_) hHeld ?_
            try simp only [Act.put, lyA, lyB, lyC]
            refine ly_q 9 (v := ?_) hHeld ?_
            try simp only [Act.put, lyA, lyB, lyC]
            refine ly_q 10 (v := ?_) hHeld ?_
            try simp only [Act.put, lyA, lyB, lyC]
            refine ly_q 11 (v := ?_) hHeld ?_
            try simp only [Act.put, lyA, lyB, lyC]
            refine ly_q 12 (v := ?_) hHeld ?_
            try simp only [Act.put, lyA, lyB, lyC]
            refine wpAnyH_ready (rs := [13, 17]) (by kernel_rfl) (by simp) ?_
            refine AllReadyH.cons (o := Oper.mk _ _ _ _ _ _) rfl (fun KK hKK => ?_) (AllReadyH.cons (o := Oper.mk _ _ _ _ _ _) rfl (fun KK hKK => ?_) (AllReadyH.nil))
            · rw [if_pos (by kernel_rfl)]
              go_simp
              refine (cc'.out _).mono ?_
              rintro e w8 ⟨zq, rfl, hB8⟩
              replace hd := hd.trans (hB8.mono hd.size)
              (try replace f0 := gfrozen (bgrow hB8 none) n0 f0 (by simp))
              (try replace f1 := gfrozen (bgrow hB8 none) n1' f1 (by simp))
              (try replace f2 := gfrozen (bgrow hB8 none) n2 f2 (by simp))
              (try replace f3 := gfrozen (bgrow hB8 none) n3 f3 (by simp))
              (try replace n0 := bkeep hB8 n0)
              (try replace n1' := bkeep hB8 n1')
              (try replace n2 := bkeep hB8 n2)
              (try replace n3 := bkeep hB8 n3)
              obtain ⟨⟨zq0, zq1⟩, ⟨zq2, zq3⟩⟩ := zq
              try dsimp only
              refine hKK.out _ _ (by (try dsimp only); (first | exact ⟨hd, at''.out _ hd⟩ | exact ⟨hdp.alloc hdp.size _, at''.out _ (hdp.alloc hdp.size _)⟩ | exact ⟨below_set4 hd hlow ((zq0, zq1), (zq2, zq3)), at''.out _ (below_set4 hd hlow ((zq0, zq1), (zq2, zq3)))⟩)) (fun hHeld => ?_)
              clear hKK KK
              try simp only [Act.put, lyA, lyB, lyC]
              refine ly_q 14 (v := ?_) hHeld ?_
              try simp only [Act.put, lyA, lyB, lyC]
              refine ly_q 15 (v := ?_) hHeld ?_
              try simp only [Act.put, lyA, lyB, lyC]
              refine ly_q 16 (v := ?_) hHeld ?_
              try simp only [Act.put, lyA, lyB, lyC]
              refine ly_a 17 (fun KK hKK => ?_)
              go_simp
              have hdp := hd
              have hlow := hd.size
              replace hd := hd.alloc hd.size (.cells #[.int .i64 0, .int .i64 0, .int .i64 0, .int .i64 0] 44)
              obtain ⟨⟨n0, n1', n2, n3⟩, f0, f1, f2, f3⟩ := new_cells4 hd
              (try change World.cell? _ ⟨w6.heap.size, 0, none⟩ = _ at n0)
              (try change World.cell? _ ⟨w6.heap.size, 1, none⟩ = _ at n1')
              (try change World.cell? _ ⟨w6.heap.size, 2, none⟩ = _ at n2)
              (try change World.cell? _ ⟨w6.heap.size, 3, none⟩ = _ at n3)
              (try change World.frozen? _ ⟨w6.heap.size, 0, none⟩ = _ at f0)
              (try change World.frozen? _ ⟨w6.heap.size, 1, none⟩ = _ at f1)
              (try change World.frozen? _ ⟨w6.heap.size, 2, none⟩ = _ at f2)
              (try change World.frozen? _ ⟨w6.heap.size, 3, none⟩ = _ at f3)
              try dsimp only
              refine hKK.out _ _ (by (try dsimp only); (first | exact ⟨hd, at''.out _ hd⟩ | exact ⟨hdp.alloc hdp.size _, at''.out _ (hdp.alloc hdp.size _)⟩ | exact ⟨below_set4 hd hlow ((zq0, zq1), (zq2, zq3)), at''.out _ (below_set4 hd hlow ((zq0, zq1), (zq2, zq3)))⟩)) (fun hHeld => ?_)
              clear hKK KK
              try simp only [Act.put, lyA, lyB, lyC]
              refine ly_a 18 (fun KK hKK => ?_)
              go_simp
              skip
              try dsimp only
              refine hKK.out _ _ (by (try dsimp only); (first | exact ⟨hd, at''.out _ hd⟩ | exact ⟨hdp.alloc hdp.size _, at''.out _ (hdp.alloc hdp.size _)⟩ | exact ⟨below_set4 hd hlow ((zq0, zq1), (zq2, zq3)), at''.out _ (below_set4 hd hlow ((zq0, zq1), (zq2, zq3)))⟩)) (fun hHeld => ?_)
              clear hKK KK
              try simp only [Act.put, lyA, lyB, lyC]
              refine ly_q 19 (v := ?_) hHeld ?_
              try simp only [Act.put, lyA, lyB, lyC]
              refine wpAnyH_done (by kernel_rfl) ?_ _
              obtain ⟨hdV, _⟩ := hHeld
              go_wp2
              go_meet
              exact ⟨rfl, hdV⟩
            · rw [if_pos (by kernel_rfl)]
              go_simp
              have hdp := hd
              have hlow := hd.size
              replace hd := hd.alloc hd.size (.cells #[.int .i64 0, .int .i64 0, .int .i64 0, .int .i64 0] 44)
              obtain ⟨⟨n0, n1', n2, n3⟩, f0, f1, f2, f3⟩ := new_cells4 hd
              (try change World.cell? _ ⟨w6.heap.size, 0, none⟩ = _ at n0)
              (try change World.cell? _ ⟨w6.heap.size, 1, none⟩ = _ at n1')
              (try change World.cell? _ ⟨w6.heap.size, 2, none⟩ = _ at n2)
              (try change World.cell? _ ⟨w6.heap.size, 3, none⟩ = _ at n3)
              (try change World.frozen? _ ⟨w6.heap.size, 0, none⟩ = _ at f0)
              (try change World.frozen? _ ⟨w6.heap.size, 1, none⟩ = _ at f1)
              (try change World.frozen? _ ⟨w6.heap.size, 2, none⟩ = _ at f2)
              (try change World.frozen? _ ⟨w6.heap.size, 3, none⟩ = _ at f3)
              try dsimp only
              refine hKK.out _ _ (by (try dsimp only); (first | exact ⟨hd, at''.out _ hd⟩ | exact ⟨hdp.alloc hdp.size _, at''.out _ (hdp.alloc hdp.size _)⟩ | exact ⟨below_set4 hd hlow ((zq0, zq1), (zq2, zq3)), at''.out _ (below_set4 hd hlow ((zq0, zq1), (zq2, zq3)))⟩)) (fun hHeld => ?_)
              clear hKK KK
              try simp only [Act.put, lyA, lyB, lyC]
              refine ly_a 13 (fun KK hKK => ?_)
              go_simp
              refine (cc'.out _).mono ?_
              rintro e w8 ⟨zq, rfl, hB8⟩
              replace hd := hd.trans (hB8.mono hd.size)
              (try replace f0 := gfrozen (bgrow hB8 none) n0 f0 (by simp))
              (try replace f1 := gfrozen (bgrow hB8 none) n1' f1 (by simp))
              (try replace f2 := gfrozen (bgrow hB8 none) n2 f2 (by simp))
              (try replace f3 := gfrozen (bgrow hB8 none) n3 f3 (by simp))
              (try replace n0 := bkeep hB8 n0)
              (try replace n1' := bkeep hB8 n1')
              (try replace n2 := bkeep hB8 n2)
              (try replace n3 := bkeep hB8 n3)
              obtain ⟨⟨zq0, zq1⟩, ⟨zq2, zq3⟩⟩ := zq
              try dsimp only
              refine hKK.out _ _ (by (try dsimp only); (first | exact ⟨hd, at''.out _ hd⟩ | exact ⟨hdp.alloc hdp.size _, at''.out _ (hdp.alloc hdp.size _)⟩ | exact ⟨below_set4 hd hlow ((zq0, zq1), (zq2, zq3)), at''.out _ (below_set4 hd hlow ((zq0, zq1), (zq2, zq3)))⟩)) (fun hHeld => ?_)
              clear hKK KK
              try simp only [Act.put, lyA, lyB, lyC]
              refine ly_q 14 (v := ?_) hHeld ?_
              try simp only [Act.put, lyA, lyB, lyC]
              refine ly_q 15 (v := ?_) hHeld ?_
              try simp only [Act.put, lyA, lyB, lyC]
              refine ly_q 16 (v := ?_) hHeld ?_
              try simp only [Act.put, lyA, lyB, lyC]
              refine ly_a 18 (fun KK hKK => ?_)
              go_simp
              skip
              try dsimp only
              refine hKK.out _ _ (by (try dsimp only); (first | exact ⟨hd, at''.out _ hd⟩ | exact ⟨hdp.alloc hdp.size _, at''.out _ (hdp.alloc hdp.size _)⟩ | exact ⟨below_set4 hd hlow ((zq0, zq1), (zq2, zq3)), at''.out _ (below_set4 hd hlow ((zq0, zq1), (zq2, zq3)))⟩)) (fun hHeld => ?_)
              clear hKK KK
              try simp only [Act.put, lyA, lyB, lyC]
              refine ly_q 19 (v := ?_) hHeld ?_
              try simp only [Act.put, lyA, lyB, lyC]
              refine wpAnyH_done (by kernel_rfl) ?_ _
              obtain ⟨hdV, _⟩ := hHeld
              go_wp2
              go_meet
              exact ⟨rfl, hdV⟩
          case rest =>
          obtain ⟨rfl, hBx⟩ := hcut
          have e0 := bkeep hBx e0'.out
          have e1 := bkeep hBx e1'.out
          have hgx := hg6'.out.below hBx
          have hbx := hb6'.out.trans (hBx.mono hb6'.out.size)
          have hwx : wr.heap.size < wc.heap.size := Nat.lt_of_lt_of_le hw6r hBx.size
          have hsx := hbx.size
          have g8 : IntKind.i64.wrap ((q : Int)) = (q : Int) := by rw [IntKind.wrap_i64]; omega
          clear hBx hd at'' hb6' hg6' e0' e1' cc' hw6'
          cases M
          · have hE : LS q = LS k := by rw [hst2'.out, if_neg (by decide)]
            rw [← hE] at hgx
            clear e0 e1 hE
            have hgx' := Lib.hid hgx
            have hbx' := Lib.hid hbx
            clear hgx hbx
            go_wp2
            go_roundw
            case rel => exact ⟨q, by have := hq'.out; omega, by have h1 := hq'.out; first | rfl | go_num, hgx'.out, hbx'.out⟩
            case measure => have h1 := hq'.out; simp [intOf]; omega
          · have hE : LS q = LS k ++ [((z0.natAbs : Int), z1)] := by rw [hst2'.out, if_pos rfl]
            have ca := fun w' => abs_any z0 w' (by omega)
            generalize (z0.natAbs : Int) = za at ca hE
            have hd : Below wc.heap.size wc wc.drew := (Below.refl _ _).drew
            have at3 : ∀ w', Below wc.heap.size wc w' → w'.cell? ⟨wr.heap.size, 0, none⟩ = some (.int .i64 z0) ∧ w'.cell? ⟨wr.heap.size, 1, none⟩ = some (.int .i64 z1) := fun w' h => ⟨bkeep h e0, bkeep h e1⟩
            have hlk : (LS k).length ≤ 1099511627776 := by have := hle'.out; omega
            clear e0 e1
            have hE' := Lib.hid hE
            have ca' := Lib.hid ca
            have at3' := Lib.hid at3
            have hgx' := Lib.hid hgx
            have hbx' := Lib.hid hbx
            have hlk' := Lib.hid hlk
            clear hE ca at3 hgx hbx hlk
            go_wp2_with fail
            refine wp_region_held_drew (S := (fun w' => w'.cell? ⟨wr.heap.size, 0, none⟩ = some (.int .i64 z0) ∧ w'.cell? ⟨wr.heap.size, 1, none⟩ = some (.int .i64 z1))) (by kernel_rfl) (by (try dsimp only); (first | exact at3'.out _ hd | exact at3'.out _ hd2 | exact hcells)) (fun hHeld => ?_)
            refine ly_q 0 (v := ?_) hHeld ?_
            try simp only [Act.put, lyA, lyB, lyC]
            refine ly_q 1 (v := ?_) hHeld ?_
            try simp only [Act.put, lyA, lyB, lyC]
            refine ly_q 2 (v := ?_) hHeld ?_
            try simp only [Act.put, lyA, lyB, lyC]
            refine ly_q 4 (v := ?_) hHeld ?_
            try simp only [Act.put, lyA, lyB, lyC]
            refine ly_q 5 (v := ?_) hHeld ?_
            try simp only [Act.put, lyA, lyB, lyC]
            refine ly_a 3 (fun KK hKK => ?_)
            go_simp
            refine (ca'.out _).mono ?_
            rintro e w9 ⟨rfl, rfl⟩
            try dsimp only
            refine hKK.out _ _ (by (try dsimp only); (first | exact at3'.out _ hd | exact at3'.out _ hd2 | exact hcells)) (fun hHeld => ?_)
            clear hKK KK
            try simp only [Act.put, lyA, lyB, lyC]
            refine ly_q 6 (v := ?_) hHeld ?_
            try simp only [Act.put, lyA, lyB, lyC]
            refine ly_a 7 (fun KK hKK => ?_)
            go_simp
            have hd2 := hd.alloc hd.size (.cells #[.int .i64 za, .int .i64 z1] 42)
            try dsimp only
            refine hKK.out _ _ (by (try dsimp only); (first | exact at3'.out _ hd | exact at3'.out _ hd2 | exact hcells)) (fun hHeld => ?_)
            clear hKK KK
            try simp only [Act.put, lyA, lyB, lyC]
            refine ly_a 8 (fun KK hKK => ?_)
            refine wp_append_rat _ _ rfl w4.heap.size u6 (LS k) za z1 _ rfl rfl (hgx'.out.below hd) hlk'.out (Nat.le_trans hsx hd.size) ?_
            intro v10 w10 hg10 hgrow10
            have hcells := And.intro (gcell hgrow10 (at3'.out _ hd).1 (fun e => by have := hob'.out _ e; simp at this)) (gcell hgrow10 (at3'.out _ hd).2 (fun e => by have := hob'.out _ e; simp at this))
            try dsimp only
            refine hKK.out _ _ (by (try dsimp only); (first | exact at3'.out _ hd | exact at3'.out _ hd2 | exact hcells)) (fun hHeld => ?_)
            clear hKK KK
            try simp only [Act.put, lyA, lyB, lyC]
            refine ly_q 9 (v := ?_) hHeld ?_
            try simp only [Act.put, lyA, lyB, lyC]
            refine wpAnyH_done (by kernel_rfl) ?_ _
            clear hHeld hcells
            have hb10 := GrowR.belowB (hgx'.out.below hd) (hbx'.out.trans (hd.mono hbx'.out.size)) (Nat.le_refl _) (Nat.le_trans hsx hd.size) hgrow10
            rw [← hE'.out] at hg10
            clear hd2 hd hgrow10
            have hg10' := Lib.hid hg10
            have hb10' := Lib.hid hb10
            clear hg10 hb10
            go_wp2
            go_roundw
            case rel => exact ⟨q, by have := hq'.out; omega, by have h1 := hq'.out; first | rfl | go_num, hg10'.out, hb10'.out⟩
            case measure => have h1 := hq'.out; simp [intOf]; omega
        · have hkn : k = n1 := by omega
          have g3 : ¬ (k : Int) < (n1 : Int) := by omega
          have hgd := fun x hx => (hgood'.out n1 (by have := hnn1'.out; omega) x hx).1
          have hle := hllen'.out n1
          have hne2 := hne'.out
          rw [← hkn] at hgd hle hne2 ⊢
          have hr := hg.read
          have cm := minFunc_any u6 (LS k) wr hr (List.length_pos_iff.2 hne2) (by omega) hgd
          have hbr := hb4'.out.trans (hB.mono hb4'.out.size)
          have xr5 := xr4'.out.below hB
          clear hr hg hB hgd hne2 hle
          have hkn' := Lib.hid hkn
          have cm' := Lib.hid cm
          have hbr' := Lib.hid hbr
          have xr5' := Lib.hid xr5
          clear hkn cm hbr xr5
          go_wp2_with fail
          refine cm'.out.mono ?_
          rintro e w5 ⟨rfl, hB5⟩
          have hb5 := hbr'.out.trans (hB5.mono hbr'.out.size)
          obtain ⟨⟨n0, n1'⟩, f0, f1⟩ := xr5'.out.below hB5
          obtain ⟨⟨r0, r1⟩, hR⟩ : ∃ R, minL (LS k) = R := ⟨_, rfl⟩
          rw [hR]
          have hbf := (hb5.setCell (p := ⟨rb, 0, none⟩) hrbl (.int .i64 r0)).setCell (p := ⟨rb, 1, none⟩) hrbl (.int .i64 r1)
          clear hB5 hb5
          have hbf' := Lib.hid hbf
          have hR' := Lib.hid hR
          clear hbf hR
          go_wp2
          exact bodyPost_ret (v := .tuple #[ratV (r0, r1), .bool true]) (by simp [results, Tryz.results26, go_sem, n0, n1', ratV]) rfl ⟨by show _ = Ending.returned (Value.tuple #[ratV (minL (LS (n - 1))), Value.bool true]); rw [hn1'.out, ← hkn'.out, hR'.out], hbf'.out⟩
end Go.Proofs.YtfhhofecfllbfaaGreat

namespace Go.Proofs.YtfhhofecfllbfaaGreat
open Go.RowKit
set_option maxRecDepth 100000

set_option linter.unusedSimpArgs false in
set_option linter.unusedVariables false in
set_option maxRecDepth 10000 in
set_option maxHeartbeats 4000000 in
theorem specLeastSlope_any (v : Value) (f : List Quad) (i : Quad) (w : World) (hv : QuadV w v f) (hm : f.length ≤ 1099511627776) :
    Calls Tryz.prog 27 #[v, quadV i] w (Ret (.tuple #[ratV (LeastSlope_v f i).1, .bool (LeastSlope_v f i).2]) w) := by
  have c1 := fun w' (hB : Below w.heap.size w w') => imGood_any v f w' (hv.below hB) hm
  have c2 := fun w' => ivGood_any i w'
  have hyes := ls_yes (f := f) (i := i)
  have hno := ls_no (f := f) (i := i)
  have c3 := fun (hf : MapP f) w' (hB : Below w.heap.size w w') => imSlopes_any v f w' (hv.below hB) hf
  have c4 := fun (hf : MapP f) (hi : ivB i = true) (k : Nat) (hk : k + 1 < f.length) w' => raCmp_any (nth4 f (k + 1)).1.1 (nth4 f (k + 1)).1.2 i.1.1 i.1.2 w' (good_bd (unitR_good (coordR_unit (hf.coord (k + 1) hk).1))) (unit_bd (ivB_true hi).1)
  have c6 := fun (hf : MapP f) (hi : ivB i = true) (k : Nat) (hk : k + 1 < f.length) w' => raCmp_any i.2.1 i.2.2 (nth4 f k).1.1 (nth4 f k).1.2 w' (unit_bd (ivB_true hi).2.1) (good_bd (unitR_good (coordR_unit (hf.coord k (by omega)).1)))
  have hsl : (slL f).length = f.length - 1 := slK_len f _
  have hsn : ∀ k, k < f.length - 1 → nthR (slL f) k = slopeR (nth4 f k) (nth4 f (k + 1)) := fun k h => nthR_slK f h
  have hsg := fun (hf : MapP f) (k : Nat) (hk : k + 1 < f.length) => slope_good hf (i := k) hk
  have hstep := lsL_step f i
  have hllen := lsL_len f i
  have hlgood := fun (hf : MapP f) (k : Nat) (hk : k + 1 ≤ f.length) => lsL_good hf i k hk
  have hlne := fun (hf : MapP f) (hi : ivB i = true) => lsL_ne hf hi
  have hl00 : lsL f i 0 = [] := rfl
  have hLB : ∀ k, lsB i ((nth4 f k).1, (nth4 f k).1) ((nth4 f (k + 1)).1, (nth4 f (k + 1)).1) = lsB i (nth4 f k) (nth4 f (k + 1)) := fun _ => rfl
  have hmp := fun (h : mapB f = true) => mapB_true h
  obtain ⟨ao, cap, rfl, _, _, H⟩ := hv.form
  generalize LeastSlope_v f i = V at *
  generalize lsL f i = LS at *
  obtain ⟨n, hn⟩ : ∃ n, f.length = n := ⟨_, rfl⟩
  rw [hn] at c1 hyes c3 c4 c6 hsl hsn hsg hlgood hlne H hm ⊢
  generalize slL f = SL at *
  obtain ⟨A, hA⟩ : ∃ A, mapB f = A := ⟨_, rfl⟩
  obtain ⟨B, hB'⟩ : ∃ B, ivB i = B := ⟨_, rfl⟩
  rw [hA] at c1 hyes hno hmp
  rw [hB'] at c2 hyes hno c4 c6 hlne
  have hlen2 := fun (hf : MapP f) => hf.len
  obtain ⟨I, hI⟩ : ∃ I, i = I := ⟨_, rfl⟩
  rw [hI] at c2 c4 c6 ⊢
  obtain ⟨⟨p0, p1⟩, ⟨p2, p3⟩⟩ := I
  obtain ⟨w1, hw1⟩ : ∃ W, (w.alloc (.cells #[.int .i64 p0, .int .i64 p1, .int .i64 p2, .int .i64 p3] 44)).alloc (.cells #[.int .i64 0, .int .i64 0] 42) = W := ⟨_, rfl⟩
  have hB1 : Below w.heap.size w w1 := by rw [← hw1]; exact ((Below.refl _ _).alloc (Nat.le_refl _) _).alloc (by simp) _
  have xi : BoxQ w1 w.heap.size ((p0, p1), (p2, p3)) := by rw [← hw1]; refine ⟨?_, ?_, ?_, ?_⟩ <;> simp [go_sem]
  have xr : BoxV w1 (w.heap.size + 1) (0, 0) := by rw [← hw1]; refine ⟨⟨?_, ?_⟩, ?_, ?_⟩ <;> simp [go_sem]
  obtain ⟨rb, hrbe⟩ : ∃ b, w.heap.size + 1 = b := ⟨_, rfl⟩
  rw [hrbe] at xr
  have hrbl : w.heap.size ≤ rb := by omega
  clear hv
  have c1' := Lib.hid c1
  have c2' := Lib.hid c2
  have c3' := Lib.hid c3
  have c4' := Lib.hid c4
  have c6' := Lib.hid c6
  have hyes' := Lib.hid hyes
  have hno' := Lib.hid hno
  have hsl' := Lib.hid hsl
  have hsn' := Lib.hid hsn
  have hsg' := Lib.hid hsg
  have hstep' := Lib.hid hstep
  have hllen' := Lib.hid hllen
  have hlgood' := Lib.hid hlgood
  have hlne' := Lib.hid hlne
  have hl00' := Lib.hid hl00
  have hLB' := Lib.hid hLB
  have hmp' := Lib.hid hmp
  have hA' := Lib.hid hA
  have hB'' := Lib.hid hB'
  have hI' := Lib.hid hI
  have hw1' := Lib.hid hw1
  have xi' := Lib.hid xi
  have xr' := Lib.hid xr
  have hlen2' := Lib.hid hlen2
  have hn' := Lib.hid hn
  have H' := Lib.hid H
  clear c1 c2 c3 c4 c6 hyes hno hsl hsn hsg hstep hllen hlgood hlne hl00 hLB hmp hA hB' hI hw1 xi xr hlen2 hn H
  show Calls _ _ #[_, .agg #[.int .i64 p0, .int .i64 p1, .int .i64 p2, .int .i64 p3]] w _
  go_enter Tryz.func27, Tryz.ntmps27
  go_wp2_with fail
  rw [hw1'.out]
  go_wp2_with fail
  refine (c1'.out _ hB1).mono ?_
  rintro e w2 ⟨rfl, hB2⟩
  have hb2 := hB1.trans (hB2.mono hB1.size)
  have xi2 := xi'.out.below hB2
  have xr2 := xr'.out.below hB2
  clear hB2 hB1 xi' xr' hw1' c1'
  cases A
  · have hV := hno'.out (fun h => by cases h.1)
    subst hV
    obtain ⟨⟨n0, n1⟩, f0, f1⟩ := id xr2
    have hbf := (hb2.setCell (p := ⟨rb, 0, none⟩) hrbl (.int .i64 0)).setCell (p := ⟨rb, 1, none⟩) hrbl (.int .i64 0)
    clear xi2 xr2 hb2
    have hbf' := Lib.hid hbf
    clear hbf
    go_wp2
    exact bodyPost_ret (v := .tuple #[ratV (0, 0), .bool false]) (by simp [results, Tryz.results27, go_sem, n0, n1, ratV]) rfl ⟨rfl, hbf'.out⟩
  · obtain ⟨a0, a1, a2, a3⟩ := id xi2
    simp only at a0 a1 a2 a3
    have hb2' := Lib.hid hb2
    have xi2' := Lib.hid xi2
    have xr2' := Lib.hid xr2
    clear hb2 xi2 xr2
    go_wp2_with fail
    refine (c2'.out _).mono ?_
    rintro e w3 ⟨rfl, hB3⟩
    have hb3 := hb2'.out.trans (hB3.mono hb2'.out.size)
    have xi3 := xi2'.out.below hB3
    have xr3 := xr2'.out.below hB3
    clear hB3 hb2' xi2' xr2' c2' a0 a1 a2 a3
    cases B
    · have hV := hno'.out (fun h => by cases h.2)
      subst hV
      obtain ⟨⟨n0, n1⟩, f0, f1⟩ := id xr3
      have hbf := (hb3.setCell (p := ⟨rb, 0, none⟩) hrbl (.int .i64 0)).setCell (p := ⟨rb, 1, none⟩) hrbl (.int .i64 0)
      clear xi3 xr3 hb3
      have hbf' := Lib.hid hbf
      clear hbf
      go_wp2
      exact bodyPost_ret (v := .tuple #[ratV (0, 0), .bool false]) (by simp [results, Tryz.results27, go_sem, n0, n1, ratV]) rfl ⟨rfl, hbf'.out⟩
    · have hV := hyes'.out ⟨by simp, by simp⟩
      subst hV
      have hf := hmp'.out (by simp)
      have hnl := hlen2'.out hf
      rw [hn'.out] at hnl
      have hne := hlne'.out hf (by simp)
      have hgood := hlgood'.out hf
      clear hyes' hno' hmp' hlen2' hlne' hlgood'
      obtain ⟨n1, hn1⟩ : ∃ m, n - 1 = m := ⟨_, rfl⟩
      have hnn1 : n = n1 + 1 := by omega
      have hn12 : 1 ≤ n1 ∧ n1 ≤ 11 := by omega
      obtain ⟨lb, hlb⟩ : ∃ b, w3.heap.size = b := ⟨_, rfl⟩
      obtain ⟨w4, hw4⟩ : ∃ W, w3.alloc (.cells #[.int .i64 (-1), .int .i64 1] 42) = W := ⟨_, rfl⟩
      have hB4 : Below w3.heap.size w3 w4 := by rw [← hw4]; exact (Below.refl _ _).alloc (Nat.le_refl _) _
      have xm4 : BoxV w4 lb (-1, 1) := by rw [← hlb, ← hw4]; refine ⟨⟨?_, ?_⟩, ?_, ?_⟩ <;> simp [go_sem]
      have hb4 := hb3.trans (hB4.mono hb3.size)
      have xi4 := xi3.below hB4
      have xr4 := xr3.below hB4
      have hlbw : w.heap.size ≤ lb := by have := hb3.size; omega
      have hrlb : rb < lb := by have h := xr3.lt; omega
      have hilb : w.heap.size < lb := by have h := xi3.lt; omega
      have hl4 : lb < w4.heap.size := xm4.lt
      have c5 := c3'.out hf w4 hb4
      clear hB4 xi3 xr3 c3' hne
      have hw4' := Lib.hid hw4
      have xm4' := Lib.hid xm4
      have hb4' := Lib.hid hb4
      have xi4' := Lib.hid xi4
      have xr4' := Lib.hid xr4
      have c5' := Lib.hid c5
      have hgood' := Lib.hid hgood
      have hn1' := Lib.hid hn1
      have hnn1' := Lib.hid hnn1
      have hb3' := Lib.hid hb3
      clear hw4 xm4 hb4 xi4 xr4 c5 hgood hn1 hnn1 hb3
      go_wp2_with fail
      rw [hw4'.out]
      refine c5'.out.mono ?_
      rintro e w5 ⟨sv, rfl, hsv, hB5⟩
      have hb5 := hb4'.out.trans (hB5.mono hb4'.out.size)
      have xi5 := xi4'.out.below hB5
      have xr5 := xr4'.out.below hB5
      have xm5 := xm4'.out.below hB5
      have hown := GrowR.ofOwn hsv (by rw [hsl'.out]; have := hnn1'.out; omega)
      have hsbl : ∀ jj, sv.ownBlock = some jj → w4.heap.size ≤ jj := fun jj e => (World.ownsRow.lt hown jj e).1
      obtain ⟨so, scap, rfl, _, _, HS⟩ := hsv.read.form
      rw [hsl'.out, hn1'.out] at HS hsbl ⊢
      have hw45 := hB5.size
      have hms : minL (LS 0) = (-1, 1) := by rw [hl00'.out]; rfl
      clear hB5 hb4' xi4' xr4' xm4' c5' hsv hsl' hb3' hown hw4'
      have hb5' := Lib.hid hb5
      have xi5' := Lib.hid xi5
      have xr5' := Lib.hid xr5
      have xm5' := Lib.hid xm5
      have HS' := Lib.hid HS
      have hsbl' := Lib.hid hsbl
      have hms' := Lib.hid hms
      clear hb5 xi5 xr5 xm5 HS hsbl hms
      go_wp2
      go_loopw [22] (fun j W => ∃ k : Nat, k ≤ n1 ∧ j = .int .i64 k ∧ w5.grownBy W (some lb) ∧ BoxV W lb (minL (LS k))) (fun j _ => n1 - (intOf j).toNat)
      case atStart => exact ⟨0, Nat.zero_le _, rfl, World.grownBy.refl _ _, by rw [hms'.out]; exact xm5'.out⟩
      case round =>
        obtain ⟨k, hk, rfl, hgr, xm⟩ := hrel
        have hsr := hgr.size
        have hbr := below_gr hb5'.out hlbw hgr
        by_cases hlt : k < n1
        · obtain ⟨q, hq⟩ : ∃ q : Nat, q = k + 1 := ⟨_, rfl⟩
          obtain ⟨b, off, rfl, a0, a1, _⟩ := H'.out k (by have := hnn1'.out; omega)
          obtain ⟨_, _, e, b0, b1, _⟩ := H'.out q (by have := hnn1'.out; omega)
          cases e
          obtain ⟨sb, soff, rfl, s0, s1⟩ := HS'.out k hlt
          have hsb := hsbl'.out sb (by simp [Value.ownBlock])
          have hkn : k + 1 < n := by have := hnn1'.out; omega
          have cc := c4'.out hf (by simp) k hkn
          have cd := c6'.out hf (by simp) k hkn
          have hst := hstep'.out k
          have hsk := hsn'.out k (by have := hnn1'.out; omega)
          have hgs := hsg'.out hf k hkn
          have hgk := hgood'.out k (by omega)
          rw [← hq] at cc hst hsk hgs
          rw [hsk] at s0 s1
          have hbl : b < w.heap.size := World.block_lt_of_cell? _ _ a0
          replace a0 := bkeep hbr a0
          replace a1 := bkeep hbr a1
          replace b0 := bkeep hbr b0
          replace b1 := bkeep hbr b1
          have hsne : (some lb : Option Nat) ≠ some sb := fun e => by have := Option.some.inj e; omega
          replace s0 := gcell hgr s0 hsne
          replace s1 := gcell hgr s1 hsne
          obtain ⟨M, hM⟩ : ∃ M, lsB i (nth4 f k) (nth4 f q) = M := ⟨_, rfl⟩
          have hMd : M = (!(decide (cmpN p2 p3 (nth4 f k).1.1 (nth4 f k).1.2 ≤ 0)) && !(decide (cmpN (nth4 f q).1.1 (nth4 f q).1.2 p0 p1 ≤ 0))) := by
            rw [← hM, hI'.out, cmpN_le, cmpN_le]
            unfold lsB
            rw [Bool.not_not, Bool.not_not]
          rw [hM] at hst
          obtain ⟨X, hX⟩ : ∃ X, (nth4 f k).1 = X := ⟨_, rfl⟩
          obtain ⟨Y, hY⟩ : ∃ Y, (nth4 f q).1 = Y := ⟨_, rfl⟩
          obtain ⟨Z, hZ⟩ : ∃ Z, slopeR (nth4 f k) (nth4 f q) = Z := ⟨_, rfl⟩
          rw [hX] at a0 a1 cd hMd
          rw [hY] at b0 b1 cc hMd
          rw [hZ] at s0 s1 hst hgs
          have hgz := absR_good hgs
          obtain ⟨x0, x1⟩ := X
          obtain ⟨y0, y1⟩ := Y
          obtain ⟨z0, z1⟩ := Z
          have hst2 : LS q = if M = true then LS k ++ [((z0.natAbs : Int), z1)] else LS k := hst
          simp only at a0 a1 b0 b1 s0 s1 hgs cc cd hMd
          generalize cmpN y0 y1 p0 p1 = C1 at cc hMd
          generalize cmpN p2 p3 x0 x1 = C2 at cd hMd
          have hzb := goodR_bd hgs
          have g0 : (0 : Int) ≤ (k : Int) := by omega
          have g1 : (k : Int) < (n1 : Int) := by omega
          have g2 : (0 : Int) ≤ (q : Int) := by omega
          have g3 : (q : Int) < (n : Int) := by omega
          have g4 : IntKind.i64.wrap ((k : Int) + 1) = (q : Int) := by rw [IntKind.wrap_i64]; omega
          have g5 : q < n := by omega
          have g6 : k < n := by omega
          have g7 : (k : Int) < (n : Int) := by omega
          have g9 : IntKind.i64.wrap (q : Int) = (q : Int) := by rw [IntKind.wrap_i64]; omega
          obtain ⟨w6, hw6⟩ : ∃ W, wr.alloc (.cells #[.int .i64 z0, .int .i64 z1] 42) = W := ⟨_, rfl⟩
          have hB6 : Below wr.heap.size wr w6 := by rw [← hw6]; exact (Below.refl _ _).alloc (Nat.le_refl _) _
          have xz : BoxV w6 wr.heap.size (z0, z1) := by rw [← hw6]; refine ⟨⟨?_, ?_⟩, ?_, ?_⟩ <;> simp [go_sem]
          have xm6 := xm.below hB6
          have hgr6 := hgr.trans (bgrow hB6 (some lb))
          have hlbr : lb < wr.heap.size := xm.lt
          have xi6 := xi5'.out.grown hgr6 (fun e => by have h1 := Option.some.inj e; omega)
          have at' : ∀ w', Below w6.heap.size w6 w' → (w'.cell? ⟨w.heap.size, 0, none⟩ = some (.int .i64 p0) ∧ w'.cell? ⟨w.heap.size, 1, none⟩ = some (.int .i64 p1) ∧ w'.cell? ⟨w.heap.size, 2, none⟩ = some (.int .i64 p2) ∧ w'.cell? ⟨w.heap.size, 3, none⟩ = some (.int .i64 p3)) ∧ (w'.cell? ⟨b, off + k * 4, none⟩ = some (.int .i64 x0) ∧ w'.cell? ⟨b, off + k * 4 + 1, none⟩ = some (.int .i64 x1)) ∧ w'.cell? ⟨b, off + q * 4, none⟩ = some (.int .i64 y0) ∧ w'.cell? ⟨b, off + q * 4 + 1, none⟩ = some (.int .i64 y1) := fun w' h => ⟨xi6.below h, ⟨bkeep h (bkeep hB6 a0), bkeep h (bkeep hB6 a1)⟩, bkeep h (bkeep hB6 b0), bkeep h (bkeep hB6 b1)⟩
          have hd : Below w6.heap.size w6 w6.drew := (Below.refl _ _).drew
          clear a0 a1 b0 b1 hst hB6 xi6 hsk hsne xm hgr hbr
          have hq' := Lib.hid hq
          have cc' := Lib.hid cc
          have cd' := Lib.hid cd
          have hst2' := Lib.hid hst2
          have hM' := Lib.hid hM
          have hX' := Lib.hid hX
          have hY' := Lib.hid hY
          have hZ' := Lib.hid hZ
          have hw6' := Lib.hid hw6
          have xz' := Lib.hid xz
          have xm6' := Lib.hid xm6
          have hgr6' := Lib.hid hgr6
          have at'' := Lib.hid at'
          have hgk' := Lib.hid hgk
          have hgz' := Lib.hid hgz
          clear hq cc cd hst2 hM hX hY hZ hw6 xz xm6 hgr6 at' hgk hgz
          go_upto_region 7 with fail
          rw [hw6'.out]
          clear s0 s1
          go_cut [35, 36, 37, 38, 39, 40, 41, 42, 43, 44, 45, 46, 47] from 27 to 47 (fun _ _ _ _ _ _ _ _ _ _ _ _ s47 wx => s47 = .bool (!M) ∧ Below w6.heap.size w6 wx)
          case first =>
            by_cases h1 : C1 ≤ 0
            · have hMt : Value.bool true = Value.bool (!M) := by rw [hMd, decide_eq_true h1]; simp
              have hMt' := Lib.hid hMt
              clear hMt
              refine wp_region_held_drew (S := (fun w' => Below w6.heap.size w6 w' ∧ (w'.cell? ⟨w.heap.size, 0, none⟩ = some (.int .i64 p0) ∧ w'.cell? ⟨w.heap.size, 1, none⟩ = some (.int .i64 p1) ∧ w'.cell? ⟨w.heap.size, 2, none⟩ = some (.int .i64 p2) ∧ w'.cell? ⟨w.heap.size, 3, none⟩ = some (.int .i64 p3)) ∧ (w'.cell? ⟨b, off + k * 4, none⟩ = some (.int .i64 x0) ∧ w'.cell? ⟨b, off + k * 4 + 1, none⟩ = some (.int .i64 x1)) ∧ w'.cell? ⟨b, off + q * 4, none⟩ = some (.int .i64 y0) ∧ w'.cell? ⟨b, off + q * 4 + 1, none⟩ = some (.int .i64 y1))) (by kernel_rfl) (by (try dsimp only); (first | exact ⟨hd, at''.out _ hd⟩ | exact ⟨hd2, at''.out _ hd2⟩)) (fun hHeld => ?_)
              refine ly_q 0 (v := ?_) hHeld ?_
              try simp only [Act.put, lyA, lyB, lyC]
              refine ly_q 1 (v := ?_) hHeld ?_
              try simp only [Act.put, lyA, lyB, lyC]
              refine ly_q 2 (v := ?_) hHeld ?_
              try simp only [Act.put, lyA, lyB, lyC]
              refine ly_q 3 (v := ?_) hHeld ?_
              try simp only [Act.put, lyA, lyB, lyC]
              refine ly_q 4 (v := ?_) hHeld ?_
              try simp only [Act.put, lyA, lyB, lyC]
              refine ly_q 5 (v := ?_) hHeld ?_
              try simp only [Act.put, lyA, lyB, lyC]
              refine ly_q 6 (v := ?_) hHeld ?_
              try simp only [Act.put, lyA, lyB, lyC]
              refine ly_q 7 (v := ?_) hHeld ?_
              try simp only [Act.put, lyA, lyB, lyC]
              refine ly_a 8 (fun KK hKK => ?_)
              go_simp
              refine (cc'.out _).mono ?_
              rintro e w8 ⟨rfl, hB8⟩
              have hd2 := hd.trans (hB8.mono hd.size)
              try dsimp only
              refine hKK.out _ _ (by (try dsimp only); (first | exact ⟨hd, at''.out _ hd⟩ | exact ⟨hd2, at''.out _ hd2⟩)) (fun hHeld => ?_)
              clear hKK KK
              try simp only [Act.put, lyA, lyB, lyC]
              refine ly_q 9 (v := .bool true) (hy := by intro wS hSw; (try dsimp only at hSw); go_simp; all_goals (simp [h1])) hHeld ?_
              try simp only [Act.put, lyA, lyB, lyC]
              refine ly_q 10 (v := ?_) hHeld ?_
              try simp only [Act.put, lyA, lyB, lyC]
              refine ly_off 11 hHeld ?_
              try simp only [Act.put, lyA, lyB, lyC]
              refine ly_off 12 hHeld ?_
              try simp only [Act.put, lyA, lyB, lyC]
              refine ly_off 13 hHeld ?_
              try simp only [Act.put, lyA, lyB, lyC]
              refine ly_off 14 hHeld ?_
              try simp only [Act.put, lyA, lyB, lyC]
              refine ly_off 15 hHeld ?_
              try simp only [Act.put, lyA, lyB, lyC]
              refine ly_off 16 hHeld ?_
              try simp only [Act.put, lyA, lyB, lyC]
              refine ly_off 17 hHeld ?_
              try simp only [Act.put, lyA, lyB, lyC]
              refine ly_off 18 hHeld ?_
              try simp only [Act.put, lyA, lyB, lyC]
              refine ly_off 19 hHeld ?_
              try simp only [Act.put, lyA, lyB, lyC]
              refine ly_q 20 (v := ?_) hHeld ?_
              try simp only [Act.put, lyA, lyB, lyC]
              refine wpAnyH_done (by kernel_rfl) ?_ _
              obtain ⟨hdV, _⟩ := hHeld
              go_wp2
              go_meet
              exact ⟨hMt'.out, hdV⟩
            · by_cases h2 : C2 ≤ 0
              · have hMt : Value.bool true = Value.bool (!M) := by rw [hMd, decide_eq_true h2]; simp
                have hMt' := Lib.hid hMt
                clear hMt
                refine wp_region_held_drew (S := (fun w' => Below w6.heap.size w6 w' ∧ (w'.cell? ⟨w.heap.size, 0, none⟩ = some (.int .i64 p0) ∧ w'.cell? ⟨w.heap.size, 1, none⟩ = some (.int .i64 p1) ∧ w'.cell? ⟨w.heap.size, 2, none⟩ = some (.int .i64 p2) ∧ w'.cell? ⟨w.heap.size, 3, none⟩ = some (.int .i64 p3)) ∧ (w'.cell? ⟨b, off + k * 4, none⟩ = some (.int .i64 x0) ∧ w'.cell? ⟨b, off + k * 4 + 1, none⟩ = some (.int .i64 x1)) ∧ w'.cell? ⟨b, off + q * 4, none⟩ = some (.int .i64 y0) ∧ w'.cell? ⟨b, off + q * 4 + 1, none⟩ = some (.int .i64 y1))) (by kernel_rfl) (by (try dsimp only); (first | exact ⟨hd, at''.out _ hd⟩ | exact ⟨hd2, at''.out _ hd2⟩ | exact ⟨hd3, at''.out _ hd3⟩)) (fun hHeld => ?_)
                refine ly_q 0 (v := ?_) hHeld ?_
                try simp only [Act.put, lyA, lyB, lyC]
                refine ly_q 1 (v := ?_) hHeld ?_
                try simp only [Act.put, lyA, lyB, lyC]
                refine ly_q 2 (v := ?_) hHeld ?_
                try simp only [Act.put, lyA, lyB, lyC]
                refine ly_q 3 (v := ?_) hHeld ?_
                try simp only [Act.put, lyA, lyB, lyC]
                refine ly_q 4 (v := ?_) hHeld ?_
                try simp only [Act.put, lyA, lyB, lyC]
                refine ly_q 5 (v := ?_) hHeld ?_
                try simp only [Act.put, lyA, lyB, lyC]
                refine ly_q 6 (v := ?_) hHeld ?_
                try simp only [Act.put, lyA, lyB, lyC]
                refine ly_q 7 (v := ?_) hHeld ?_
                try simp only [Act.put, lyA, lyB, lyC]
                refine ly_a 8 (fun KK hKK => ?_)
                go_simp
                refine (cc'.out _).mono ?_
                rintro e w8 ⟨rfl, hB8⟩
                have hd2 := hd.trans (hB8.mono hd.size)
                try dsimp only
                refine hKK.out _ _ (by (try dsimp only); (first | exact ⟨hd, at''.out _ hd⟩ | exact ⟨hd2, at''.out _ hd2⟩ | exact ⟨hd3, at''.out _ hd3⟩)) (fun hHeld => ?_)
                clear hKK KK
                try simp only [Act.put, lyA, lyB, lyC]
                refine ly_q 9 (v := .bool false) (hy := by intro wS hSw; (try dsimp only at hSw); go_simp; all_goals (simp [h1])) hHeld ?_
                try simp only [Act.put, lyA, lyB, lyC]
                refine ly_q 10 (v := ?_) hHeld ?_
                try simp only [Act.put, lyA, lyB, lyC]
                refine ly_q 11 (v := ?_) hHeld ?_
                try simp only [Act.put, lyA, lyB, lyC]
                refine ly_q 12 (v := ?_) hHeld ?_
                try simp only [Act.put, lyA, lyB, lyC]
                refine ly_q 13 (v := ?_) hHeld ?_
                try simp only [Act.put, lyA, lyB, lyC]
                refine ly_q 14 (v := ?_) hHeld ?_
                try simp only [Act.put, lyA, lyB, lyC]
                refine ly_q 15 (v := ?_) hHeld ?_
                try simp only [Act.put, lyA, lyB, lyC]
                refine ly_q 16 (v := ?_) hHeld ?_
                try simp only [Act.put, lyA, lyB, lyC]
                refine ly_q 17 (v := ?_) hHeld ?_
                try simp only [Act.put, lyA, lyB, lyC]
                refine ly_a 18 (fun KK hKK => ?_)
                go_simp
                refine (cd'.out _).mono ?_
                rintro e w9 ⟨rfl, hB9⟩
                have hd3 := hd2.trans (hB9.mono hd2.size)
                try dsimp only
                refine hKK.out _ _ (by (try dsimp only); (first | exact ⟨hd, at''.out _ hd⟩ | exact ⟨hd2, at''.out _ hd2⟩ | exact ⟨hd3, at''.out _ hd3⟩)) (fun hHeld => ?_)
                clear hKK KK
                try simp only [Act.put, lyA, lyB, lyC]
                refine ly_q 19 (v := .bool true) (hy := by intro wS hSw; (try dsimp only at hSw); go_simp; all_goals (simp [h2])) hHeld ?_
                try simp only [Act.put, lyA, lyB, lyC]
                refine ly_q 20 (v := ?_) hHeld ?_
                try simp only [Act.put, lyA, lyB, lyC]
                refine wpAnyH_done (by kernel_rfl) ?_ _
                obtain ⟨hdV, _⟩ := hHeld
                go_wp2
                go_meet
                exact ⟨hMt'.out, hdV⟩
              · have hMt : Value.bool false = Value.bool (!M) := by rw [hMd, decide_eq_false h2, decide_eq_false h1]; simp
                have hMt' := Lib.hid hMt
                clear hMt
                refine wp_region_held_drew (S := (fun w' => Below w6.heap.size w6 w' ∧ (w'.cell? ⟨w.heap.size, 0, none⟩ = some (.int .i64 p0) ∧ w'.cell? ⟨w.heap.size, 1, none⟩ = some (.int .i64 p1) ∧ w'.cell? ⟨w.heap.size, 2, none⟩ = some (.int .i64 p2) ∧ w'.cell? ⟨w.heap.size, 3, none⟩ = some (.int .i64 p3)) ∧ (w'.cell? ⟨b, off + k * 4, none⟩ = some (.int .i64 x0) ∧ w'.cell? ⟨b, off + k * 4 + 1, none⟩ = some (.int .i64 x1)) ∧ w'.cell? ⟨b, off + q * 4, none⟩ = some (.int .i64 y0) ∧ w'.cell? ⟨b, off + q * 4 + 1, none⟩ = some (.int .i64 y1))) (by kernel_rfl) (by (try dsimp only); (first | exact ⟨hd, at''.out _ hd⟩ | exact ⟨hd2, at''.out _ hd2⟩ | exact ⟨hd3, at''.out _ hd3⟩)) (fun hHeld => ?_)
                refine ly_q 0 (v := ?_) hHeld ?_
                try simp only [Act.put, lyA, lyB, lyC]
                refine ly_q 1 (v := ?_) hHeld ?_
                try simp only [Act.put, lyA, lyB, lyC]
                refine ly_q 2 (v := ?_) hHeld ?_
                try simp only [Act.put, lyA, lyB, lyC]
                refine ly_q 3 (v := ?_) hHeld ?_
                try simp only [Act.put, lyA, lyB, lyC]
                refine ly_q 4 (v := ?_) hHeld ?_
                try simp only [Act.put, lyA, lyB, lyC]
                refine ly_q 5 (v := ?_) hHeld ?_
                try simp only [Act.put, lyA, lyB, lyC]
                refine ly_q 6 (v := ?_) hHeld ?_
                try simp only [Act.put, lyA, lyB, lyC]
                refine ly_q 7 (v := ?_) hHeld ?_
                try simp only [Act.put, lyA, lyB, lyC]
                refine ly_a 8 (fun KK hKK => ?_)
                go_simp
                refine (cc'.out _).mono ?_
                rintro e w8 ⟨rfl, hB8⟩
                have hd2 := hd.trans (hB8.mono hd.size)
                try dsimp only
                refine hKK.out _ _ (by (try dsimp only); (first | exact ⟨hd, at''.out _ hd⟩ | exact ⟨hd2, at''.out _ hd2⟩ | exact ⟨hd3, at''.out _ hd3⟩)) (fun hHeld => ?_)
                clear hKK KK
                try simp only [Act.put, lyA, lyB, lyC]
                refine ly_q 9 (v := .bool false) (hy := by intro wS hSw; (try dsimp only at hSw); go_simp; all_goals (simp [h1])) hHeld ?_
                try simp only [Act.put, lyA, lyB, lyC]
                refine ly_q 10 (v := ?_) hHeld ?_
                try simp only [Act.put, lyA, lyB, lyC]
                refine ly_q 11 (v := ?_) hHeld ?_
                try simp only [Act.put, lyA, lyB, lyC]
                refine ly_q 12 (v := ?_) hHeld ?_
                try simp only [Act.put, lyA, lyB, lyC]
                refine ly_q 13 (v := ?_) hHeld ?_
                try simp only [Act.put, lyA, lyB, lyC]
                refine ly_q 14 (v := ?_) hHeld ?_
                try simp only [Act.put, lyA, lyB, lyC]
                refine ly_q 15 (v := ?_) hHeld ?_
                try simp only [Act.put, lyA, lyB, lyC]
                refine ly_q 16 (v := ?_) hHeld ?_
                try simp only [Act.put, lyA, lyB, lyC]
                refine ly_q 17 (v := ?_) hHeld ?_
                try simp only [Act.put, lyA, lyB, lyC]
                refine ly_a 18 (fun KK hKK => ?_)
                go_simp
                refine (cd'.out _).mono ?_
                rintro e w9 ⟨rfl, hB9⟩
                have hd3 := hd2.trans (hB9.mono hd2.size)
                try dsimp only
                refine hKK.out _ _ (by (try dsimp only); (first | exact ⟨hd, at''.out _ hd⟩ | exact ⟨hd2, at''.out _ hd2⟩ | exact ⟨hd3, at''.out _ hd3⟩)) (fun hHeld => ?_)
                clear hKK KK
                try simp only [Act.put, lyA, lyB, lyC]
                refine ly_q 19 (v := .bool false) (hy := by intro wS hSw; (try dsimp only at hSw); go_simp; all_goals (simp [h2])) hHeld ?_
                try simp only [Act.put, lyA, lyB, lyC]
                refine ly_q 20 (v := ?_) hHeld ?_
                try simp only [Act.put, lyA, lyB, lyC]
                refine wpAnyH_done (by kernel_rfl) ?_ _
                obtain ⟨hdV, _⟩ := hHeld
                go_wp2
                go_meet
                exact ⟨hMt'.out, hdV⟩
          case rest =>
          obtain ⟨rfl, hBx⟩ := hcut
          have xzc := xz'.out.below hBx
          have xmc := xm6'.out.below hBx
          have hgrc := hgr6'.out.trans (bgrow hBx (some lb))
          clear hBx hd at'' xz' xm6' hgr6' cc' cd' hw6' hMd
          cases M
          · have hE : LS q = LS k := by rw [hst2'.out, if_neg (by decide)]
            rw [← hE] at xmc
            clear hE xzc
            have xmc' := Lib.hid xmc
            have hgrc' := Lib.hid hgrc
            clear xmc hgrc
            go_wp2
            go_roundw
            case rel => exact ⟨q, by have := hq'.out; omega, by have h1 := hq'.out; first | rfl | go_num, hgrc'.out, xmc'.out⟩
            case measure => have h1 := hq'.out; simp [intOf]; omega
          · have hE : LS q = LS k ++ [((z0.natAbs : Int), z1)] := by rw [hst2'.out, if_pos rfl]
            have ca := fun w' => l1Abs_any z0 w' (by omega)
            have hzn : 0 ≤ (z0.natAbs : Int) := by omega
            have hgz2 : goodR (z0.natAbs : Int) z1 = true := hgz'.out
            generalize (z0.natAbs : Int) = za at ca hE hzn hgz2
            obtain ⟨⟨e0, e1⟩, fe0, fe1⟩ := id xzc
            simp only at e0 e1
            have hlne : lb ≠ wr.heap.size := by omega
            obtain ⟨w7, hw7⟩ : ∃ W, wc.setCell ⟨wr.heap.size, 0, none⟩ (.int .i64 za) = W := ⟨_, rfl⟩
            have xz7 : BoxV w7 wr.heap.size (za, z1) := by rw [← hw7]; exact ⟨⟨by simp [go_sem, e0], by simp [go_sem, e1]⟩, by simp [go_sem, fe0], by simp [go_sem, fe1]⟩
            have xm7 : BoxV w7 lb (minL (LS k)) := by rw [← hw7]; exact xmc.grown (grownBy_setCell_some _ _ _ _) (fun e => hlne (Option.some.inj e).symm)
            have hgr7 : w5.grownBy w7 (some lb) := by rw [← hw7]; exact grow_set hgrc hsr _
            clear xzc xmc hgrc
            have ca' := Lib.hid ca
            have hE' := Lib.hid hE
            have hw7' := Lib.hid hw7
            have xz7' := Lib.hid xz7
            have xm7' := Lib.hid xm7
            have hgr7' := Lib.hid hgr7
            clear ca hE hw7 xz7 xm7 hgr7
            go_wp2_with fail
            refine (ca'.out _).mono ?_
            rintro e wq ⟨rfl, rfl⟩
            go_upto_region 9 with fail
            rw [hw7'.out]
            clear e0 e1 fe0 fe1 ca'
            by_cases hLS : LS k = []
            · have hmv : minL (LS k) = (-1, 1) := by rw [hLS]; rfl
              have hMq : minL (LS q) = (za, z1) := by rw [hE'.out, hLS]; rfl
              have xm := xm7'.out
              rw [hmv] at xm
              obtain ⟨⟨l0c, l1c⟩, fl0, fl1⟩ := id xm
              obtain ⟨⟨e0, e1⟩, _, _⟩ := xz7'.out
              simp only at l0c l1c e0 e1
              have xs8 : BoxV ((w7.setCell ⟨lb, 0, none⟩ (.int .i64 za)).setCell ⟨lb, 1, none⟩ (.int .i64 z1)) lb (minL (LS q)) := by
                rw [hMq]
                exact ⟨⟨by simp [go_sem, l0c], by simp [go_sem, l1c]⟩, by simp [go_sem, fl0], by simp [go_sem, fl1]⟩
              have hg8 : w5.grownBy ((w7.setCell ⟨lb, 0, none⟩ (.int .i64 za)).setCell ⟨lb, 1, none⟩ (.int .i64 z1)) (some lb) := (hgr7'.out.trans (grownBy_setCell_some _ lb 0 _)).trans (grownBy_setCell_some _ lb 1 _)
              clear xm hMq hmv hLS
              have xs8' := Lib.hid xs8
              have hg8' := Lib.hid hg8
              clear xs8 hg8
              go_wp2
              go_roundw
              case rel => exact ⟨q, by have := hq'.out; omega, by have h1 := hq'.out; first | rfl | go_num, hg8'.out, xs8'.out⟩
              case measure => have h1 := hq'.out; simp [intOf]; omega
            · have hmem := minL_mem _ hLS
              obtain ⟨gm, gm0⟩ := hgk'.out _ hmem
              have hMq0 : minL (LS q) = minS (minL (LS k)) (za, z1) := by rw [hE'.out]; exact minL_snoc hLS _
              have xm := xm7'.out
              obtain ⟨⟨l0, l1⟩, hlv⟩ : ∃ R, minL (LS k) = R := ⟨_, rfl⟩
              rw [hlv] at xm gm gm0 hMq0
              unfold minS at hMq0
              simp only at gm gm0 hMq0
              have cr := fun w' => raCmp_any za z1 l0 l1 w' (good_bd (r := (za, z1)) hgz2) (good_bd (r := (l0, l1)) gm)
              rw [← cmpN_lt] at hMq0
              generalize cmpN za z1 l0 l1 = C at cr hMq0
              obtain ⟨⟨l0c, l1c⟩, fl0, fl1⟩ := id xm
              obtain ⟨⟨e0, e1⟩, _, _⟩ := xz7'.out
              simp only at l0c l1c e0 e1
              have gneg : ¬ l0 < 0 := by omega
              clear hmem hLS
              have cr' := Lib.hid cr
              have hMq0' := Lib.hid hMq0
              have hlv' := Lib.hid hlv
              have xm' := Lib.hid xm
              clear cr hMq0 hlv xm
              go_wp2_with fail
              refine (cr'.out _).mono ?_
              rintro e w8 ⟨rfl, hB8⟩
              have xm8 := xm'.out.below hB8
              have xz8 := xz7'.out.below hB8
              have hgr8 := hgr7'.out.trans (bgrow hB8 (some lb))
              obtain ⟨⟨l0c, l1c⟩, fl0, fl1⟩ := id xm8
              obtain ⟨⟨e0, e1⟩, _, _⟩ := id xz8
              simp only at l0c l1c e0 e1
              by_cases hc : C < 0
              · have hMq : minL (LS q) = (za, z1) := by rw [hMq0'.out, if_pos (decide_eq_true hc)]
                have xs8 : BoxV ((w8.setCell ⟨lb, 0, none⟩ (.int .i64 za)).setCell ⟨lb, 1, none⟩ (.int .i64 z1)) lb (minL (LS q)) := by
                  rw [hMq]
                  exact ⟨⟨by simp [go_sem, l0c], by simp [go_sem, l1c]⟩, by simp [go_sem, fl0], by simp [go_sem, fl1]⟩
                have hg8 : w5.grownBy ((w8.setCell ⟨lb, 0, none⟩ (.int .i64 za)).setCell ⟨lb, 1, none⟩ (.int .i64 z1)) (some lb) := (hgr8.trans (grownBy_setCell_some _ lb 0 _)).trans (grownBy_setCell_some _ lb 1 _)
                clear xm8 xz8 hgr8 hMq hB8
                have xs8' := Lib.hid xs8
                have hg8' := Lib.hid hg8
                clear xs8 hg8
                go_wp2
                go_roundw
                case rel => exact ⟨q, by have := hq'.out; omega, by have h1 := hq'.out; first | rfl | go_num, hg8'.out, xs8'.out⟩
                case measure => have h1 := hq'.out; simp [intOf]; omega
              · have hMq : minL (LS q) = (l0, l1) := by rw [hMq0'.out, if_neg (by rw [decide_eq_false hc]; decide)]
                have xs8 := xm8
                rw [← hMq] at xs8
                have hg8 := hgr8
                clear xm8 xz8 hgr8 hMq hB8
                have xs8' := Lib.hid xs8
                have hg8' := Lib.hid hg8
                clear xs8 hg8
                go_wp2
                go_roundw
                case rel => exact ⟨q, by have := hq'.out; omega, by have h1 := hq'.out; first | rfl | go_num, hg8'.out, xs8'.out⟩
                case measure => have h1 := hq'.out; simp [intOf]; omega
        · have hkn : k = n1 := by omega
          have g3 : ¬ (k : Int) < (n1 : Int) := by omega
          have xr6 := xr5'.out.grown hgr (fun e => by have h1 := Option.some.inj e; omega)
          obtain ⟨⟨n0, n1'⟩, f0, f1⟩ := id xr6
          obtain ⟨⟨r0, r1⟩, hR⟩ : ∃ R, minL (LS k) = R := ⟨_, rfl⟩
          rw [hR] at xm
          obtain ⟨⟨m0, m1⟩, _, _⟩ := id xm
          simp only at m0 m1
          have hbf := (hbr.setCell (p := ⟨rb, 0, none⟩) hrbl (.int .i64 r0)).setCell (p := ⟨rb, 1, none⟩) hrbl (.int .i64 r1)
          clear hgr xm xr6 hbr
          have hkn' := Lib.hid hkn
          have hbf' := Lib.hid hbf
          have hR' := Lib.hid hR
          clear hkn hbf hR
          go_wp2
          exact bodyPost_ret (v := .tuple #[ratV (r0, r1), .bool true]) (by simp [results, Tryz.results27, go_sem, n0, n1', ratV]) rfl ⟨by show _ = Ending.returned (Value.tuple #[ratV (minL (LS (n - 1))), Value.bool true]); rw [hn1'.out, ← hkn'.out, hR'.out], hbf'.out⟩
end Go.Proofs.YtfhhofecfllbfaaGreat

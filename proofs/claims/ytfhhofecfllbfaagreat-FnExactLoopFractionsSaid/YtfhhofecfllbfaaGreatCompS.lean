/- The reference's composition and powers of a map. No conditions but valid maps. -/
import Derived.Test.YtfhhofecfllbfaaGreatCoIf
import Derived.Test.YtfhhofecfllbfaaGreatBefS
import Derived.Test.YtfhhofecfllbfaaGreatPkG
import Derived.Test.YtfhhofecfllbfaaGreatMade
import Derived.Test.YtfhhofecfllbfaaGreatBoxV
namespace Go.Proofs.YtfhhofecfllbfaaGreat
open Go.RowKit

theorem mergeT_good {M L : List (Int × Int)} (hM : GoodL M) (hL : ∀ y, y ∈ L → goodR y.1 y.2 = true) (j : Nat) : GoodL (mergeL M (L.take j)) ∧ (mergeL M (L.take j)).length ≤ M.length + L.length := by
  have hT : ∀ y, y ∈ L.take j → goodR y.1 y.2 = true := fun y hy => hL y (List.mem_of_mem_take hy)
  obtain ⟨a, b⟩ := merge_rise (L.take j) hM.rise hM.good hT
  refine ⟨⟨a, fun x hx => ?_⟩, ?_⟩
  · rcases (b x).1 hx with h | h
    · exact hM.good x h
    · exact hT x h
  · have h1 := mergeL_len0 (L.take j) M
    have h2 : (L.take j).length ≤ L.length := by rw [List.length_take]; omega
    omega
theorem range_all4 (P : Quad → Bool) (f : List Quad) : (List.range f.length).all (fun i => P (nth4 f i)) = f.all P := by
  rw [Bool.eq_iff_iff, List.all_eq_true, List.all_eq_true]
  constructor
  · intro h x hx
    obtain ⟨i, hi, rfl⟩ := List.getElem_of_mem hx
    have := h i (List.mem_range.2 hi)
    rwa [nth4_eq hi] at this
  · intro h i hi
    rw [nth4_eq (List.mem_range.1 hi)]
    exact h _ (List.getElem_mem _)
theorem fineK_pts {f h : List Quad} (hf : MapP f) (hh : MapP h) : fineK (cmPts f h) (cmPts f h).length = (cmPts f h).all fineP := by
  rw [← range_all4]
  unfold fineK
  rw [Bool.eq_iff_iff, List.all_eq_true, List.all_eq_true]
  have e : ∀ i, i ∈ List.range (cmPts f h).length → coordP (nth4 (cmPts f h) i) = fineP (nth4 (cmPts f h) i) := fun i hi => by
    have hi2 := List.mem_range.1 hi
    rw [cmPts_len] at hi2
    obtain ⟨a, b⟩ := cmPt_unit hf hh hi2
    exact fine_coord a b
  exact ⟨fun q i hi => by rw [← e i hi]; exact q i hi, fun q i hi => by rw [e i hi]; exact q i hi⟩

set_option linter.unusedSimpArgs false in
set_option maxRecDepth 10000 in
set_option maxHeartbeats 8000000 in
theorem coCompose_any (vf vh : Value) (f h : List Quad) (w : World) (hvf : QuadV w vf f) (hvh : QuadV w vh h) (hf : MapP f) (hh : MapP h) :
    Calls Tryz.prog 109 #[vf, vh] w (RetOB OwnP (cmR f h) w) := by
  have cX := coXs_any vh h w hvh (by have := hh.len.2; omega)
  have cB := fun k w' (hk : k < f.length) (hB : Below w.heap.size w w') => imBefore_any vh h (nth4 f k).1 w' (hvh.below hB) hh (unitR_good (coordR_unit (hf.coord k hk).1))
  have hcu := cmXs_unit hf hh
  have cA := fun x w' (hB : Below w.heap.size w w') (hx : unitR x.1 x.2 = true) => imAt_any vh h x w' (hvh.below hB) hh hx
  have cA2 := fun x w' (hB : Below w.heap.size w w') (hx : unitR x.1 x.2 = true) => imAt_any vf f (atZ h x) w' (hvf.below hB) hf (atZ_unit hh hx)
  have cI := fun v w' (hq : QuadV w' v (cmPts f h)) => coIf_any v (cmPts f h) w' hq (by rw [cmPts_len]; have := (cmXs_len hf hh).2; omega) (fun q => cmPts_line hf hh (by rw [← fineK_pts hf hh]; exact q))
  have hno1 : ∀ k, k < f.length → befOk h (nth4 f k).1 h.length = false → cmR f h = ([], false) := fun k hk hb => by
    unfold cmR
    rw [if_neg]
    rw [cmBef_false hk hb]
    simp
  have hno2 : ∀ k, k < (cmXs f h).length → (atOk h (nthR (cmXs f h) k) && atOk f (atZ h (nthR (cmXs f h) k))) = false → cmR f h = ([], false) := fun k hk hb => by
    unfold cmR
    rw [if_neg]
    rw [cmAt_false hk hb]
    simp
  have hyes : cmBef f h f.length = true → cmAt f h (cmXs f h) (cmXs f h).length = true → coIf_v (cmPts f h) = cmR f h := fun a b => by
    unfold cmR coIf_v
    rw [fineK_pts hf hh]
    by_cases c : (cmPts f h).all fineP = true
    · rw [if_pos c, if_pos ⟨a, b, c⟩]
    · rw [if_neg c, if_neg (fun q => c q.2.2)]
  have hMl := fun k (hk : k ≤ f.length) => cmM_law hf hh k hk
  have hbg := fun k (hk : k < f.length) x hx => unitR_good (befR_unit hh (unitR_good (coordR_unit (hf.coord k hk).1)) x hx)
  have hbl := fun k => befR_len h (nth4 f k).1
  have hMs : ∀ k, cmM f h (k + 1) = mergeL (cmM f h k) (befR h (nth4 f k).1) := fun _ => rfl
  have hM0 : cmM f h 0 = xsL h := rfl
  have hMe := cmM_end hf hh
  have hBs := cmBef_step f h
  have hB0 : cmBef f h 0 = true := rfl
  have hAs := cmAt_step f h (cmXs f h)
  have hA0 : cmAt f h (cmXs f h) 0 = true := rfl
  have hXl := cmXs_len hf hh
  have hPk : ∀ k, k < (cmXs f h).length → (cmPts f h).take (k + 1) = (cmPts f h).take k ++ [(nthR (cmXs f h) k, atZ f (atZ h (nthR (cmXs f h) k)))] := fun k hk => by
    rw [take_nth4 (by rw [cmPts_len]; exact hk), nth4_cmPts hk]
    rfl
  have hPe : (cmPts f h).take (cmXs f h).length = cmPts f h := by rw [← cmPts_len f h, List.take_length]
  have hP0 : (cmPts f h).take 0 = [] := rfl
  have hPl : ∀ k, ((cmPts f h).take k).length ≤ k := fun k => by rw [List.length_take]; omega
  have hu : ∀ k, k < (cmXs f h).length → unitR (nthR (cmXs f h) k).1 (nthR (cmXs f h) k).2 = true := fun k hk => hcu _ (by rw [nthR_eq hk]; exact List.getElem_mem _)
  have hhl := hh.len
  have hxl : 0 < (xsL h).length := by rw [xsL_len]; omega
  obtain ⟨aof, capf, rfl, -, -, H⟩ := hvf.form
  obtain ⟨aoh, caph, rfl, -⟩ := hvh.form
  have hl12 := hf.len
  obtain ⟨PF, hPF⟩ : ∃ PF : Nat → List Quad, ∀ k, (cmPts f h).take k = PF k := ⟨_, fun _ => rfl⟩
  simp only [hPF] at hPk hPe hP0 hPl
  obtain ⟨V, hV⟩ : ∃ V, cmR f h = V := ⟨_, rfl⟩
  rw [hV] at hno1 hno2 hyes ⊢
  obtain ⟨n, hn⟩ : ∃ n, f.length = n := ⟨_, rfl⟩
  obtain ⟨m, hm⟩ : ∃ m, h.length = m := ⟨_, rfl⟩
  obtain ⟨XS, hXS⟩ : ∃ XS, cmXs f h = XS := ⟨_, rfl⟩
  rw [hn] at cA2 cB H hno1 hyes hMl hbg hMe hl12 ⊢
  rw [hm] at cX cB cA hbl hhl hno1 hBs ⊢
  rw [hXS] at hno2 hyes hMe hAs hA0 hXl hPk hPe hu
  generalize cmM f h = M at *
  generalize cmBef f h = BF at *
  generalize cmAt f h XS = AT at *
  generalize cmPts f h = PT at *
  clear hvf hvh hcu hV hXS hPF hh hf
  have cX' := Lib.hid cX
  have cB' := Lib.hid cB
  have cA' := Lib.hid cA
  have cA2' := Lib.hid cA2
  have cI' := Lib.hid cI
  have hno1' := Lib.hid hno1
  have hno2' := Lib.hid hno2
  have hyes' := Lib.hid hyes
  have hMl' := Lib.hid hMl
  have hbg' := Lib.hid hbg
  have hbl' := Lib.hid hbl
  have hMs' := Lib.hid hMs
  have hM0' := Lib.hid hM0
  have hMe' := Lib.hid hMe
  have hBs' := Lib.hid hBs
  have hB0' := Lib.hid hB0
  have hAs' := Lib.hid hAs
  have hA0' := Lib.hid hA0
  have hXl' := Lib.hid hXl
  have hPk' := Lib.hid hPk
  have hPe' := Lib.hid hPe
  have hP0' := Lib.hid hP0
  have hPl' := Lib.hid hPl
  have hu' := Lib.hid hu
  have H' := Lib.hid H
  have hxl' := Lib.hid hxl
  have hn' := Lib.hid hn
  have hm' := Lib.hid hm
  clear cX cB cA cA2 cI hno1 hno2 hyes hMl hbg hbl hMs hM0 hMe hBs hB0 hAs hA0 hXl hPk hPe hP0 hPl hu H hxl hn hm
  go_enter Tryz.func109, Tryz.ntmps109
  go_wp2_with fail
  refine (cX'.out).mono ?_
  rintro e w1 ⟨v1, rfl, ho1, hB1⟩
  have hr1 := GrowR.ofOwn ho1 hxl'.out
  rw [← hM0'.out] at hr1
  have hne : M 0 ≠ [] := by rw [hM0'.out]; intro e; have := hxl'.out; rw [e] at this; simp at this
  have hh1 : HasR w1 w.heap.size v1 (M 0) := ⟨fun e => absurd e hne, hr1⟩
  obtain ⟨ao1, cap1, rfl, -⟩ := ho1.read.form
  clear cX' ho1 hr1 hne
  have hh1' := Lib.hid hh1
  have hB1' := Lib.hid hB1
  clear hh1 hB1
  go_wp2
  go_loopw [6, 24] (fun o i wr => ∃ k : Nat, k ≤ n ∧ i = .int .i64 k ∧ HasR wr w.heap.size o (M k) ∧ BF k = true ∧ Below w.heap.size w wr) (fun _ i _ => n - (intOf i).toNat)
  case atStart => exact ⟨0, Nat.zero_le _, rfl, hh1'.out, hB0'.out, hB1'.out⟩
  case round =>
    obtain ⟨k, hk, rfl, hl, hok, hB⟩ := hrel
    clear hh1' hB1'
    by_cases hlt : k < n
    · obtain ⟨b, off, rfl, p0, p1, p2, p3⟩ := H'.out k hlt
      replace p0 := bkeep hB p0
      replace p1 := bkeep hB p1
      replace p2 := bkeep hB p2
      replace p3 := bkeep hB p3
      have cB1 := fun w' hB => cB'.out k w' hlt hB
      have hbs := hBs'.out k
      have hno := hno1'.out k hlt
      have hMk := hMl'.out k hk
      have hbk := hbg'.out k hlt
      have hbn := hbl'.out k
      have hMs1 := hMs'.out k
      rw [hok, Bool.true_and] at hbs
      have hmg := mergeT_good hMk.1 hbk
      have hMk2 : (M k).length ≤ 400 := by have := hMk.2.2; omega
      clear hMk
      generalize nth4 f k = P at *
      obtain ⟨⟨a0, a1⟩, ⟨a2, a3⟩⟩ := P
      simp only at p0 p1 p2 p3 cB1 hbs hno hbk hbn hMs1 hmg
      generalize befR h (a0, a1) = L at *
      obtain ⟨w3, hw3⟩ : ∃ W, wr.alloc (.cells #[.int .i64 a0, .int .i64 a1, .int .i64 a2, .int .i64 a3] 80) = W := ⟨_, rfl⟩
      have hB3 : Below wr.heap.size wr w3 := by rw [← hw3]; exact (Below.refl _ _).alloc (Nat.le_refl _) _
      have hb3 := hB.trans (hB3.mono hB.size)
      have cB2 := cB1 w3 hb3
      have hl3 := hl.below hB3
      have hs3 := hb3.size
      clear cB1 hl hB hB3 hok
      cases hOK : befOk h (a0, a1) m
      · rw [hOK, if_neg (by decide)] at cB2
        have hV := hno hOK
        subst hV
        clear hbs hno hmg hbk hbn hMs1 hl3 hOK
        have cB2' := Lib.hid cB2
        have hb3' := Lib.hid hb3
        have hw3' := Lib.hid hw3
        clear cB2 hb3 hw3
        go_wp2_with fail
        rw [hw3'.out]
        clear p0 p1 p2 p3
        go_wp2_with fail
        refine (cB2'.out).mono ?_
        rintro e w4 ⟨v4, rfl, hh4, hB4⟩
        have hv4 := hh4.1 rfl
        subst hv4
        have hb4 := hb3'.out.trans (hB4.mono hb3'.out.size)
        clear hh4 hB4
        have hb4' := Lib.hid hb4
        clear hb4
        go_wp2
        go_ret2
        exact ⟨_, rfl, OwnP.nil _ _ _, hb4'.out⟩
      · rw [hOK, if_pos rfl] at cB2
        rw [hOK] at hbs
        clear hno hOK
        have cB2' := Lib.hid cB2
        have hb3' := Lib.hid hb3
        have hw3' := Lib.hid hw3
        have hbs' := Lib.hid hbs
        have hmg' := Lib.hid hmg
        have hbk' := Lib.hid hbk
        have hbn' := Lib.hid hbn
        have hMs1' := Lib.hid hMs1
        have hl3' := Lib.hid hl3
        have hMk2' := Lib.hid hMk2
        clear cB2 hb3 hw3 hbs hmg hbk hbn hMs1 hl3 hMk2
        go_wp2_with fail
        rw [hw3'.out]
        clear p0 p1 p2 p3
        go_wp2_with fail
        refine (cB2'.out).mono ?_
        rintro e w4 ⟨v4, rfl, hh4, hB4⟩
        have hb4 := hb3'.out.trans (hB4.mono hb3'.out.size)
        have hl4 := hl3'.out.below hB4
        have hs4 := hb4.size
        have hrd := RatsV.form (GrowR.read hh4.2)
        obtain ⟨ao4, cap4, rfl, -, -, HL⟩ := hrd
        obtain ⟨nl, hnl⟩ : ∃ nl, L.length = nl := ⟨_, rfl⟩
        rw [hnl] at HL ⊢
        have hgo : ∀ (o : Value) (j : Nat) (w' : World), j < nl → HasR w' w.heap.size o (mergeL (M k) (L.take j)) → w.heap.size ≤ w'.heap.size →
            Calls Tryz.prog 128 #[o, .agg #[.int .i64 (nthR L j).1, .int .i64 (nthR L j).2]] w' (fun e w2 => ∃ v', e = .returned v' ∧ HasR w2 w.heap.size v' (mergeL (M k) (L.take (j + 1))) ∧ Below w'.heap.size w' w2) := fun o j w' hj hr hs => by
          rw [mergeL_take (by rw [hnl]; exact hj)]
          have g := hmg'.out j
          exact imPut_has w.heap.size o _ (nthR L j) w' hr hs (by have := g.2; have := hMk2'.out; have := hbn'.out; omega) (hbk'.out _ (by rw [nthR_eq (by rw [hnl]; exact hj)]; exact List.getElem_mem _)) g.1.good
        have hE : mergeL (M k) (L.take nl) = M (k + 1) := by rw [← hnl, List.take_length, hMs1'.out]
        have h0 : mergeL (M k) (L.take 0) = M k := rfl
        have hnlb : nl ≤ 100 := by rw [← hnl]; have := hbn'.out; omega
        clear hh4 hB4 hmg' hMs1' hMk2' hbk' hbn' hl3' hnl cB2'
        have hb4' := Lib.hid hb4
        have hl4' := Lib.hid hl4
        have HL' := Lib.hid HL
        have hgo' := Lib.hid hgo
        have hE' := Lib.hid hE
        have h0' := Lib.hid h0
        clear hb4 hl4 HL hgo hE h0
        go_wp2
        go_loopw [6, 39] (fun o i wx => ∃ j : Nat, j ≤ nl ∧ i = .int .i64 j ∧ HasR wx w.heap.size o (mergeL (M k) (L.take j)) ∧ Below w4.heap.size w4 wx) (fun _ i _ => nl - (intOf i).toNat)
        case atStart => exact ⟨0, Nat.zero_le _, rfl, by rw [h0'.out]; exact hl4'.out, Below.refl _ _⟩
        case round =>
          obtain ⟨j, hj, rfl, hx, hBx⟩ := hrel
          clear hl4'
          by_cases hlj : j < nl
          · obtain ⟨bb, ob, rfl, d0, d1⟩ := HL'.out j hlj
            replace d0 := bkeep hBx d0
            replace d1 := bkeep hBx d1
            have hgo1 := fun w' hr hs => hgo'.out u6 j w' hlj hr hs
            generalize nthR L j = X at *
            obtain ⟨x0, x1⟩ := X
            simp only at d0 d1 hgo1
            obtain ⟨w5, hw5⟩ : ∃ W, wr.alloc (.cells #[.int .i64 x0, .int .i64 x1] 42) = W := ⟨_, rfl⟩
            have hB5 : Below wr.heap.size wr w5 := by rw [← hw5]; exact (Below.refl _ _).alloc (Nat.le_refl _) _
            have hb5 := hBx.trans (hB5.mono hBx.size)
            have hgo2 := hgo1 w5 (hx.below hB5) (by have := hb5.size; omega)
            clear hgo1 hB5 hBx hx
            have hw5' := Lib.hid hw5
            have hb5' := Lib.hid hb5
            have hgo2' := Lib.hid hgo2
            clear hw5 hb5 hgo2
            go_wp2_with fail
            rw [hw5'.out]
            clear d0 d1
            go_wp2_with fail
            refine (hgo2'.out).mono ?_
            rintro e w6 ⟨v6, rfl, hh6, hB6⟩
            have hb6 := hb5'.out.trans (hB6.mono hb5'.out.size)
            clear hB6 hgo2'
            have hh6' := Lib.hid hh6
            have hb6' := Lib.hid hb6
            clear hh6 hb6
            go_wp2
            go_roundw
            case rel => exact ⟨j + 1, by omega, by go_num, hh6'.out, hb6'.out⟩
            case measure => simp [intOf]; omega
          · obtain rfl : j = nl := by omega
            rw [hE'.out] at hx
            have hbx := hb4'.out.trans (hBx.mono hb4'.out.size)
            clear hBx HL' hgo' hE' h0' hb4'
            have hx' := Lib.hid hx
            have hbx' := Lib.hid hbx
            clear hx hbx
            go_wp2
            go_roundw
            case rel => exact ⟨k + 1, by omega, by go_num, hx'.out, hbs'.out, hbx'.out⟩
            case measure => simp [intOf]; omega
    · obtain rfl : k = n := by omega
      rw [hMe'.out] at hl
      obtain ⟨ao6, cap6, hu6, -, -, HX⟩ := RatsV.form (GrowR.read hl.2)
      obtain ⟨u6', hu6'⟩ : ∃ u, u6 = u := ⟨_, rfl⟩
      subst hu6
      obtain ⟨N, hN⟩ : ∃ N, XS.length = N := ⟨_, rfl⟩
      have hXl1 := hXl'.out
      rw [hN] at HX hXl1
      rw [hN]
      have hyes1 := hyes'.out hok
      have hno := hno2'.out
      have hPk1 := hPk'.out
      have hPe1 := hPe'.out
      have huX := hu'.out
      rw [hN] at hyes1 hno hPk1 hPe1 huX
      clear hl hyes' hno2' hPk' hPe' hu' hMe' hBs' hB0' hno1' hbg' hbl' hMs' hM0' hMl' cB' H' hXl' hn' hm' hok
      obtain ⟨wl, rfl⟩ : ∃ wl : World, wl = wr := ⟨_, rfl⟩
      have hyes1' := Lib.hid hyes1
      have hno' := Lib.hid hno
      have hPk1' := Lib.hid hPk1
      have hPe1' := Lib.hid hPe1
      have huX' := Lib.hid huX
      have HX' := Lib.hid HX
      have hB' := Lib.hid hB
      clear hyes1 hno hPk1 hPe1 huX HX hB
      go_wp2
      go_loopw [13, 50] (fun o i wx => ∃ j : Nat, j ≤ N ∧ i = .int .i64 j ∧ GrowP wx wl.heap.size o (PF j) ∧ AT j = true ∧ Below wl.heap.size wl wx) (fun _ i _ => N - (intOf i).toNat)
      case atStart => exact ⟨0, Nat.zero_le _, rfl, by rw [hP0'.out]; exact GrowP.nil _ _, hA0'.out, Below.refl _ _⟩
      case round =>
        obtain ⟨j, hj, rfl, hg, hat, hBx⟩ := hrel
        by_cases hlt : j < N
        · obtain ⟨bb, ob, rfl, d0, d1⟩ := HX'.out j hlt
          replace d0 := bkeep hBx d0
          replace d1 := bkeep hBx d1
          have hux := huX'.out j hlt
          have has := hAs'.out j
          rw [hat, Bool.true_and] at has
          have hnj := hno'.out j hlt
          have hpj := hPk1'.out j hlt
          have hpl := hPl'.out j
          generalize nthR XS j = X at *
          have cA1 := fun w' hB => cA'.out X w' hB hux
          have cA3 := fun w' hB => cA2'.out X w' hB hux
          obtain ⟨w5, hw5⟩ : ∃ W, wr.alloc (.cells #[.int .i64 X.1, .int .i64 X.2] 42) = W := ⟨_, rfl⟩
          have hB5 : Below wr.heap.size wr w5 := by rw [← hw5]; exact (Below.refl _ _).alloc (Nat.le_refl _) _
          have hb5 := hBx.trans (hB5.mono hBx.size)
          have hbw5 := hB'.out.trans (hb5.mono hB'.out.size)
          have xb : BoxV w5 wr.heap.size X := by rw [← hw5]; refine ⟨⟨?_, ?_⟩, ?_, ?_⟩ <;> simp [go_sem]
          have hg5 := hg.below hB5
          have cA4 := cA1 w5 hbw5
          clear cA1 hBx hB5 hg hux hat
          cases ho1 : atOk h X
          · rw [atR_bad ho1] at cA4
            have hV := hnj (by rw [ho1]; rfl)
            subst hV
            obtain ⟨x0, x1⟩ := X
            simp only at d0 d1 hw5 cA4
            clear hnj has hpj xb cA3 hg5 ho1
            have cA4' := Lib.hid cA4
            have hw5' := Lib.hid hw5
            have hbw5' := Lib.hid hbw5
            clear cA4 hw5 hbw5
            go_wp2_with fail
            rw [hw5'.out]
            clear d0 d1
            go_wp2_with fail
            refine (cA4'.out).mono ?_
            rintro e w6 ⟨rfl, hB6⟩
            have hb6 := (hbw5'.out.trans (hB6.mono hbw5'.out.size)).alloc (hbw5'.out.trans (hB6.mono hbw5'.out.size)).size (.cells #[.int .i64 0, .int .i64 0] 42)
            clear hB6
            have hb6' := Lib.hid hb6
            clear hb6
            go_wp2
            go_ret2
            exact ⟨_, rfl, OwnP.nil _ _ _, hb6'.out⟩
          · rw [atR_ok ho1] at cA4
            rw [ho1, Bool.true_and] at has hnj
            generalize atZ h X = Y at *
            obtain ⟨y0, y1⟩ := Y
            cases ho2 : atOk f (y0, y1)
            · have hV := hnj ho2
              subst hV
              simp only [atR_bad ho2] at cA3
              obtain ⟨x0, x1⟩ := X
              simp only at d0 d1 hw5 cA4
              clear hnj has hpj xb hg5 ho1 ho2
              have cA4' := Lib.hid cA4
              have cA3' := Lib.hid cA3
              have hw5' := Lib.hid hw5
              have hbw5' := Lib.hid hbw5
              clear cA4 cA3 hw5 hbw5
              go_wp2_with fail
              rw [hw5'.out]
              clear d0 d1
              go_wp2_with fail
              refine (cA4'.out).mono ?_
              rintro e w6 ⟨rfl, hB6⟩
              obtain ⟨w7, hw7⟩ : ∃ W, w6.alloc (.cells #[.int .i64 y0, .int .i64 y1] 42) = W := ⟨_, rfl⟩
              have hB7 : Below w5.heap.size w5 w7 := by rw [← hw7]; exact hB6.alloc hB6.size _
              have hbw7 := hbw5'.out.trans (hB7.mono hbw5'.out.size)
              have cA5 := cA3'.out w7 hbw7
              clear hB6 hB7
              have hw7' := Lib.hid hw7
              have hbw7' := Lib.hid hbw7
              have cA5' := Lib.hid cA5
              clear hw7 hbw7 cA5
              go_wp2_with fail
              rw [hw7'.out]
              go_wp2_with fail
              refine (cA5'.out).mono ?_
              rintro e w8 ⟨rfl, hB8⟩
              have hb8 := (hbw7'.out.trans (hB8.mono hbw7'.out.size)).alloc (hbw7'.out.trans (hB8.mono hbw7'.out.size)).size (.cells #[.int .i64 0, .int .i64 0] 42)
              clear hB8
              have hb8' := Lib.hid hb8
              clear hb8
              go_wp2
              go_ret2
              exact ⟨_, rfl, OwnP.nil _ _ _, hb8'.out⟩
            · rw [ho2] at has
              simp only [atR_ok ho2] at cA3
              generalize atZ f (y0, y1) = Z at *
              obtain ⟨z0, z1⟩ := Z
              obtain ⟨x0, x1⟩ := X
              simp only at d0 d1 hw5 cA4 hpj
              clear hnj ho1 ho2
              have cA4' := Lib.hid cA4
              have cA3' := Lib.hid cA3
              have hw5' := Lib.hid hw5
              have hbw5' := Lib.hid hbw5
              have hg5' := Lib.hid hg5
              have hb5' := Lib.hid hb5
              have has' := Lib.hid has
              have hpj' := Lib.hid hpj
              have xb' := Lib.hid xb
              have hpl' := Lib.hid hpl
              clear cA4 cA3 hw5 hbw5 hg5 hb5 has hpj xb hpl
              go_wp2_with fail
              rw [hw5'.out]
              clear d0 d1
              go_wp2_with fail
              refine (cA4'.out).mono ?_
              rintro e w6 ⟨rfl, hB6⟩
              obtain ⟨w7, hw7⟩ : ∃ W, w6.alloc (.cells #[.int .i64 y0, .int .i64 y1] 42) = W := ⟨_, rfl⟩
              have hB7 : Below w5.heap.size w5 w7 := by rw [← hw7]; exact hB6.alloc hB6.size _
              have hbw7 := hbw5'.out.trans (hB7.mono hbw5'.out.size)
              have cA5 := cA3'.out w7 hbw7
              have hg7 := hg5'.out.below hB7
              have hb7 := hb5'.out.trans (hB7.mono hb5'.out.size)
              have xb7 := xb'.out.below hB7
              clear hB6 hB7 xb' hg5' hb5'
              have hw7' := Lib.hid hw7
              have cA5' := Lib.hid cA5
              have hg7' := Lib.hid hg7
              have hb7' := Lib.hid hb7
              have xb7' := Lib.hid xb7
              clear hw7 cA5 hg7 hb7 xb7
              go_wp2_with fail
              rw [hw7'.out]
              go_wp2_with fail
              refine (cA5'.out).mono ?_
              rintro e w8 ⟨rfl, hB8⟩
              obtain ⟨w9, hw9⟩ : ∃ W, w8.alloc (.cells #[.int .i64 z0, .int .i64 z1] 42) = W := ⟨_, rfl⟩
              have hB9 : Below w7.heap.size w7 w9 := by rw [← hw9]; exact hB8.alloc hB8.size _
              have xz : BoxV w9 w8.heap.size (z0, z1) := by rw [← hw9]; refine ⟨⟨?_, ?_⟩, ?_, ?_⟩ <;> simp [go_sem]
              have hg9 := hg7'.out.below hB9
              have hb9 := hb7'.out.trans (hB9.mono hb7'.out.size)
              have hs9 := hb9.size
              obtain ⟨⟨k0, k1⟩, -, -⟩ := xb7'.out.below hB9
              obtain ⟨⟨k2, k3⟩, -, -⟩ := xz
              simp only at k0 k1 k2 k3
              clear hB8 hB9 xb7' hg7' hb7' hbw7 cA5' cA4' cA3' hw7'
              have hw9' := Lib.hid hw9
              have hg9' := Lib.hid hg9
              have hb9' := Lib.hid hb9
              clear hw9 hg9 hb9
              go_upto_region 24 with fail
              rw [hw9'.out]
              go_wp2_with (at_builtin; refine wpList_append_P rfl _ _ rfl wl.heap.size u13 (PF j) x0 x1 z0 z1 _ rfl rfl hg9'.out (by have := hpl'.out; omega) hs9 ?_)
              intro v' w' hown hgrow
              have hbF := hg9'.out.belowB hb9'.out (Nat.le_refl _) hs9 hgrow
              rw [← hpj'.out] at hown
              clear hgrow k0 k1 k2 k3
              have hown' := Lib.hid hown
              have hbF' := Lib.hid hbF
              clear hown hbF
              go_wp2
              go_roundw
              case rel => exact ⟨j + 1, by omega, by go_num, hown'.out, has'.out, hbF'.out⟩
              case measure => simp [intOf]; omega
        · obtain rfl : j = N := by omega
          rw [hPe1'.out] at hg
          have hV := hyes1'.out hat
          have cI1 := cI'.out u13 wr hg.own.read
          rw [hV] at cI1
          have hbx := hB'.out.trans (hBx.mono hB'.out.size)
          obtain ⟨ao13, cap13, hu13, -⟩ := hg.own.read.form
          subst hu13
          clear hg hBx HX' hno' hPk1' hPe1' huX' hyes1' cI' hAs' hA0'
          have cI1' := Lib.hid cI1
          have hbx' := Lib.hid hbx
          clear cI1 hbx
          go_wp2_with fail
          refine (cI1'.out).mono ?_
          rintro e w6 ⟨r6, rfl, ho6, hB6⟩
          have hb6 := hbx'.out.trans (hB6.mono hbx'.out.size)
          have ho7 := OwnP.mono ho6 (hB := hbx'.out.size) (hE := Nat.le_refl _)
          obtain ⟨ao7, cap7, rfl, -⟩ := ho6.read.form
          clear ho6 hB6 cI1'
          have ho7' := Lib.hid ho7
          have hb6' := Lib.hid hb6
          clear ho7 hb6
          go_wp2
          go_ret2
          exact ⟨_, rfl, ho7'.out, hb6'.out⟩

set_option linter.unusedSimpArgs false in
set_option maxRecDepth 10000 in
set_option maxHeartbeats 4000000 in
theorem coPower_any (v : Value) (f : List Quad) (n : Nat) (w : World) (hv : QuadV w v f) (hmap : mapB f = true) (hn6 : n ≤ 6) :
    Calls Tryz.prog 50 #[v, .int .i64 n] w (RetOB OwnP (cmW f n) w) := by
  have hf := mapB_true hmap
  have cK := fun (k : Nat) (u : Value) (w' : World) (hB : Below w.heap.size w w') (hk : (cmW f k).2 = true) (hu : QuadV w' u (cmW f k).1) => coCompose_any v u f (cmW f k).1 w' (hv.below hB) hu hf (mapB_true (cmW_map f k hk))
  have hst : ∀ k, (cmW f k).2 = true → cmW f (k + 1) = cmR f (cmW f k).1 := fun k hk => by show (if (cmW f k).2 = true then _ else _) = _; rw [if_pos hk]
  have hno := fun k (hk : k < n) (hb : (cmW f (k + 1)).2 = false) => cmW_no (f := f) (show k + 1 ≤ n from hk) hb
  obtain ⟨V, hV⟩ : ∃ V, cmW f n = V := ⟨_, rfl⟩
  rw [hV] at hno ⊢
  have h00 : cmW f 0 = (cmId, true) := rfl
  have cI := fun w' => coSame_any w'
  obtain ⟨ao, cap, rfl, -⟩ := hv.form
  clear hmap hf hv
  generalize f.length = m at *
  have cK' := Lib.hid cK
  have hst' := Lib.hid hst
  have hno' := Lib.hid hno
  have h00' := Lib.hid h00
  have cI' := Lib.hid cI
  have hn6' := Lib.hid hn6
  have hV' := Lib.hid hV
  clear cK hst hno h00 cI hn6 hV
  go_enter Tryz.func50, Tryz.ntmps50
  go_wp2_with fail
  refine (cI'.out w).mono ?_
  rintro e w2 ⟨v2, rfl, ho2, hB2⟩
  have ho3 : OwnP w2 w.heap.size w2.heap.size v2 (cmW f 0).1 := by rw [h00'.out]; exact ho2
  have hk0 : (cmW f 0).2 = true := by rw [h00'.out]
  obtain ⟨ao2, cap2, rfl, -⟩ := ho2.read.form
  clear ho2
  have hB2' := Lib.hid hB2
  have ho3' := Lib.hid ho3
  have hk0' := Lib.hid hk0
  clear hB2 ho3 hk0
  go_wp2
  go_loopw [1, 6] (fun i o wr => ∃ k : Nat, k ≤ n ∧ i = .int .i64 ((n : Int) - k) ∧ OwnP wr w.heap.size wr.heap.size o (cmW f k).1 ∧ (cmW f k).2 = true ∧ Below w.heap.size w wr) (fun i _ _ => (intOf i).toNat)
  case atStart => exact ⟨0, Nat.zero_le _, by simp, ho3'.out, hk0'.out, hB2'.out⟩
  case round =>
    obtain ⟨k, hk, rfl, ho, hok, hB⟩ := hrel
    clear hB2' ho3' hk0'
    by_cases hlt : k < n
    · have c5 := cK'.out k _ wr hB hok ho.read
      have hs1 := hst'.out k hok
      have hn1 := hno'.out k hlt
      rw [← hs1] at c5
      have hsz := hB.size
      have g1 : (0 : Int) < (n : Int) - (k : Int) := by omega
      have g2 : IntKind.i64.wrap ((n : Int) - (k : Int) - 1) = (n : Int) - ((k + 1 : Nat) : Int) := by rw [IntKind.wrap_i64]; have := hn6'.out; omega
      obtain ⟨⟨S, M⟩, hSM⟩ : ∃ r, cmW f (k + 1) = r := ⟨_, rfl⟩
      rw [hSM] at c5 hn1
      obtain ⟨ao6, cap6, hu6, -⟩ := ho.read.form
      subst hu6
      clear ho hs1 hok
      have c5' := Lib.hid c5
      have hB' := Lib.hid hB
      have hn1' := Lib.hid hn1
      have hSM' := Lib.hid hSM
      clear c5 hB hn1 hSM
      go_wp2_with fail
      refine (c5'.out).mono ?_
      rintro e w3 ⟨r, rfl, ho3, hB3⟩
      have hb3 := hB'.out.trans (hB3.mono hB'.out.size)
      obtain ⟨ao3, cap3, rfl, -⟩ := ho3.read.form
      cases M
      · have hV2 := hn1'.out rfl
        subst hV2
        clear ho3 hB3 c5'
        have hb3' := Lib.hid hb3
        clear hb3
        go_wp2
        go_ret2
        exact ⟨_, rfl, OwnP.nil _ _ _, hb3'.out⟩
      · have ho4 := OwnP.mono ho3 (hB := hsz) (hE := Nat.le_refl _)
        have e1 : S = (cmW f (k + 1)).1 := by rw [hSM'.out]
        have e2 : (cmW f (k + 1)).2 = true := by rw [hSM'.out]
        have ho5 : OwnP w3 w.heap.size w3.heap.size (.slice ao3 S.length cap3) (cmW f (k + 1)).1 := by rw [← e1]; exact ho4
        clear ho3 hB3 c5' e1 ho4
        have hb3' := Lib.hid hb3
        have ho5' := Lib.hid ho5
        have e2' := Lib.hid e2
        clear hb3 ho5 e2
        go_wp2
        go_roundw
        case rel => exact ⟨k + 1, by omega, rfl, ho5'.out, e2'.out, hb3'.out⟩
        case measure => simp [intOf]; omega
    · obtain rfl : k = n := by omega
      have hVk := hV'.out
      have g1 : ¬ (0 : Int) < (k : Int) - (k : Int) := by omega
      rw [hVk] at ho hok
      obtain ⟨S, M⟩ := V
      simp only at hok ho
      subst hok
      obtain ⟨ao6, cap6, hu6, -⟩ := ho.read.form
      subst hu6
      clear hVk hV'
      have ho' := Lib.hid ho
      have hB' := Lib.hid hB
      clear ho hB
      go_wp2
      go_ret2
      exact ⟨_, rfl, ho'.out, hB'.out⟩
end Go.Proofs.YtfhhofecfllbfaaGreat

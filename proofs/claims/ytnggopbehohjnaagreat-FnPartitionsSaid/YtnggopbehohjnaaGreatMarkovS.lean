/- Whether cuts are Markov for a map: the reference's. No conditions. -/
import Derived.Test.YtnggopbehohjnaaGreatMarkov
namespace Go.Proofs.YtnggopbehohjnaaGreat
open Go.RowKit

theorem mkStarts_any (v : Value) (f : List Quad) (lin : Bool) (w : World) (hv : QuadV w v f) (hf : MapP f) :
    Calls Tryz.prog 165 #[v, .bool lin] w (RetO OwnR (startL f lin) w) := by
  cases lin
  · have ct := lpTurns_any v f w hv hf
    have e : startL f false = tuL f := rfl
    rw [e]
    generalize tuL f = TL at *
    clear hv hf
    have ct' := Lib.hid ct
    clear ct
    go_enter Tryz.func165, Tryz.ntmps165
    go_wp2_with fail
    refine (ct'.out).mono ?_
    rintro e w1 ⟨r, rfl, hr, hB1⟩
    have hr' := Lib.hid hr
    clear hr
    go_wp2
    go_ret
    exact ⟨_, rfl, hr'.out, hB1⟩
  · have ct := imSimple_any v f w hv hf
    have hsl : (smL f).length ≤ 1099511627776 := by have := startL_len hf true; have e : (startL f true).length = (smL f).length := xsL_len _; omega
    have cx := fun r w' (hr : QuadV w' r (smL f)) => coXs_any r (smL f) w' hr hsl
    have e : startL f true = xsL (smL f) := rfl
    rw [e]
    generalize xsL (smL f) = TL at *
    generalize smL f = SL at *
    clear hv hf
    have ct' := Lib.hid ct
    have cx' := Lib.hid cx
    clear ct cx
    go_enter Tryz.func165, Tryz.ntmps165
    go_wp2_with fail
    refine (ct'.out).mono ?_
    rintro e w1 ⟨r, rfl, hr, hB1⟩
    have cx1 := cx'.out r w1 hr.read
    clear hr
    have cx1' := Lib.hid cx1
    clear cx1
    go_wp2_with fail
    refine (cx1'.out).mono ?_
    rintro e w2 ⟨r2, rfl, hr2, hB2⟩
    have hb2 := hB1.trans (hB2.mono hB1.size)
    have hr2' := Lib.hid hr2
    clear hr2
    go_wp2
    go_ret
    exact ⟨_, rfl, hr2'.out.mono hB1.size (Nat.le_refl _), hb2⟩

set_option linter.unusedSimpArgs false in
set_option maxHeartbeats 1600000 in
theorem mkMarkov_any (v u : Value) (f : List Quad) (xs : List (Int × Int)) (lin : Bool) (w : World) (hv : QuadV w v f) (hu : RatsV w u xs) (hf : MapP f) (hp : partB xs = true) :
    Calls Tryz.prog 126 #[v, u, .bool lin] w (Ret (.tuple #[.bool (mm_v f xs lin).1, .bool (mm_v f xs lin).2]) w) := by
  have hxl := partB_len hp
  have c1 := mkValues_any v u f xs w hv hu hf (cuts_unit hp) (by omega)
  have ct := fun w' (hB : Below w.heap.size w w') => mkStarts_any v f lin w' (hv.below hB) hf
  have cf := fun (y : Int × Int) (w' : World) (hB : Below w.heap.size w w') => mkFind_any u xs y w' (hu.below hB) (by omega)
  have hneg := plcR_neg xs
  have hvi : (viK f xs xs.length).length = xs.length := viK_len f xs _
  have cl := fun r w' (hr : IntsV w' r (viK f xs xs.length)) => l1Has_any r (viK f xs xs.length) (-1) w' hr (by omega)
  have hsl := startL_len hf lin
  have hV : mm_v f xs lin = if voK f xs xs.length = true then ((startL f lin).all (hasR xs) && !(hasI (viK f xs xs.length) (-1)), true) else (false, false) := rfl
  have hW : vi_v f xs = if voK f xs xs.length = true then (viK f xs xs.length, true) else ([], false) := rfl
  rw [hV]
  rw [hW] at c1
  clear hV hW hv hu hf hp hvi
  generalize hasI (viK f xs xs.length) (-1) = HI at *
  generalize viK f xs xs.length = VI at *
  generalize voK f xs xs.length = VO at *
  generalize startL f lin = ST at *
  cases VO
  · rw [if_neg (by decide)] at c1 ⊢
    have c1' := Lib.hid c1
    clear c1
    go_enter Tryz.func126, Tryz.ntmps126
    go_wp2_with fail
    refine (c1'.out).mono ?_
    rintro e w1 ⟨r, rfl, hr, hB1⟩
    clear hr
    go_wp2
    go_ret2
    exact ⟨rfl, hB1⟩
  · rw [if_pos rfl] at c1 ⊢
    have hst : ∀ k, k < ST.length → (ST.take (k + 1)).all (hasR xs) = ((ST.take k).all (hasR xs) && hasR xs (nthR ST k)) := fun k hk => by
      rw [take_nthR hk, List.all_append]; simp
    have hfl : ∀ k, k < ST.length → hasR xs (nthR ST k) = false → ST.all (hasR xs) = false := fun k hk hb => by
      rw [List.all_eq_false]
      exact ⟨nthR ST k, by rw [nthR_eq hk]; exact List.getElem_mem hk, by rw [hb]; decide⟩
    have hend : (ST.take ST.length).all (hasR xs) = ST.all (hasR xs) := by rw [List.take_length]
    have h00 : (ST.take 0).all (hasR xs) = true := rfl
    obtain ⟨AL, hAL⟩ : ∃ AL : Nat → Bool, ∀ k, (ST.take k).all (hasR xs) = AL k := ⟨_, fun _ => rfl⟩
    simp only [hAL] at hst hend
    rw [hAL] at h00
    clear hAL
    generalize ST.all (hasR xs) = A at *
    obtain ⟨n, hn⟩ : ∃ n, ST.length = n := ⟨_, rfl⟩
    rw [hn] at hst hfl hend hsl
    obtain ⟨V, hVe⟩ : ∃ V, (A && !HI) = V := ⟨_, rfl⟩
    rw [hVe]
    have c1' := Lib.hid c1
    have ct' := Lib.hid ct
    have cf' := Lib.hid cf
    have cl' := Lib.hid cl
    have hneg' := Lib.hid hneg
    have hst' := Lib.hid hst
    have hfl' := Lib.hid hfl
    have hend' := Lib.hid hend
    have h00' := Lib.hid h00
    have hn' := Lib.hid hn
    have hVe' := Lib.hid hVe
    clear c1 ct cf cl hneg hst hfl hend h00 hn hVe
    go_enter Tryz.func126, Tryz.ntmps126
    go_wp2_with fail
    refine (c1'.out).mono ?_
    rintro e w1 ⟨r, rfl, hr, hB1⟩
    go_wp2_with fail
    refine (ct'.out _ hB1).mono ?_
    rintro e w2 ⟨t, rfl, ht, hB2⟩
    have hb2 := hB1.trans (hB2.mono hB1.size)
    have hr2 := (hr.below hB2 (Nat.le_refl _)).read
    obtain ⟨to, tcap, rfl, _, _, H⟩ := ht.read.form
    rw [hn'.out] at H ⊢
    clear hr ht hB1 hB2
    have H' := Lib.hid H
    have hr2' := Lib.hid hr2
    clear H hr2
    go_wp2
    go_loopw [24] (fun i wr => ∃ k : Nat, k ≤ n ∧ i = .int .i64 k ∧ AL k = true ∧ Below w2.heap.size w2 wr) (fun i _ => n - (intOf i).toNat)
    case atStart => exact ⟨0, Nat.zero_le _, rfl, h00'.out, Below.refl _ _⟩
    case round =>
      obtain ⟨k, hk, rfl, hal, hB⟩ := hrel
      have hb := hb2.trans (hB.mono hb2.size)
      by_cases hlt : k < n
      · obtain ⟨b, off, rfl, p0, p1⟩ := H'.out k hlt
        replace p0 := bkeep hB p0
        replace p1 := bkeep hB p1
        have hst1 := hst'.out k hlt
        have hfl1 := hfl'.out k hlt
        rw [hal, Bool.true_and] at hst1
        have cf1 := cf'.out (nthR ST k)
        have hneg1 := hneg'.out (nthR ST k)
        generalize plcR xs (nthR ST k) = I at *
        generalize hasR xs (nthR ST k) = R at *
        generalize nthR ST k = P at *
        obtain ⟨x0, x1⟩ := P
        simp only at p0 p1 cf1
        obtain ⟨w4, hw4⟩ : ∃ W, wr.alloc (.cells #[.int .i64 x0, .int .i64 x1] 50) = W := ⟨_, rfl⟩
        have hB4 : Below wr.heap.size wr w4 := by rw [← hw4]; exact (Below.refl _ _).alloc (Nat.le_refl _) _
        have hb4 := hb.trans (hB4.mono hb.size)
        have hBw4 := hB.trans (hB4.mono hB.size)
        have cf2 := cf1 w4 hb4
        clear cf1 hB4 hB hb
        have cf2' := Lib.hid cf2
        have hw4' := Lib.hid hw4
        have hb4' := Lib.hid hb4
        have hBw4' := Lib.hid hBw4
        have hst1' := Lib.hid hst1
        have hfl1' := Lib.hid hfl1
        have hal' := Lib.hid hal
        clear cf2 hw4 hb4 hBw4 hst1 hfl1 hal
        cases R
        · have hI : I < 0 := by simpa using hneg1
          have hA := hfl1'.out rfl
          have hVe := hVe'.out
          rw [hA, Bool.false_and] at hVe
          subst hVe
          clear hneg1
          go_wp2_with fail
          rw [hw4'.out]
          clear p0 p1
          go_wp2_with fail
          refine (cf2'.out).mono ?_
          rintro e w5 ⟨rfl, hB5⟩
          have hb5 := hb4'.out.trans (hB5.mono hb4'.out.size)
          go_wp2
          go_ret2
          exact ⟨rfl, hb5⟩
        · have hI : ¬ I < 0 := by simpa using hneg1
          clear hneg1
          go_wp2_with fail
          rw [hw4'.out]
          clear p0 p1
          go_wp2_with fail
          refine (cf2'.out).mono ?_
          rintro e w5 ⟨rfl, hB5⟩
          have hb5 := hBw4'.out.trans (hB5.mono hBw4'.out.size)
          clear hB5
          have hb5' := Lib.hid hb5
          clear hb5
          go_wp2
          go_roundw
          case rel => exact ⟨k + 1, by omega, by go_num, hst1'.out, hb5'.out⟩
          case measure => simp [intOf]; omega
      · obtain rfl : k = n := by omega
        have hA : A = true := by rw [← hend'.out]; exact hal
        have hVe := hVe'.out
        rw [hA, Bool.true_and] at hVe
        subst hVe
        have cl1 := cl'.out r wr (hr2'.out.below hB)
        clear hal hB H'
        have cl1' := Lib.hid cl1
        have hb' := Lib.hid hb
        clear cl1 hb
        go_wp2_with fail
        refine (cl1'.out).mono ?_
        rintro e w_ ⟨rfl, rfl⟩
        go_wp2
        go_ret2
        exact ⟨rfl, hb'.out⟩
theorem mkLinear_any (v u : Value) (f : List Quad) (xs : List (Int × Int)) (w : World) (hv : QuadV w v f) (hu : RatsV w u xs) (hf : MapP f) (hp : partB xs = true) :
    Calls Tryz.prog 125 #[v, u] w (Ret (.tuple #[.bool (ml_v f xs).1, .bool (ml_v f xs).2]) w) := by
  have c1 := mkMarkov_any v u f xs false w hv hu hf hp
  have c2 := fun w' (hB : Below w.heap.size w w') => mkMarkov_any v u f xs true w' (hv.below hB) (hu.below hB) hf hp
  have hV : ml_v f xs = if (mm_v f xs false).2 = true then ((mm_v f xs false).1 && (mm_v f xs true).1, true) else (false, false) := rfl
  rw [hV]
  clear hV hv hu hf hp
  generalize mm_v f xs false = A at *
  generalize mm_v f xs true = B at *
  obtain ⟨a1, a2⟩ := A
  obtain ⟨b1, b2⟩ := B
  simp only at c1 c2
  have c1' := Lib.hid c1
  have c2' := Lib.hid c2
  clear c1 c2
  cases a2
  · rw [if_neg (fun h => by cases h)]
    go_enter Tryz.func125, Tryz.ntmps125
    go_wp2_with fail
    refine (c1'.out).mono ?_
    rintro e w1 ⟨rfl, hB1⟩
    go_wp2
    go_ret2
    exact ⟨rfl, hB1⟩
  · rw [if_pos rfl]
    cases a1
    all_goals
      go_enter Tryz.func125, Tryz.ntmps125
      go_wp2_with fail
      refine (c1'.out).mono ?_
      rintro e w1 ⟨rfl, hB1⟩
      go_wp2_with fail
      refine (c2'.out _ hB1).mono ?_
      rintro e w2 ⟨rfl, hB2⟩
      have hb2 := hB1.trans (hB2.mono hB1.size)
      go_wp2
      go_ret2
      exact ⟨by first | rfl | (simp; done), hb2⟩
theorem specIsMarkov_any (v : Value) (f : List Quad) (u : Value) (xs : List (Int × Int)) (w : World) (hv : QuadV w v f) (hm : szPointS f ≤ 1099511627776) (hu : RatsV w u xs) (hn : szRatS xs ≤ 1099511627776) :
    Calls Tryz.prog 46 #[v, u] w (Ret (.tuple #[.bool (IsMarkov_v f xs).1, .bool (IsMarkov_v f xs).2]) w) := by
  have c0 := mkAsked_any v u f xs w hv hu hm hn
  by_cases h : mapB f = true ∧ partB xs = true
  · rw [IsMarkov_yes h]
    rw [h.1, h.2] at c0
    have c1 := fun w' (hB : Below w.heap.size w w') => mkMarkov_any v u f xs false w' (hv.below hB) (hu.below hB) (mapB_true h.1) h.2
    generalize mm_v f xs false = R at *
    obtain ⟨r1, r2⟩ := R
    clear hv hu h
    have c0' := Lib.hid c0
    have c1' := Lib.hid c1
    clear c0 c1
    go_enter Tryz.func46, Tryz.ntmps46
    go_wp2_with fail
    refine (c0'.out).mono ?_
    rintro e w0 ⟨rfl, hB0⟩
    have hs0 := hB0.size
    go_wp2_with fail
    refine (c1'.out _ hB0).mono ?_
    rintro e w1 ⟨rfl, hB1⟩
    have hb1 := hB0.trans (hB1.mono hs0)
    go_wp2
    go_ret2
    exact ⟨rfl, hb1⟩
  · rw [IsMarkov_no h]
    rw [asked_no h] at c0
    clear hv hu h
    have c0' := Lib.hid c0
    clear c0
    go_enter Tryz.func46, Tryz.ntmps46
    go_wp2_with fail
    refine (c0'.out).mono ?_
    rintro e w1 ⟨rfl, hB1⟩
    go_wp2
    go_ret2
    exact ⟨rfl, hB1⟩
theorem specIsLinearMarkov_any (v : Value) (f : List Quad) (u : Value) (xs : List (Int × Int)) (w : World) (hv : QuadV w v f) (hm : szPointS f ≤ 1099511627776) (hu : RatsV w u xs) (hn : szRatS xs ≤ 1099511627776) :
    Calls Tryz.prog 44 #[v, u] w (Ret (.tuple #[.bool (IsLinearMarkov_v f xs).1, .bool (IsLinearMarkov_v f xs).2]) w) := by
  have c0 := mkAsked_any v u f xs w hv hu hm hn
  by_cases h : mapB f = true ∧ partB xs = true
  · rw [IsLinear_yes h]
    rw [h.1, h.2] at c0
    have c1 := fun w' (hB : Below w.heap.size w w') => mkLinear_any v u f xs w' (hv.below hB) (hu.below hB) (mapB_true h.1) h.2
    generalize ml_v f xs = R at *
    obtain ⟨r1, r2⟩ := R
    clear hv hu h
    have c0' := Lib.hid c0
    have c1' := Lib.hid c1
    clear c0 c1
    go_enter Tryz.func44, Tryz.ntmps44
    go_wp2_with fail
    refine (c0'.out).mono ?_
    rintro e w0 ⟨rfl, hB0⟩
    have hs0 := hB0.size
    go_wp2_with fail
    refine (c1'.out _ hB0).mono ?_
    rintro e w1 ⟨rfl, hB1⟩
    have hb1 := hB0.trans (hB1.mono hs0)
    go_wp2
    go_ret2
    exact ⟨rfl, hb1⟩
  · rw [IsLinear_no h]
    rw [asked_no h] at c0
    clear hv hu h
    have c0' := Lib.hid c0
    clear c0
    go_enter Tryz.func44, Tryz.ntmps44
    go_wp2_with fail
    refine (c0'.out).mono ?_
    rintro e w1 ⟨rfl, hB1⟩
    go_wp2
    go_ret2
    exact ⟨rfl, hB1⟩

end Go.Proofs.YtnggopbehohjnaaGreat

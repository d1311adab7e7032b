/- The graph of the coverings of intervals: the reference's; both for all arguments. No conditions. -/
import Derived.Test.YtfcanpebagpdbaaCovGraph
namespace Go.Proofs.Ytfcanpebagpdbaa
open Go.RowKit

set_option linter.unusedSimpArgs false in
set_option maxRecDepth 10000 in
set_option maxHeartbeats 4000000 in
theorem specCoverGraph_in (v u : Value) (f l : List Quad) (w : World) (hv : QuadV w v f) (hu : QuadV w u l) (hf : MapP f) (hl : ivsB l = true)
    (c1 : ∀ w', Below w.heap.size w w' → Calls Try.prog 62 #[v] w' (Ret (.bool true) w'))
    (c2 : ∀ w', Below w.heap.size w w' → Calls Try.prog 89 #[u] w' (Ret (.bool true) w')) :
    Calls Try.prog 48 #[v, u] w (RetOB OwnSS (cg_v f l) w) := by
  obtain ⟨hl1, hl2⟩ := ivsB_true hl
  have cc := fun (k m : Nat) (w' : World) (hB : Below w.heap.size w w') (h : k < l.length) (h2 : m < l.length) =>
    ivCovers_any v f (nth4 l k) (nth4 l m) w' (hv.below hB) hf (ivB_true (hl2 k h)).1 (ivB_true (hl2 k h)).2.1 (ivB_true (hl2 _ h2)).1 (ivB_true (hl2 _ h2)).2.1
  have hR : ∀ k j, covR f (nth4 l k) (nth4 l j) = if imgOk f (nth4 l k).1 (nth4 l k).2 = true then (covB f (nth4 l k) (nth4 l j), true) else (false, false) := fun k j => rfl
  simp only [hR] at cc
  have hck := ckK_step f l
  have hk0 : ckK f l 0 = true := rfl
  have hno := fun k (h : k < l.length) hb => ckK_false (f := f) (l := l) h hb
  have hcn : ∀ i j, cvN f l i j = if covB f (nth4 l i) (nth4 l j) = true then 1 else 0 := fun i j => rfl
  have hV : cg_v f l = if ckK f l l.length = true then (tab l.length l.length (cvN f l), true) else ([], false) := rfl
  rw [hV]
  clear hV hl2 hl hf hR
  obtain ⟨n, hn⟩ : ∃ n, l.length = n := ⟨_, rfl⟩
  rw [hn] at cc hl1 hno ⊢
  generalize cvN f l = CN at *
  generalize ckK f l = CK at *
  obtain ⟨OK, hOK⟩ : ∃ OK : Nat → Bool, ∀ k, imgOk f (nth4 l k).1 (nth4 l k).2 = OK k := ⟨_, fun _ => rfl⟩
  obtain ⟨CB, hCB⟩ : ∃ CB : Nat → Nat → Bool, ∀ k m, covB f (nth4 l k) (nth4 l m) = CB k m := ⟨_, fun _ _ => rfl⟩
  simp only [hOK, hCB] at cc hck hno hcn
  clear hOK hCB
  obtain ⟨V, hV⟩ : ∃ V, (if CK n = true then (tab n n CN, true) else ([], false)) = V := ⟨_, rfl⟩
  rw [hV]
  obtain ⟨ao, cap, rfl, _, _, H⟩ := hu.form
  rw [hn] at H c2 ⊢
  clear hu hv
  have cc' := Lib.hid cc
  have hck' := Lib.hid hck
  have hk0' := Lib.hid hk0
  have hno' := Lib.hid hno
  have hcn' := Lib.hid hcn
  have hV' := Lib.hid hV
  have hn' := Lib.hid hn
  have H' := Lib.hid H
  have c1' := Lib.hid c1
  have c2' := Lib.hid c2
  clear cc hck hk0 hno hcn hV hn H c1 c2
  go_enter Try.func48, Try.ntmps48
  go_wp2_with fail
  refine (c1'.out _ (Below.refl _ _)).mono ?_
  rintro e w1 ⟨rfl, hB1⟩
  go_wp2_with fail
  refine (c2'.out _ hB1).mono ?_
  rintro e w2 ⟨rfl, hB2⟩
  have hb2 := hB1.trans (hB2.mono hB1.size)
  clear hB1 hB2 c1' c2'
  go_wp2
  go_loopw [6, 25] (fun o i wr => ∃ (k : Nat) (rb rc : Nat → Nat), k ≤ n ∧ i = .int .i64 k ∧ GrowT wr w.heap.size wr.heap.size o k n rb rc CN ∧ CK k = true ∧ Below w.heap.size w wr) (fun _ i _ => n - (intOf i).toNat)
  case atStart => exact ⟨0, fun _ => 0, fun _ => 0, Nat.zero_le _, rfl, GrowT.nil _ _ _ _ _ _ _, hk0'.out, hb2⟩
  case round =>
    obtain ⟨k, rb, rc, hk, rfl, hp, hkr, hbr⟩ := hrel
    clear hb2
    obtain ⟨wo, rfl⟩ : ∃ wo : World, wo = wr := ⟨_, rfl⟩
    by_cases hlt : k < n
    · obtain ⟨b, off, rfl, p0, p1, p2, p3⟩ := H'.out k hlt
      replace p0 := bkeep hbr p0
      replace p1 := bkeep hbr p1
      replace p2 := bkeep hbr p2
      replace p3 := bkeep hbr p3
      have cc1 := fun m w' hB h2 => cc'.out k m w' hB hlt h2
      have hck1 := hck'.out k
      rw [hkr, Bool.true_and] at hck1
      have hno1 := hno'.out k hlt
      generalize nth4 l k = P at *
      obtain ⟨⟨a0, a1⟩, ⟨a2, a3⟩⟩ := P
      simp only at p0 p1 p2 p3 cc1
      obtain ⟨w4, hw4⟩ : ∃ W, wo.alloc (.cells #[.int .i64 a0, .int .i64 a1, .int .i64 a2, .int .i64 a3] 43) = W := ⟨_, rfl⟩
      have hB4 : Below wo.heap.size wo w4 := by rw [← hw4]; exact (Below.refl _ _).alloc (Nat.le_refl _) _
      have iQ : BoxQ w4 wo.heap.size ((a0, a1), (a2, a3)) := by rw [← hw4]; refine ⟨?_, ?_, ?_, ?_⟩ <;> simp [go_sem]
      have hs4 : w4.heap.size = wo.heap.size + 1 := by rw [← hw4]; simp
      have hb4 := hbr.trans (hB4.mono hbr.size)
      have hso := hbr.size
      have hw4' := Lib.hid hw4
      clear hw4
      have hp' := Lib.hid hp
      have iQ' := Lib.hid iQ
      have hB4' := Lib.hid hB4
      have cc1' := Lib.hid cc1
      have hck1' := Lib.hid hck1
      have hno1' := Lib.hid hno1
      have hkr' := Lib.hid hkr
      have hs4' := Lib.hid hs4
      clear hp iQ hB4 cc1 hck1 hno1 hkr hs4
      go_wp2
      rw [hw4'.out]
      clear p0 p1 p2 p3 hw4'
      go_loopw [9, 31] (fun o j wr => ∃ m : Nat, m ≤ n ∧ j = .int .i64 m ∧ Grow wr w4.heap.size o (lst m (CN k)) ∧ Below w4.heap.size w4 wr ∧ (0 < m → OK k = true)) (fun _ j _ => n - (intOf j).toNat)
      case atStart => exact ⟨0, Nat.zero_le _, rfl, Grow.nil _ _, Below.refl _ _, fun h => absurd h (Nat.lt_irrefl 0)⟩
      case round =>
        obtain ⟨m, hm, rfl, hr, hB2, hok⟩ := hrel
        obtain ⟨wi, rfl⟩ : ∃ wi : World, wi = wr := ⟨_, rfl⟩
        have hbi := hb4.trans (hB2.mono hb4.size)
        have hsz := hB2.size
        by_cases hlt2 : m < n
        · obtain ⟨_, _, e, q0, q1, q2, q3⟩ := H'.out m hlt2
          cases e
          replace q0 := bkeep hbi q0
          replace q1 := bkeep hbi q1
          replace q2 := bkeep hbi q2
          replace q3 := bkeep hbi q3
          have cc2 := fun w' hB => cc1'.out m w' hB hlt2
          have hcn1 := hcn'.out k m
          generalize nth4 l m = Q at *
          generalize CB k m = cb at *
          obtain ⟨⟨b0, b1⟩, ⟨b2, b3⟩⟩ := Q
          simp only at q0 q1 q2 q3 cc2
          obtain ⟨w5, hw5⟩ : ∃ W, wi.alloc (.cells #[.int .i64 b0, .int .i64 b1, .int .i64 b2, .int .i64 b3] 43) = W := ⟨_, rfl⟩
          have hB5 : Below wi.heap.size wi w5 := by rw [← hw5]; exact (Below.refl _ _).alloc (Nat.le_refl _) _
          have hb5 := hbi.trans (hB5.mono hbi.size)
          have hr5 := hr.below hB5
          have hBw5 := hB2.trans (hB5.mono hsz)
          have cc3 := cc2 w5 hb5
          obtain ⟨x0, x1, x2, x3⟩ := (iQ'.out.below hB2).below hB5
          have hil := (iQ'.out.below hB2).lt
          rw [← hw5] at x0 x1 x2 x3
          simp only at x0 x1 x2 x3
          clear hr hB5 cc2 hbi hB2
          cases hOKk : OK k
          · rw [hOKk, if_neg (by decide)] at cc3
            have hV := hV'.out
            rw [if_neg (by rw [hno1'.out hOKk]; decide)] at hV
            subst hV
            clear hok
            have cc3' := Lib.hid cc3
            have hw5' := Lib.hid hw5
            have hr5' := Lib.hid hr5
            have hBw5' := Lib.hid hBw5
            have hb5' := Lib.hid hb5
            have hcn1' := Lib.hid hcn1
            have hOKk' := Lib.hid hOKk
            clear cc3 hw5 hr5 hBw5 hb5 hcn1 hOKk
            go_wp2_with fail
            rw [hw5'.out]
            clear x0 x1 x2 x3 q0 q1 q2 q3 hw5'
            go_wp2_with fail
            refine (cc3'.out).mono ?_
            rintro e w6 ⟨rfl, hB6⟩
            have hb6 := hb5'.out.trans (hB6.mono hb5'.out.size)
            go_wp2
            go_ret2
            exact ⟨_, rfl, OwnSS.nil _ _ _, hb6⟩
          · rw [hOKk, if_pos rfl] at cc3
            clear hok
            have cc3' := Lib.hid cc3
            have hw5' := Lib.hid hw5
            have hr5' := Lib.hid hr5
            have hBw5' := Lib.hid hBw5
            have hb5' := Lib.hid hb5
            have hcn1' := Lib.hid hcn1
            have hOKk' := Lib.hid hOKk
            clear cc3 hw5 hr5 hBw5 hb5 hcn1 hOKk
            go_wp2_with fail
            rw [hw5'.out]
            clear x0 x1 x2 x3 q0 q1 q2 q3 hw5'
            go_wp2_with fail
            refine (cc3'.out).mono ?_
            rintro e w6 ⟨rfl, hB6⟩
            have hr6 := hr5'.out.below hB6
            have hBw6 := hBw5'.out.trans (hB6.mono hBw5'.out.size)
            have hs6 := hBw6.size
            clear hB6 hr5' hBw5' hb5'
            cases cb
            · have hcn2 : CN k m = 0 := hcn1'.out
              go_wp2_with (at_builtin; refine wpList_append_int rfl _ _ rfl w4.heap.size u9 (lst m (CN k)) 0 _ rfl rfl hr6 (by rw [lst_len]; omega) hs6 ?_)
              intro v' w' hg' hgrow
              have hg2 : Grow w' w4.heap.size v' (lst (m + 1) (CN k)) := by rw [lst_succ, hcn2]; exact hg'
              have hB7 := hr6.belowB hBw6 (Nat.le_refl _) hs6 hgrow
              clear hr6 hg' hgrow hcn2
              have hg2' := Lib.hid hg2
              have hB7' := Lib.hid hB7
              clear hg2 hB7
              go_wp2
              go_roundw
              case rel => exact ⟨m + 1, by omega, by go_num, hg2'.out, hB7'.out, fun _ => by first | trivial | exact hOKk'.out⟩
              case measure => simp [intOf]; omega
            · have hcn2 : CN k m = 1 := hcn1'.out
              go_wp2_with (at_builtin; refine wpList_append_int rfl _ _ rfl w4.heap.size u9 (lst m (CN k)) 1 _ rfl rfl hr6 (by rw [lst_len]; omega) hs6 ?_)
              intro v' w' hg' hgrow
              have hg2 : Grow w' w4.heap.size v' (lst (m + 1) (CN k)) := by rw [lst_succ, hcn2]; exact hg'
              have hB7 := hr6.belowB hBw6 (Nat.le_refl _) hs6 hgrow
              clear hr6 hg' hgrow hcn2
              have hg2' := Lib.hid hg2
              have hB7' := Lib.hid hB7
              clear hg2 hB7
              go_wp2
              go_roundw
              case rel => exact ⟨m + 1, by omega, by go_num, hg2'.out, hB7'.out, fun _ => by first | trivial | exact hOKk'.out⟩
              case measure => simp [intOf]; omega
        · obtain rfl : m = n := by omega
          obtain ⟨r, c, rfl, hr1⟩ := hr.form (by rw [lst_len]; omega)
          rw [lst_len] at hr1 ⊢
          have hr2 := hr1.mono hb4.size
          have hr3 := hr1.lt.1
          have hs4 := hs4'.out
          have hp2 := (hp'.out.kept hB4'.out).kept (hB2.mono (by omega))
          have hs3 := hbi.size
          have hr4 : wo.heap.size ≤ r := by omega
          clear hs4
          have hck2 : CK (k + 1) = true := by rw [hck1'.out]; exact hok (by omega)
          clear hr hr1 hok hB2
          have hck2' := Lib.hid hck2
          clear hck2
          go_wp2_with (at_builtin; refine wpList_append_row rfl _ _ rfl w.heap.size wo.heap.size u6 k m r c _ _ _ _ _ rfl rfl hp2 hr2 hr4 (by omega) hs3 ?_)
          intro v' w3 hp3 hg3
          have hB4 : Below w.heap.size w w3 := hbi.grown hg3 hs3 (fun j hj => by have := (World.ownsRow.lt hp2.outer j hj).1; omega)
          have hp3' := Lib.hid hp3
          have hB4' := Lib.hid hB4
          clear hp3 hB4
          clear hg3 hp2 hr2 hbi
          go_wp2
          go_roundw
          case rel => exact ⟨k + 1, _, _, by omega, by go_num, (hp3'.out).congr (fun i j _ _ => by split <;> (try subst_vars) <;> rfl), hck2'.out, hB4'.out⟩
          case measure => simp [intOf]; omega
    · obtain rfl : k = n := by omega
      have hV := hV'.out
      rw [if_pos hkr] at hV
      subst hV
      obtain ⟨gg, gcap, rfl, hall⟩ := hp.form (by omega)
      have hown := hall.own
      clear hp hall hkr H'
      have hown' := Lib.hid hown
      have hbr' := Lib.hid hbr
      clear hown hbr
      go_wp2
      go_ret2
      exact ⟨_, rfl, hown'.out, hbr'.out⟩
theorem CoverGraph_yes {f l : List Quad} (h : mapB f = true ∧ ivsB l = true) : CoverGraph_v f l = cg_v f l := by unfold CoverGraph_v; rw [if_pos h]
theorem CoverGraph_no {f l : List Quad} (h : ¬ (mapB f = true ∧ ivsB l = true)) : CoverGraph_v f l = ([], false) := by unfold CoverGraph_v; rw [if_neg h]
theorem implCoverGraph_any (v : Value) (f : List Quad) (u : Value) (l : List Quad) (w : World) (hv : QuadV w v f) (hm : szPointS f ≤ 1099511627776) (hu : QuadV w u l) (hn : szIntervalS l ≤ 1099511627776) :
    Calls Try.prog 49 #[v, u] w (RetOB OwnSS (CoverGraph_v f l) w) := by
  have c1 := fun w' (hB : Below w.heap.size w w') => isMap_any v f w' (hv.below hB) hm
  have c2 := fun w' (hB : Below w.heap.size w w') => areIntervals_any u l w' (hu.below hB) hn
  by_cases h : mapB f = true ∧ ivsB l = true
  · rw [CoverGraph_yes h]
    rw [h.1] at c1
    rw [h.2] at c2
    exact coverGraph_in v u f l w hv hu (mapB_true h.1) h.2 c1 c2
  · rw [CoverGraph_no h]
    generalize mapB f = M at *
    generalize ivsB l = I at *
    clear hv hu
    have c1' := Lib.hid c1
    have c2' := Lib.hid c2
    have h' := Lib.hid h
    clear c1 c2 h
    cases M
    · go_enter Try.func49, Try.ntmps49
      go_wp2_with fail
      refine (c1'.out _ (Below.refl _ _)).mono ?_
      rintro e w1 ⟨rfl, hB1⟩
      go_wp2
      go_ret2
      exact ⟨_, rfl, OwnSS.nil _ _ _, hB1⟩
    · cases I
      · go_enter Try.func49, Try.ntmps49
        go_wp2_with fail
        refine (c1'.out _ (Below.refl _ _)).mono ?_
        rintro e w1 ⟨rfl, hB1⟩
        have hs1 := hB1.size
        go_wp2_with fail
        refine (c2'.out _ hB1).mono ?_
        rintro e w2 ⟨rfl, hB2⟩
        have hb2 := hB1.trans (hB2.mono hs1)
        go_wp2
        go_ret2
        exact ⟨_, rfl, OwnSS.nil _ _ _, hb2⟩
      · exact absurd ⟨rfl, rfl⟩ h'.out
theorem specCoverGraph_any (v : Value) (f : List Quad) (u : Value) (l : List Quad) (w : World) (hv : QuadV w v f) (hm : szPointS f ≤ 1099511627776) (hu : QuadV w u l) (hn : szIntervalS l ≤ 1099511627776) :
    Calls Try.prog 48 #[v, u] w (RetOB OwnSS (CoverGraph_v f l) w) := by
  have c1 := fun w' (hB : Below w.heap.size w w') => imGood_any v f w' (hv.below hB) hm
  have c2 := fun w' (hB : Below w.heap.size w w') => ivList_any u l w' (hu.below hB) hn
  by_cases h : mapB f = true ∧ ivsB l = true
  · rw [CoverGraph_yes h]
    rw [h.1] at c1
    rw [h.2] at c2
    exact specCoverGraph_in v u f l w hv hu (mapB_true h.1) h.2 c1 c2
  · rw [CoverGraph_no h]
    generalize mapB f = M at *
    generalize ivsB l = I at *
    clear hv hu
    have c1' := Lib.hid c1
    have c2' := Lib.hid c2
    have h' := Lib.hid h
    clear c1 c2 h
    cases M
    · go_enter Try.func48, Try.ntmps48
      go_wp2_with fail
      refine (c1'.out _ (Below.refl _ _)).mono ?_
      rintro e w1 ⟨rfl, hB1⟩
      go_wp2
      go_ret2
      exact ⟨_, rfl, OwnSS.nil _ _ _, hB1⟩
    · cases I
      · go_enter Try.func48, Try.ntmps48
        go_wp2_with fail
        refine (c1'.out _ (Below.refl _ _)).mono ?_
        rintro e w1 ⟨rfl, hB1⟩
        have hs1 := hB1.size
        go_wp2_with fail
        refine (c2'.out _ hB1).mono ?_
        rintro e w2 ⟨rfl, hB2⟩
        have hb2 := hB1.trans (hB2.mono hs1)
        go_wp2
        go_ret2
        exact ⟨_, rfl, OwnSS.nil _ _ _, hb2⟩
      · exact absurd ⟨rfl, rfl⟩ h'.out

end Go.Proofs.Ytfcanpebagpdbaa

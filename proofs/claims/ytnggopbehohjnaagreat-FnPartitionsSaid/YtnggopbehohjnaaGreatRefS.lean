/- RefineToMarkov: the reference's. No conditions but a valid map. -/
import Derived.Test.YtnggopbehohjnaaGreatRefVal
import Derived.Test.YtnggopbehohjnaaGreatPutOwn
import Derived.Test.YtnggopbehohjnaaGreatMarkovS
namespace Go.Proofs.YtnggopbehohjnaaGreat
open Go.RowKit

/-- The length of a slice value; 1 for true. -/
def sliceN : Value → Nat
  | .slice _ n _ => n
  | _ => 0
def boolN : Value → Nat
  | .bool b => if b = true then 1 else 0
  | _ => 0

/-- How a search for the least partition ends. -/
def RetEnd (f : List Quad) (lin : Bool) (w : World) (e : Ending) (w' : World) : Prop :=
  ∃ v' r, e = .returned (.tuple #[v', .bool r.2]) ∧ EndX f lin r ∧ OwnR w' w.heap.size w'.heap.size v' r.1 ∧ Below w.heap.size w w'
/-- The state at the head of the search's loop. -/
def MkLoop (f : List Quad) (lin : Bool) (w : World) (o m : Value) (wr : World) : Prop :=
  ∃ X, GrowR wr w.heap.size o X ∧ Below w.heap.size w wr ∧ ((m = .bool true ∧ InvX f lin X) ∨ (m = .bool false ∧ X.length ≤ 9 ∧ EndX f lin (X, true)))

set_option maxHeartbeats 3200000 in
theorem mkPartition_any (v : Value) (f : List Quad) (lin : Bool) (w : World) (hv : QuadV w v f) (hm : mapB f = true) :
    Calls Tryz.prog 75 #[v, .bool lin] w (RetEnd f lin w) := by
  have hf := mapB_true hm
  have hsl := startL_len hf lin
  have cs := fun w' (hB : Below w.heap.size w w') => mkStarts_any v f lin w' (hv.below hB) hf
  have ca1 := fun x (w' : World) (hB : Below w.heap.size w w') (hx : unitR x.1 x.2 = true) (h : atOk f x = true) => by
    have := imAt_any v f x w' (hv.below hB) hf hx
    rw [atR_ok h] at this
    exact this
  have ca0 := fun x (w' : World) (hB : Below w.heap.size w w') (hx : unitR x.1 x.2 = true) (h : atOk f x = false) => by
    have := imAt_any v f x w' (hv.below hB) hf hx
    rw [atR_bad h] at this
    exact this
  have hag := fun x => atZ_good f x
  obtain ⟨G, G0, Gs, Gn, Gb, Sb⟩ := ref0_steps hf lin
  have hI0 := InvX.start hf lin
  rw [← Gn] at hI0
  have hIs := fun X i (h : InvX f lin X) => InvX.step (X := X) hf h (i := i)
  obtain ⟨n, hn⟩ : ∃ n, (startL f lin).length = n := ⟨_, rfl⟩
  rw [hn] at hsl Gs Gn Sb hI0
  generalize startL f lin = ST at *
  clear hv hm hf
  have cs' := Lib.hid cs
  have ca1' := Lib.hid ca1
  have ca0' := Lib.hid ca0
  have hag' := Lib.hid hag
  have G0' := Lib.hid G0
  have Gs' := Lib.hid Gs
  have Gn' := Lib.hid Gn
  have Gb' := Lib.hid Gb
  have Sb' := Lib.hid Sb
  have hI0' := Lib.hid hI0
  have hIs' := Lib.hid hIs
  have hn' := Lib.hid hn
  clear cs ca1 ca0 hag G0 Gs Gn Gb Sb hI0 hIs hn
  go_enter Tryz.func75, Tryz.ntmps75
  go_wp2_with fail
  refine (raInt_any 0 _).mono ?_
  rintro e w1 ⟨rfl, hB1⟩
  obtain ⟨w2, hw2⟩ : ∃ W, w1.alloc (.cells #[.int .i64 0, .int .i64 1] 50) = W := ⟨_, rfl⟩
  have hB2 : Below w1.heap.size w1 w2 := by rw [← hw2]; exact (Below.refl _ _).alloc (Nat.le_refl _) _
  have hg2 : GrowR w2 w.heap.size (.slice (some ⟨w1.heap.size, 0, none⟩) 1 1) [(0, 1)] := by rw [← hw2]; exact GrowR.put1 hB1.size
  have hb2 := hB1.trans (hB2.mono hB1.size)
  clear hB1 hB2
  have hw2' := Lib.hid hw2
  have hg2' := Lib.hid hg2
  have hb2' := Lib.hid hb2
  clear hw2 hg2 hb2
  go_wp2_with fail
  rw [hw2'.out]
  go_wp2_with fail
  refine (raInt_any 1 _).mono ?_
  rintro e w3 ⟨rfl, hB3⟩
  have hg3 := hg2'.out.below hB3
  have hb3 := hb2'.out.trans (hB3.mono hb2'.out.size)
  have cp := imPut_own w.heap.size _ [(0, 1)] (1, 1) w3 hg3 (by decide) hb3.size (by decide) ⟨by decide, by decide⟩ (fun i hi => by
    obtain rfl : i = 0 := by simpa using hi
    exact ⟨by decide, by decide⟩)
  rw [← G0'.out] at cp
  clear hB3 hg3
  have cp' := Lib.hid cp
  clear cp
  go_wp2_with fail
  refine (cp'.out).mono ?_
  rintro e w4 ⟨v4, rfl, hg4, hB4⟩
  have hb4 := hb3.trans (hB4.mono hb3.size)
  clear hB4 hb3
  have hg4' := Lib.hid hg4
  clear hg4
  go_wp2_with fail
  refine (cs'.out _ hb4).mono ?_
  rintro e w5 ⟨u, rfl, hou, hB5⟩
  have hb5 := hb4.trans (hB5.mono hb4.size)
  have hg5 := hg4'.out.below hB5
  obtain ⟨so, scap, rfl, _, _, H⟩ := hou.read.form
  rw [hn'.out] at H ⊢
  obtain ⟨_, gc4, rfl, _⟩ := GrowF.form hg4'.out (Gb'.out 0).1
  clear hB5 hb4 hou
  have H' := Lib.hid H
  have hg5' := Lib.hid hg5
  clear H hg5
  go_wp2_with fail
  go_loopw [6, 22] (fun o i wr => ∃ k : Nat, k ≤ n ∧ i = .int .i64 k ∧ GrowR wr w.heap.size o (G k) ∧ Below w5.heap.size w5 wr) (fun _ i _ => n - (intOf i).toNat)
  case atStart => exact ⟨0, Nat.zero_le _, rfl, hg5'.out, Below.refl _ _⟩
  case round =>
    obtain ⟨k, hk, rfl, hg, hB⟩ := hrel
    have hgb := Gb'.out k
    obtain ⟨g, gc, rfl, -⟩ := GrowF.form hg hgb.1
    have hb := hb5.trans (hB.mono hb5.size)
    by_cases hlt : k < n
    · obtain ⟨b, off, rfl, d0, d1⟩ := H'.out k hlt
      replace d0 := bkeep hB d0
      replace d1 := bkeep hB d1
      have hs := Gs'.out k hlt
      have hyb := Sb'.out k hlt
      obtain ⟨⟨y1, y2⟩, hy⟩ : ∃ y, nthR ST k = y := ⟨_, rfl⟩
      rw [hy] at d0 d1 hs hyb
      simp only at d0 d1
      have cp := fun w' (hB : Below wr.heap.size wr w') => imPut_own w.heap.size _ (G k) (y1, y2) w' (hg.below hB) hgb.1 (Nat.le_trans hb.size hB.size) (by omega) hyb hgb.2.2
      rw [← hs] at cp
      have g1 : (0 : Int) ≤ (k : Int) := by omega
      have g2 : (k : Int) < (n : Int) := by omega
      clear hgb
      have cp' := Lib.hid cp
      have hg' := Lib.hid hg
      have hy' := Lib.hid hy
      have hs' := Lib.hid hs
      have hyb' := Lib.hid hyb
      have hb' := Lib.hid hb
      clear cp hg hy hs hyb hb
      go_wp2_with fail
      refine (cp'.out _ ((Below.refl _ _).alloc (Nat.le_refl _) _)).mono ?_
      rintro e w8 ⟨v8, rfl, hg8, hB8⟩
      have hw : Below wr.heap.size wr w8 := ((Below.refl _ _).alloc (Nat.le_refl _) _).trans (hB8.mono (by simp))
      have hb8 := hB.trans (hw.mono hB.size)
      clear hB8 hw
      have hg8' := Lib.hid hg8
      have hb8' := Lib.hid hb8
      clear hg8 hb8
      go_wp2
      go_roundw
      case rel => exact ⟨k + 1, by omega, by go_num, hg8'.out, hb8'.out⟩
      case measure => simp [intOf]; omega
    · obtain rfl : k = n := by omega
      have hst : MkLoop f lin w (.slice (some ⟨g, 0, none⟩) (G k).length gc) (.bool true) wr := ⟨_, hg, hb, .inl ⟨rfl, hI0'.out⟩⟩
      clear hgb hg hb hB H' hg5' hb5
      have hst' := Lib.hid hst
      clear hst
      go_wp2_with fail
      go_loopw [6, 9] (fun o m ws => MkLoop f lin w o m ws) (fun o m _ => 2 * (20 - sliceN o) + boolN m)
      case atStart => exact hst'.out
      case round =>
        clear hst'
        obtain ⟨X, hg, hb, ⟨rfl, hI⟩ | ⟨rfl, h9, hE⟩⟩ := hrel
        all_goals obtain ⟨ws, rfl⟩ : ∃ wo : World, wo = wr := ⟨_, rfl⟩
        · obtain ⟨hX0, hXm, hXu⟩ := hI.parts
          obtain ⟨g2, gc2, rfl, -⟩ := GrowF.form hg hX0
          obtain ⟨p, hp⟩ : ∃ p, X.length = p := ⟨_, rfl⟩
          by_cases h9 : 9 < p
          · have hE := hI.big (by omega)
            rw [hp]
            have h9' : (p : Int) > 9 := by omega
            have hE' := Lib.hid hE
            have hb' := Lib.hid hb
            have hg' := Lib.hid hg
            have hI' := Lib.hid hI
            have hXu' := Lib.hid hXu
            have hp' := Lib.hid hp
            clear hE hb hg hI hXu hp
            go_wp2
            go_ret2
            exact ⟨_, ([], false), rfl, hE'.out, OwnR.nil _ _ _, hb'.out⟩
          · have h9' : ¬ (p : Int) > 9 := by omega
            have hD := hI.done (by omega)
            have hBd := fun i hi => hI.bad (i := i) hi
            have hSt := fun i hi => hIs'.out X i hI hi (by omega)
            have hgr := fun w' (hB : Below ws.heap.size ws w') => hg.below hB
            rw [hp] at hD hBd hSt hX0 hXu hXm ⊢
            obtain ⟨_, _, e, _, _, H2⟩ := hg.read.form
            cases e
            rw [hp] at H2
            have hXb : ∀ i, i < p → BdR (nthR X i).1 (nthR X i).2 := fun i hi => unitR_bd (hXu i hi)
            have cf := fun (y : Int × Int) (w' : World) (hB : Below ws.heap.size ws w') => mkFind_any _ X y w' (hgr w' hB).read (by omega)
            have cp := fun (y : Int × Int) (w' : World) (hB : Below ws.heap.size ws w') (hy : BdR y.1 y.2) => imPut_own w.heap.size _ X y w' (hgr w' hB) (by omega) (Nat.le_trans hb.size hB.size) (by omega) hy (by rw [hp]; exact hXb)
            have hneg := plcR_neg X
            rw [hp] at cf cp hgr
            clear hI hg
            have hD' := Lib.hid hD
            have hBd' := Lib.hid hBd
            have hSt' := Lib.hid hSt
            have hgr' := Lib.hid hgr
            have H2' := Lib.hid H2
            have hXb' := Lib.hid hXb
            have hXu' := Lib.hid hXu
            have cf' := Lib.hid cf
            have cp' := Lib.hid cp
            have hneg' := Lib.hid hneg
            have hb' := Lib.hid hb
            have hp' := Lib.hid hp
            clear hD hBd hSt hgr H2 hXb hXu cf cp hneg hb hp
            go_wp2_with fail
            go_loopw [6, 9, 36] (fun o m i wt => ∃ k : Nat, k ≤ p ∧ i = .int .i64 k ∧ o = .slice (some ⟨g2, 0, none⟩) p gc2 ∧ m = .bool false ∧ (∀ j, j < k → atOk f (nthR X j) = true ∧ hasR X (atZ f (nthR X j)) = true) ∧ Below ws.heap.size ws wt) (fun _ _ i _ => p - (intOf i).toNat)
            case atStart => exact ⟨0, Nat.zero_le _, rfl, rfl, rfl, fun j hj => absurd hj (Nat.not_lt_zero j), Below.refl _ _⟩
            case round =>
              obtain ⟨k, hk, rfl, rfl, rfl, hall, hB⟩ := hrel
              obtain ⟨wt, rfl⟩ : ∃ wo : World, wo = wr := ⟨_, rfl⟩
              have hbt := hb'.out.trans (hB.mono hb'.out.size)
              by_cases hlt : k < p
              · obtain ⟨b, off, e, d0, d1⟩ := H2'.out k hlt
                cases e
                replace d0 := bkeep hB d0
                replace d1 := bkeep hB d1
                rw [Nat.zero_add] at d0 d1
                have hun := hXu'.out k hlt
                have hBd1 := hBd'.out k hlt
                have hSt1 := hSt'.out k hlt
                have hall1 : atOk f (nthR X k) = true → hasR X (atZ f (nthR X k)) = true → ∀ j, j < k + 1 → atOk f (nthR X j) = true ∧ hasR X (atZ f (nthR X j)) = true := fun q1 q2 j hj => by
                  by_cases e : j = k
                  · subst e; exact ⟨q1, q2⟩
                  · exact hall j (by omega)
                have hyb := good_bd (hag'.out (nthR X k))
                have c1 := fun w' hB => ca1'.out (nthR X k) w' hB hun
                have c0 := fun w' hB => ca0'.out (nthR X k) w' hB hun
                have cf1 := cf'.out (atZ f (nthR X k))
                have cp1 := fun w' hB => cp'.out (atZ f (nthR X k)) w' hB hyb
                have hneg1 := hneg'.out (atZ f (nthR X k))
                generalize atOk f (nthR X k) = A at *
                generalize atZ f (nthR X k) = Y at *
                generalize plcR X Y = I at *
                generalize hasR X Y = R at *
                generalize nthR X k = P at *
                obtain ⟨x0, x1⟩ := P
                obtain ⟨y0, y1⟩ := Y
                simp only at d0 d1 c1 c0 cf1 cp1
                obtain ⟨w6, hw6⟩ : ∃ W, wt.alloc (.cells #[.int .i64 x0, .int .i64 x1] 50) = W := ⟨_, rfl⟩
                have hB6 : Below wt.heap.size wt w6 := by rw [← hw6]; exact (Below.refl _ _).alloc (Nat.le_refl _) _
                have hb6 := hbt.trans (hB6.mono hbt.size)
                have hBw6 := hB.trans (hB6.mono hB.size)
                have c1' := c1 w6 hb6
                have c0' := c0 w6 hb6
                have g1 : (0 : Int) ≤ (k : Int) := by omega
                have g2' : (k : Int) < (p : Int) := by omega
                clear c1 c0 hB6 hbt hB hun hyb
                have hw6' := Lib.hid hw6
                have hb6' := Lib.hid hb6
                have hBw6' := Lib.hid hBw6
                have hBd1' := Lib.hid hBd1
                have hSt1' := Lib.hid hSt1
                have hall1' := Lib.hid hall1
                have hall' := Lib.hid hall
                have cf1' := Lib.hid cf1
                have cp1' := Lib.hid cp1
                have c1'' := Lib.hid c1'
                have c0'' := Lib.hid c0'
                clear hw6 hb6 hBw6 hBd1 hSt1 hall1 hall cf1 cp1 c1' c0'
                cases A
                · have hE := hBd1'.out (by trivial)
                  have hE' := Lib.hid hE
                  clear hE
                  go_wp2_with fail
                  rw [hw6'.out]
                  clear d0 d1
                  go_wp2_with fail
                  refine (c0''.out (by trivial)).mono ?_
                  rintro e w7 ⟨rfl, hB7⟩
                  have hb7 := hb6'.out.trans (hB7.mono hb6'.out.size)
                  clear hB7
                  have hb7' := Lib.hid hb7
                  clear hb7
                  go_wp2
                  go_ret2
                  exact ⟨_, ([], false), rfl, hE'.out, OwnR.nil _ _ _, hb7'.out.alloc hb7'.out.size _⟩
                · go_wp2_with fail
                  rw [hw6'.out]
                  clear d0 d1
                  go_wp2_with fail
                  refine (c1''.out (by trivial)).mono ?_
                  rintro e w7 ⟨rfl, hB7⟩
                  have hBw7 := hBw6'.out.trans (hB7.mono hBw6'.out.size)
                  obtain ⟨w8, hw8⟩ : ∃ W, w7.alloc (.cells #[.int .i64 y0, .int .i64 y1] 50) = W := ⟨_, rfl⟩
                  have hB8 : Below w7.heap.size w7 w8 := by rw [← hw8]; exact (Below.refl _ _).alloc (Nat.le_refl _) _
                  have e0 : w8.cell? ⟨w7.heap.size, 0, none⟩ = some (.int .i64 y0) := by rw [← hw8]; simp [go_sem]
                  have e1 : w8.cell? ⟨w7.heap.size, 1, none⟩ = some (.int .i64 y1) := by rw [← hw8]; simp [go_sem]
                  have hBw8 := hBw7.trans (hB8.mono hBw7.size)
                  have cf2 := cf1'.out w8 hBw8
                  clear hB7 hB8 hBw7
                  have hw8' := Lib.hid hw8
                  have hBw8' := Lib.hid hBw8
                  have cf2' := Lib.hid cf2
                  clear hw8 hBw8 cf2
                  go_wp2_with fail
                  rw [hw8'.out]
                  go_wp2_with fail
                  refine (cf2'.out).mono ?_
                  rintro e w9 ⟨rfl, hB9⟩
                  have hBw9 := hBw8'.out.trans (hB9.mono hBw8'.out.size)
                  replace e0 := bkeep hB9 e0
                  replace e1 := bkeep hB9 e1
                  clear hB9
                  cases R
                  · have hI : I < 0 := by simpa using hneg1
                    obtain ⟨hI2, hl2⟩ := hSt1'.out (by trivial) (by trivial)
                    have cp2 := cp1'.out w9 hBw9
                    clear hneg1
                    have hBw9' := Lib.hid hBw9
                    have cp2' := Lib.hid cp2
                    have hI2' := Lib.hid hI2
                    have hl2' := Lib.hid hl2
                    clear hBw9 cp2 hI2 hl2
                    go_wp2_with fail
                    go_wp2_with fail
                    refine (cp2'.out).mono ?_
                    rintro e w10 ⟨v10, rfl, hg10, hB10⟩
                    have hBw10 := hBw9'.out.trans (hB10.mono hBw9'.out.size)
                    have hb10 := hb'.out.trans (hBw10.mono hb'.out.size)
                    obtain ⟨g10, gc10, rfl, -⟩ := GrowF.form hg10 (by have := hl2'.out; omega)
                    have hst : MkLoop f lin w (.slice (some ⟨g10, 0, none⟩) (putR X (y0, y1)).length gc10) (.bool true) w10 := ⟨_, hg10, hb10, .inl ⟨rfl, hI2'.out⟩⟩
                    rw [hl2'.out] at hst ⊢
                    clear hg10 hB10 hBw10 hb10 e0 e1
                    have hst' := Lib.hid hst
                    clear hst
                    go_wp2
                    go_roundw
                    case rel => exact hst'.out
                    case measure => simp [sliceN, boolN]; omega
                  · have hI : ¬ I < 0 := by simpa using hneg1
                    have hal := hall1'.out (by trivial) (by trivial)
                    clear hneg1 e0 e1
                    have hal' := Lib.hid hal
                    have hBw9' := Lib.hid hBw9
                    clear hal hBw9
                    go_wp2
                    go_roundw
                    case rel => exact ⟨k + 1, by omega, by go_num, rfl, rfl, hal'.out, hBw9'.out⟩
                    case measure => simp [intOf]; omega
              · obtain rfl : k = p := by omega
                have hst : MkLoop f lin w (.slice (some ⟨g2, 0, none⟩) k gc2) (.bool false) wt := by
                  refine ⟨X, ?_, hbt, .inr ⟨rfl, by rw [hp'.out]; omega, hD'.out hall⟩⟩
                  have := hgr'.out wt hB
                  exact this
                clear hall hB hbt
                have hst' := Lib.hid hst
                clear hst
                go_wp2
                go_roundw
                case rel => exact hst'.out
                case measure => simp [sliceN, boolN]
        · have hown := hg.own
          obtain ⟨so2, sc2, rfl, -⟩ := hg.read.form
          have hown' := Lib.hid hown
          have hb' := Lib.hid hb
          have hE' := Lib.hid hE
          have hg' := Lib.hid hg
          clear hown hb hE hg
          go_wp2
          go_ret2
          exact ⟨_, (X, true), rfl, hE'.out, hown'.out, hb'.out⟩
theorem specRefineToMarkov_any (v : Value) (f : List Quad) (lin : Bool) (w : World) (hv : QuadV w v f) (hm : szPointS f ≤ 1099511627776) :
    Calls Tryz.prog 10 #[v, .bool lin] w (RetOB OwnR (RefineToMarkov_v f lin) w) := by
  have c0 := imGood_any v f w hv hm
  by_cases h : mapB f = true
  · have c1 := fun w' (hB : Below w.heap.size w w') => mkPartition_any v f lin w' (hv.below hB) h
    have he := fun r (q : EndX f lin r) => EndX.is h q
    rw [h] at c0
    clear hv
    have c0' := Lib.hid c0
    have c1' := Lib.hid c1
    have h' := Lib.hid h
    have he' := Lib.hid he
    clear c0 c1 h he
    go_enter Tryz.func10, Tryz.ntmps10
    go_wp2_with fail
    refine (c0'.out).mono ?_
    rintro e w1 ⟨rfl, hB1⟩
    go_wp2_with fail
    refine (c1'.out _ hB1).mono ?_
    rintro e w2 ⟨v2, r, rfl, hE, ho, hB2⟩
    obtain rfl := he'.out r hE
    have hb2 := hB1.trans (hB2.mono hB1.size)
    have ho2 := ho.mono hB1.size (Nat.le_refl _)
    clear hE ho hB2
    have ho2' := Lib.hid ho2
    have hb2' := Lib.hid hb2
    clear ho2 hb2
    go_wp2
    go_ret2
    exact ⟨_, rfl, ho2'.out, hb2'.out⟩
  · have hV : RefineToMarkov_v f lin = ([], false) := by unfold RefineToMarkov_v; rw [if_neg h]
    rw [hV]
    rw [Bool.not_eq_true] at h
    rw [h] at c0
    clear hv hV h
    have c0' := Lib.hid c0
    clear c0
    go_enter Tryz.func10, Tryz.ntmps10
    go_wp2_with fail
    refine (c0'.out).mono ?_
    rintro e w1 ⟨rfl, hB1⟩
    go_wp2
    go_ret2
    exact ⟨_, rfl, OwnR.nil _ _ _, hB1⟩
end Go.Proofs.YtnggopbehohjnaaGreat

/- Drawn cuts, told loosely: some list of fractions. No conditions but small sizes. -/
import Derived.Test.YtnggopbehohjnaaGreatDrawR2
import Derived.Test.YtnggopbehohjnaaGreatMergeVal
import Derived.Deep.Cut
import Derived.Deep.CutRange
import Derived.Deep.CutBlock
namespace Go.Proofs.YtnggopbehohjnaaGreat
open Go.RowKit

theorem RatsV.put {w : World} {g n cap : Nat} {xs : List (Int × Int)} (h : RatsV w (.slice (some ⟨g, 0, none⟩) n cap) xs) {i : Nat} (hi : i < xs.length) (a b : Int) :
    RatsV ((w.setCell ⟨g, i * 2, none⟩ (.int .i64 a)).setCell ⟨g, i * 2 + 1, none⟩ (.int .i64 b)) (.slice (some ⟨g, 0, none⟩) n cap) (xs.set i (a, b)) := by
  obtain ⟨ao, cap', e, h1, h2, H⟩ := h.form
  obtain ⟨rfl, rfl, rfl⟩ := Value.slice.inj e
  have oth : ∀ (W : World) (s t : Nat) (v : Value), s ≠ t → (W.setCell ⟨g, s, none⟩ v).cell? ⟨g, t, none⟩ = W.cell? ⟨g, t, none⟩ := fun W s t v hne => World.cell?_setCell_other W _ _ v (fun e => hne (by injection e))
  have sam : ∀ (W : World) (s : Nat) (v u : Value), W.cell? ⟨g, s, none⟩ = some u → (W.setCell ⟨g, s, none⟩ v).cell? ⟨g, s, none⟩ = some v := fun W s v u hu => World.cell?_setCell_same W _ v hu
  have e1 : xs.length = (xs.set i (a, b)).length := by simp
  rw [e1]
  refine RatsV.mk (by rw [← e1]; exact h1) h2 fun j hj => ?_
  rw [← e1] at hj
  obtain ⟨b', off, e2, c0, c1⟩ := H j hj
  cases e2
  obtain ⟨b'', off', e3, d0, d1⟩ := H i hi
  cases e3
  rw [Nat.zero_add] at c0 c1 d0 d1
  refine ⟨g, 0, rfl, ?_, ?_⟩
  · rw [Nat.zero_add]
    by_cases q : j = i
    · subst q
      rw [oth _ _ _ _ (by omega), sam _ _ _ _ c0]
      simp [nthR, hj]
    · rw [oth _ _ _ _ (by omega), oth _ _ _ _ (by omega), c0]
      unfold nthR
      rw [List.getElem?_set_ne (fun e => q e.symm)]
  · rw [Nat.zero_add]
    by_cases q : j = i
    · subst q
      have d2 : (w.setCell ⟨g, j * 2, none⟩ (.int .i64 a)).cell? ⟨g, j * 2 + 1, none⟩ = some (.int .i64 (nthR xs j).2) := by rw [oth _ _ _ _ (by omega)]; exact c1
      rw [sam _ _ _ _ d2]
      simp [nthR, hj]
    · rw [oth _ _ _ _ (by omega), oth _ _ _ _ (by omega), c1]
      unfold nthR
      rw [List.getElem?_set_ne (fun e => q e.symm)]
theorem GrowR.off {w : World} {B c : Nat} {v : Value} {xs : List (Int × Int)} (h : GrowR w B v xs) (hc : c < B) : Off c v := by
  intro b off k cap e
  rcases h.2 with ⟨rfl, _⟩ | ⟨g, cap', cur, rfl, h1, _⟩
  · cases e
  · obtain ⟨e1, _, _⟩ := Value.slice.inj e
    cases e1
    omega
/-- A slice in a block from B on. -/
def NewB (B : Nat) (v : Value) : Prop := ∀ b off k cap, v = .slice (some ⟨b, off, none⟩) k cap → B ≤ b
theorem NewB.off {B b : Nat} {v : Value} (h : NewB B v) (hb : b < B) : Off b v := fun b' off k cap e => by have := h b' off k cap e; omega
theorem GrowR.newB {w : World} {B : Nat} {v : Value} {xs : List (Int × Int)} (h : GrowR w B v xs) : NewB B v := by
  intro b off k cap e
  rcases h.2 with ⟨rfl, _⟩ | ⟨g, cap', cur, rfl, h1, _⟩
  · cases e
  · obtain ⟨e1, _, _⟩ := Value.slice.inj e
    cases e1
    exact h1
theorem putR_of {l : List (Int × Int)} {x y : Int × Int} (h : y ∈ putR l x) : y ∈ l ∨ y = x := by
  unfold putR at h
  split at h
  · exact .inl h
  · rcases List.mem_append.1 h with q | q
    · exact .inl (List.mem_of_mem_take q)
    · rcases List.mem_cons.1 q with q | q
      · exact .inr q
      · exact .inl (List.mem_of_mem_drop q)
/-- It returns a list of fractions that does not lie in the cursor's block. -/
def PicksL (c N L : Nat) (w : World) (e : Ending) (w' : World) : Prop := ∃ v xs, e = .returned v ∧ RatsV w' v xs ∧ (Off c v ∧ NewB w.heap.size v) ∧ xs.length ≤ L ∧ (∀ x, x ∈ xs → I64R x) ∧ CurAt w' c N ∧ w.grownBy w' (some c)
/-- The state at the head of the loop that draws cuts. -/
def CutsAt (c N : Nat) (w : World) (s t : Value) (wr : World) : Prop :=
  ∃ (xs : List (Int × Int)) (k : Nat), k ≤ 60 ∧ t = .int .i64 k ∧ GrowR wr w.heap.size s xs ∧ 2 ≤ xs.length ∧ xs.length ≤ 10 ∧ (∀ x, x ∈ xs → goodR x.1 x.2 = true) ∧ CurAt wr c (N + 6 + 10 * k) ∧ w.grownBy wr (some c)

set_option linter.unusedSimpArgs false in
set_option maxHeartbeats 3200000 in
theorem cuts_any (c N : Nat) (w : World) (h : CurAt w c N) (hN : N ≤ 549755800000) :
    Calls Tryz.prog 105 #[.pointer (some ⟨c, 0, none⟩)] w (PicksL c (N + 700) 12 w) := by
  have hlt := h.lt
  have hcb := fun (w' : World) (hB : Below w.heap.size w w') => h.below hB hlt
  clear h
  have hcb' := Lib.hid hcb
  clear hcb
  go_enter Tryz.func105, Tryz.ntmps105
  go_wp2_with fail
  refine (raInt_any 0 _).mono ?_
  rintro e w1 ⟨rfl, hB1⟩
  go_wp2_with fail
  refine (raInt_any 1 _).mono ?_
  rintro e w2 ⟨rfl, hB2⟩
  have hb2 := hB1.trans (hB2.mono hB1.size)
  obtain ⟨w3, hw3⟩ : ∃ W, w2.alloc (.cells #[.int .i64 0, .int .i64 1, .int .i64 1, .int .i64 1] 50) = W := ⟨_, rfl⟩
  have hB3 : Below w2.heap.size w2 w3 := by rw [← hw3]; exact (Below.refl _ _).alloc (Nat.le_refl _) _
  have hg3 : GrowR w3 w.heap.size (.slice (some ⟨w2.heap.size, 0, none⟩) 2 2) [(0, 1), (1, 1)] := by rw [← hw3]; exact GrowR.put2 hb2.size
  have hb3 := hb2.trans (hB3.mono hb2.size)
  have hc3 := hcb'.out w3 hb3
  have g3 : w.grownBy w3 (some c) := bgrow hb3 _
  clear hB1 hB2 hB3 hb2
  have hw3' := Lib.hid hw3
  have hg3' := Lib.hid hg3
  have hb3' := Lib.hid hb3
  have g3' := Lib.hid g3
  clear hw3 hg3 hb3 g3
  go_wp2_with fail
  rw [hw3'.out]
  go_wp2_with fail
  refine (pick_any c N 5 w3 hc3 (by omega) (by omega) (by omega)).mono ?_
  rintro e w4 ⟨v, rfl, ⟨n, rfl, hn⟩, hc4, hg4⟩
  go_wp2_with fail
  refine (one_any c _ 12 w4 hc4 (by omega) (by omega) (by omega)).mono ?_
  rintro e w5 ⟨v, rfl, ⟨b, rfl⟩, hc5, hg5⟩
  have g5 := g3'.out.trans (hg4.trans hg5)
  have hG5 := hg3'.out.kept (hg4.trans hg5) hlt
  clear hc3 hc4 hg4 hg5
  have g5' := Lib.hid g5
  have hG5' := Lib.hid hG5
  have hc5' := Lib.hid hc5
  clear g5 hG5 hc5
  go_upto_if 12 with fail
  go_cut [4] from 13 to 15 (fun s wx => ∃ m : Nat, m ≤ 8 ∧ s = .int .i64 m ∧ CurAt wx c (N + 6) ∧ w5.grownBy wx (some c))
  case first =>
    cases b
    · go_wp2_with fail
      go_meet
      exact ⟨n, by omega, rfl, hc5'.out.mono (by omega), World.grownBy.refl _ _⟩
    · go_wp2_with fail
      refine (pick_any c _ 2 w5 hc5'.out (by omega) (by omega) (by omega)).mono ?_
      rintro e w6 ⟨v, rfl, ⟨t, rfl, ht⟩, hc6, hg6⟩
      have hc6' := Lib.hid hc6
      have hg6' := Lib.hid hg6
      clear hc6 hg6
      go_wp2_with fail
      go_meet
      exact ⟨7 + t, by omega, by simp, hc6'.out.mono (by omega), hg6'.out⟩
  case rest =>
    obtain ⟨m, hm, rfl, hc, hg⟩ := hcut
    obtain ⟨wo, rfl⟩ : ∃ wo : World, wo = wc := ⟨_, rfl⟩
    have hst : CutsAt c N w (.slice (some ⟨w2.heap.size, 0, none⟩) 2 2) (.int .i64 0) wo := ⟨[(0, 1), (1, 1)], 0, by omega, rfl, hG5'.out.kept hg hlt, by decide, by decide, by
      intro x hx
      rcases List.mem_cons.1 hx with e | hx
      · subst e; decide
      · obtain rfl := List.mem_singleton.1 hx; decide, hc, g5'.out.trans hg⟩
    clear hc hg hG5' g5' hc5'
    have hst' := Lib.hid hst
    clear hst
    go_wp2_with fail
    go_loopw [3, 5] (fun s t wr => CutsAt c N w s t wr) (fun _ t _ => 60 - (intOf t).toNat)
    case atStart => exact hst'.out
    case round =>
      clear hst'
      obtain ⟨wo2, rfl⟩ : ∃ wo : World, wo = wr := ⟨_, rfl⟩
      obtain ⟨xs, k, hk, rfl, hG, hx2, hx10, hgd, hc, hg⟩ := hrel
      obtain ⟨g, cap, rfl, hrow⟩ := GrowF.form hG (by omega)
      obtain ⟨hpc, hcm⟩ : xs.length ≤ cap ∧ cap ≤ maxLen := by
        obtain ⟨_, _, e, h1, h2, _⟩ := hG.read.form
        cases e
        exact ⟨h1.1, h2⟩
      have hbd : ∀ i, i < xs.length → BdR (nthR xs i).1 (nthR xs i).2 := fun i hi => good_bd (hgd _ (by rw [nthR_eq hi]; exact List.getElem_mem hi))
      have hi64 : ∀ x, x ∈ xs → I64R x := fun x hx => good_i64 (hgd x hx)
      have hput := fun x (hx : goodR x.1 x.2 = true) y (hy : y ∈ putR xs x) => show goodR y.1 y.2 = true from by
        rcases putR_of hy with q | q
        · exact hgd y q
        · rw [q]; exact hx
      have hpl := fun x => putR_len xs x
      have hgx := hrow.lt
      obtain ⟨p, hp⟩ : ∃ p, xs.length = p := ⟨_, rfl⟩
      rw [hp] at hx2 hx10 hpc hG hpl ⊢
      have hnb := hG.newB
      have hco : Off c (.slice (some ⟨g, 0, none⟩) p cap) ∧ NewB w.heap.size (.slice (some ⟨g, 0, none⟩) p cap) := ⟨hG.off hlt, hnb⟩
      have hsz := hg.size
      clear hrow
      clear hnb
      have hgd' := Lib.hid hgd
      have hbd' := Lib.hid hbd
      have hi64' := Lib.hid hi64
      have hput' := Lib.hid hput
      have hpl' := Lib.hid hpl
      have hp' := Lib.hid hp
      have hG' := Lib.hid hG
      have hg' := Lib.hid hg
      clear hgd hbd hi64 hput hpl hp hG hg
      by_cases h1 : p < m + 2
      · by_cases h2 : k < 60
        · have h1' : (p : Int) < (m : Int) + 2 := by omega
          go_wp2_with fail
          refine (among_list c _ [2, 3, 4, 12] wo2 4 hc (by omega) rfl (by omega) (by omega)).mono ?_
          rintro e w7 ⟨v, rfl, ⟨d, rfl, hd⟩, hc7, hg7⟩
          obtain ⟨q, rfl, hq1, hq2⟩ : ∃ q : Nat, d = (q : Int) ∧ 1 ≤ q ∧ q ≤ 12 := ⟨d.toNat, by simp at hd; omega, by simp at hd; omega, by simp at hd; omega⟩
          go_wp2_with fail
          refine (gridRat_any c _ q w7 hc7 (by omega) (by omega) (by omega)).mono ?_
          rintro e w8 ⟨⟨x, y⟩, rfl, hu, hc8, hg8⟩
          have hG8 := hG'.out.kept (hg7.trans hg8) hlt
          have hu2 := unitR_good hu
          have hg9 := hg'.out.trans (hg7.trans hg8)
          have cp := imPut_own w.heap.size _ xs (x, y) w8 hG8 (by have := hp'.out; omega) hg9.size (by have := hp'.out; omega) (good_bd hu2) hbd'.out
          have hpu := hput'.out (x, y) hu2
          have hpl2 := hpl'.out (x, y)
          clear hd hc7 hg7 hg8 hG8 hu hu2 hc
          have cp' := Lib.hid cp
          have hpu' := Lib.hid hpu
          have hg9' := Lib.hid hg9
          clear cp hpu hg9
          go_wp2_with fail
          refine (cp'.out).mono ?_
          rintro e w9 ⟨v9, rfl, hG9, hB9⟩
          have hst : CutsAt c N w v9 (.int .i64 ((k + 1 : Nat) : Int)) w9 := ⟨_, k + 1, by omega, rfl, hG9, by omega, by omega, hpu'.out, (hc8.below hB9 (by have := hg9'.out.size; omega)).mono (by omega), grown_below hg9'.out hB9 hg9'.out.size⟩
          obtain ⟨_, _, rfl, -⟩ := hG9.read.form
          clear hG9 hB9 hc8
          have hst' := Lib.hid hst
          clear hst
          go_wp2
          go_roundw
          case rel => simpa using hst'.out
          case measure => simp [intOf]; omega
        · obtain rfl : k = 60 := by omega
          have h1' : (p : Int) < (m : Int) + 2 := by omega
          go_wp2_with fail
          refine (pick_any c _ 24 wo2 hc (by omega) (by omega) (by omega)).mono ?_
          rintro e w7 ⟨v, rfl, ⟨z, rfl, hz⟩, hc7, hg7⟩
          have hG7 := hG'.out.kept hg7 hlt
          have hg8 := hg'.out.trans hg7
          clear hg7 hc
          have hG7' := Lib.hid hG7
          have hg8' := Lib.hid hg8
          clear hG7 hg8
          have hz4 : z = 0 ∨ z = 1 ∨ 2 ≤ z := by omega
          obtain rfl | rfl | hz2 := hz4
          · have q1 : ¬ cap = 1 := by omega
            have q2 : (1 : Int) ≤ (p : Int) := by omega
            have q3 : 1 ≤ p := by omega
            have hr := hG7'.out.read
            have hd := hr.drop (k := 1) (m := p - 1) (c' := cap - 1) (o' := 2) (by rw [hp'.out]; exact q3) (by rw [hp'.out]) ⟨by omega, by omega⟩ (fun _ => rfl)
            have hco2 : Off c (.slice (some ⟨g, 2, none⟩) (p - 1) (cap - 1)) ∧ NewB w.heap.size (.slice (some ⟨g, 2, none⟩) (p - 1) (cap - 1)) := ⟨fun b off k' cap' e => by
              obtain ⟨e1, _, _⟩ := Value.slice.inj e
              cases e1
              omega, fun b off k' cap' e => by
              obtain ⟨e1, _, _⟩ := Value.slice.inj e
              cases e1
              exact hgx.1⟩
            clear hr
            have hd' := Lib.hid hd
            have hco2' := Lib.hid hco2
            have hc7' := Lib.hid hc7
            clear hd hco2 hc7
            go_wp2
            go_ret
            exact ⟨_, xs.drop 1, rfl, hd'.out, hco2'.out, by rw [List.length_drop, hp'.out]; omega, fun x hx => hi64'.out x (List.mem_of_mem_drop hx), hc7'.out.mono (by omega), hg8'.out⟩
          · go_wp2_with fail
            refine (pick_any c _ p w7 hc7 (by omega) (by omega) (by omega)).mono ?_
            rintro e w8 ⟨v, rfl, ⟨i, rfl, hi⟩, hc8, hg9⟩
            go_wp2_with fail
            refine (anyRat_any c _ w8 hc8 (by omega)).mono ?_
            rintro e w9 ⟨⟨a, b⟩, rfl, hab, hc9, hg10⟩
            have hG9 := hG7'.out.kept (hg9.trans hg10) hlt
            have hg11 := hg8'.out.trans (hg9.trans hg10)
            obtain ⟨g', cap', e, hrow⟩ := GrowF.form hG9 (by have := hp'.out; omega)
            obtain ⟨rfl, rfl⟩ : g = g' ∧ cap = cap' := by cases e; exact ⟨rfl, rfl⟩
            have hps := hp'.out
            have c0 := hrow.cell (j := i * 2) (by omega)
            have c1 := hrow.cell (j := i * 2 + 1) (by omega)
            have f0 := hrow.frozen (i * 2)
            have f1 := hrow.frozen (i * 2 + 1)
            have hr := hG9.read
            have hpt := hr.put (i := i) (by omega) a b
            have q1 : (0 : Int) ≤ (i : Int) := by omega
            have q2 : (i : Int) < (p : Int) := by omega
            have hI : ∀ x, x ∈ xs.set i (a, b) → I64R x := fun x hx => by
              rcases List.mem_or_eq_of_mem_set hx with q | q
              · exact hi64'.out x q
              · rw [q]; exact hab
            have hB : Below w.heap.size w9 ((w9.setCell ⟨g, i * 2, none⟩ (.int .i64 a)).setCell ⟨g, i * 2 + 1, none⟩ (.int .i64 b)) := ((Below.refl _ _).setCell (p := ⟨g, i * 2, none⟩) hgx.1 _).setCell (p := ⟨g, i * 2 + 1, none⟩) hgx.1 _
            have hend := picks_end hc9 hg11 hlt (Nat.le_refl _) hB
            clear hg9 hg10 hG9 hrow hr hB hc8 hc7 e hab
            have hpt' := Lib.hid hpt
            have hI' := Lib.hid hI
            have hend' := Lib.hid hend
            have hps' := Lib.hid hps
            have hc9' := Lib.hid hc9
            have hg11' := Lib.hid hg11
            clear hpt hI hend hps hc9 hg11
            go_wp2
            go_ret
            exact ⟨_, _, rfl, hpt'.out, hco, by rw [List.length_set, hp'.out]; omega, hI'.out, hend'.out.1.mono (by omega), hend'.out.2⟩
          · have q0 : ((z : Int) == 0) = false := by rw [beq_eq_false_iff_ne]; omega
            have q1 : ((z : Int) == 1) = false := by rw [beq_eq_false_iff_ne]; omega
            have hr := hG7'.out.read
            have hr' := Lib.hid hr
            have hc7' := Lib.hid hc7
            have hco' := Lib.hid hco
            clear hr hc7 hco
            go_wp2
            go_ret
            exact ⟨_, xs, rfl, hr'.out, hco'.out, by rw [hp'.out]; omega, hi64'.out, hc7'.out.mono (by omega), hg8'.out⟩
      · have h1' : ¬ (p : Int) < (m : Int) + 2 := by omega
        go_wp2_with fail
        refine (pick_any c _ 24 wo2 hc (by omega) (by omega) (by omega)).mono ?_
        rintro e w7 ⟨v, rfl, ⟨z, rfl, hz⟩, hc7, hg7⟩
        have hG7 := hG'.out.kept hg7 hlt
        have hg8 := hg'.out.trans hg7
        clear hg7 hc
        have hG7' := Lib.hid hG7
        have hg8' := Lib.hid hg8
        clear hG7 hg8
        have hz4 : z = 0 ∨ z = 1 ∨ 2 ≤ z := by omega
        obtain rfl | rfl | hz2 := hz4
        · have q1 : ¬ cap = 1 := by omega
          have q2 : (1 : Int) ≤ (p : Int) := by omega
          have q3 : 1 ≤ p := by omega
          have hr := hG7'.out.read
          have hd := hr.drop (k := 1) (m := p - 1) (c' := cap - 1) (o' := 2) (by rw [hp'.out]; exact q3) (by rw [hp'.out]) ⟨by omega, by omega⟩ (fun _ => rfl)
          have hco2 : Off c (.slice (some ⟨g, 2, none⟩) (p - 1) (cap - 1)) ∧ NewB w.heap.size (.slice (some ⟨g, 2, none⟩) (p - 1) (cap - 1)) := ⟨fun b off k' cap' e => by
            obtain ⟨e1, _, _⟩ := Value.slice.inj e
            cases e1
            omega, fun b off k' cap' e => by
            obtain ⟨e1, _, _⟩ := Value.slice.inj e
            cases e1
            exact hgx.1⟩
          clear hr
          have hd' := Lib.hid hd
          have hco2' := Lib.hid hco2
          have hc7' := Lib.hid hc7
          clear hd hco2 hc7
          go_wp2
          go_ret
          exact ⟨_, xs.drop 1, rfl, hd'.out, hco2'.out, by rw [List.length_drop, hp'.out]; omega, fun x hx => hi64'.out x (List.mem_of_mem_drop hx), hc7'.out.mono (by omega), hg8'.out⟩
        · go_wp2_with fail
          refine (pick_any c _ p w7 hc7 (by omega) (by omega) (by omega)).mono ?_
          rintro e w8 ⟨v, rfl, ⟨i, rfl, hi⟩, hc8, hg9⟩
          go_wp2_with fail
          refine (anyRat_any c _ w8 hc8 (by omega)).mono ?_
          rintro e w9 ⟨⟨a, b⟩, rfl, hab, hc9, hg10⟩
          have hG9 := hG7'.out.kept (hg9.trans hg10) hlt
          have hg11 := hg8'.out.trans (hg9.trans hg10)
          obtain ⟨g', cap', e, hrow⟩ := GrowF.form hG9 (by have := hp'.out; omega)
          obtain ⟨rfl, rfl⟩ : g = g' ∧ cap = cap' := by cases e; exact ⟨rfl, rfl⟩
          have hps := hp'.out
          have c0 := hrow.cell (j := i * 2) (by omega)
          have c1 := hrow.cell (j := i * 2 + 1) (by omega)
          have f0 := hrow.frozen (i * 2)
          have f1 := hrow.frozen (i * 2 + 1)
          have hr := hG9.read
          have hpt := hr.put (i := i) (by omega) a b
          have q1 : (0 : Int) ≤ (i : Int) := by omega
          have q2 : (i : Int) < (p : Int) := by omega
          have hI : ∀ x, x ∈ xs.set i (a, b) → I64R x := fun x hx => by
            rcases List.mem_or_eq_of_mem_set hx with q | q
            · exact hi64'.out x q
            · rw [q]; exact hab
          have hB : Below w.heap.size w9 ((w9.setCell ⟨g, i * 2, none⟩ (.int .i64 a)).setCell ⟨g, i * 2 + 1, none⟩ (.int .i64 b)) := ((Below.refl _ _).setCell (p := ⟨g, i * 2, none⟩) hgx.1 _).setCell (p := ⟨g, i * 2 + 1, none⟩) hgx.1 _
          have hend := picks_end hc9 hg11 hlt (Nat.le_refl _) hB
          clear hg9 hg10 hG9 hrow hr hB hc8 hc7 e hab
          have hpt' := Lib.hid hpt
          have hI' := Lib.hid hI
          have hend' := Lib.hid hend
          have hps' := Lib.hid hps
          have hc9' := Lib.hid hc9
          have hg11' := Lib.hid hg11
          clear hpt hI hend hps hc9 hg11
          go_wp2
          go_ret
          exact ⟨_, _, rfl, hpt'.out, hco, by rw [List.length_set, hp'.out]; omega, hI'.out, hend'.out.1.mono (by omega), hend'.out.2⟩
        · have q0 : ((z : Int) == 0) = false := by rw [beq_eq_false_iff_ne]; omega
          have q1 : ((z : Int) == 1) = false := by rw [beq_eq_false_iff_ne]; omega
          have hr := hG7'.out.read
          have hr' := Lib.hid hr
          have hc7' := Lib.hid hc7
          have hco' := Lib.hid hco
          clear hr hc7 hco
          go_wp2
          go_ret
          exact ⟨_, xs, rfl, hr'.out, hco'.out, by rw [hp'.out]; omega, hi64'.out, hc7'.out.mono (by omega), hg8'.out⟩
end Go.Proofs.YtnggopbehohjnaaGreat

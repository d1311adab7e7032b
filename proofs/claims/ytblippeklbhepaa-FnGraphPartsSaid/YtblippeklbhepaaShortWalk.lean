/- The program's ShortestWalk, whole. No conditions. -/
import Derived.Test.YtblippeklbhepaaShortImpl
import Derived.Test.YtblippeklbhepaaPeriod
import Derived.Maps.Range
import Derived.Deep.AppendLies
namespace Go.Proofs.Ytblippeklbhepaa
open Go.RowKit

/-- A box with an int that may be written. -/
def BoxI (w : World) (b : Nat) (x : Int) : Prop := w.cell? ⟨b, 0, none⟩ = some (.int .i64 x) ∧ w.frozen? ⟨b, 0, none⟩ = false
theorem BoxI.lt {w : World} {b : Nat} {x : Int} (h : BoxI w b x) : b < w.heap.size := by
  have := World.block_lt_of_cell? w _ h.1
  exact this
theorem BoxI.grown {w w' : World} {b : Nat} {x : Int} {r : Option Nat} (h : BoxI w b x) (hg : w.grownBy w' r) (hr : r ≠ some b) : BoxI w' b x :=
  ⟨(hg.cell_far ⟨b, 0, none⟩ h.lt (fun e => hr e.symm)).trans h.1, (hg.frozen_far ⟨b, 0, none⟩ h.lt (fun e => hr e.symm)).trans h.2⟩
theorem bgrowB {w w' : World} (h : Below w.heap.size w w') (r : Option Nat) : w.grownBy w' r := ⟨h.os, h.tape, h.output, h.size, fun k hk _ => h.block k hk⟩
theorem bkeepB {w w' : World} (h : Below w.heap.size w w') {a : Addr} {v : Value} (hc : w.cell? a = some v) : w'.cell? a = some v :=
  (h.cell (World.block_lt_of_cell? _ _ hc)).trans hc
theorem gkeep {w w' : World} {r : Option Nat} (h : w.grownBy w' r) {a : Addr} {v : Value} (hc : w.cell? a = some v) (hr : r ≠ some a.block) : w'.cell? a = some v :=
  (h.cell_far a (World.block_lt_of_cell? _ _ hc) (fun e => hr e.symm)).trans hc
def ptrB : Value → Nat
  | .pointer (some a) => a.block
  | _ => 0

/-- What the closure asks. -/
def goesOn (g : List (List Int)) (b r x : Nat) (z : Int) : Bool := due g b r x z.toNat
theorem goesOn_nat (g : List (List Int)) (b r x k : Nat) : goesOn g b r x (k : Int) = due g b r x k := rfl
theorem idx_nxt {g : List (List Int)} (hg : graphB g = true) {b r x : Nat} (hb : b < g.length) (h : wkMin (ent g) g.length b (r + 1) x) : idxB (goesOn g b r x) (upTo g.length) = (nxt g b r x : Nat) := by
  obtain ⟨h1, h2, h3⟩ := nxt_spec hg hb h
  refine idxB_hit (by rw [upTo_len]; exact h1) (fun j hj => ?_) ?_
  · rw [upTo_nth (by omega), goesOn_nat]; exact h3 j hj
  · rw [upTo_nth h1, goesOn_nat]; exact h2
theorem gpath_go {g : List (List Int)} (hg : graphB g = true) {b r x : Nat} (hb : b < g.length) (h : wkMin (ent g) g.length b (r + 1) x) : nxt g b r x < g.length ∧ (r = 0 ∨ wkMin (ent g) g.length b r (nxt g b r x)) := by
  obtain ⟨h1, h2, _⟩ := nxt_spec hg hb h
  rcases ((due_iff hg (x := x) hb h1).1 h2).2 with ⟨h3, _⟩ | h3
  · exact ⟨h1, .inl h3⟩
  · exact ⟨h1, .inr h3⟩

set_option maxRecDepth 100000 in
set_option maxHeartbeats 4000000 in
theorem implShortest_yes (v : Value) (g : List (List Int)) (n a b : Nat) (w : World) (hv : RowsV w v g) (hm : szIntSS g ≤ 1099511627776) (hg : graphB g = true) (hn : g.length = n) (ha : a < n) (hb : b < n) :
    Calls Try.prog 50 #[v, .int .i64 a, .int .i64 b] w (RetOB Own (ShortestWalk_v g a b) w) := by
  obtain ⟨V, hV⟩ : ∃ V, ShortestWalk_v g a b = V := ⟨_, rfl⟩
  rw [hV]
  have hl : g.length ≤ 1099511627776 := by unfold szIntSS at hm; omega
  have hask : walkAsked g a b = true := by
    unfold walkAsked
    simp only [Bool.and_eq_true, inB_true]
    refine ⟨⟨hg, ?_⟩, ?_⟩ <;> omega
  have hi : ∀ z : Nat, z < n → inB (z : Int) 0 ((g.length : Int) - 1) = true := fun z hz => by rw [inB_true]; omega
  have c1 := fun w' (hB : Below w.heap.size w w') => isGraph_any v g w' (hv.below hB) hm
  rw [hg] at c1
  have c2 := fun (z : Nat) (hz : z < n) (w' : World) (hB : Below w.heap.size w w') => isState_any v g (z : Int) w' (hv.below hB) hl
  have c2 := fun (z : Nat) (hz : z < n) (w' : World) (hB : Below w.heap.size w w') => (hi z hz) ▸ c2 z hz w' hB
  have c3 := fun w' (hB : Below w.heap.size w w') => stepsTo_any v g n b w' (hv.below hB) hg hn hb
  obtain ⟨bg, off, gcap, ro, rof, rcc, rfl, H⟩ := hv.graph hg hn
  obtain ⟨n1, n8, -, -⟩ := graphB_true hg
  rw [hn] at n1 n8
  obtain ⟨w0, hw0⟩ : ∃ W, ((w.alloc (.cells #[.slice (some ⟨bg, off, none⟩) n gcap] 23)).alloc (.cells #[.int .i64 a] 3)).alloc (.cells #[.int .i64 b] 3) = W := ⟨_, rfl⟩
  have hB0 : Below w.heap.size w w0 := by rw [← hw0]; exact (((Below.refl _ _).alloc (Nat.le_refl _) _).alloc (by simp) _).alloc (by simp; omega) _
  have hz0 : w.heap.size + 3 = w0.heap.size := by rw [← hw0]; simp
  have k1 : w0.cell? ⟨w.heap.size, 0, none⟩ = some (.slice (some ⟨bg, off, none⟩) n gcap) := by rw [← hw0]; simp [go_sem]
  have k2 : BoxI w0 (w.heap.size + 1) a := by rw [← hw0]; exact ⟨by simp [go_sem], by simp [go_sem]⟩
  have k3 : w0.cell? ⟨w.heap.size + 1 + 1, 0, none⟩ = some (.int .i64 b) := by rw [← hw0]; simp [go_sem]
  have hw0' := Lib.hid hw0
  have c1' := Lib.hid c1
  have c2' := Lib.hid c2
  have c3' := Lib.hid c3
  have H' := Lib.hid H
  have hg' := Lib.hid hg
  have hn' := Lib.hid hn
  have hask' := Lib.hid hask
  have hi' := Lib.hid hi
  have hV' := Lib.hid hV
  clear hw0 c1 c2 c3 H hg hn hask hi hV
  clear hv hl hm
  go_enter Try.func50, Try.ntmps50
  go_wp2_with fail
  rw [hw0'.out]
  go_wp2_with fail
  refine (c1'.out _ hB0).mono ?_
  rintro e w1 ⟨rfl, hB1⟩
  have hb1 := hB0.trans (hB1.mono hB0.size)
  replace k1 := bkeepB hB1 k1
  replace k2 := k2.grown (bgrowB hB1 none) (by simp)
  replace k3 := bkeepB hB1 k3
  have k2c := k2.1
  have hz1 := hB1.size
  clear hB1
  go_wp2_with fail
  refine (c2'.out a ha _ hb1).mono ?_
  rintro e w_ ⟨rfl, rfl⟩
  go_wp2_with fail
  refine (c2'.out b hb _ hb1).mono ?_
  rintro e w_ ⟨rfl, rfl⟩
  go_wp2_with fail
  refine (c3'.out _ hb1).mono ?_
  rintro e w2 ⟨bs, o, rfl, hr, hM, hSB, hB2⟩
  have hb2 := hb1.trans (hB2.mono hb1.size)
  replace k1 := bkeepB hB2 k1
  replace k2 := k2.grown (bgrowB hB2 none) (by simp)
  replace k3 := bkeepB hB2 k3
  replace k2c := k2.1
  have hz2 := hB2.size
  have hbs := hr.lt
  have hO : ∀ i, i < n → w2.cell? ⟨bs, i, none⟩ = some (.int .i64 (o i)) := fun i hi => by
    have := hr.cell hi
    rwa [nth_lst hi] at this
  have hval : ∀ i, i < n → o i = (dTo g b i : Nat) := fun i hi => by
    rcases hM i hi with ⟨h1, h2⟩ | ⟨t, h1, _, h2⟩
    · rw [← hn'.out] at h2 hb hi
      rcases dTo_min hg'.out hb hi with ⟨h3, _⟩ | ⟨_, h3⟩
      · rw [h1, h3]; rfl
      · exact absurd h3.2.1 (h2 _ h3.1)
    · rw [← hn'.out] at h2 hb hi
      rw [h1, dTo_eq hg'.out hb hi h2]
  have hsm : ∀ i, i < n → 0 ≤ o i ∧ o i ≤ 8 := fun i hi => by
    rw [hval i hi]; have := dTo_le g b i; omega
  clear hB2 hr hM hSB
  have y1 := bkeepB ((Below.refl w2.heap.size w2).alloc (Nat.le_refl _) (.cells #[.slice (some ⟨bs, 0, none⟩) n n] 39)) k2c
  have qa := bkeepB ((Below.refl w2.heap.size w2).alloc (Nat.le_refl _) (.cells #[.slice (some ⟨bs, 0, none⟩) n n] 39)) (hO a ha)
  have hsa := hsm a ha
  have hva := hval a ha
  obtain ⟨y, hy⟩ : ∃ y, o a = y := ⟨_, rfl⟩
  rw [hy] at qa hsa hva
  by_cases hd : y = 0
  · have hv0 := ShortestWalk_none (g := g) (a := a) (b := b) (by omega)
    have hVV := hV'.out
    rw [hv0] at hVV
    subst hVV
    clear hV'
    subst hd
    have hbx := hb2.alloc hb2.size (.cells #[.slice (some ⟨bs, 0, none⟩) n n] 39)
    have hO' := Lib.hid hO
    have hval' := Lib.hid hval
    have hsm' := Lib.hid hsm
    have hva' := Lib.hid hva
    have hy' := Lib.hid hy
    clear hO hval hsm hva hy
    clear hv0
    go_wp2
    go_ret2
    exact ⟨_, rfl, Own.nil _ _ _, hbx⟩
  · have hv0 := ShortestWalk_some (g := g) (a := a) (b := b) hask'.out (by omega)
    obtain ⟨full, hfull⟩ : ∃ full, a :: gpath g b (dTo g b a) a = full := ⟨_, rfl⟩
    rw [hfull] at hv0
    have hVV := hV'.out
    rw [hv0] at hVV
    subst hVV
    clear hV' hv0
    obtain ⟨R, hR⟩ : ∃ R, dTo g b a = R := ⟨_, rfl⟩
    rw [hR] at hfull hva
    have hmin : wkMin (ent g) n b R a := by
      have hbl : b < g.length := by rw [hn'.out]; exact hb
      have hal : a < g.length := by rw [hn'.out]; exact ha
      rcases dTo_min hg'.out hbl hal with ⟨h3, _⟩ | ⟨_, h3⟩
      · omega
      · rw [hR, hn'.out] at h3; exact h3
    have e0 : (y == 0) = false := by rw [beq_eq_false_iff_ne]; exact hd
    obtain ⟨w3, hw3⟩ : ∃ W, w2.alloc (.cells #[.slice (some ⟨bs, 0, none⟩) n n] 39) = W := ⟨_, rfl⟩
    have hB3 : Below w2.heap.size w2 w3 := by rw [← hw3]; exact (Below.refl _ _).alloc (Nat.le_refl _) _
    have k4 : w3.cell? ⟨w2.heap.size, 0, none⟩ = some (.slice (some ⟨bs, 0, none⟩) n n) := by rw [← hw3]; simp [go_sem]
    have hz3 : w2.heap.size + 1 = w3.heap.size := by rw [← hw3]; simp
    have hb3 := hb2.trans (hB3.mono hb2.size)
    have j1 := bkeepB hB3 k1
    have j2 := k2.grown (bgrowB hB3 none) (by simp)
    have j3 := bkeepB hB3 k3
    have jO : ∀ i, i < n → w3.cell? ⟨bs, i, none⟩ = some (.int .i64 (o i)) := fun i hi => bkeepB hB3 (hO i hi)
    subst hva
    have y4 := bkeepB ((Below.refl (w2.alloc (.cells #[.slice (some ⟨bs, 0, none⟩) n n] 39)).heap.size _).alloc (Nat.le_refl _) (.cells #[.int .i64 a] 3)) y1
    have qb := bkeepB ((Below.refl (w2.alloc (.cells #[.slice (some ⟨bs, 0, none⟩) n n] 39)).heap.size _).alloc (Nat.le_refl _) (.cells #[.int .i64 a] 3)) qa
    have hO' := Lib.hid hO
    have hval' := Lib.hid hval
    have hsm' := Lib.hid hsm
    have hy' := Lib.hid hy
    have hR' := Lib.hid hR
    have hfull' := Lib.hid hfull
    have hmin' := Lib.hid hmin
    have hw3' := Lib.hid hw3
    have jO' := Lib.hid jO
    have j1' := Lib.hid j1
    have j2' := Lib.hid j2
    have j3' := Lib.hid j3
    have k4' := Lib.hid k4
    have hb3' := Lib.hid hb3
    have hz3' := Lib.hid hz3
    clear hO hval hsm hy hR hfull hmin hw3 jO j1 j2 j3 k4 hb3 hz3
    clear hB3 hd
    go_wp2
    rw [hw3'.out, hz3'.out]
    obtain ⟨w4, hw4⟩ : ∃ W, w3.alloc (.cells #[.int .i64 a] 3) = W := ⟨_, rfl⟩
    have hB4 : Below w3.heap.size w3 w4 := by rw [← hw4]; exact (Below.refl _ _).alloc (Nat.le_refl _) _
    have hz4 : w3.heap.size + 1 = w4.heap.size := by rw [← hw4]; simp
    have hg4 : Grow w4 w3.heap.size (.slice (some ⟨w3.heap.size, 0, none⟩) 1 1) (natL [a]) := by
      rw [← hw4]
      exact ⟨by simp [natL], .inr ⟨w3.heap.size, 1, #[.int .i64 a], rfl, Nat.le_refl _, heap_alloc_new w3 _, Nat.le_refl _, by simp [maxLen], rfl, rfl⟩⟩
    have hB5 : Below w4.heap.size w4 (w4.alloc (.cells #[.int .i64 R] 3)) := (Below.refl _ _).alloc (Nat.le_refl _) _
    have hBox5 : BoxI (w4.alloc (.cells #[.int .i64 R] 3)) w4.heap.size R := ⟨by simp [go_sem], by simp [go_sem]⟩
    have hfrom5 := (j2'.out.grown (bgrowB hB4 none) (by simp)).grown (bgrowB hB5 none) (by simp)
    have hg5 := hg4.below hB5
    have hgr5 := (bgrowB hB4 (some (w.heap.size + 1))).trans (bgrowB hB5 (some (w.heap.size + 1)))
    have hR8 : R ≤ 8 := by omega
    have hlow : w.heap.size ≤ w2.heap.size := hb2.size
    rw [hw4, hz4]
    have hB4' := Lib.hid hB4
    have hw4' := Lib.hid hw4
    have hg4' := Lib.hid hg4
    have hB5' := Lib.hid hB5
    have hBox5' := Lib.hid hBox5
    have hfrom5' := Lib.hid hfrom5
    have hg5' := Lib.hid hg5
    have hgr5' := Lib.hid hgr5
    clear hB4 hw4 hg4 hB5 hBox5 hfrom5 hg5 hgr5
    have hlo3 : w.heap.size + 3 ≤ w2.heap.size := by omega
    clear y1 y4 qa qb e0 k1 k2 k3 k2c hb1 hb2 hB0
    have hsz : w2.heap.size < w3.heap.size := by have := hz3'.out; omega
    have hbsz : bs < w3.heap.size := by omega
    have hz03 : w.heap.size + 3 = w0.heap.size := hz0
    have hbs0 : w0.heap.size ≤ bs := by omega
    clear hz0
    go_loopw [9, 10] (fun ov lp wr => ∃ (r x : Nat) (l : List Nat) (lb : Nat), lp = .pointer (some ⟨lb, 0, none⟩) ∧ (x < n ∧ r ≤ 8 ∧ l.length ≤ 100) ∧ BoxI wr lb r ∧ w3.heap.size ≤ lb ∧ ov.ownBlock ≠ some lb ∧ BoxI wr (w.heap.size + 1) x ∧ Grow wr w3.heap.size ov (natL l) ∧ w3.grownBy wr (some (w.heap.size + 1)) ∧ Hid (l ++ gpath g b r x = full ∧ l.length + r = R + 1 ∧ (r = 0 ∨ wkMin (ent g) n b r x))) (fun _ lp wr => (intOf ((wr.cell? ⟨ptrB lp, 0, none⟩).getD (.bool false))).toNat)
    case atStart => exact ⟨R, a, [a], w4.heap.size, rfl, ⟨ha, hR8, by simp⟩, hBox5'.out, by omega, (fun e => by have e2 : w3.heap.size = w4.heap.size := Option.some.inj e; omega), hfrom5'.out, hg5'.out, hgr5'.out, Lib.hid ⟨hfull'.out, by simp; omega, .inr hmin'.out⟩⟩
    case round =>
      clear hBox5' hfrom5' hg5' hgr5' hg4' hB4' hB5' hw4'
      obtain ⟨r, x, l, lb, rfl, hxr, hbox, hlb, hne, hfrom, hgr, hgrow, hI⟩ := hrel
      have l1 := hbox.1
      by_cases hr0 : 0 < r
      · obtain ⟨r, rfl⟩ : ∃ s, r = s + 1 := ⟨r - 1, by omega⟩
        have hbw := hb3'.out.grown hgrow (by have := hb3'.out.size; omega) (fun j hj => by cases hj; omega)
        have g1 := gkeep hgrow j1'.out (fun e => by have e2 := Option.some.inj e; simp only at e2; omega)
        have g3 := gkeep hgrow j3'.out (fun e => by have e2 := Option.some.inj e; simp only at e2; omega)
        have g4 := gkeep hgrow k4'.out (fun e => by have e2 := Option.some.inj e; simp only at e2; omega)
        have gO : ∀ i, i < n → wr.cell? ⟨bs, i, none⟩ = some (.int .i64 (o i)) := fun i hi => gkeep hgrow (jO'.out i hi) (fun e => by have e2 := Option.some.inj e; simp only at e2; omega)
        have hmn : wkMin (ent g) g.length b (r + 1) x := by
          rcases hI.out.2.2 with h | h
          · omega
          · rw [hn'.out]; exact h
        have hbl : b < g.length := by rw [hn'.out]; exact hb
        have hix := idx_nxt hg'.out hbl hmn
        obtain ⟨hk1, hk2⟩ := gpath_go hg'.out hbl hmn
        have hpath : l ++ [nxt g b r x] ++ gpath g b r (nxt g b r x) = full := by rw [← hI.out.1, List.append_assoc]; rfl
        have hll := hI.out.2.1
        rw [hn'.out] at hix hk1 hk2
        have hsays : ∀ w6, Below wr.heap.size wr w6 → SaysOn 114 #[.pointer (some ⟨w.heap.size, 0, none⟩), .pointer (some ⟨w.heap.size + 1, 0, none⟩), .pointer (some ⟨lb, 0, none⟩), .pointer (some ⟨w.heap.size + 1 + 1, 0, none⟩), .pointer (some ⟨w2.heap.size, 0, none⟩)] (goesOn g b r x) (upTo n) w6 := by
          intro w6 hB6 i w' hi hB'
          rw [upTo_len] at hi
          rw [upTo_nth hi]
          have hB7 : Below wr.heap.size wr w' := hB6.trans (hB'.mono hB6.size)
          have hc := shortest1_any (ent g) n x r b i o bs bg off gcap ro rof rcc w.heap.size (w.heap.size + 1) lb (w.heap.size + 1 + 1) w2.heap.size w' (H'.out.below (hbw.trans (hB7.mono hbw.size))) hxr.1 hi (by omega) (fun i hi => by have := hsm'.out i hi; omega) (fun i hi => bkeepB hB7 (gO i hi)) (bkeepB hB7 g1) (bkeepB hB7 hfrom.1) (bkeepB hB7 hbox.1) (bkeepB hB7 g3) (bkeepB hB7 g4) n8
          have e : (decide (0 < ent g x i) && (decide (r = 0) && decide (i = b) || decide (0 < r) && decide (o i = (r : Int)))) = goesOn g b r x (i : Int) := by
            rw [goesOn_nat]
            unfold due
            rw [hval'.out i hi]
            have e2 : decide (((dTo g b i : Nat) : Int) = (r : Int)) = decide (dTo g b i = r) := by rw [Bool.eq_iff_iff, decide_eq_true_iff, decide_eq_true_iff]; omega
            rw [e2]
          rw [e] at hc
          exact hc
        have eg : Enters Try.prog 114 := enters_of Try.func114 (by kernel_rfl) rfl
        have cn := numbersTo_any n wr (by omega)
        have ci := fun w6 u (hB6 : Below wr.heap.size wr w6) (hu : Own w6 wr.heap.size w6.heap.size u (upTo n)) => indexFuncOn_any u (upTo n) 114 _ (goesOn g b r x) w6 eg (hsays w6 hB6) hu.read (by rw [upTo_len]; omega)
        rw [hix] at ci
        have hl3 : w3.heap.size ≤ wr.heap.size := hgrow.size
        have hfl := hfrom.lt
        have hpp : lb ≠ w.heap.size + 1 := by omega
        have hcast : ((r + 1 : Nat) : Int) = (r : Int) + 1 := by omega
        rw [hcast] at l1
        clear hsays hix hmn eg gO hcast
        generalize nxt g b r x = y at *
        have hi1 := hI.out
        clear hI
        have cn' := Lib.hid cn
        have ci' := Lib.hid ci
        have hk2' := Lib.hid hk2
        have hpath' := Lib.hid hpath
        have hll' := Lib.hid hll
        have hi1' := Lib.hid hi1
        have hgr' := Lib.hid hgr
        have hgrow' := Lib.hid hgrow
        have hfrom' := Lib.hid hfrom
        have hbox' := Lib.hid hbox
        clear cn ci hk2 hpath hll hi1 hgr hgrow hfrom hbox
        go_wp2_with fail
        refine cn'.out.mono ?_
        rintro e w6 ⟨u, rfl, hu, hB6⟩
        have g1b := bkeepB hB6 g1
        have ci1 := ci'.out w6 u hB6 hu
        have h6 := hB6.size
        have ci1' := Lib.hid ci1
        clear ci1
        clear ci' hu
        go_wp2_with fail
        refine ci1'.out.mono ?_
        rintro e w7 ⟨rfl, hB7⟩
        have hb67 := hB6.trans (hB7.mono h6)
        have hfrom7 := hfrom'.out.grown (bgrowB hb67 none) (by simp)
        have hbox7 := hbox'.out.grown (bgrowB hb67 none) (by simp)
        have hgr7 := hgr'.out.below hb67
        have hgw7 := hgrow'.out.trans (bgrowB hb67 (some (w.heap.size + 1)))
        have f1 := hfrom7.1
        have f2 := hfrom7.2
        have h7 := hB7.size
        clear hB6 hB7 g1 g3 g4 g1b l1 ci1'
        obtain ⟨V7, hV7⟩ : ∃ W, w7.setCell ⟨w.heap.size + 1, 0, none⟩ (.int .i64 y) = W := ⟨_, rfl⟩
        have hzV : V7.heap.size = w7.heap.size := by rw [← hV7]; simp [World.setCell]
        have hgV : w7.grownBy V7 (some (w.heap.size + 1)) := by rw [← hV7]; exact grownBy_set _ _ _ _
        have hfV : BoxI V7 (w.heap.size + 1) y := by rw [← hV7]; exact ⟨by simp [go_sem, f1], by simp [go_sem, f2]⟩
        have hboxV := hbox7.grown hgV (fun e => by have := Option.some.inj e; omega)
        have hgrV : Grow V7 w3.heap.size u9 (natL l) := World.ownsRow.kept hgr7 hgV (.inr (fun e => by have := (World.ownsRow.lt hgr7 _ e).1; omega))
        have hgwV := hgw7.trans hgV
        have hfV' := Lib.hid hfV
        have hboxV' := Lib.hid hboxV
        have hgrV' := Lib.hid hgrV
        have hgwV' := Lib.hid hgwV
        have hV7' := Lib.hid hV7
        have hbox7' := Lib.hid hbox7
        have hgr7' := Lib.hid hgr7
        clear hfV hboxV hgrV hgwV hV7 hbox7 hgr7
        clear hfrom7 hgV hgw7
        have hsv : w3.heap.size ≤ V7.heap.size := by omega
        have hlen : (natL l).length ≤ 1099511627776 := by rw [natL_len]; omega
        have hzV' := Lib.hid hzV
        have hlen' := Lib.hid hlen
        clear hzV hlen
        go_wp2_with (at_builtin; rw [hV7'.out]; refine wpList_append_intN rfl _ _ rfl w3.heap.size u9 (natL l) (y : Int) _ w7.heap.size hzV'.out rfl rfl hgrV'.out hlen'.out hsv ?_)
        intro v9 w9 hgr9 hg9
        have hlo9 := fun j hj => World.ownsRow.lt hgrV'.out j hj
        have hlo10 := fun j hj => (World.ownsRow.lt hgr9 j hj)
        rw [← natL_snoc] at hgr9
        have hbox9 := hboxV'.out.grown hg9 hne
        have hfr9 := hfV'.out.grown hg9 (fun e => by have := (hlo9 _ e).1; omega)
        have hgw9 := hgwV'.out.andThen hg9 (fun j hj => .inl (hlo9 j hj).1)
        have b1 := hbox9.1
        have hcast : ((r + 1 : Nat) : Int) = (r : Int) + 1 := by omega
        rw [hcast] at b1
        have h9 := hg9.size
        have hBb : Below w9.heap.size w9 (w9.alloc (.cells #[.int .i64 (r : Int)] 3)) := (Below.refl _ _).alloc (Nat.le_refl _) _
        have hboxN : BoxI (w9.alloc (.cells #[.int .i64 (r : Int)] 3)) w9.heap.size r := ⟨by simp [go_sem], by simp [go_sem]⟩
        have hfrN := hfr9.grown (bgrowB hBb none) (by simp)
        have hgrN := hgr9.below hBb
        have hgwN := hgw9.trans (bgrowB hBb (some (w.heap.size + 1)))
        have hs9 : w3.heap.size ≤ w9.heap.size := Nat.le_trans hsv h9
        have hneN : v9.ownBlock ≠ some w9.heap.size := fun e => by have := (hlo10 _ e).2; omega
        clear hcast hBb hgw9 hfr9 hbox9 hg9
        have hboxN' := Lib.hid hboxN
        have hfrN' := Lib.hid hfrN
        have hgrN' := Lib.hid hgrN
        have hgwN' := Lib.hid hgwN
        have hneN' := Lib.hid hneN
        have hlo9' := Lib.hid hlo9
        have hlo10' := Lib.hid hlo10
        have hgr9' := Lib.hid hgr9
        clear hboxN hfrN hgrN hgwN hneN hlo9 hlo10 hgr9
        go_wp2
        go_roundw
        case rel => exact ⟨r, y, l ++ [y], w9.heap.size, rfl, ⟨hk1, by omega, by have := hll'.out; rw [List.length_append]; simp; omega⟩, hboxN'.out, hs9, hneN'.out, hfrN'.out, hgrN'.out, hgwN'.out, Lib.hid ⟨hpath'.out, by have := hll'.out; rw [List.length_append]; simp; omega, hk2'.out⟩⟩
        case measure => have hbm := hbox'.out.1; simp [ptrB, intOf, go_sem, hbm]
      · obtain rfl : r = 0 := by omega
        obtain ⟨h1, h2, _⟩ := hI.out
        have hbw := hb3'.out.grown hgrow (by have := hb3'.out.size; omega) (fun j hj => by cases hj; omega)
        have h3 : l = full := by rw [← h1]; simp [gpath]
        rw [h3] at hgr
        have ho := hgr.own
        have hlow3 : w.heap.size ≤ w3.heap.size := by omega
        clear h1 h2 h3 hI hgr
        have ho' := Lib.hid ho
        clear ho
        go_wp2
        go_ret2
        exact ⟨_, rfl, ho'.out.mono hlow3 (Nat.le_refl _), hbw⟩

end Go.Proofs.Ytblippeklbhepaa

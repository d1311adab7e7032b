/- Several texts in one: CovGraph CovGraphS. No conditions but those that each theorem states. -/
import Derived.Test.YtfhhofecfllbfaaGreatPkN
import Derived.Test.YtfhhofecfllbfaaGreatPkA

namespace Go.Proofs.YtfhhofecfllbfaaGreat
open Go.RowKit

/-- 1 where interval i covers interval j. -/
def cvN (f l : List Quad) (i j : Nat) : Int := if covB f (nth4 l i) (nth4 l j) = true then 1 else 0
/-- The table when rows before k and the first m entries of row k have been told. -/
def cvT (f l : List Quad) (k m i j : Nat) : Int := if i < k ∨ (i = k ∧ j < m) then cvN f l i j else 0
theorem cvT_zero (f l : List Quad) (i j : Nat) : cvT f l 0 0 i j = 0 := by unfold cvT; rw [if_neg (by omega)]
theorem cvT_row {f l : List Quad} {k n : Nat} (i j : Nat) (hj : j < n) : cvT f l k n i j = cvT f l (k + 1) 0 i j := by
  unfold cvT
  by_cases h : i < k ∨ (i = k ∧ j < n)
  · rw [if_pos h, if_pos (by omega)]
  · rw [if_neg h, if_neg (by omega)]
theorem cvT_yes {f l : List Quad} {k m : Nat} (h : covB f (nth4 l k) (nth4 l m) = true) (i j : Nat) : upd (cvT f l k m) k m 1 i j = cvT f l k (m + 1) i j := by
  unfold upd cvT
  by_cases e : i = k ∧ j = m
  · rw [if_pos e, if_pos (by omega), e.1, e.2]; unfold cvN; rw [if_pos h]
  · rw [if_neg e]
    by_cases h2 : i < k ∨ (i = k ∧ j < m)
    · rw [if_pos h2, if_pos (by omega)]
    · rw [if_neg h2, if_neg (by omega)]
theorem cvT_no {f l : List Quad} {k m : Nat} (h : covB f (nth4 l k) (nth4 l m) = false) (i j : Nat) : cvT f l k m i j = cvT f l k (m + 1) i j := by
  unfold cvT
  by_cases e : i = k ∧ j = m
  · rw [if_neg (by omega), if_pos (by omega), e.1, e.2]; unfold cvN; rw [h]; rfl
  · by_cases h2 : i < k ∨ (i = k ∧ j < m)
    · rw [if_pos h2, if_pos (by omega)]
    · rw [if_neg h2, if_neg (by omega)]
theorem cvT_all {f l : List Quad} {n : Nat} (i j : Nat) (hi : i < n) : cvT f l n 0 i j = cvN f l i j := by unfold cvT; rw [if_pos (by omega)]
def cg_v (f l : List Quad) : List (List Int) × Bool := if ckK f l l.length = true then (tab l.length l.length (cvN f l), true) else ([], false)
def CoverGraph_v (f l : List Quad) : List (List Int) × Bool := if mapB f = true ∧ ivsB l = true then cg_v f l else ([], false)
theorem CoverGraph_len (f l : List Quad) : szIntSS (CoverGraph_v f l).1 ≤ 1099511627776 := by
  unfold CoverGraph_v cg_v
  split
  · rename_i h
    have h1 := (ivsB_true h.2).1
    split
    · show szIntSS (tab l.length l.length (cvN f l)) ≤ _
      rw [sz_tab]
      have : l.length * l.length ≤ 8 * 8 := Nat.mul_le_mul h1.2 h1.2
      omega
    · exact Nat.zero_le _
  · exact Nat.zero_le _
/-- Is a result too large, m entries into row k? -/
def cgB (f l : List Quad) (k m : Nat) : Bool := if m = 0 then !(ckK f l k) else !(ckK f l (k + 1))
theorem cgB_zero (f l : List Quad) (k : Nat) : cgB f l k 0 = !(ckK f l k) := rfl
theorem cgB_step (f l : List Quad) (k m : Nat) : (cgB f l k m || !(imgOk f (nth4 l k).1 (nth4 l k).2)) = cgB f l k (m + 1) := by
  have e : cgB f l k (m + 1) = !(ckK f l (k + 1)) := if_neg (Nat.succ_ne_zero m)
  rw [e, ckK_step]
  unfold cgB
  rw [ckK_step]
  split <;> cases ckK f l k <;> cases imgOk f (nth4 l k).1 (nth4 l k).2 <;> rfl
theorem cgB_end {f l : List Quad} {k n : Nat} (h : 0 < n) : cgB f l k n = !(ckK f l (k + 1)) := by unfold cgB; rw [if_neg (by omega)]

theorem MatT.keptC {w w' : World} {B E g n cap m c : Nat} {rb rc : Nat → Nat} {f : Nat → Nat → Int} (h : MatT w B E g n cap m rb rc f) (hg : w.grownBy w' (some c)) (hlt : c < B) : MatT w' B E g n cap m rb rc f :=
  ⟨World.ownsRow.kept h.outer hg (.inr (fun e => by have := (World.ownsRow.lt h.outer c e).1; omega)), fun i hi => (h.rows i hi).kept hg (fun e => by have := (h.rows i hi).lt.1; have := Option.some.inj e; omega), h.inj, h.top⟩
theorem BoxQ.set {w : World} {b c o : Nat} {q : Quad} (h : BoxQ w b q) (hne : c ≠ b) (u : Value) : BoxQ (w.setCell ⟨c, o, none⟩ u) b q := h.grown (grownBy_setCell_some w c o u) (fun e => hne (Option.some.inj e))

set_option linter.unusedSimpArgs false in
set_option maxRecDepth 10000 in
set_option maxHeartbeats 4000000 in
theorem coverGraph_in (v u : Value) (f l : List Quad) (w : World) (hv : QuadV w v f) (hu : QuadV w u l) (hf : MapP f) (hl : ivsB l = true)
    (c1 : ∀ w', Below w.heap.size w w' → Calls Tryz.prog 67 #[v] w' (Ret (.bool true) w'))
    (c2 : ∀ w', Below w.heap.size w w' → Calls Tryz.prog 82 #[u] w' (Ret (.bool true) w')) :
    Calls Tryz.prog 29 #[v, u] w (RetOB OwnSS (cg_v f l) w) := by
  obtain ⟨hl1, hl2⟩ := ivsB_true hl
  have cc := fun (k m : Nat) (g : Nat) (bd : Bool) (w' : World) (hB : Below w.heap.size w w') (hg : w.heap.size ≤ g) (h : k < l.length) (h2 : m < l.length) (hc : CalcAt w' g bd) =>
    covers_any g bd v f (nth4 l k) (nth4 l m) w w' hv hB hg hf (ivB_true (hl2 k h)).1 (ivB_true (hl2 k h)).2.1 (ivB_true (hl2 _ h2)).1 (ivB_true (hl2 _ h2)).2.1 hc
  have hgb := cgB_step f l
  have hg0 := cgB_zero f l
  have hge := fun k (h : 0 < l.length) => cgB_end (f := f) (l := l) (k := k) h
  have hk0 : ckK f l 0 = true := rfl
  have ht0 := cvT_zero f l
  have htr := fun k i j (h : j < l.length) => cvT_row (f := f) (l := l) (k := k) i j h
  have hty := fun k m h => cvT_yes (f := f) (l := l) (k := k) (m := m) h
  have htn := fun k m h => cvT_no (f := f) (l := l) (k := k) (m := m) h
  have hta := fun i j (h : i < l.length) => cvT_all (f := f) (l := l) (n := l.length) i j h
  have hV : cg_v f l = if ckK f l l.length = true then (tab l.length l.length (cvN f l), true) else ([], false) := rfl
  rw [hV]
  clear hV hl2 hl hf
  obtain ⟨n, hn⟩ : ∃ n, l.length = n := ⟨_, rfl⟩
  rw [hn] at cc hge htr hta hl1 ⊢
  generalize cvT f l = T at *
  generalize cvN f l = CN at *
  generalize cgB f l = GB at *
  generalize ckK f l = CK at *
  obtain ⟨OK, hOK⟩ : ∃ OK : Nat → Bool, ∀ k, imgOk f (nth4 l k).1 (nth4 l k).2 = OK k := ⟨_, fun _ => rfl⟩
  obtain ⟨CB, hCB⟩ : ∃ CB : Nat → Nat → Bool, ∀ k m, covB f (nth4 l k) (nth4 l m) = CB k m := ⟨_, fun _ _ => rfl⟩
  simp only [hOK, hCB] at cc hgb hty htn
  clear hOK hCB
  obtain ⟨V, hV⟩ : ∃ V, (if CK n = true then (tab n n CN, true) else ([], false)) = V := ⟨_, rfl⟩
  rw [hV]
  obtain ⟨ao, cap, rfl, _, _, H⟩ := hu.form
  rw [hn] at H c2 ⊢
  clear hu hv
  have cc' := Lib.hid cc
  have hgb' := Lib.hid hgb
  have hg0' := Lib.hid hg0
  have hge' := Lib.hid hge
  have hk0' := Lib.hid hk0
  have ht0' := Lib.hid ht0
  have htr' := Lib.hid htr
  have hty' := Lib.hid hty
  have htn' := Lib.hid htn
  have hta' := Lib.hid hta
  have hV' := Lib.hid hV
  have hn' := Lib.hid hn
  have H' := Lib.hid H
  have c1' := Lib.hid c1
  have c2' := Lib.hid c2
  clear cc hgb hg0 hge hk0 ht0 htr hty htn hta hV hn H c1 c2
  go_enter Tryz.func29, Tryz.ntmps29
  go_wp2_with fail
  refine (c1'.out _ (Below.refl _ _)).mono ?_
  rintro e w1 ⟨rfl, hB1⟩
  go_wp2_with fail
  refine (c2'.out _ hB1).mono ?_
  rintro e w2 ⟨rfl, hB2⟩
  have hb2 := hB1.trans (hB2.mono hB1.size)
  obtain ⟨wc, hwc⟩ : ∃ W, w2.alloc (.cells #[.bool false] 92) = W := ⟨_, rfl⟩
  have hBc : Below w2.heap.size w2 wc := by rw [← hwc]; exact (Below.refl _ _).alloc (Nat.le_refl _) _
  have hcA : CalcAt wc w2.heap.size false := by rw [← hwc]; refine ⟨?_, ?_⟩ <;> simp [go_sem]
  have hbc := hb2.trans (hBc.mono hb2.size)
  have hs2 := hb2.size
  have hsc : wc.heap.size = w2.heap.size + 1 := by rw [← hwc]; simp
  obtain ⟨g, hg⟩ : ∃ g, w2.heap.size = g := ⟨_, rfl⟩
  rw [hg] at hcA hs2 hsc
  clear hB1 hB2 hBc hb2
  have hwc' := Lib.hid hwc
  have hbc' := Lib.hid hbc
  have hcA' := Lib.hid hcA
  clear hwc hbc hcA
  go_wp2_with fail
  rw [hwc'.out]
  go_wp2_with fail
  refine (emptyGraph_any n _ (by omega) (by omega)).mono ?_
  rintro e w3 ⟨gg, gcap, rb, rc, rfl, hM, hB3⟩
  have hb3 := hbc'.out.trans (hB3.mono (by omega))
  have hc3 := hcA'.out.below hB3
  have hs3 := hB3.size
  rw [hsc] at hM
  have hM3 : MatT w3 (g + 1) w3.heap.size gg n gcap n rb rc (T 0 0) := hM.congr (fun i j _ _ => (ht0'.out i j).symm)
  obtain ⟨E, hE⟩ : ∃ E, w3.heap.size = E := ⟨_, rfl⟩
  rw [hE] at hM3 hs3
  clear hM hB3 hcA' hbc' hwc'
  have hrgE : ∀ j, g + 1 ≤ j → some g ≠ some j := fun j hj e => by have := Option.some.inj e; omega
  have hM3' := Lib.hid hM3
  have hb3' := Lib.hid hb3
  have hc3' := Lib.hid hc3
  have hrgE' := Lib.hid hrgE
  clear hM3 hb3 hc3 hrgE
  go_wp2
  go_loopw [25] (fun i wr => ∃ k : Nat, k ≤ n ∧ i = .int .i64 k ∧ Below w.heap.size w wr ∧ CalcAt wr g (!(CK k)) ∧ MatT wr (g + 1) E gg n gcap n rb rc (T k 0) ∧ E ≤ wr.heap.size) (fun i _ => n - (intOf i).toNat)
  case atStart => exact ⟨0, Nat.zero_le _, rfl, hb3'.out, by rw [hk0'.out]; exact hc3'.out, hM3'.out, by omega⟩
  case round =>
    obtain ⟨k, hk, rfl, hbr, hcr, hMr, hEr⟩ := hrel
    obtain ⟨wo, rfl⟩ : ∃ wo : World, wo = wr := ⟨_, rfl⟩
    clear hM3' hb3' hc3'
    by_cases hlt : k < n
    · obtain ⟨b, off, rfl, p0, p1, p2, p3⟩ := H'.out k hlt
      have hlb : ∀ {o : Nat} {x : Value}, w.cell? ⟨b, o, none⟩ = some x → b < w.heap.size := fun h => by have := World.block_lt_of_cell? w _ h; exact this
      have hbl := hlb p0
      clear hlb
      replace p0 := bkeep hbr p0
      replace p1 := bkeep hbr p1
      replace p2 := bkeep hbr p2
      replace p3 := bkeep hbr p3
      have cc1 := fun m g bd w' hB hg h2 hc => cc'.out k m g bd w' hB hg hlt h2 hc
      generalize nth4 l k = P at *
      obtain ⟨⟨a0, a1⟩, ⟨a2, a3⟩⟩ := P
      simp only at p0 p1 p2 p3 cc1
      obtain ⟨w4, hw4⟩ : ∃ W, wo.alloc (.cells #[.int .i64 a0, .int .i64 a1, .int .i64 a2, .int .i64 a3] 44) = W := ⟨_, rfl⟩
      have hB4 : Below wo.heap.size wo w4 := by rw [← hw4]; exact (Below.refl _ _).alloc (Nat.le_refl _) _
      have iQ : BoxQ w4 wo.heap.size ((a0, a1), (a2, a3)) := by rw [← hw4]; refine ⟨?_, ?_, ?_, ?_⟩ <;> simp [go_sem]
      have hb4 := hbr.trans (hB4.mono hbr.size)
      have hc4 : CalcAt w4 g (GB k 0) := by rw [hg0'.out]; exact hcr.below hB4
      have hM4 := hMr.below hB4 hEr
      have hs4 : w4.heap.size = wo.heap.size + 1 := by rw [← hw4]; simp
      obtain ⟨io, hio⟩ : ∃ io, wo.heap.size = io := ⟨_, rfl⟩
      rw [hio] at iQ hEr hs4
      clear hbr hcr hMr hB4
      have hw4' := Lib.hid hw4
      clear hw4
      have iQ' := Lib.hid iQ
      have hb4' := Lib.hid hb4
      have hc4' := Lib.hid hc4
      have hM4' := Lib.hid hM4
      have cc1' := Lib.hid cc1
      clear iQ hb4 hc4 hM4 cc1
      go_wp2
      rw [hw4'.out]
      clear p0 p1 p2 p3 hw4'
      go_loopw [32] (fun j wr => ∃ m : Nat, m ≤ n ∧ j = .int .i64 m ∧ Below w.heap.size w wr ∧ CalcAt wr g (GB k m) ∧ MatT wr (g + 1) E gg n gcap n rb rc (T k m) ∧ BoxQ wr io ((a0, a1), (a2, a3))) (fun j _ => n - (intOf j).toNat)
      case atStart => exact ⟨0, Nat.zero_le _, rfl, hb4'.out, hc4'.out, hM4'.out, iQ'.out⟩
      case round =>
        obtain ⟨m, hm, rfl, hbr, hcr, hMr, iQ⟩ := hrel
        obtain ⟨wi, rfl⟩ : ∃ wi : World, wi = wr := ⟨_, rfl⟩
        have hil := iQ.lt
        clear hb4' hc4' hM4' iQ'
        by_cases hlt2 : m < n
        · obtain ⟨_, _, e, q0, q1, q2, q3⟩ := H'.out m hlt2
          cases e
          replace q0 := bkeep hbr q0
          replace q1 := bkeep hbr q1
          replace q2 := bkeep hbr q2
          replace q3 := bkeep hbr q3
          have cc2 := fun bd w' hB hc => cc1'.out m g bd w' hB hs2 hlt2 hc
          have hgb1 := hgb'.out k m
          have hty1 := hty'.out k m
          have htn1 := htn'.out k m
          generalize nth4 l m = Q at *
          generalize CB k m = cb at *
          generalize OK k = ok at *
          obtain ⟨⟨b0, b1⟩, ⟨b2, b3⟩⟩ := Q
          simp only at q0 q1 q2 q3 cc2
          obtain ⟨w5, hw5⟩ : ∃ W, wi.alloc (.cells #[.int .i64 b0, .int .i64 b1, .int .i64 b2, .int .i64 b3] 44) = W := ⟨_, rfl⟩
          have hB5 : Below wi.heap.size wi w5 := by rw [← hw5]; exact (Below.refl _ _).alloc (Nat.le_refl _) _
          have hb5 := hbr.trans (hB5.mono hbr.size)
          have hc5 := hcr.below hB5
          have hM5 := hMr.below hB5 (by omega)
          have iQ5 := iQ.below hB5
          have cc3 := cc2 _ w5 hb5 hc5
          obtain ⟨x0, x1, x2, x3⟩ := id iQ5
          rw [← hw5] at x0 x1 x2 x3
          simp only at x0 x1 x2 x3
          have hs5 : w5.heap.size = wi.heap.size + 1 := by rw [← hw5]; simp
          clear hbr hcr hMr iQ hB5 cc2
          rw [hgb1] at cc3
          have cc3' := Lib.hid cc3
          have hty1' := Lib.hid hty1
          have htn1' := Lib.hid htn1
          have hw5' := Lib.hid hw5
          have hM5' := Lib.hid hM5
          have iQ5' := Lib.hid iQ5
          have hb5' := Lib.hid hb5
          have hgb1' := Lib.hid hgb1
          clear cc3 hty1 htn1 hw5 hM5 iQ5 hb5 hgb1
          go_wp2_with fail
          rw [hw5'.out]
          clear x0 x1 x2 x3 q0 q1 q2 q3 hc5 hw5'
          go_wp2_with fail
          refine (cc3'.out).mono ?_
          rintro e w6 ⟨rfl, hg6, hc6⟩
          have hb6 : Below w.heap.size w w6 := hb5'.out.grown hg6 (by have := hb5'.out.size; omega) (fun j hj => by have := Option.some.inj hj; omega)
          have hM6 := hM5'.out.keptC hg6 (by omega)
          have iQ6 := iQ5'.out.grown hg6 (hrgE'.out io (by omega))
          clear hg6 hM5' iQ5' hb5'
          cases cb
          · have hM7 := hM6.congr (f' := T k (m + 1)) (fun i j _ _ => htn1'.out rfl i j)
            clear hM6
            have hM7' := Lib.hid hM7
            have hb6' := Lib.hid hb6
            have hc6' := Lib.hid hc6
            have iQ6' := Lib.hid iQ6
            clear hM7 hb6 hc6 iQ6
            go_wp2
            go_roundw
            case rel => exact ⟨m + 1, by omega, by go_num, hb6'.out, hc6'.out, hM7'.out, iQ6'.out⟩
            case measure => simp [intOf]; omega
          · have hp := hM6.ptr hlt
            have hce := hM6.cell hlt hlt2
            have hfr := hM6.frozen hlt m
            obtain ⟨hr1, hr2⟩ := hM6.block hlt
            have hM7 := (hM6.stored hlt m 1).congr (f' := T k (m + 1)) (fun i j _ _ => hty1'.out rfl i j)
            have hb7 := hb6.setCell (p := ⟨rb k, m, none⟩) (by show w.heap.size ≤ rb k; omega) (.int .i64 1)
            have hc7 := hc6.set (b := rb k) (o := m) (by omega) (.int .i64 1)
            have iQ7 := iQ6.set (c := rb k) (o := m) (by omega) (.int .i64 1)
            clear hM6 hb6 hc6 iQ6
            have hM7' := Lib.hid hM7
            have hb7' := Lib.hid hb7
            have hc7' := Lib.hid hc7
            have iQ7' := Lib.hid iQ7
            clear hM7 hb7 hc7 iQ7
            go_wp2
            go_roundw
            case rel => exact ⟨m + 1, by omega, by go_num, hb7'.out, hc7'.out, hM7'.out, iQ7'.out⟩
            case measure => simp [intOf]; omega
        · obtain rfl : m = n := by omega
          have hM7 := hMr.congr (f' := T (k + 1) 0) (fun i j _ hj => htr'.out k i j hj)
          have hc7 : CalcAt wi g (!(CK (k + 1))) := by rw [← hge'.out k (by omega)]; exact hcr
          clear hMr hcr iQ
          have hM7' := Lib.hid hM7
          have hc7' := Lib.hid hc7
          have hbr' := Lib.hid hbr
          clear hM7 hc7 hbr
          go_wp2
          go_roundw
          case rel => exact ⟨k + 1, by omega, by go_num, hbr'.out, hc7'.out, hM7'.out, by omega⟩
          case measure => simp [intOf]; omega
    · obtain rfl : k = n := by omega
      have hV := hV'.out
      have hp := hcr.cell
      have hown := (hMr.congr (f' := CN) (fun i j hi _ => hta'.out i j hi)).own
      generalize CK k = ck at *
      clear hcr hMr H'
      cases ck
      · rw [if_neg (by decide)] at hV
        subst hV
        have hbr' := Lib.hid hbr
        have hown' := Lib.hid hown
        clear hbr hown
        go_wp2
        go_ret2
        exact ⟨_, rfl, OwnSS.nil _ _ _, hbr'.out⟩
      · rw [if_pos rfl] at hV
        subst hV
        have hbr' := Lib.hid hbr
        have hown' := Lib.hid hown
        clear hbr hown
        go_wp2
        go_ret2
        exact ⟨_, rfl, hown'.out.mono (by omega) (by omega), hbr'.out⟩

end Go.Proofs.YtfhhofecfllbfaaGreat

namespace Go.Proofs.YtfhhofecfllbfaaGreat
open Go.RowKit

set_option linter.unusedSimpArgs false in
set_option maxRecDepth 10000 in
set_option maxHeartbeats 4000000 in
theorem specCoverGraph_in (v u : Value) (f l : List Quad) (w : World) (hv : QuadV w v f) (hu : QuadV w u l) (hf : MapP f) (hl : ivsB l = true)
    (c1 : ∀ w', Below w.heap.size w w' → Calls Tryz.prog 64 #[v] w' (Ret (.bool true) w'))
    (c2 : ∀ w', Below w.heap.size w w' → Calls Tryz.prog 84 #[u] w' (Ret (.bool true) w')) :
    Calls Tryz.prog 30 #[v, u] w (RetOB OwnSS (cg_v f l) w) := by
  obtain ⟨hl1, hl2⟩ := ivsB_true hl
  have cc := fun (k m : Nat) (w' : World) (hB : Below w.heap.size w w') (h : k < l.length) (h2 : m < l.length) =>
    ivCovers_any v f (nth4 l k) (nth4 l m) w' (hv.below hB) hf (ivB_true (hl2 k h)).1 (ivB_true (hl2 k h)).2.1 (ivB_true (hl2 _ h2)).1 (ivB_true (hl2 _ h2)).2.1
  have hR : ∀ k j, covR f (nth4 l k) (nth4 l j) = if imgOk f (nth4 l k).1 (nth4 l k).2 = true then (covB f (nth4 l k) (nth4 l j), true) else (false, false) := fun k j => rfl
  simp only [hR] at cc
  have hck := ckK_step f l
  have hk0 : ckK f l 0 = true := rfl
  have hno := fun k (h : k < l.length) hb => ckK_false (f := f) (l := l) h hb
  have hcn : ∀ i j, cvN f l i j = if covB f (nth4 l i) (nth4 l j) = true then 1 else 0 := fun i j => rfl
  have hV : cg_v f l = if ckK f l l.length = true then (tab l.length l.length (cvN f l), true) else ([], false) := rfl
  rw [hV]
  clear hV hl2 hl hf hR
  obtain ⟨n, hn⟩ : ∃ n, l.length = n := ⟨_, rfl⟩
  rw [hn] at cc hl1 hno ⊢
  generalize cvN f l = CN at *
  generalize ckK f l = CK at *
  obtain ⟨OK, hOK⟩ : ∃ OK : Nat → Bool, ∀ k, imgOk f (nth4 l k).1 (nth4 l k).2 = OK k := ⟨_, fun _ => rfl⟩
  obtain ⟨CB, hCB⟩ : ∃ CB : Nat → Nat → Bool, ∀ k m, covB f (nth4 l k) (nth4 l m) = CB k m := ⟨_, fun _ _ => rfl⟩
  simp only [hOK, hCB] at cc hck hno hcn
  clear hOK hCB
  obtain ⟨V, hV⟩ : ∃ V, (if CK n = true then (tab n n CN, true) else ([], false)) = V := ⟨_, rfl⟩
  rw [hV]
  obtain ⟨ao, cap, rfl, _, _, H⟩ := hu.form
  rw [hn] at H c2 ⊢
  clear hu hv
  have cc' := Lib.hid cc
  have hck' := Lib.hid hck
  have hk0' := Lib.hid hk0
  have hno' := Lib.hid hno
  have hcn' := Lib.hid hcn
  have hV' := Lib.hid hV
  have hn' := Lib.hid hn
  have H' := Lib.hid H
  have c1' := Lib.hid c1
  have c2' := Lib.hid c2
  clear cc hck hk0 hno hcn hV hn H c1 c2
  go_enter Tryz.func30, Tryz.ntmps30
  go_wp2_with fail
  refine (c1'.out _ (Below.refl _ _)).mono ?_
  rintro e w1 ⟨rfl, hB1⟩
  go_wp2_with fail
  refine (c2'.out _ hB1).mono ?_
  rintro e w2 ⟨rfl, hB2⟩
  have hb2 := hB1.trans (hB2.mono hB1.size)
  clear hB1 hB2 c1' c2'
  go_wp2
  go_loopw [6, 25] (fun o i wr => ∃ (k : Nat) (rb rc : Nat → Nat), k ≤ n ∧ i = .int .i64 k ∧ GrowT wr w.heap.size wr.heap.size o k n rb rc CN ∧ CK k = true ∧ Below w.heap.size w wr) (fun _ i _ => n - (intOf i).toNat)
  case atStart => exact ⟨0, fun _ => 0, fun _ => 0, Nat.zero_le _, rfl, GrowT.nil _ _ _ _ _ _ _, hk0'.out, hb2⟩
  case round =>
    obtain ⟨k, rb, rc, hk, rfl, hp, hkr, hbr⟩ := hrel
    clear hb2
    obtain ⟨wo, rfl⟩ : ∃ wo : World, wo = wr := ⟨_, rfl⟩
    by_cases hlt : k < n
    · obtain ⟨b, off, rfl, p0, p1, p2, p3⟩ := H'.out k hlt
      replace p0 := bkeep hbr p0
      replace p1 := bkeep hbr p1
      replace p2 := bkeep hbr p2
      replace p3 := bkeep hbr p3
      have cc1 := fun m w' hB h2 => cc'.out k m w' hB hlt h2
      have hck1 := hck'.out k
      rw [hkr, Bool.true_and] at hck1
      have hno1 := hno'.out k hlt
      generalize nth4 l k = P at *
      obtain ⟨⟨a0, a1⟩, ⟨a2, a3⟩⟩ := P
      simp only at p0 p1 p2 p3 cc1
      obtain ⟨w4, hw4⟩ : ∃ W, wo.alloc (.cells #[.int .i64 a0, .int .i64 a1, .int .i64 a2, .int .i64 a3] 44) = W := ⟨_, rfl⟩
      have hB4 : Below wo.heap.size wo w4 := by rw [← hw4]; exact (Below.refl _ _).alloc (Nat.le_refl _) _
      have iQ : BoxQ w4 wo.heap.size ((a0, a1), (a2, a3)) := by rw [← hw4]; refine ⟨?_, ?_, ?_, ?_⟩ <;> simp [go_sem]
      have hs4 : w4.heap.size = wo.heap.size + 1 := by rw [← hw4]; simp
      have hb4 := hbr.trans (hB4.mono hbr.size)
      have hso := hbr.size
      have hw4' := Lib.hid hw4
      clear hw4
      have hp' := Lib.hid hp
      have iQ' := Lib.hid iQ
      have hB4' := Lib.hid hB4
      have cc1' := Lib.hid cc1
      have hck1' := Lib.hid hck1
      have hno1' := Lib.hid hno1
      have hkr' := Lib.hid hkr
      have hs4' := Lib.hid hs4
      clear hp iQ hB4 cc1 hck1 hno1 hkr hs4
      go_wp2
      rw [hw4'.out]
      clear p0 p1 p2 p3 hw4'
      go_loopw [9, 31] (fun o j wr => ∃ m : Nat, m ≤ n ∧ j = .int .i64 m ∧ Grow wr w4.heap.size o (lst m (CN k)) ∧ Below w4.heap.size w4 wr ∧ (0 < m → OK k = true)) (fun _ j _ => n - (intOf j).toNat)
      case atStart => exact ⟨0, Nat.zero_le _, rfl, Grow.nil _ _, Below.refl _ _, fun h => absurd h (Nat.lt_irrefl 0)⟩
      case round =>
        obtain ⟨m, hm, rfl, hr, hB2, hok⟩ := hrel
        obtain ⟨wi, rfl⟩ : ∃ wi : World, wi = wr := ⟨_, rfl⟩
        have hbi := hb4.trans (hB2.mono hb4.size)
        have hsz := hB2.size
        by_cases hlt2 : m < n
        · obtain ⟨_, _, e, q0, q1, q2, q3⟩ := H'.out m hlt2
          cases e
          replace q0 := bkeep hbi q0
          replace q1 := bkeep hbi q1
          replace q2 := bkeep hbi q2
          replace q3 := bkeep hbi q3
          have cc2 := fun w' hB => cc1'.out m w' hB hlt2
          have hcn1 := hcn'.out k m
          generalize nth4 l m = Q at *
          generalize CB k m = cb at *
          obtain ⟨⟨b0, b1⟩, ⟨b2, b3⟩⟩ := Q
          simp only at q0 q1 q2 q3 cc2
          obtain ⟨w5, hw5⟩ : ∃ W, wi.alloc (.cells #[.int .i64 b0, .int .i64 b1, .int .i64 b2, .int .i64 b3] 44) = W := ⟨_, rfl⟩
          have hB5 : Below wi.heap.size wi w5 := by rw [← hw5]; exact (Below.refl _ _).alloc (Nat.le_refl _) _
          have hb5 := hbi.trans (hB5.mono hbi.size)
          have hr5 := hr.below hB5
          have hBw5 := hB2.trans (hB5.mono hsz)
          have cc3 := cc2 w5 hb5
          obtain ⟨x0, x1, x2, x3⟩ := (iQ'.out.below hB2).below hB5
          have hil := (iQ'.out.below hB2).lt
          rw [← hw5] at x0 x1 x2 x3
          simp only at x0 x1 x2 x3
          clear hr hB5 cc2 hbi hB2
          cases hOKk : OK k
          · rw [hOKk, if_neg (by decide)] at cc3
            have hV := hV'.out
            rw [if_neg (by rw [hno1'.out hOKk]; decide)] at hV
            subst hV
            clear hok
            have cc3' := Lib.hid cc3
            have hw5' := Lib.hid hw5
            have hr5' := Lib.hid hr5
            have hBw5' := Lib.hid hBw5
            have hb5' := Lib.hid hb5
            have hcn1' := Lib.hid hcn1
            have hOKk' := Lib.hid hOKk
            clear cc3 hw5 hr5 hBw5 hb5 hcn1 hOKk
            go_wp2_with fail
            rw [hw5'.out]
            clear x0 x1 x2 x3 q0 q1 q2 q3 hw5'
            go_wp2_with fail
            refine (cc3'.out).mono ?_
            rintro e w6 ⟨rfl, hB6⟩
            have hb6 := hb5'.out.trans (hB6.mono hb5'.out.size)
            go_wp2
            go_ret2
            exact ⟨_, rfl, OwnSS.nil _ _ _, hb6⟩
          · rw [hOKk, if_pos rfl] at cc3
            clear hok
            have cc3' := Lib.hid cc3
            have hw5' := Lib.hid hw5
            have hr5' := Lib.hid hr5
            have hBw5' := Lib.hid hBw5
            have hb5' := Lib.hid hb5
            have hcn1' := Lib.hid hcn1
            have hOKk' := Lib.hid hOKk
            clear cc3 hw5 hr5 hBw5 hb5 hcn1 hOKk
            go_wp2_with fail
            rw [hw5'.out]
            clear x0 x1 x2 x3 q0 q1 q2 q3 hw5'
            go_wp2_with fail
            refine (cc3'.out).mono ?_
            rintro e w6 ⟨rfl, hB6⟩
            have hr6 := hr5'.out.below hB6
            have hBw6 := hBw5'.out.trans (hB6.mono hBw5'.out.size)
            have hs6 := hBw6.size
            clear hB6 hr5' hBw5' hb5'
            cases cb
            · have hcn2 : CN k m = 0 := hcn1'.out
              go_wp2_with (at_builtin; refine wpList_append_int rfl _ _ rfl w4.heap.size u9 (lst m (CN k)) 0 _ rfl rfl hr6 (by rw [lst_len]; omega) hs6 ?_)
              intro v' w' hg' hgrow
              have hg2 : Grow w' w4.heap.size v' (lst (m + 1) (CN k)) := by rw [lst_succ, hcn2]; exact hg'
              have hB7 := hr6.belowB hBw6 (Nat.le_refl _) hs6 hgrow
              clear hr6 hg' hgrow hcn2
              have hg2' := Lib.hid hg2
              have hB7' := Lib.hid hB7
              clear hg2 hB7
              go_wp2
              go_roundw
              case rel => exact ⟨m + 1, by omega, by go_num, hg2'.out, hB7'.out, fun _ => by first | trivial | exact hOKk'.out⟩
              case measure => simp [intOf]; omega
            · have hcn2 : CN k m = 1 := hcn1'.out
              go_wp2_with (at_builtin; refine wpList_append_int rfl _ _ rfl w4.heap.size u9 (lst m (CN k)) 1 _ rfl rfl hr6 (by rw [lst_len]; omega) hs6 ?_)
              intro v' w' hg' hgrow
              have hg2 : Grow w' w4.heap.size v' (lst (m + 1) (CN k)) := by rw [lst_succ, hcn2]; exact hg'
              have hB7 := hr6.belowB hBw6 (Nat.le_refl _) hs6 hgrow
              clear hr6 hg' hgrow hcn2
              have hg2' := Lib.hid hg2
              have hB7' := Lib.hid hB7
              clear hg2 hB7
              go_wp2
              go_roundw
              case rel => exact ⟨m + 1, by omega, by go_num, hg2'.out, hB7'.out, fun _ => by first | trivial | exact hOKk'.out⟩
              case measure => simp [intOf]; omega
        · obtain rfl : m = n := by omega
          obtain ⟨r, c, rfl, hr1⟩ := hr.form (by rw [lst_len]; omega)
          rw [lst_len] at hr1 ⊢
          have hr2 := hr1.mono hb4.size
          have hr3 := hr1.lt.1
          have hs4 := hs4'.out
          have hp2 := (hp'.out.kept hB4'.out).kept (hB2.mono (by omega))
          have hs3 := hbi.size
          have hr4 : wo.heap.size ≤ r := by omega
          clear hs4
          have hck2 : CK (k + 1) = true := by rw [hck1'.out]; exact hok (by omega)
          clear hr hr1 hok hB2
          have hck2' := Lib.hid hck2
          clear hck2
          go_wp2_with (at_builtin; refine wpList_append_row rfl _ _ rfl w.heap.size wo.heap.size u6 k m r c _ _ _ _ _ rfl rfl hp2 hr2 hr4 (by omega) hs3 ?_)
          intro v' w3 hp3 hg3
          have hB4 : Below w.heap.size w w3 := hbi.grown hg3 hs3 (fun j hj => by have := (World.ownsRow.lt hp2.outer j hj).1; omega)
          have hp3' := Lib.hid hp3
          have hB4' := Lib.hid hB4
          clear hp3 hB4
          clear hg3 hp2 hr2 hbi
          go_wp2
          go_roundw
          case rel => exact ⟨k + 1, _, _, by omega, by go_num, (hp3'.out).congr (fun i j _ _ => by split <;> (try subst_vars) <;> rfl), hck2'.out, hB4'.out⟩
          case measure => simp [intOf]; omega
    · obtain rfl : k = n := by omega
      have hV := hV'.out
      rw [if_pos hkr] at hV
      subst hV
      obtain ⟨gg, gcap, rfl, hall⟩ := hp.form (by omega)
      have hown := hall.own
      clear hp hall hkr H'
      have hown' := Lib.hid hown
      have hbr' := Lib.hid hbr
      clear hown hbr
      go_wp2
      go_ret2
      exact ⟨_, rfl, hown'.out, hbr'.out⟩
theorem CoverGraph_yes {f l : List Quad} (h : mapB f = true ∧ ivsB l = true) : CoverGraph_v f l = cg_v f l := by unfold CoverGraph_v; rw [if_pos h]
theorem CoverGraph_no {f l : List Quad} (h : ¬ (mapB f = true ∧ ivsB l = true)) : CoverGraph_v f l = ([], false) := by unfold CoverGraph_v; rw [if_neg h]
theorem implCoverGraph_any (v : Value) (f : List Quad) (u : Value) (l : List Quad) (w : World) (hv : QuadV w v f) (hm : szPointS f ≤ 1099511627776) (hu : QuadV w u l) (hn : szIntervalS l ≤ 1099511627776) :
    Calls Tryz.prog 29 #[v, u] w (RetOB OwnSS (CoverGraph_v f l) w) := by
  have c1 := fun w' (hB : Below w.heap.size w w') => isMap_any v f w' (hv.below hB) hm
  have c2 := fun w' (hB : Below w.heap.size w w') => areIntervals_any u l w' (hu.below hB) hn
  by_cases h : mapB f = true ∧ ivsB l = true
  · rw [CoverGraph_yes h]
    rw [h.1] at c1
    rw [h.2] at c2
    exact coverGraph_in v u f l w hv hu (mapB_true h.1) h.2 c1 c2
  · rw [CoverGraph_no h]
    generalize mapB f = M at *
    generalize ivsB l = I at *
    clear hv hu
    have c1' := Lib.hid c1
    have c2' := Lib.hid c2
    have h' := Lib.hid h
    clear c1 c2 h
    cases M
    · go_enter Tryz.func29, Tryz.ntmps29
      go_wp2_with fail
      refine (c1'.out _ (Below.refl _ _)).mono ?_
      rintro e w1 ⟨rfl, hB1⟩
      go_wp2
      go_ret2
      exact ⟨_, rfl, OwnSS.nil _ _ _, hB1⟩
    · cases I
      · go_enter Tryz.func29, Tryz.ntmps29
        go_wp2_with fail
        refine (c1'.out _ (Below.refl _ _)).mono ?_
        rintro e w1 ⟨rfl, hB1⟩
        have hs1 := hB1.size
        go_wp2_with fail
        refine (c2'.out _ hB1).mono ?_
        rintro e w2 ⟨rfl, hB2⟩
        have hb2 := hB1.trans (hB2.mono hs1)
        go_wp2
        go_ret2
        exact ⟨_, rfl, OwnSS.nil _ _ _, hb2⟩
      · exact absurd ⟨rfl, rfl⟩ h'.out
theorem specCoverGraph_any (v : Value) (f : List Quad) (u : Value) (l : List Quad) (w : World) (hv : QuadV w v f) (hm : szPointS f ≤ 1099511627776) (hu : QuadV w u l) (hn : szIntervalS l ≤ 1099511627776) :
    Calls Tryz.prog 30 #[v, u] w (RetOB OwnSS (CoverGraph_v f l) w) := by
  have c1 := fun w' (hB : Below w.heap.size w w') => imGood_any v f w' (hv.below hB) hm
  have c2 := fun w' (hB : Below w.heap.size w w') => ivList_any u l w' (hu.below hB) hn
  by_cases h : mapB f = true ∧ ivsB l = true
  · rw [CoverGraph_yes h]
    rw [h.1] at c1
    rw [h.2] at c2
    exact specCoverGraph_in v u f l w hv hu (mapB_true h.1) h.2 c1 c2
  · rw [CoverGraph_no h]
    generalize mapB f = M at *
    generalize ivsB l = I at *
    clear hv hu
    have c1' := Lib.hid c1
    have c2' := Lib.hid c2
    have h' := Lib.hid h
    clear c1 c2 h
    cases M
    · go_enter Tryz.func30, Tryz.ntmps30
      go_wp2_with fail
      refine (c1'.out _ (Below.refl _ _)).mono ?_
      rintro e w1 ⟨rfl, hB1⟩
      go_wp2
      go_ret2
      exact ⟨_, rfl, OwnSS.nil _ _ _, hB1⟩
    · cases I
      · go_enter Tryz.func30, Tryz.ntmps30
        go_wp2_with fail
        refine (c1'.out _ (Below.refl _ _)).mono ?_
        rintro e w1 ⟨rfl, hB1⟩
        have hs1 := hB1.size
        go_wp2_with fail
        refine (c2'.out _ hB1).mono ?_
        rintro e w2 ⟨rfl, hB2⟩
        have hb2 := hB1.trans (hB2.mono hs1)
        go_wp2
        go_ret2
        exact ⟨_, rfl, OwnSS.nil _ _ _, hb2⟩
      · exact absurd ⟨rfl, rfl⟩ h'.out

end Go.Proofs.YtfhhofecfllbfaaGreat

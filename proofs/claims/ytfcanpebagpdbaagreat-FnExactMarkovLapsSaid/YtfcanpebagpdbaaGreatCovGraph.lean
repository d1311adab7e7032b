/- The graph of the coverings of intervals: the program's. No conditions. -/
import Derived.Test.YtfcanpebagpdbaaGreatChain
import Derived.Test.YtfcanpebagpdbaaGreatPkA
namespace Go.Proofs.YtfcanpebagpdbaaGreat
open Go.RowKit

/-- 1 where interval i covers interval j. -/
def cvN (f l : List Quad) (i j : Nat) : Int := if covB f (nth4 l i) (nth4 l j) = true then 1 else 0
/-- The table when rows before k and the first m entries of row k have been told. -/
def cvT (f l : List Quad) (k m i j : Nat) : Int := if i < k ∨ (i = k ∧ j < m) then cvN f l i j else 0
theorem cvT_zero (f l : List Quad) (i j : Nat) : cvT f l 0 0 i j = 0 := by unfold cvT; rw [if_neg (by omega)]
theorem cvT_row {f l : List Quad} {k n : Nat} (i j : Nat) (hj : j < n) : cvT f l k n i j = cvT f l (k + 1) 0 i j := by
  unfold cvT
  by_cases h : i < k ∨ (i = k ∧ j < n)
  · rw [if_pos h, if_pos (by omega)]
  · rw [if_neg h, if_neg (by omega)]
theorem cvT_yes {f l : List Quad} {k m : Nat} (h : covB f (nth4 l k) (nth4 l m) = true) (i j : Nat) : upd (cvT f l k m) k m 1 i j = cvT f l k (m + 1) i j := by
  unfold upd cvT
  by_cases e : i = k ∧ j = m
  · rw [if_pos e, if_pos (by omega), e.1, e.2]; unfold cvN; rw [if_pos h]
  · rw [if_neg e]
    by_cases h2 : i < k ∨ (i = k ∧ j < m)
    · rw [if_pos h2, if_pos (by omega)]
    · rw [if_neg h2, if_neg (by omega)]
theorem cvT_no {f l : List Quad} {k m : Nat} (h : covB f (nth4 l k) (nth4 l m) = false) (i j : Nat) : cvT f l k m i j = cvT f l k (m + 1) i j := by
  unfold cvT
  by_cases e : i = k ∧ j = m
  · rw [if_neg (by omega), if_pos (by omega), e.1, e.2]; unfold cvN; rw [h]; rfl
  · by_cases h2 : i < k ∨ (i = k ∧ j < m)
    · rw [if_pos h2, if_pos (by omega)]
    · rw [if_neg h2, if_neg (by omega)]
theorem cvT_all {f l : List Quad} {n : Nat} (i j : Nat) (hi : i < n) : cvT f l n 0 i j = cvN f l i j := by unfold cvT; rw [if_pos (by omega)]
def cg_v (f l : List Quad) : List (List Int) × Bool := if ckK f l l.length = true then (tab l.length l.length (cvN f l), true) else ([], false)
def CoverGraph_v (f l : List Quad) : List (List Int) × Bool := if mapB f = true ∧ ivsB l = true then cg_v f l else ([], false)
theorem CoverGraph_len (f l : List Quad) : szIntSS (CoverGraph_v f l).1 ≤ 1099511627776 := by
  unfold CoverGraph_v cg_v
  split
  · rename_i h
    have h1 := (ivsB_true h.2).1
    split
    · show szIntSS (tab l.length l.length (cvN f l)) ≤ _
      rw [sz_tab]
      have : l.length * l.length ≤ 8 * 8 := Nat.mul_le_mul h1.2 h1.2
      omega
    · exact Nat.zero_le _
  · exact Nat.zero_le _
/-- Is a result too large, m entries into row k? -/
def cgB (f l : List Quad) (k m : Nat) : Bool := if m = 0 then !(ckK f l k) else !(ckK f l (k + 1))
theorem cgB_zero (f l : List Quad) (k : Nat) : cgB f l k 0 = !(ckK f l k) := rfl
theorem cgB_step (f l : List Quad) (k m : Nat) : (cgB f l k m || !(imgOk f (nth4 l k).1 (nth4 l k).2)) = cgB f l k (m + 1) := by
  have e : cgB f l k (m + 1) = !(ckK f l (k + 1)) := if_neg (Nat.succ_ne_zero m)
  rw [e, ckK_step]
  unfold cgB
  rw [ckK_step]
  split <;> cases ckK f l k <;> cases imgOk f (nth4 l k).1 (nth4 l k).2 <;> rfl
theorem cgB_end {f l : List Quad} {k n : Nat} (h : 0 < n) : cgB f l k n = !(ckK f l (k + 1)) := by unfold cgB; rw [if_neg (by omega)]

theorem MatT.keptC {w w' : World} {B E g n cap m c : Nat} {rb rc : Nat → Nat} {f : Nat → Nat → Int} (h : MatT w B E g n cap m rb rc f) (hg : w.grownBy w' (some c)) (hlt : c < B) : MatT w' B E g n cap m rb rc f :=
  ⟨World.ownsRow.kept h.outer hg (.inr (fun e => by have := (World.ownsRow.lt h.outer c e).1; omega)), fun i hi => (h.rows i hi).kept hg (fun e => by have := (h.rows i hi).lt.1; have := Option.some.inj e; omega), h.inj, h.top⟩
theorem BoxQ.set {w : World} {b c o : Nat} {q : Quad} (h : BoxQ w b q) (hne : c ≠ b) (u : Value) : BoxQ (w.setCell ⟨c, o, none⟩ u) b q := h.grown (grownBy_setCell_some w c o u) (fun e => hne (Option.some.inj e))

set_option linter.unusedSimpArgs false in
set_option maxRecDepth 10000 in
set_option maxHeartbeats 4000000 in
theorem coverGraph_in (v u : Value) (f l : List Quad) (w : World) (hv : QuadV w v f) (hu : QuadV w u l) (hf : MapP f) (hl : ivsB l = true)
    (c1 : ∀ w', Below w.heap.size w w' → Calls Tryz.prog 46 #[v] w' (Ret (.bool true) w'))
    (c2 : ∀ w', Below w.heap.size w w' → Calls Tryz.prog 47 #[u] w' (Ret (.bool true) w')) :
    Calls Tryz.prog 25 #[v, u] w (RetOB OwnSS (cg_v f l) w) := by
  obtain ⟨hl1, hl2⟩ := ivsB_true hl
  have cc := fun (k m : Nat) (g : Nat) (bd : Bool) (w' : World) (hB : Below w.heap.size w w') (hg : w.heap.size ≤ g) (h : k < l.length) (h2 : m < l.length) (hc : CalcAt w' g bd) =>
    covers_any g bd v f (nth4 l k) (nth4 l m) w w' hv hB hg hf (ivB_true (hl2 k h)).1 (ivB_true (hl2 k h)).2.1 (ivB_true (hl2 _ h2)).1 (ivB_true (hl2 _ h2)).2.1 hc
  have hgb := cgB_step f l
  have hg0 := cgB_zero f l
  have hge := fun k (h : 0 < l.length) => cgB_end (f := f) (l := l) (k := k) h
  have hk0 : ckK f l 0 = true := rfl
  have ht0 := cvT_zero f l
  have htr := fun k i j (h : j < l.length) => cvT_row (f := f) (l := l) (k := k) i j h
  have hty := fun k m h => cvT_yes (f := f) (l := l) (k := k) (m := m) h
  have htn := fun k m h => cvT_no (f := f) (l := l) (k := k) (m := m) h
  have hta := fun i j (h : i < l.length) => cvT_all (f := f) (l := l) (n := l.length) i j h
  have hV : cg_v f l = if ckK f l l.length = true then (tab l.length l.length (cvN f l), true) else ([], false) := rfl
  rw [hV]
  clear hV hl2 hl hf
  obtain ⟨n, hn⟩ : ∃ n, l.length = n := ⟨_, rfl⟩
  rw [hn] at cc hge htr hta hl1 ⊢
  generalize cvT f l = T at *
  generalize cvN f l = CN at *
  generalize cgB f l = GB at *
  generalize ckK f l = CK at *
  obtain ⟨OK, hOK⟩ : ∃ OK : Nat → Bool, ∀ k, imgOk f (nth4 l k).1 (nth4 l k).2 = OK k := ⟨_, fun _ => rfl⟩
  obtain ⟨CB, hCB⟩ : ∃ CB : Nat → Nat → Bool, ∀ k m, covB f (nth4 l k) (nth4 l m) = CB k m := ⟨_, fun _ _ => rfl⟩
  simp only [hOK, hCB] at cc hgb hty htn
  clear hOK hCB
  obtain ⟨V, hV⟩ : ∃ V, (if CK n = true then (tab n n CN, true) else ([], false)) = V := ⟨_, rfl⟩
  rw [hV]
  obtain ⟨ao, cap, rfl, _, _, H⟩ := hu.form
  rw [hn] at H c2 ⊢
  clear hu hv
  have cc' := Lib.hid cc
  have hgb' := Lib.hid hgb
  have hg0' := Lib.hid hg0
  have hge' := Lib.hid hge
  have hk0' := Lib.hid hk0
  have ht0' := Lib.hid ht0
  have htr' := Lib.hid htr
  have hty' := Lib.hid hty
  have htn' := Lib.hid htn
  have hta' := Lib.hid hta
  have hV' := Lib.hid hV
  have hn' := Lib.hid hn
  have H' := Lib.hid H
  have c1' := Lib.hid c1
  have c2' := Lib.hid c2
  clear cc hgb hg0 hge hk0 ht0 htr hty htn hta hV hn H c1 c2
  go_enter Tryz.func25, Tryz.ntmps25
  go_wp2_with fail
  refine (c1'.out _ (Below.refl _ _)).mono ?_
  rintro e w1 ⟨rfl, hB1⟩
  go_wp2_with fail
  refine (c2'.out _ hB1).mono ?_
  rintro e w2 ⟨rfl, hB2⟩
  have hb2 := hB1.trans (hB2.mono hB1.size)
  obtain ⟨wc, hwc⟩ : ∃ W, w2.alloc (.cells #[.bool false] 75) = W := ⟨_, rfl⟩
  have hBc : Below w2.heap.size w2 wc := by rw [← hwc]; exact (Below.refl _ _).alloc (Nat.le_refl _) _
  have hcA : CalcAt wc w2.heap.size false := by rw [← hwc]; refine ⟨?_, ?_⟩ <;> simp [go_sem]
  have hbc := hb2.trans (hBc.mono hb2.size)
  have hs2 := hb2.size
  have hsc : wc.heap.size = w2.heap.size + 1 := by rw [← hwc]; simp
  obtain ⟨g, hg⟩ : ∃ g, w2.heap.size = g := ⟨_, rfl⟩
  rw [hg] at hcA hs2 hsc
  clear hB1 hB2 hBc hb2
  have hwc' := Lib.hid hwc
  have hbc' := Lib.hid hbc
  have hcA' := Lib.hid hcA
  clear hwc hbc hcA
  go_wp2_with fail
  rw [hwc'.out]
  go_wp2_with fail
  refine (emptyGraph_any n _ (by omega) (by omega)).mono ?_
  rintro e w3 ⟨gg, gcap, rb, rc, rfl, hM, hB3⟩
  have hb3 := hbc'.out.trans (hB3.mono (by omega))
  have hc3 := hcA'.out.below hB3
  have hs3 := hB3.size
  rw [hsc] at hM
  have hM3 : MatT w3 (g + 1) w3.heap.size gg n gcap n rb rc (T 0 0) := hM.congr (fun i j _ _ => (ht0'.out i j).symm)
  obtain ⟨E, hE⟩ : ∃ E, w3.heap.size = E := ⟨_, rfl⟩
  rw [hE] at hM3 hs3
  clear hM hB3 hcA' hbc' hwc'
  have hrgE : ∀ j, g + 1 ≤ j → some g ≠ some j := fun j hj e => by have := Option.some.inj e; omega
  have hM3' := Lib.hid hM3
  have hb3' := Lib.hid hb3
  have hc3' := Lib.hid hc3
  have hrgE' := Lib.hid hrgE
  clear hM3 hb3 hc3 hrgE
  go_wp2
  go_loopw [25] (fun i wr => ∃ k : Nat, k ≤ n ∧ i = .int .i64 k ∧ Below w.heap.size w wr ∧ CalcAt wr g (!(CK k)) ∧ MatT wr (g + 1) E gg n gcap n rb rc (T k 0) ∧ E ≤ wr.heap.size) (fun i _ => n - (intOf i).toNat)
  case atStart => exact ⟨0, Nat.zero_le _, rfl, hb3'.out, by rw [hk0'.out]; exact hc3'.out, hM3'.out, by omega⟩
  case round =>
    obtain ⟨k, hk, rfl, hbr, hcr, hMr, hEr⟩ := hrel
    obtain ⟨wo, rfl⟩ : ∃ wo : World, wo = wr := ⟨_, rfl⟩
    clear hM3' hb3' hc3'
    by_cases hlt : k < n
    · obtain ⟨b, off, rfl, p0, p1, p2, p3⟩ := H'.out k hlt
      have hlb : ∀ {o : Nat} {x : Value}, w.cell? ⟨b, o, none⟩ = some x → b < w.heap.size := fun h => by have := World.block_lt_of_cell? w _ h; exact this
      have hbl := hlb p0
      clear hlb
      replace p0 := bkeep hbr p0
      replace p1 := bkeep hbr p1
      replace p2 := bkeep hbr p2
      replace p3 := bkeep hbr p3
      have cc1 := fun m g bd w' hB hg h2 hc => cc'.out k m g bd w' hB hg hlt h2 hc
      generalize nth4 l k = P at *
      obtain ⟨⟨a0, a1⟩, ⟨a2, a3⟩⟩ := P
      simp only at p0 p1 p2 p3 cc1
      obtain ⟨w4, hw4⟩ : ∃ W, wo.alloc (.cells #[.int .i64 a0, .int .i64 a1, .int .i64 a2, .int .i64 a3] 78) = W := ⟨_, rfl⟩
      have hB4 : Below wo.heap.size wo w4 := by rw [← hw4]; exact (Below.refl _ _).alloc (Nat.le_refl _) _
      have iQ : BoxQ w4 wo.heap.size ((a0, a1), (a2, a3)) := by rw [← hw4]; refine ⟨?_, ?_, ?_, ?_⟩ <;> simp [go_sem]
      have hb4 := hbr.trans (hB4.mono hbr.size)
      have hc4 : CalcAt w4 g (GB k 0) := by rw [hg0'.out]; exact hcr.below hB4
      have hM4 := hMr.below hB4 hEr
      have hs4 : w4.heap.size = wo.heap.size + 1 := by rw [← hw4]; simp
      obtain ⟨io, hio⟩ : ∃ io, wo.heap.size = io := ⟨_, rfl⟩
      rw [hio] at iQ hEr hs4
      clear hbr hcr hMr hB4
      have hw4' := Lib.hid hw4
      clear hw4
      have iQ' := Lib.hid iQ
      have hb4' := Lib.hid hb4
      have hc4' := Lib.hid hc4
      have hM4' := Lib.hid hM4
      have cc1' := Lib.hid cc1
      clear iQ hb4 hc4 hM4 cc1
      go_wp2
      rw [hw4'.out]
      clear p0 p1 p2 p3 hw4'
      go_loopw [32] (fun j wr => ∃ m : Nat, m ≤ n ∧ j = .int .i64 m ∧ Below w.heap.size w wr ∧ CalcAt wr g (GB k m) ∧ MatT wr (g + 1) E gg n gcap n rb rc (T k m) ∧ BoxQ wr io ((a0, a1), (a2, a3))) (fun j _ => n - (intOf j).toNat)
      case atStart => exact ⟨0, Nat.zero_le _, rfl, hb4'.out, hc4'.out, hM4'.out, iQ'.out⟩
      case round =>
        obtain ⟨m, hm, rfl, hbr, hcr, hMr, iQ⟩ := hrel
        obtain ⟨wi, rfl⟩ : ∃ wi : World, wi = wr := ⟨_, rfl⟩
        have hil := iQ.lt
        clear hb4' hc4' hM4' iQ'
        by_cases hlt2 : m < n
        · obtain ⟨_, _, e, q0, q1, q2, q3⟩ := H'.out m hlt2
          cases e
          replace q0 := bkeep hbr q0
          replace q1 := bkeep hbr q1
          replace q2 := bkeep hbr q2
          replace q3 := bkeep hbr q3
          have cc2 := fun bd w' hB hc => cc1'.out m g bd w' hB hs2 hlt2 hc
          have hgb1 := hgb'.out k m
          have hty1 := hty'.out k m
          have htn1 := htn'.out k m
          generalize nth4 l m = Q at *
          generalize CB k m = cb at *
          generalize OK k = ok at *
          obtain ⟨⟨b0, b1⟩, ⟨b2, b3⟩⟩ := Q
          simp only at q0 q1 q2 q3 cc2
          obtain ⟨w5, hw5⟩ : ∃ W, wi.alloc (.cells #[.int .i64 b0, .int .i64 b1, .int .i64 b2, .int .i64 b3] 78) = W := ⟨_, rfl⟩
          have hB5 : Below wi.heap.size wi w5 := by rw [← hw5]; exact (Below.refl _ _).alloc (Nat.le_refl _) _
          have hb5 := hbr.trans (hB5.mono hbr.size)
          have hc5 := hcr.below hB5
          have hM5 := hMr.below hB5 (by omega)
          have iQ5 := iQ.below hB5
          have cc3 := cc2 _ w5 hb5 hc5
          obtain ⟨x0, x1, x2, x3⟩ := id iQ5
          rw [← hw5] at x0 x1 x2 x3
          simp only at x0 x1 x2 x3
          have hs5 : w5.heap.size = wi.heap.size + 1 := by rw [← hw5]; simp
          clear hbr hcr hMr iQ hB5 cc2
          rw [hgb1] at cc3
          have cc3' := Lib.hid cc3
          have hty1' := Lib.hid hty1
          have htn1' := Lib.hid htn1
          have hw5' := Lib.hid hw5
          have hM5' := Lib.hid hM5
          have iQ5' := Lib.hid iQ5
          have hb5' := Lib.hid hb5
          have hgb1' := Lib.hid hgb1
          clear cc3 hty1 htn1 hw5 hM5 iQ5 hb5 hgb1
          go_wp2_with fail
          rw [hw5'.out]
          clear x0 x1 x2 x3 q0 q1 q2 q3 hc5 hw5'
          go_wp2_with fail
          refine (cc3'.out).mono ?_
          rintro e w6 ⟨rfl, hg6, hc6⟩
          have hb6 : Below w.heap.size w w6 := hb5'.out.grown hg6 (by have := hb5'.out.size; omega) (fun j hj => by have := Option.some.inj hj; omega)
          have hM6 := hM5'.out.keptC hg6 (by omega)
          have iQ6 := iQ5'.out.grown hg6 (hrgE'.out io (by omega))
          clear hg6 hM5' iQ5' hb5'
          cases cb
          · have hM7 := hM6.congr (f' := T k (m + 1)) (fun i j _ _ => htn1'.out rfl i j)
            clear hM6
            have hM7' := Lib.hid hM7
            have hb6' := Lib.hid hb6
            have hc6' := Lib.hid hc6
            have iQ6' := Lib.hid iQ6
            clear hM7 hb6 hc6 iQ6
            go_wp2
            go_roundw
            case rel => exact ⟨m + 1, by omega, by go_num, hb6'.out, hc6'.out, hM7'.out, iQ6'.out⟩
            case measure => simp [intOf]; omega
          · have hp := hM6.ptr hlt
            have hce := hM6.cell hlt hlt2
            have hfr := hM6.frozen hlt m
            obtain ⟨hr1, hr2⟩ := hM6.block hlt
            have hM7 := (hM6.stored hlt m 1).congr (f' := T k (m + 1)) (fun i j _ _ => hty1'.out rfl i j)
            have hb7 := hb6.setCell (p := ⟨rb k, m, none⟩) (by show w.heap.size ≤ rb k; omega) (.int .i64 1)
            have hc7 := hc6.set (b := rb k) (o := m) (by omega) (.int .i64 1)
            have iQ7 := iQ6.set (c := rb k) (o := m) (by omega) (.int .i64 1)
            clear hM6 hb6 hc6 iQ6
            have hM7' := Lib.hid hM7
            have hb7' := Lib.hid hb7
            have hc7' := Lib.hid hc7
            have iQ7' := Lib.hid iQ7
            clear hM7 hb7 hc7 iQ7
            go_wp2
            go_roundw
            case rel => exact ⟨m + 1, by omega, by go_num, hb7'.out, hc7'.out, hM7'.out, iQ7'.out⟩
            case measure => simp [intOf]; omega
        · obtain rfl : m = n := by omega
          have hM7 := hMr.congr (f' := T (k + 1) 0) (fun i j _ hj => htr'.out k i j hj)
          have hc7 : CalcAt wi g (!(CK (k + 1))) := by rw [← hge'.out k (by omega)]; exact hcr
          clear hMr hcr iQ
          have hM7' := Lib.hid hM7
          have hc7' := Lib.hid hc7
          have hbr' := Lib.hid hbr
          clear hM7 hc7 hbr
          go_wp2
          go_roundw
          case rel => exact ⟨k + 1, by omega, by go_num, hbr'.out, hc7'.out, hM7'.out, by omega⟩
          case measure => simp [intOf]; omega
    · obtain rfl : k = n := by omega
      have hV := hV'.out
      have hp := hcr.cell
      have hown := (hMr.congr (f' := CN) (fun i j hi _ => hta'.out i j hi)).own
      generalize CK k = ck at *
      clear hcr hMr H'
      cases ck
      · rw [if_neg (by decide)] at hV
        subst hV
        have hbr' := Lib.hid hbr
        have hown' := Lib.hid hown
        clear hbr hown
        go_wp2
        go_ret2
        exact ⟨_, rfl, OwnSS.nil _ _ _, hbr'.out⟩
      · rw [if_pos rfl] at hV
        subst hV
        have hbr' := Lib.hid hbr
        have hown' := Lib.hid hown
        clear hbr hown
        go_wp2
        go_ret2
        exact ⟨_, rfl, hown'.out.mono (by omega) (by omega), hbr'.out⟩

end Go.Proofs.YtfcanpebagpdbaaGreat

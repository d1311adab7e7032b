/- Several texts in one: Asked Markov RefVal MarkovS RefS RefI. No conditions but those that each theorem states. -/
import Derived.Test.YtfhhofecfllbfaaGreatPkE
import Derived.Test.YtfhhofecfllbfaaGreatPkH
import Derived.Test.YtfhhofecfllbfaaGreatPkL
import Derived.Test.YtfhhofecfllbfaaGreatPkR
import Derived.Test.YtfhhofecfllbfaaGreatRefLaw
import Derived.Test.YtfhhofecfllbfaaGreatPkI
import Derived.Test.YtfhhofecfllbfaaGreatPkJ
import Derived.Deep.Cut
import Derived.Deep.CutRange
import Derived.Deep.CutBlock
namespace Go.Proofs.YtfhhofecfllbfaaGreat
open Go.RowKit
def startL (f : List Quad) (lin : Bool) : List (Int × Int) := if lin = true then xsL (smL f) else tuL f
theorem startL_len {f : List Quad} (hf : MapP f) (lin : Bool) : (startL f lin).length ≤ 1048576 := by
 have hl := hf.len
 unfold startL
 split
 ·rw [xsL_len]
  unfold smL
  rw [List.length_append]
  have := smK_len f (f.length - 2)
  simp
  omega
 ·unfold tuL
  rw [tuK_len]
  have := lpc_le (sgS f) (f.length - 1)
  omega
theorem plcR_neg (xs : List (Int × Int)) (y : Int × Int) : decide (plcR xs y < 0) = !(hasR xs y) := by
 have e : decide (plcR xs y ≥ 0) = hasR xs y := idxQ_geq _ _
 rw [← e, ← decide_not]
 simp
theorem mem_smK {f : List Quad} {j K : Nat} (h0 : 0 < j) (hj : j ≤ K) (hne : srF f (j - 1) ≠ srF f j) : nth4 f j ∈ smK f K := by
 induction K with
 | zero => omega
 | succ K ih =>
   by_cases e : j = K + 1
   ·subst e
    rw [smK_new (by rw [Nat.add_sub_cancel] at hne; exact hne)]
    exact List.mem_append.2 (.inr (List.mem_singleton.2 rfl))
   ·have := ih (by omega)
    by_cases h : srF f K = srF f (K + 1)
    ·rw [smK_same h]; exact this
    ·rw [smK_new h]; exact List.mem_append.2 (.inl this)
theorem tu_sub {f : List Quad} {x : Int × Int} (h : x ∈ tuL f) : x ∈ xsL (smL f) := by
 obtain ⟨k, hk, hk2, hne, rfl⟩ := mem_tuL.1 h
 have : nth4 f k ∈ smK f (f.length - 2) := mem_smK hk (by omega) (fun e => hne (by
  have e1 : srF f (k - 1) = slopeR (nth4 f (k - 1)) (nth4 f (k - 1 + 1)) := rfl
  have e2 : srF f k = slopeR (nth4 f k) (nth4 f (k + 1)) := rfl
  unfold sgS
  rw [← e1, ← e2, e]))
 unfold xsL smL
 exact List.mem_map.2 ⟨_, List.mem_append.2 (.inl this), rfl⟩
theorem smK_mem {f : List Quad} : ∀ (k : Nat) (y : Quad), y ∈ smK f k → ∃ i, i ≤ k ∧ y = nth4 f i := by
 intro k
 induction k with
 | zero => intro y hy; exact ⟨0, Nat.le_refl _, by simpa [smK] using hy⟩
 | succ k ih =>
   intro y hy
   by_cases h : srF f k = srF f (k + 1)
   ·rw [smK_same h] at hy
    obtain ⟨i, hi, e⟩ := ih y hy
    exact ⟨i, by omega, e⟩
   ·rw [smK_new h] at hy
    rcases List.mem_append.1 hy with q | q
    ·obtain ⟨i, hi, e⟩ := ih y q
     exact ⟨i, by omega, e⟩
    ·exact ⟨k + 1, Nat.le_refl _, by simpa using q⟩
theorem start_unit {f : List Quad} (hf : MapP f) (lin : Bool) : ∀ x, x ∈ startL f lin → unitR x.1 x.2 = true := by
 have hl := hf.len
 have h1 : ∀ x, x ∈ xsL (smL f) → unitR x.1 x.2 = true := fun x hx => by
  unfold xsL at hx
  obtain ⟨y, hy, rfl⟩ := List.mem_map.1 hx
  unfold smL at hy
  have : ∃ i, i < f.length ∧ y = nth4 f i := by
   rcases List.mem_append.1 hy with q | q
   ·obtain ⟨i, hi, e⟩ := smK_mem _ _ q
    exact ⟨i, by omega, e⟩
   ·exact ⟨f.length - 1, by omega, by simpa using q⟩
  obtain ⟨i, hi, rfl⟩ := this
  exact coordR_unit (hf.coord i hi).1
 cases lin
 ·exact fun x hx => h1 x (tu_sub hx)
 ·exact h1
def refS (f : List Quad) (lin : Bool) : List (Int × Int) := (0, 1) :: (1, 1) :: startL f lin
def ref0 (f : List Quad) (lin : Bool) : List (Int × Int) := mergeL [(0, 1)] ((1, 1) :: startL f lin)
theorem ref0_inv {f : List Quad} {lin : Bool} (hu : ∀ x, x ∈ startL f lin → unitR x.1 x.2 = true) : InvD (atOk f) (atZ f) (refS f lin) (ref0 f lin) ∧ ∀ y, y ∈ ref0 f lin → unitR y.1 y.2 = true := by
 have hg : ∀ y, y ∈ (1, 1) :: startL f lin → goodR y.1 y.2 = true := fun y hy => by
  rcases List.mem_cons.1 hy with e | e
  ·subst e; decide
  ·exact (unitR_qv.1 (hu y e)).1
 obtain ⟨h1, h2⟩ := merge_rise ((1, 1) :: startL f lin) (xs := [(0, 1)]) (List.pairwise_singleton _ _) (fun y hy => by
  obtain rfl : y = (0, 1) := by simpa using hy
  decide) hg
 have hm : ∀ y, y ∈ ref0 f lin ↔ y ∈ refS f lin := fun y => by
  rw [ref0, h2 y, refS]; simp
 refine ⟨⟨h1, fun x hx => (hm x).2 hx, fun D hD x hx => hD.1 x ((hm x).1 hx)⟩, fun y hy => ?_⟩
 have hy2 := (hm y).1 hy
 rcases List.mem_cons.1 hy2 with e | hy2
 ·subst e; decide
 ·rcases List.mem_cons.1 hy2 with e | hy2
  ·subst e; decide
  ·exact hu y hy2
def InvX (f : List Quad) (lin : Bool) (X : List (Int × Int)) : Prop := InvD (atOk f) (atZ f) (refS f lin) X ∧ (∀ y, y ∈ X → unitR y.1 y.2 = true) ∧ X.length ≤ 1048600
def EndX (f : List Quad) (lin : Bool) (r : List (Int × Int) × Bool) : Prop := EndD (atOk f) (atZ f) (refS f lin) r
theorem hasR_iff {X : List (Int × Int)} {y : Int × Int} : hasR X y = true ↔ y ∈ X := by
 unfold hasR
 rw [List.any_eq_true]
 constructor
 ·rintro ⟨z, hz, e⟩
  rw [← of_decide_eq_true e]; exact hz
 ·intro h; exact ⟨y, h, by simp⟩
theorem nthR_in {X : List (Int × Int)} {i : Nat} (h : i < X.length) : nthR X i ∈ X := by rw [nthR_eq h]; exact List.getElem_mem h
theorem InvX.start {f : List Quad} (hf : MapP f) (lin : Bool) : InvX f lin (ref0 f lin) := by
 obtain ⟨h1, h2⟩ := ref0_inv (start_unit hf lin)
 refine ⟨h1, h2, ?_⟩
 have h3 := (mergeL_len ((1, 1) :: startL f lin) [(0, 1)]).2
 have h4 := startL_len hf lin
 unfold ref0
 simp only [List.length_cons, List.length_nil] at h3
 omega
theorem InvX.parts {f : List Quad} {lin : Bool} {X : List (Int × Int)} (h : InvX f lin X) : 0 < X.length ∧ X.length ≤ 1048600 ∧ ∀ i, i < X.length → unitR (nthR X i).1 (nthR X i).2 = true :=
 ⟨List.length_pos_of_mem (h.1.2.1 (0, 1) (List.mem_cons_self ..)), h.2.2, fun _ hi => h.2.1 _ (nthR_in hi)⟩
theorem InvX.step {f : List Quad} {lin : Bool} {X : List (Int × Int)} (hf : MapP f) (h : InvX f lin X) {i : Nat} (hi : i < X.length) (h9 : X.length ≤ 9) (ho : atOk f (nthR X i) = true) (hn : hasR X (atZ f (nthR X i)) = false) :
  InvX f lin (putR X (atZ f (nthR X i))) ∧ (putR X (atZ f (nthR X i))).length = X.length + 1 := by
 have hg : ∀ y, y ∈ X → goodR y.1 y.2 = true := fun y hy => (unitR_qv.1 (h.2.1 y hy)).1
 have hl : (putR X (atZ f (nthR X i))).length = X.length + 1 := putR_more (fun q => by rw [hasR_iff.2 q] at hn; cases hn)
 refine ⟨⟨inv_put h.1 hg (nthR_in hi) (atZ_good f _), fun y hy => ?_, by omega⟩, hl⟩
 rcases ((putR_rise h.1.1 hg (atZ_good f _)).2 y).1 hy with e | e
 ·exact h.2.1 y e
 ·rw [e]; exact at_unit hf (h.2.1 _ (nthR_in hi)) ho
theorem InvX.bad {f : List Quad} {lin : Bool} {X : List (Int × Int)} (h : InvX f lin X) {i : Nat} (hi : i < X.length) (ho : atOk f (nthR X i) = false) : EndX f lin ([], false) := .inl ⟨rfl, inv_bad h.1 (nthR_in hi) ho⟩
theorem InvX.big {f : List Quad} {lin : Bool} {X : List (Int × Int)} (h : InvX f lin X) (h9 : 9 < X.length) : EndX f lin ([], false) := .inl ⟨rfl, inv_big h.1 h9⟩
theorem InvX.done {f : List Quad} {lin : Bool} {X : List (Int × Int)} (h : InvX f lin X) (h9 : X.length ≤ 9) (ha : ∀ i, i < X.length → atOk f (nthR X i) = true ∧ hasR X (atZ f (nthR X i)) = true) : EndX f lin (X, true) := by
 refine .inr ⟨rfl, h.1, h9, fun x hx => ?_⟩
 obtain ⟨i, hi, rfl⟩ := List.getElem_of_mem hx
 rw [← nthR_eq hi]
 exact ⟨(ha i hi).1, hasR_iff.1 (ha i hi).2⟩
theorem ref0_steps {f : List Quad} (hf : MapP f) (lin : Bool) : ∃ G : Nat → List (Int × Int), G 0 = putR [(0, 1)] (1, 1) ∧ (∀ k, k < (startL f lin).length → G (k + 1) = putR (G k) (nthR (startL f lin) k)) ∧ G (startL f lin).length = ref0 f lin ∧
  (∀ k, 0 < (G k).length ∧ (G k).length ≤ 1048600 ∧ ∀ i, i < (G k).length → BdR (nthR (G k) i).1 (nthR (G k) i).2) ∧ ∀ k, k < (startL f lin).length → BdR (nthR (startL f lin) k).1 (nthR (startL f lin) k).2 := by
 have hu := start_unit hf lin
 have hl := startL_len hf lin
 refine ⟨fun k => mergeL (putR [(0, 1)] (1, 1)) ((startL f lin).take k), rfl, fun k hk => mergeL_take hk, ?_, fun k => ?_, fun k hk => unitR_bd (hu _ (nthR_in hk))⟩
 ·show mergeL (putR [(0, 1)] (1, 1)) ((startL f lin).take (startL f lin).length) = ref0 f lin
  rw [List.take_length]; rfl
 ·have hg : ∀ y, y ∈ (1, 1) :: (startL f lin).take k → goodR y.1 y.2 = true := fun y hy => by
   rcases List.mem_cons.1 hy with e | e
   ·subst e; decide
   ·exact (unitR_qv.1 (hu y (List.mem_of_mem_take e))).1
  obtain ⟨h1, h2⟩ := merge_rise ((1, 1) :: (startL f lin).take k) (xs := [(0, 1)]) (List.pairwise_singleton _ _) (fun y hy => by
   obtain rfl : y = (0, 1) := by simpa using hy
   decide) hg
  have e : mergeL [(0, 1)] ((1, 1) :: (startL f lin).take k) = mergeL (putR [(0, 1)] (1, 1)) ((startL f lin).take k) := rfl
  rw [e] at h1 h2
  have h3 := (mergeL_len ((1, 1) :: (startL f lin).take k) [(0, 1)]).2
  rw [e] at h3
  simp only [List.length_cons, List.length_nil] at h3
  have h4 := List.length_take_le k (startL f lin)
  have h5 : (List.take k (startL f lin)).length ≤ (startL f lin).length := by rw [List.length_take]; omega
  refine ⟨List.length_pos_of_mem ((h2 (0, 1)).2 (.inl (by simp))), by show (mergeL (putR [(0, 1)] (1, 1)) ((startL f lin).take k)).length ≤ _; omega, fun i hi => ?_⟩
  have hm := nthR_in hi
  have hgd : goodR (nthR (mergeL (putR [(0, 1)] (1, 1)) ((startL f lin).take k)) i).1 (nthR (mergeL (putR [(0, 1)] (1, 1)) ((startL f lin).take k)) i).2 = true := by
   rcases (h2 _).1 hm with q | q
   ·obtain e3 := List.mem_singleton.1 q
    rw [e3]; decide
   ·exact hg _ q
  exact ⟨(goodR_all hgd).1, (goodR_all hgd).2.1⟩
theorem mkStarts_any (v : Value) (f : List Quad) (lin : Bool) (w : World) (hv : QuadV w v f) (hf : MapP f) :
  Calls Tryz.prog 197 #[v, .bool lin] w (RetO OwnR (startL f lin) w) := by
 cases lin
 ·have ct := lpTurns_any v f w hv hf
  have e : startL f false = tuL f := rfl
  rw [e]
  generalize tuL f = TL at *
  clear hv hf
  have ct' := Lib.hid ct; clear ct
  go_enter Tryz.func197, Tryz.ntmps197
  go_wp2_with fail
  refine (ct'.out).mono ?_
  rintro e w1 ⟨r, rfl, hr, hB1⟩
  have hr' := Lib.hid hr; clear hr
  go_wp2
  go_ret
  exact ⟨_, rfl, hr'.out, hB1⟩
 ·have ct := imSimple_any v f w hv hf
  have hsl : (smL f).length ≤ 1099511627776 := by have := startL_len hf true; have e : (startL f true).length = (smL f).length := xsL_len _; omega
  have cx := fun r w' (hr : QuadV w' r (smL f)) => coXs_any r (smL f) w' hr hsl
  have e : startL f true = xsL (smL f) := rfl
  rw [e]
  generalize xsL (smL f) = TL at *
  generalize smL f = SL at *
  clear hv hf
  have ct' := Lib.hid ct; have cx' := Lib.hid cx; clear ct cx
  go_enter Tryz.func197, Tryz.ntmps197
  go_wp2_with fail
  refine (ct'.out).mono ?_
  rintro e w1 ⟨r, rfl, hr, hB1⟩
  have cx1 := cx'.out r w1 hr.read
  clear hr
  have cx1' := Lib.hid cx1; clear cx1
  go_wp2_with fail
  refine (cx1'.out).mono ?_
  rintro e w2 ⟨r2, rfl, hr2, hB2⟩
  have hb2 := hB1.trans (hB2.mono hB1.size)
  have hr2' := Lib.hid hr2; clear hr2
  go_wp2
  go_ret
  exact ⟨_, rfl, hr2'.out.mono hB1.size (Nat.le_refl _), hb2⟩
def sliceN : Value → Nat
 | .slice _ n _ => n
 | _ => 0
def boolN : Value → Nat
 | .bool b => if b = true then 1 else 0
 | _ => 0
def RetEnd (f : List Quad) (lin : Bool) (w : World) (e : Ending) (w' : World) : Prop :=
 ∃ v' r, e = .returned (.tuple #[v', .bool r.2]) ∧ EndX f lin r ∧ OwnR w' w.heap.size w'.heap.size v' r.1 ∧ Below w.heap.size w w'
def MkLoop (f : List Quad) (lin : Bool) (w : World) (o m : Value) (wr : World) : Prop :=
 ∃ X, GrowR wr w.heap.size o X ∧ Below w.heap.size w wr ∧ ((m = .bool true ∧ InvX f lin X) ∨ (m = .bool false ∧ X.length ≤ 9 ∧ EndX f lin (X, true)))
set_option maxHeartbeats 3200000 in
theorem mkPartition_any (v : Value) (f : List Quad) (lin : Bool) (w : World) (hv : QuadV w v f) (hm : mapB f = true) :
  Calls Tryz.prog 163 #[v, .bool lin] w (RetEnd f lin w) := by
 have hf := mapB_true hm
 have hsl := startL_len hf lin
 have cs := fun w' (hB : Below w.heap.size w w') => mkStarts_any v f lin w' (hv.below hB) hf
 have ca1 := fun x (w' : World) (hB : Below w.heap.size w w') (hx : unitR x.1 x.2 = true) (h : atOk f x = true) => by
  have := imAt_any v f x w' (hv.below hB) hf hx
  rw [atR_ok h] at this
  exact this
 have ca0 := fun x (w' : World) (hB : Below w.heap.size w w') (hx : unitR x.1 x.2 = true) (h : atOk f x = false) => by
  have := imAt_any v f x w' (hv.below hB) hf hx
  rw [atR_bad h] at this
  exact this
 have hag := fun x => atZ_good f x
 obtain ⟨G, G0, Gs, Gn, Gb, Sb⟩ := ref0_steps hf lin
 have hI0 := InvX.start hf lin
 rw [← Gn] at hI0
 have hIs := fun X i (h : InvX f lin X) => InvX.step (X := X) hf h (i := i)
 obtain ⟨n, hn⟩ : ∃ n, (startL f lin).length = n := ⟨_, rfl⟩
 rw [hn] at hsl Gs Gn Sb hI0
 generalize startL f lin = ST at *
 clear hv hm hf
 have cs' := Lib.hid cs; have ca1' := Lib.hid ca1; have ca0' := Lib.hid ca0; have hag' := Lib.hid hag; have G0' := Lib.hid G0; have Gs' := Lib.hid Gs; have Gn' := Lib.hid Gn; have Gb' := Lib.hid Gb; have Sb' := Lib.hid Sb; have hI0' := Lib.hid hI0; have hIs' := Lib.hid hIs; have hn' := Lib.hid hn; clear cs ca1 ca0 hag G0 Gs Gn Gb Sb hI0 hIs hn
 go_enter Tryz.func163, Tryz.ntmps163
 go_wp2_with fail
 refine (raInt_any 0 _).mono ?_
 rintro e w1 ⟨rfl, hB1⟩
 obtain ⟨w2, hw2⟩ : ∃ W, w1.alloc (.cells #[.int .i64 0, .int .i64 1] 42) = W := ⟨_, rfl⟩
 have hB2 : Below w1.heap.size w1 w2 := by rw [← hw2]; exact (Below.refl _ _).alloc (Nat.le_refl _) _
 have hg2 : GrowR w2 w.heap.size (.slice (some ⟨w1.heap.size, 0, none⟩) 1 1) [(0, 1)] := by rw [← hw2]; exact GrowR.put1 hB1.size
 have hb2 := hB1.trans (hB2.mono hB1.size)
 clear hB1 hB2
 have hw2' := Lib.hid hw2; have hg2' := Lib.hid hg2; have hb2' := Lib.hid hb2; clear hw2 hg2 hb2
 go_wp2_with fail
 rw [hw2'.out]
 go_wp2_with fail
 refine (raInt_any 1 _).mono ?_
 rintro e w3 ⟨rfl, hB3⟩
 have hg3 := hg2'.out.below hB3
 have hb3 := hb2'.out.trans (hB3.mono hb2'.out.size)
 have cp := imPut_own w.heap.size _ [(0, 1)] (1, 1) w3 hg3 (by decide) hb3.size (by decide) ⟨by decide, by decide⟩ (fun i hi => by
  obtain rfl : i = 0 := by simpa using hi
  exact ⟨by decide, by decide⟩)
 rw [← G0'.out] at cp
 clear hB3 hg3
 have cp' := Lib.hid cp; clear cp
 go_wp2_with fail
 refine (cp'.out).mono ?_
 rintro e w4 ⟨v4, rfl, hg4, hB4⟩
 have hb4 := hb3.trans (hB4.mono hb3.size)
 clear hB4 hb3
 have hg4' := Lib.hid hg4; clear hg4
 go_wp2_with fail
 refine (cs'.out _ hb4).mono ?_
 rintro e w5 ⟨u, rfl, hou, hB5⟩
 have hb5 := hb4.trans (hB5.mono hb4.size)
 have hg5 := hg4'.out.below hB5
 obtain ⟨so, scap, rfl, _, _, H⟩ := hou.read.form
 rw [hn'.out] at H ⊢
 obtain ⟨_, gc4, rfl, _⟩ := GrowF.form hg4'.out (Gb'.out 0).1
 clear hB5 hb4 hou
 have H' := Lib.hid H; have hg5' := Lib.hid hg5; clear H hg5
 go_wp2_with fail
 go_loopw [6, 22] (fun o i wr => ∃ k : Nat, k ≤ n ∧ i = .int .i64 k ∧ GrowR wr w.heap.size o (G k) ∧ Below w5.heap.size w5 wr) (fun _ i _ => n - (intOf i).toNat)
 case atStart => exact ⟨0, Nat.zero_le _, rfl, hg5'.out, Below.refl _ _⟩
 case round =>
  obtain ⟨k, hk, rfl, hg, hB⟩ := hrel
  have hgb := Gb'.out k
  obtain ⟨g, gc, rfl, -⟩ := GrowF.form hg hgb.1
  have hb := hb5.trans (hB.mono hb5.size)
  by_cases hlt : k < n
  ·obtain ⟨b, off, rfl, d0, d1⟩ := H'.out k hlt
   replace d0 := bkeep hB d0
   replace d1 := bkeep hB d1
   have hs := Gs'.out k hlt
   have hyb := Sb'.out k hlt
   obtain ⟨⟨y1, y2⟩, hy⟩ : ∃ y, nthR ST k = y := ⟨_, rfl⟩
   rw [hy] at d0 d1 hs hyb
   simp only at d0 d1
   have cp := fun w' (hB : Below wr.heap.size wr w') => imPut_own w.heap.size _ (G k) (y1, y2) w' (hg.below hB) hgb.1 (Nat.le_trans hb.size hB.size) (by omega) hyb hgb.2.2
   rw [← hs] at cp
   have g1 : (0 : Int) ≤ (k : Int) := by omega
   have g2 : (k : Int) < (n : Int) := by omega
   clear hgb
   have cp' := Lib.hid cp; have hg' := Lib.hid hg; have hy' := Lib.hid hy; have hs' := Lib.hid hs; have hyb' := Lib.hid hyb; have hb' := Lib.hid hb; clear cp hg hy hs hyb hb
   go_wp2_with fail
   refine (cp'.out _ ((Below.refl _ _).alloc (Nat.le_refl _) _)).mono ?_
   rintro e w8 ⟨v8, rfl, hg8, hB8⟩
   have hw : Below wr.heap.size wr w8 := ((Below.refl _ _).alloc (Nat.le_refl _) _).trans (hB8.mono (by simp))
   have hb8 := hB.trans (hw.mono hB.size)
   clear hB8 hw
   have hg8' := Lib.hid hg8; have hb8' := Lib.hid hb8; clear hg8 hb8
   go_wp2
   go_roundw
   case rel => exact ⟨k + 1, by omega, by go_num, hg8'.out, hb8'.out⟩
   case measure => simp [intOf]; omega
  ·obtain rfl : k = n := by omega
   have hst : MkLoop f lin w (.slice (some ⟨g, 0, none⟩) (G k).length gc) (.bool true) wr := ⟨_, hg, hb, .inl ⟨rfl, hI0'.out⟩⟩
   clear hgb hg hb hB H' hg5' hb5
   have hst' := Lib.hid hst; clear hst
   go_wp2_with fail
   go_loopw [6, 9] (fun o m ws => MkLoop f lin w o m ws) (fun o m _ => 2 * (20 - sliceN o) + boolN m)
   case atStart => exact hst'.out
   case round =>
    clear hst'
    obtain ⟨X, hg, hb, ⟨rfl, hI⟩ | ⟨rfl, h9, hE⟩⟩ := hrel
    all_goals obtain ⟨ws, rfl⟩ : ∃ wo : World, wo = wr := ⟨_, rfl⟩
    ·obtain ⟨hX0, hXm, hXu⟩ := hI.parts
     obtain ⟨g2, gc2, rfl, -⟩ := GrowF.form hg hX0
     obtain ⟨p, hp⟩ : ∃ p, X.length = p := ⟨_, rfl⟩
     by_cases h9 : 9 < p
     ·have hE := hI.big (by omega)
      rw [hp]
      have h9' : (p : Int) > 9 := by omega
      have hE' := Lib.hid hE; have hb' := Lib.hid hb; have hg' := Lib.hid hg; have hI' := Lib.hid hI; have hXu' := Lib.hid hXu; have hp' := Lib.hid hp; clear hE hb hg hI hXu hp
      go_wp2
      go_ret2
      exact ⟨_, ([], false), rfl, hE'.out, OwnR.nil _ _ _, hb'.out⟩
     ·have h9' : ¬ (p : Int) > 9 := by omega
      have hD := hI.done (by omega)
      have hBd := fun i hi => hI.bad (i := i) hi
      have hSt := fun i hi => hIs'.out X i hI hi (by omega)
      have hgr := fun w' (hB : Below ws.heap.size ws w') => hg.below hB
      rw [hp] at hD hBd hSt hX0 hXu hXm ⊢
      obtain ⟨_, _, e, _, _, H2⟩ := hg.read.form
      cases e
      rw [hp] at H2
      have hXb : ∀ i, i < p → BdR (nthR X i).1 (nthR X i).2 := fun i hi => unitR_bd (hXu i hi)
      have cf := fun (y : Int × Int) (w' : World) (hB : Below ws.heap.size ws w') => mkFind_any _ X y w' (hgr w' hB).read (by omega)
      have cp := fun (y : Int × Int) (w' : World) (hB : Below ws.heap.size ws w') (hy : BdR y.1 y.2) => imPut_own w.heap.size _ X y w' (hgr w' hB) (by omega) (Nat.le_trans hb.size hB.size) (by omega) hy (by rw [hp]; exact hXb)
      have hneg := plcR_neg X
      rw [hp] at cf cp hgr
      clear hI hg
      have hD' := Lib.hid hD; have hBd' := Lib.hid hBd; have hSt' := Lib.hid hSt; have hgr' := Lib.hid hgr; have H2' := Lib.hid H2; have hXb' := Lib.hid hXb; have hXu' := Lib.hid hXu; have cf' := Lib.hid cf; have cp' := Lib.hid cp; have hneg' := Lib.hid hneg; have hb' := Lib.hid hb; have hp' := Lib.hid hp; clear hD hBd hSt hgr H2 hXb hXu cf cp hneg hb hp
      go_wp2_with fail
      go_loopw [6, 9, 36] (fun o m i wt => ∃ k : Nat, k ≤ p ∧ i = .int .i64 k ∧ o = .slice (some ⟨g2, 0, none⟩) p gc2 ∧ m = .bool false ∧ (∀ j, j < k → atOk f (nthR X j) = true ∧ hasR X (atZ f (nthR X j)) = true) ∧ Below ws.heap.size ws wt) (fun _ _ i _ => p - (intOf i).toNat)
      case atStart => exact ⟨0, Nat.zero_le _, rfl, rfl, rfl, fun j hj => absurd hj (Nat.not_lt_zero j), Below.refl _ _⟩
      case round =>
       obtain ⟨k, hk, rfl, rfl, rfl, hall, hB⟩ := hrel
       obtain ⟨wt, rfl⟩ : ∃ wo : World, wo = wr := ⟨_, rfl⟩
       have hbt := hb'.out.trans (hB.mono hb'.out.size)
       by_cases hlt : k < p
       ·obtain ⟨b, off, e, d0, d1⟩ := H2'.out k hlt
        cases e
        replace d0 := bkeep hB d0
        replace d1 := bkeep hB d1
        rw [Nat.zero_add] at d0 d1
        have hun := hXu'.out k hlt
        have hBd1 := hBd'.out k hlt
        have hSt1 := hSt'.out k hlt
        have hall1 : atOk f (nthR X k) = true → hasR X (atZ f (nthR X k)) = true → ∀ j, j < k + 1 → atOk f (nthR X j) = true ∧ hasR X (atZ f (nthR X j)) = true := fun q1 q2 j hj => by
         by_cases e : j = k
         ·subst e; exact ⟨q1, q2⟩
         ·exact hall j (by omega)
        have hyb := good_bd (hag'.out (nthR X k))
        have c1 := fun w' hB => ca1'.out (nthR X k) w' hB hun
        have c0 := fun w' hB => ca0'.out (nthR X k) w' hB hun
        have cf1 := cf'.out (atZ f (nthR X k))
        have cp1 := fun w' hB => cp'.out (atZ f (nthR X k)) w' hB hyb
        have hneg1 := hneg'.out (atZ f (nthR X k))
        generalize atOk f (nthR X k) = A at *
        generalize atZ f (nthR X k) = Y at *
        generalize plcR X Y = I at *
        generalize hasR X Y = R at *
        generalize nthR X k = P at *
        obtain ⟨x0, x1⟩ := P
        obtain ⟨y0, y1⟩ := Y
        simp only at d0 d1 c1 c0 cf1 cp1
        obtain ⟨w6, hw6⟩ : ∃ W, wt.alloc (.cells #[.int .i64 x0, .int .i64 x1] 42) = W := ⟨_, rfl⟩
        have hB6 : Below wt.heap.size wt w6 := by rw [← hw6]; exact (Below.refl _ _).alloc (Nat.le_refl _) _
        have hb6 := hbt.trans (hB6.mono hbt.size)
        have hBw6 := hB.trans (hB6.mono hB.size)
        have c1' := c1 w6 hb6
        have c0' := c0 w6 hb6
        have g1 : (0 : Int) ≤ (k : Int) := by omega
        have g2' : (k : Int) < (p : Int) := by omega
        clear c1 c0 hB6 hbt hB hun hyb
        have hw6' := Lib.hid hw6; have hb6' := Lib.hid hb6; have hBw6' := Lib.hid hBw6; have hBd1' := Lib.hid hBd1; have hSt1' := Lib.hid hSt1; have hall1' := Lib.hid hall1; have hall' := Lib.hid hall; have cf1' := Lib.hid cf1; have cp1' := Lib.hid cp1; have c1'' := Lib.hid c1'; have c0'' := Lib.hid c0'; clear hw6 hb6 hBw6 hBd1 hSt1 hall1 hall cf1 cp1 c1' c0'
        cases A
        ·have hE := hBd1'.out (by trivial)
         have hE' := Lib.hid hE; clear hE
         go_wp2_with fail
         rw [hw6'.out]
         clear d0 d1
         go_wp2_with fail
         refine (c0''.out (by trivial)).mono ?_
         rintro e w7 ⟨rfl, hB7⟩
         have hb7 := hb6'.out.trans (hB7.mono hb6'.out.size)
         clear hB7
         have hb7' := Lib.hid hb7; clear hb7
         go_wp2
         go_ret2
         exact ⟨_, ([], false), rfl, hE'.out, OwnR.nil _ _ _, hb7'.out.alloc hb7'.out.size _⟩
        ·go_wp2_with fail
         rw [hw6'.out]
         clear d0 d1
         go_wp2_with fail
         refine (c1''.out (by trivial)).mono ?_
         rintro e w7 ⟨rfl, hB7⟩
         have hBw7 := hBw6'.out.trans (hB7.mono hBw6'.out.size)
         obtain ⟨w8, hw8⟩ : ∃ W, w7.alloc (.cells #[.int .i64 y0, .int .i64 y1] 42) = W := ⟨_, rfl⟩
         have hB8 : Below w7.heap.size w7 w8 := by rw [← hw8]; exact (Below.refl _ _).alloc (Nat.le_refl _) _
         have e0 : w8.cell? ⟨w7.heap.size, 0, none⟩ = some (.int .i64 y0) := by rw [← hw8]; simp [go_sem]
         have e1 : w8.cell? ⟨w7.heap.size, 1, none⟩ = some (.int .i64 y1) := by rw [← hw8]; simp [go_sem]
         have hBw8 := hBw7.trans (hB8.mono hBw7.size)
         have cf2 := cf1'.out w8 hBw8
         clear hB7 hB8 hBw7
         have hw8' := Lib.hid hw8; have hBw8' := Lib.hid hBw8; have cf2' := Lib.hid cf2; clear hw8 hBw8 cf2
         go_wp2_with fail
         rw [hw8'.out]
         go_wp2_with fail
         refine (cf2'.out).mono ?_
         rintro e w9 ⟨rfl, hB9⟩
         have hBw9 := hBw8'.out.trans (hB9.mono hBw8'.out.size)
         replace e0 := bkeep hB9 e0
         replace e1 := bkeep hB9 e1
         clear hB9
         cases R
         ·have hI : I < 0 := by simpa using hneg1
          obtain ⟨hI2, hl2⟩ := hSt1'.out (by trivial) (by trivial)
          have cp2 := cp1'.out w9 hBw9
          clear hneg1
          have hBw9' := Lib.hid hBw9; have cp2' := Lib.hid cp2; have hI2' := Lib.hid hI2; have hl2' := Lib.hid hl2; clear hBw9 cp2 hI2 hl2
          go_wp2_with fail
          go_wp2_with fail
          refine (cp2'.out).mono ?_
          rintro e w10 ⟨v10, rfl, hg10, hB10⟩
          have hBw10 := hBw9'.out.trans (hB10.mono hBw9'.out.size)
          have hb10 := hb'.out.trans (hBw10.mono hb'.out.size)
          obtain ⟨g10, gc10, rfl, -⟩ := GrowF.form hg10 (by have := hl2'.out; omega)
          have hst : MkLoop f lin w (.slice (some ⟨g10, 0, none⟩) (putR X (y0, y1)).length gc10) (.bool true) w10 := ⟨_, hg10, hb10, .inl ⟨rfl, hI2'.out⟩⟩
          rw [hl2'.out] at hst ⊢
          clear hg10 hB10 hBw10 hb10 e0 e1
          have hst' := Lib.hid hst; clear hst
          go_wp2
          go_roundw
          case rel => exact hst'.out
          case measure => simp [sliceN, boolN]; omega
         ·have hI : ¬ I < 0 := by simpa using hneg1
          have hal := hall1'.out (by trivial) (by trivial)
          clear hneg1 e0 e1
          have hal' := Lib.hid hal; have hBw9' := Lib.hid hBw9; clear hal hBw9
          go_wp2
          go_roundw
          case rel => exact ⟨k + 1, by omega, by go_num, rfl, rfl, hal'.out, hBw9'.out⟩
          case measure => simp [intOf]; omega
       ·obtain rfl : k = p := by omega
        have hst : MkLoop f lin w (.slice (some ⟨g2, 0, none⟩) k gc2) (.bool false) wt := by
         refine ⟨X, ?_, hbt, .inr ⟨rfl, by rw [hp'.out]; omega, hD'.out hall⟩⟩
         have := hgr'.out wt hB
         exact this
        clear hall hB hbt
        have hst' := Lib.hid hst; clear hst
        go_wp2
        go_roundw
        case rel => exact hst'.out
        case measure => simp [sliceN, boolN]
    ·have hown := hg.own
     obtain ⟨so2, sc2, rfl, -⟩ := hg.read.form
     have hown' := Lib.hid hown; have hb' := Lib.hid hb; have hE' := Lib.hid hE; have hg' := Lib.hid hg; clear hown hb hE hg
     go_wp2
     go_ret2
     exact ⟨_, (X, true), rfl, hE'.out, hown'.out, hb'.out⟩
theorem refS_unit {f : List Quad} (hf : MapP f) (lin : Bool) : ∀ x, x ∈ refS f lin → unitR x.1 x.2 = true := fun x hx => by
 rcases List.mem_cons.1 hx with e | hx
 ·subst e; decide
 ·rcases List.mem_cons.1 hx with e | hx
  ·subst e; decide
  ·exact start_unit hf lin x hx
end Go.Proofs.YtfhhofecfllbfaaGreat

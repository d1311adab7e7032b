/- Whether cuts are Markov for a map: the program's and the reference's. No conditions. -/
import Derived.Test.YtnggopbehohjnaaGreatVals
import Derived.Test.YtnggopbehohjnaaGreatTurns
import Derived.Test.YtnggopbehohjnaaGreatSimple
import Derived.Test.YtnggopbehohjnaaGreatAsked
import Derived.Test.YtnggopbehohjnaaGreatPkH
namespace Go.Proofs.YtnggopbehohjnaaGreat
open Go.RowKit

theorem cuts_unit {xs : List (Int × Int)} (h : partB xs = true) : ∀ i, i < xs.length → unitR (nthR xs i).1 (nthR xs i).2 = true := by
  unfold partB at h
  rw [Bool.and_eq_true, Bool.and_eq_true] at h
  intro i hi
  exact unitsB_nth h.2.1 hi

def kc_v (f : List Quad) (xs : List (Int × Int)) : Bool × Bool := if voK f xs xs.length = true then ((vsL f xs).all (hasR xs), true) else (false, false)
def KeepsCuts_v (f : List Quad) (xs : List (Int × Int)) : Bool × Bool := if mapB f = true ∧ partB xs = true then kc_v f xs else (false, false)
theorem KeepsCuts_yes {f : List Quad} {xs : List (Int × Int)} (h : mapB f = true ∧ partB xs = true) : KeepsCuts_v f xs = kc_v f xs := by unfold KeepsCuts_v; rw [if_pos h]
theorem KeepsCuts_no {f : List Quad} {xs : List (Int × Int)} (h : ¬ (mapB f = true ∧ partB xs = true)) : KeepsCuts_v f xs = (false, false) := by unfold KeepsCuts_v; rw [if_neg h]
theorem asked_no {f : List Quad} {xs : List (Int × Int)} (h : ¬ (mapB f = true ∧ partB xs = true)) : (mapB f && partB xs) = false := by
  rw [← Bool.not_eq_true, Bool.and_eq_true]; exact h
/-- The fractions that must be cuts at first. -/
def startL (f : List Quad) (lin : Bool) : List (Int × Int) := if lin = true then xsL (smL f) else tuL f
theorem startL_len {f : List Quad} (hf : MapP f) (lin : Bool) : (startL f lin).length ≤ 1048576 := by
  have hl := hf.len
  unfold startL
  split
  · rw [xsL_len]
    unfold smL
    rw [List.length_append]
    have := smK_len f (f.length - 2)
    simp
    omega
  · unfold tuL
    rw [tuK_len]
    have := lpc_le (sgS f) (f.length - 1)
    omega
def mm_v (f : List Quad) (xs : List (Int × Int)) (lin : Bool) : Bool × Bool := if voK f xs xs.length = true then ((startL f lin).all (hasR xs) && !(hasI (viK f xs xs.length) (-1)), true) else (false, false)

theorem plcR_neg (xs : List (Int × Int)) (y : Int × Int) : decide (plcR xs y < 0) = !(hasR xs y) := by
  have e : decide (plcR xs y ≥ 0) = hasR xs y := idxQ_geq _ _
  rw [← e, ← decide_not]
  simp
theorem plcR_min (xs : List (Int × Int)) (y : Int × Int) : -1 ≤ plcR xs y := by
  unfold plcR idxQ
  split <;> omega
/-- A place is missing where a value is no cut. -/
theorem vi_has (f : List Quad) (xs : List (Int × Int)) : (!(hasI (viK f xs xs.length) (-1))) = (vsL f xs).all (hasR xs) := by
  unfold hasI viK vsL vsK
  rw [List.all_map, List.any_map, List.not_any_eq_all_not]
  congr 1
  funext i
  show (!(decide (plcR xs (atZ f (nthR xs i)) = -1))) = hasR xs (atZ f (nthR xs i))
  have h1 := plcR_neg xs (atZ f (nthR xs i))
  have h2 := plcR_min xs (atZ f (nthR xs i))
  have e : decide (plcR xs (atZ f (nthR xs i)) = -1) = decide (plcR xs (atZ f (nthR xs i)) < 0) := by
    rw [decide_eq_decide]; omega
  rw [e, h1, Bool.not_not]
theorem mm_eq (f : List Quad) (xs : List (Int × Int)) (lin : Bool) : mm_v f xs lin = ((kc_v f xs).1 && (startL f lin).all (hasR xs), (kc_v f xs).2) := by
  unfold mm_v kc_v
  split
  · rw [vi_has, Bool.and_comm]
  · rfl

/-- A turning point is a point of the map with the fewest points. -/
theorem mem_smK {f : List Quad} {j K : Nat} (h0 : 0 < j) (hj : j ≤ K) (hne : srF f (j - 1) ≠ srF f j) : nth4 f j ∈ smK f K := by
  induction K with
  | zero => omega
  | succ K ih =>
    by_cases e : j = K + 1
    · subst e
      rw [smK_new (by rw [Nat.add_sub_cancel] at hne; exact hne)]
      exact List.mem_append.2 (.inr (List.mem_singleton.2 rfl))
    · have := ih (by omega)
      by_cases h : srF f K = srF f (K + 1)
      · rw [smK_same h]; exact this
      · rw [smK_new h]; exact List.mem_append.2 (.inl this)
theorem tu_sub {f : List Quad} {x : Int × Int} (h : x ∈ tuL f) : x ∈ xsL (smL f) := by
  obtain ⟨k, hk, hk2, hne, rfl⟩ := mem_tuL.1 h
  have : nth4 f k ∈ smK f (f.length - 2) := mem_smK hk (by omega) (fun e => hne (by
    have e1 : srF f (k - 1) = slopeR (nth4 f (k - 1)) (nth4 f (k - 1 + 1)) := rfl
    have e2 : srF f k = slopeR (nth4 f k) (nth4 f (k + 1)) := rfl
    unfold sgS
    rw [← e1, ← e2, e]))
  unfold xsL smL
  exact List.mem_map.2 ⟨_, List.mem_append.2 (.inl this), rfl⟩
theorem tu_all {f : List Quad} {xs : List (Int × Int)} (h : (xsL (smL f)).all (hasR xs) = true) : (tuL f).all (hasR xs) = true := by
  rw [List.all_eq_true] at h ⊢
  exact fun x hx => h x (tu_sub hx)

def IsMarkov_v (f : List Quad) (xs : List (Int × Int)) : Bool × Bool := ((KeepsCuts_v f xs).1 && (tuL f).all (hasR xs), (KeepsCuts_v f xs).2)
def IsLinearMarkov_v (f : List Quad) (xs : List (Int × Int)) : Bool × Bool := ((KeepsCuts_v f xs).1 && (xsL (smL f)).all (hasR xs), (KeepsCuts_v f xs).2)
theorem IsMarkov_yes {f : List Quad} {xs : List (Int × Int)} (h : mapB f = true ∧ partB xs = true) : IsMarkov_v f xs = mm_v f xs false := by
  unfold IsMarkov_v
  rw [KeepsCuts_yes h, mm_eq]; rfl
theorem IsMarkov_no {f : List Quad} {xs : List (Int × Int)} (h : ¬ (mapB f = true ∧ partB xs = true)) : IsMarkov_v f xs = (false, false) := by
  unfold IsMarkov_v
  rw [KeepsCuts_no h]; rfl
def ml_v (f : List Quad) (xs : List (Int × Int)) : Bool × Bool := if (mm_v f xs false).2 = true then ((mm_v f xs false).1 && (mm_v f xs true).1, true) else (false, false)
theorem IsLinear_yes {f : List Quad} {xs : List (Int × Int)} (h : mapB f = true ∧ partB xs = true) : IsLinearMarkov_v f xs = ml_v f xs := by
  unfold IsLinearMarkov_v ml_v
  rw [KeepsCuts_yes h, mm_eq, mm_eq]
  cases h2 : (kc_v f xs).2
  · rw [if_neg (by decide)]
    have : (kc_v f xs).1 = false := by
      unfold kc_v at h2 ⊢
      split at h2
      · cases h2
      · rename_i h3; rw [if_neg h3]
    rw [this]; rfl
  · rw [if_pos rfl]
    have e1 : startL f false = tuL f := rfl
    have e2 : startL f true = xsL (smL f) := rfl
    rw [e1, e2]
    cases h3 : (xsL (smL f)).all (hasR xs)
    · simp
    · rw [tu_all h3]; simp
theorem IsLinear_no {f : List Quad} {xs : List (Int × Int)} (h : ¬ (mapB f = true ∧ partB xs = true)) : IsLinearMarkov_v f xs = (false, false) := by
  unfold IsLinearMarkov_v
  rw [KeepsCuts_no h]; rfl

set_option linter.unusedSimpArgs false in
set_option maxHeartbeats 1600000 in
theorem keepsCuts_any (v u : Value) (f : List Quad) (xs : List (Int × Int)) (w : World) (hv : QuadV w v f) (hu : RatsV w u xs) (hm : szPointS f ≤ 1099511627776) (hn : szRatS xs ≤ 1099511627776) :
    Calls Tryz.prog 122 #[v, u] w (Ret (.tuple #[.bool (KeepsCuts_v f xs).1, .bool (KeepsCuts_v f xs).2]) w) := by
  have c1 := fun w' (hB : Below w.heap.size w w') => isMap_any v f w' (hv.below hB) hm
  have c2 := fun w' (hB : Below w.heap.size w w') => isPartition_any u xs w' (hu.below hB) hn
  by_cases h : mapB f = true ∧ partB xs = true
  · rw [KeepsCuts_yes h]
    rw [h.1] at c1
    rw [h.2] at c2
    have hxl := partB_len h.2
    have cv := fun (g : Nat) (w' : World) (hB : Below w.heap.size w w') (hg : w.heap.size ≤ g) hc => cvals_any g false v u f xs w w' hv hu hB hg (mapB_true h.1) (cuts_unit h.2) (by omega) hc
    have hvl : (vsL f xs).length = xs.length := vsK_len f xs _
    have ch := fun r w' (hB : Below w.heap.size w w') (hr : RatsV w' r (vsL f xs)) => haveAll_any u r xs (vsL f xs) w' (hu.below hB) hr (by omega) (by omega)
    have hV : kc_v f xs = if voK f xs xs.length = true then ((vsL f xs).all (hasR xs), true) else (false, false) := rfl
    rw [hV]
    generalize (vsL f xs).all (hasR xs) = A at *
    generalize vsL f xs = VS at *
    generalize voK f xs xs.length = VO at *
    clear hv hu hV h hvl hxl
    have c1' := Lib.hid c1
    have c2' := Lib.hid c2
    have cv' := Lib.hid cv
    have ch' := Lib.hid ch
    clear c1 c2 cv ch
    cases VO
    all_goals
      go_enter Tryz.func122, Tryz.ntmps122
      go_wp2_with fail
      refine (c1'.out _ (Below.refl _ _)).mono ?_
      rintro e w1 ⟨rfl, hB1⟩
      go_wp2_with fail
      refine (c2'.out _ hB1).mono ?_
      rintro e w2 ⟨rfl, hB2⟩
      have hb2 := hB1.trans (hB2.mono hB1.size)
      obtain ⟨wc, hwc⟩ : ∃ W, w2.alloc (.cells #[.bool false] 105) = W := ⟨_, rfl⟩
      have hBc : Below w2.heap.size w2 wc := by rw [← hwc]; exact (Below.refl _ _).alloc (Nat.le_refl _) _
      have hcA : CalcAt wc w2.heap.size false := by rw [← hwc]; refine ⟨?_, ?_⟩ <;> simp [go_sem]
      have hbc := hb2.trans (hBc.mono hb2.size)
      have hs2 := hb2.size
      have cv1 := cv'.out w2.heap.size wc hbc hs2 hcA
      clear hB1 hB2 hBc hb2
      have hwc' := Lib.hid hwc
      have cv1' := Lib.hid cv1
      clear hwc cv1
      go_wp2_with fail
      rw [hwc'.out]
      go_wp2_with fail
      refine (cv1'.out).mono ?_
      rintro e w3 ⟨r, rfl, hr, hg3, hc3⟩
      have hb3 : Below w.heap.size w w3 := hbc.grown hg3 hbc.size (fun j hj => by have := Option.some.inj hj; omega)
      have ch1 := ch'.out r w3 hb3 hr.read
      clear hr hg3
      have ch1' := Lib.hid ch1
      clear ch1
      go_wp2_with fail
      refine (ch1'.out).mono ?_
      rintro e w4 ⟨rfl, hB4⟩
      have hb4 := hb3.trans (hB4.mono hb3.size)
      have hp := (hc3.below hB4).cell
      clear hB4 hc3
      have hb4' := Lib.hid hb4
      clear hb4
      simp only [Bool.not_true, Bool.not_false, Bool.or_false, Bool.or_true] at hp
      go_wp2
      go_ret2
      exact ⟨rfl, hb4'.out⟩
  · rw [KeepsCuts_no h]
    generalize mapB f = M at *
    generalize partB xs = P at *
    clear hv hu
    have c1' := Lib.hid c1
    have c2' := Lib.hid c2
    have h' := Lib.hid h
    clear c1 c2 h
    cases M
    · go_enter Tryz.func122, Tryz.ntmps122
      go_wp2_with fail
      refine (c1'.out _ (Below.refl _ _)).mono ?_
      rintro e w1 ⟨rfl, hB1⟩
      go_wp2
      go_ret2
      exact ⟨rfl, hB1⟩
    · cases P
      · go_enter Tryz.func122, Tryz.ntmps122
        go_wp2_with fail
        refine (c1'.out _ (Below.refl _ _)).mono ?_
        rintro e w1 ⟨rfl, hB1⟩
        go_wp2_with fail
        refine (c2'.out _ hB1).mono ?_
        rintro e w2 ⟨rfl, hB2⟩
        have hb2 := hB1.trans (hB2.mono hB1.size)
        go_wp2
        go_ret2
        exact ⟨rfl, hb2⟩
      · exact absurd ⟨rfl, rfl⟩ h'.out

set_option maxHeartbeats 1600000 in
theorem implIsMarkov_any (v : Value) (f : List Quad) (u : Value) (xs : List (Int × Int)) (w : World) (hv : QuadV w v f) (hm : szPointS f ≤ 1099511627776) (hu : RatsV w u xs) (hn : szRatS xs ≤ 1099511627776) :
    Calls Tryz.prog 45 #[v, u] w (Ret (.tuple #[.bool (IsMarkov_v f xs).1, .bool (IsMarkov_v f xs).2]) w) := by
  have c1 := keepsCuts_any v u f xs w hv hu hm hn
  have hk : (KeepsCuts_v f xs).1 = true → mapB f = true ∧ partB xs = true := fun h => by
    by_cases h2 : mapB f = true ∧ partB xs = true
    · exact h2
    · rw [KeepsCuts_no h2] at h; cases h
  have hV : IsMarkov_v f xs = ((KeepsCuts_v f xs).1 && (tuL f).all (hasR xs), (KeepsCuts_v f xs).2) := rfl
  rw [hV]
  clear hV
  generalize KeepsCuts_v f xs = K at *
  obtain ⟨k1, k2⟩ := K
  simp only at hk c1
  cases k1
  · clear hv hu hk
    have c1' := Lib.hid c1
    clear c1
    go_enter Tryz.func45, Tryz.ntmps45
    go_wp2_with fail
    refine (c1'.out).mono ?_
    rintro e w1 ⟨rfl, hB1⟩
    go_wp2
    go_ret2
    exact ⟨rfl, hB1⟩
  · obtain ⟨h1, h2⟩ := hk rfl
    have hf := mapB_true h1
    have hxl := partB_len h2
    have ct := fun w' (hB : Below w.heap.size w w') => turns_any v f w' (hv.below hB) hf
    have hll := startL_len hf false
    have ch := fun r w' (hB : Below w.heap.size w w') (hr : RatsV w' r (tuL f)) => haveAll_any u r xs (tuL f) w' (hu.below hB) hr (by omega) (by have : (tuL f).length ≤ 1048576 := hll; omega)
    rw [Bool.true_and]
    generalize (tuL f).all (hasR xs) = A at *
    generalize tuL f = TL at *
    clear hv hu
    have c1' := Lib.hid c1
    have ct' := Lib.hid ct
    have ch' := Lib.hid ch
    clear c1 ct ch
    go_enter Tryz.func45, Tryz.ntmps45
    go_wp2_with fail
    refine (c1'.out).mono ?_
    rintro e w1 ⟨rfl, hB1⟩
    go_wp2_with fail
    refine (ct'.out _ hB1).mono ?_
    rintro e w2 ⟨r, rfl, hr, hB2⟩
    have hb2 := hB1.trans (hB2.mono hB1.size)
    have ch1 := ch'.out r w2 hb2 hr.read
    clear hr hB2 hB1
    have ch1' := Lib.hid ch1
    clear ch1
    go_wp2_with fail
    refine (ch1'.out).mono ?_
    rintro e w3 ⟨rfl, hB3⟩
    have hb3 := hb2.trans (hB3.mono hb2.size)
    go_wp2
    go_ret2
    exact ⟨rfl, hb3⟩
set_option maxHeartbeats 1600000 in
theorem implIsLinearMarkov_any (v : Value) (f : List Quad) (u : Value) (xs : List (Int × Int)) (w : World) (hv : QuadV w v f) (hm : szPointS f ≤ 1099511627776) (hu : RatsV w u xs) (hn : szRatS xs ≤ 1099511627776) :
    Calls Tryz.prog 43 #[v, u] w (Ret (.tuple #[.bool (IsLinearMarkov_v f xs).1, .bool (IsLinearMarkov_v f xs).2]) w) := by
  have c1 := keepsCuts_any v u f xs w hv hu hm hn
  have hk : (KeepsCuts_v f xs).1 = true → mapB f = true ∧ partB xs = true := fun h => by
    by_cases h2 : mapB f = true ∧ partB xs = true
    · exact h2
    · rw [KeepsCuts_no h2] at h; cases h
  have hV : IsLinearMarkov_v f xs = ((KeepsCuts_v f xs).1 && (xsL (smL f)).all (hasR xs), (KeepsCuts_v f xs).2) := rfl
  rw [hV]
  clear hV
  generalize KeepsCuts_v f xs = K at *
  obtain ⟨k1, k2⟩ := K
  simp only at hk c1
  cases k1
  · clear hv hu hk
    have c1' := Lib.hid c1
    clear c1
    go_enter Tryz.func43, Tryz.ntmps43
    go_wp2_with fail
    refine (c1'.out).mono ?_
    rintro e w1 ⟨rfl, hB1⟩
    go_wp2
    go_ret2
    exact ⟨rfl, hB1⟩
  · obtain ⟨h1, h2⟩ := hk rfl
    have hf := mapB_true h1
    have hxl := partB_len h2
    have ct := fun w' (hB : Below w.heap.size w w') => simple_any v f w' (hv.below hB) hf
    have hsl : (smL f).length ≤ 1099511627776 := by have := startL_len hf true; have e : (startL f true).length = (smL f).length := xsL_len _; omega
    have cx := fun r w' (hr : QuadV w' r (smL f)) => xsOf_any r (smL f) w' hr hsl
    have hll := startL_len hf true
    have ch := fun r w' (hB : Below w.heap.size w w') (hr : RatsV w' r (xsL (smL f))) => haveAll_any u r xs (xsL (smL f)) w' (hu.below hB) hr (by omega) (by have : (xsL (smL f)).length ≤ 1048576 := hll; omega)
    rw [Bool.true_and]
    generalize (xsL (smL f)).all (hasR xs) = A at *
    generalize xsL (smL f) = TL at *
    generalize smL f = SL at *
    clear hv hu
    have c1' := Lib.hid c1
    have ct' := Lib.hid ct
    have ch' := Lib.hid ch
    have cx' := Lib.hid cx
    clear c1 ct ch cx
    go_enter Tryz.func43, Tryz.ntmps43
    go_wp2_with fail
    refine (c1'.out).mono ?_
    rintro e w1 ⟨rfl, hB1⟩
    go_wp2_with fail
    refine (ct'.out _ hB1).mono ?_
    rintro e w2 ⟨r, rfl, hr, hB2⟩
    have hb2 := hB1.trans (hB2.mono hB1.size)
    have cx1 := cx'.out r w2 hr.read
    clear hr hB2 hB1
    have cx1' := Lib.hid cx1
    clear cx1
    go_wp2_with fail
    refine (cx1'.out).mono ?_
    rintro e w3 ⟨r2, rfl, hr2, hB3⟩
    have hb3 := hb2.trans (hB3.mono hb2.size)
    have ch1 := ch'.out r2 w3 hb3 hr2.read
    clear hr2 hB3 hb2
    have ch1' := Lib.hid ch1
    clear ch1
    go_wp2_with fail
    refine (ch1'.out).mono ?_
    rintro e w4 ⟨rfl, hB4⟩
    have hb4 := hb3.trans (hB4.mono hb3.size)
    go_wp2
    go_ret2
    exact ⟨rfl, hb4⟩

end Go.Proofs.YtnggopbehohjnaaGreat

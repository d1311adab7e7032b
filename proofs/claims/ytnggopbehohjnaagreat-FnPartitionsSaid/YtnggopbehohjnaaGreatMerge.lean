/- MergePartitions: the program's and the reference's. No conditions. -/
import Derived.Test.YtnggopbehohjnaaGreatRising
import Derived.Test.YtnggopbehohjnaaGreatMergeVal
namespace Go.Proofs.YtnggopbehohjnaaGreat
open Go.RowKit

set_option maxHeartbeats 800000 in
theorem implMergePartitions_any (v : Value) (xs : List (Int × Int)) (u : Value) (ys : List (Int × Int)) (w : World) (hv : RatsV w v xs) (hm : szRatS xs ≤ 1099511627776) (hu : RatsV w u ys) (hk : szRatS ys ≤ 1099511627776) :
    Calls Tryz.prog 35 #[v, u] w (RetOB OwnR (MergePartitions_v xs ys) w) := by
  have c1 := isPartition_any v xs w hv hm
  have c2 := fun w' (hB : Below w.heap.size w w') => isPartition_any u ys w' (hu.below hB) hk
  have e1 : partB xs = true → partB ys = true → (2 ≤ xs.length ∧ xs.length ≤ 9) ∧ (2 ≤ ys.length ∧ ys.length ≤ 9) := fun h1 h2 => ⟨partB_len h1, partB_len h2⟩
  have e2 : partB xs = true → partB ys = true → ∀ x ∈ xs ++ ys, goodR x.1 x.2 = true := fun h1 h2 x hx => by
    rcases List.mem_append.1 hx with q | q
    · exact pt_good h1 x q
    · exact pt_good h2 x q
  have e3 : partB xs = true → partB ys = true → ∀ l : List (Int × Int), (∀ y, y ∈ l ↔ y ∈ xs ++ ys) → (l.Pairwise fun a b => qv a ≤ qv b) → cmpL l = mergeL xs ys := fun h1 h2 l hl hp =>
    sort_merge hp (fun y => by rw [hl, List.mem_append]) (pt_rise h1) (pt_good h1) (pt_good h2)
  have hV : MergePartitions_v xs ys = if partB xs = true ∧ partB ys = true ∧ (mergeL xs ys).length ≤ 9 then (mergeL xs ys, true) else ([], false) := rfl
  have hml := (mergeL_len ys xs).2
  obtain ⟨V, hV2⟩ : ∃ V, MergePartitions_v xs ys = V := ⟨_, rfl⟩
  rw [hV2] at hV ⊢
  obtain ⟨M, hM⟩ : ∃ M, mergeL xs ys = M := ⟨_, rfl⟩
  rw [hM] at hV e3 hml
  generalize partB xs = P at *
  generalize partB ys = Q at *
  obtain ⟨ao, cap, hve, _⟩ := hv.form
  obtain ⟨ao2, cap2, hue, _⟩ := hu.form
  have cc := fun (w' : World) (hB : Below w.heap.size w w') (hs : 0 < xs.length + ys.length) (hm : xs.length + ys.length ≤ 1099511627776) =>
    concat_any w'.heap.size v u xs ys (w'.alloc (.cells #[v, u] 24)) (hv.below (hB.alloc hB.size _)) (hu.below (hB.alloc hB.size _)) (by simp [go_sem]) (by simp [go_sem]) hs hm
  have hcx : ∀ w' : World, Below w.heap.size w w' → Below w.heap.size w (w'.alloc (.cells #[v, u] 24)) := fun w' hB => hB.alloc hB.size _
  subst hve
  subst hue
  obtain ⟨n, hn⟩ : ∃ n, xs.length = n := ⟨_, rfl⟩
  obtain ⟨m, hm2⟩ : ∃ m, ys.length = m := ⟨_, rfl⟩
  simp only [hn, hm2] at c1 c2 cc hcx e1 hml ⊢
  clear hv hu
  have c1' := Lib.hid c1
  have c2' := Lib.hid c2
  have cc' := Lib.hid cc
  have hcx' := Lib.hid hcx
  have e1' := Lib.hid e1
  have e2' := Lib.hid e2
  have e3' := Lib.hid e3
  have hV' := Lib.hid hV
  have hV2' := Lib.hid hV2
  have hM' := Lib.hid hM
  have hn' := Lib.hid hn
  have hm2' := Lib.hid hm2
  clear c1 c2 cc hcx e1 e2 e3 hV hV2 hM hn hm2
  cases P
  · have hV3 := hV'.out
    rw [if_neg (fun h => by cases h.1)] at hV3
    subst hV3
    clear hV' c2'
    go_enter Tryz.func35, Tryz.ntmps35
    go_wp2_with fail
    refine (c1'.out).mono ?_
    rintro e w1 ⟨rfl, hB1⟩
    go_wp2
    go_ret2
    exact ⟨_, rfl, OwnR.nil _ _ _, hB1⟩
  cases Q
  · have hV3 := hV'.out
    rw [if_neg (fun h => by cases h.2.1)] at hV3
    subst hV3
    clear hV'
    go_enter Tryz.func35, Tryz.ntmps35
    go_wp2_with fail
    refine (c1'.out).mono ?_
    rintro e w1 ⟨rfl, hB1⟩
    go_wp2_with fail
    refine (c2'.out _ hB1).mono ?_
    rintro e w2 ⟨rfl, hB2⟩
    have hb2 := hB1.trans (hB2.mono hB1.size)
    go_wp2
    go_ret2
    exact ⟨_, rfl, OwnR.nil _ _ _, hb2⟩
  obtain ⟨⟨l1, l2⟩, l3, l4⟩ := e1'.out rfl rfl
  have hV3 : V = if M.length ≤ 9 then (M, true) else ([], false) := by rw [hV'.out]; by_cases h : M.length ≤ 9 <;> simp [h]
  have e2y := e2'.out rfl rfl
  have e3y := e3'.out rfl rfl
  clear hV' e1' e2' e3'
  have hV3' := Lib.hid hV3
  have e2y' := Lib.hid e2y
  have e3y' := Lib.hid e3y
  clear hV3 e2y e3y
  go_enter Tryz.func35, Tryz.ntmps35
  go_wp2_with fail
  refine (c1'.out).mono ?_
  rintro e w1 ⟨rfl, hB1⟩
  go_wp2_with fail
  refine (c2'.out _ hB1).mono ?_
  rintro e w2 ⟨rfl, hB2⟩
  have hb2 := hB1.trans (hB2.mono hB1.size)
  have c3 := cc'.out w2 hb2 (by omega) (by omega)
  have hb3 := hcx'.out w2 hb2
  obtain ⟨w3, hw3⟩ : ∃ W, w2.alloc (.cells #[.slice ao n cap, .slice ao2 m cap2] 24) = W := ⟨_, rfl⟩
  rw [hw3] at c3 hb3
  have c3' := Lib.hid c3
  have hw3' := Lib.hid hw3
  clear c3 hw3
  go_wp2_with fail
  rw [hw3'.out]
  refine (c3'.out).mono ?_
  rintro e w4 ⟨v4, rfl, hg4, hB4⟩
  have hb4 := hb3.trans (hB4.mono hb3.size)
  have c5 := rising_any w3.heap.size v4 (xs ++ ys) w4 hg4 (by rw [List.length_append, hn'.out]; omega) e2y'.out (by rw [List.length_append, hn'.out, hm2'.out]; omega)
  have c5' := Lib.hid c5
  clear c5
  go_wp2_with fail
  refine (c5'.out).mono ?_
  rintro e w5 ⟨v5, rfl, ⟨S, hS1, hS2, ho5⟩, hB5⟩
  have hb5 := hb4.trans ((hB5.mono hb3.size))
  rw [e3y'.out S hS1 hS2] at ho5
  obtain ⟨ao5, cap5, hv5, _⟩ := ho5.read.form
  subst hv5
  obtain ⟨K, hK⟩ : ∃ K, M.length = K := ⟨_, rfl⟩
  rw [hK] at ho5 hml ⊢
  have ho6 := ho5.mono hb3.size (Nat.le_refl _)
  have ho6' := Lib.hid ho6
  have hK' := Lib.hid hK
  have ho5' := Lib.hid ho5
  have hS1' := Lib.hid hS1
  have hS2' := Lib.hid hS2
  have hg4' := Lib.hid hg4
  clear ho6 hK ho5 hS1 hS2 hg4
  by_cases h9 : K ≤ 9
  · have hV4 := hV3'.out
    rw [if_pos (by rw [hK'.out]; exact h9)] at hV4
    subst hV4
    have h9' : ¬ (K : Int) > 9 := by omega
    go_wp2
    go_ret2
    exact ⟨_, rfl, ho6'.out, hb5⟩
  · have hV4 := hV3'.out
    rw [if_neg (fun h => h9 (by rw [← hK'.out]; exact h))] at hV4
    subst hV4
    have h9' : (K : Int) > 9 := by omega
    go_wp2
    go_ret2
    exact ⟨_, rfl, OwnR.nil _ _ _, hb5⟩

set_option maxHeartbeats 800000 in
theorem specMergePartitions_any (v : Value) (xs : List (Int × Int)) (u : Value) (ys : List (Int × Int)) (w : World) (hv : RatsV w v xs) (hm : szRatS xs ≤ 1099511627776) (hu : RatsV w u ys) (hk : szRatS ys ≤ 1099511627776) :
    Calls Tryz.prog 36 #[v, u] w (RetOB OwnR (MergePartitions_v xs ys) w) := by
  have c1 := mkGood_any v xs w hv hm
  have c2 := fun w' (hB : Below w.heap.size w w') => mkGood_any u ys w' (hu.below hB) hk
  have e1 : partB xs = true → partB ys = true → (2 ≤ xs.length ∧ xs.length ≤ 9) ∧ (2 ≤ ys.length ∧ ys.length ≤ 9) := fun h1 h2 => ⟨partB_len h1, partB_len h2⟩
  have e2 : partB xs = true → partB ys = true → ∀ k, ∀ i, i < (mergeL xs (ys.take k)).length → BdR (nthR (mergeL xs (ys.take k)) i).1 (nthR (mergeL xs (ys.take k)) i).2 := fun h1 h2 k i hi => by
    have hg : ∀ y ∈ ys.take k, goodR y.1 y.2 = true := fun y q => pt_good h2 y (List.mem_of_mem_take q)
    obtain ⟨_, h4⟩ := merge_rise (ys.take k) (pt_rise h1) (pt_good h1) hg
    have hmem : nthR (mergeL xs (ys.take k)) i ∈ mergeL xs (ys.take k) := by rw [nthR_eq hi]; exact List.getElem_mem hi
    have hgd : goodR (nthR (mergeL xs (ys.take k)) i).1 (nthR (mergeL xs (ys.take k)) i).2 = true := by
      rcases (h4 _).1 hmem with q | q
      · exact pt_good h1 _ q
      · exact hg _ q
    exact ⟨(goodR_all hgd).1, (goodR_all hgd).2.1⟩
  have e3 : partB ys = true → ∀ k, k < ys.length → BdR (nthR ys k).1 (nthR ys k).2 := fun h k hk => partB_bd h k hk
  have e4 : partB xs = true → partB ys = true → partB (mergeL xs ys) = decide ((mergeL xs ys).length ≤ 9) := merge_part
  have hV : MergePartitions_v xs ys = if partB xs = true ∧ partB ys = true ∧ (mergeL xs ys).length ≤ 9 then (mergeL xs ys, true) else ([], false) := rfl
  have hml := fun k => mergeL_len (ys.take k) xs
  have htk := fun k (h : k < ys.length) => mergeL_take (xs := xs) h
  have htl := fun k => List.length_take_le k ys
  have hall : ys.take ys.length = ys := List.take_length
  have hz : mergeL xs (ys.take 0) = xs := rfl
  obtain ⟨V, hV2⟩ : ∃ V, MergePartitions_v xs ys = V := ⟨_, rfl⟩
  rw [hV2] at hV ⊢
  have hgood := fun (w' : World) (o : Value) (h : RatsV w' o (mergeL xs ys)) (hl : (mergeL xs ys).length ≤ 1099511627776) => mkGood_any o (mergeL xs ys) w' h hl
  obtain ⟨m, hm2⟩ : ∃ m, ys.length = m := ⟨_, rfl⟩
  simp only [hm2] at e1 e3 htk hall
  have hend : mergeL xs (ys.take m) = mergeL xs ys := by rw [hall]
  obtain ⟨F, hF⟩ : ∃ F : Nat → List (Int × Int), ∀ k, mergeL xs (ys.take k) = F k := ⟨fun k => mergeL xs (ys.take k), fun _ => rfl⟩
  simp only [hF] at e2 hml htk hz hend
  obtain ⟨M, hM⟩ : ∃ M, mergeL xs ys = M := ⟨_, rfl⟩
  rw [hM] at hV e4 hend hgood
  generalize partB xs = P at *
  generalize partB ys = Q at *
  generalize partB M = R at *
  obtain ⟨ao, cap, hve, _⟩ := hv.form
  obtain ⟨ao2, cap2, hue, _, _, H⟩ := hu.form
  subst hve
  subst hue
  simp only [hm2] at c2 H hu hk ⊢
  have c1' := Lib.hid c1
  have c2' := Lib.hid c2
  have e1' := Lib.hid e1
  have e2' := Lib.hid e2
  have e3' := Lib.hid e3
  have e4' := Lib.hid e4
  have hV' := Lib.hid hV
  have hV2' := Lib.hid hV2
  have hM' := Lib.hid hM
  have hm2' := Lib.hid hm2
  have hml' := Lib.hid hml
  have htk' := Lib.hid htk
  have htl' := Lib.hid htl
  have hall' := Lib.hid hall
  have hz' := Lib.hid hz
  have hgood' := Lib.hid hgood
  have hend' := Lib.hid hend
  have hF' := Lib.hid hF
  have H' := Lib.hid H
  have hv' := Lib.hid hv
  have hu' := Lib.hid hu
  clear c1 c2 e1 e2 e3 e4 hV hV2 hM hm2 hml htk htl hall hz hgood hend hF H hv hu
  cases P
  · have hV3 := hV'.out
    rw [if_neg (fun h => by cases h.1)] at hV3
    subst hV3
    clear hV' c2'
    go_enter Tryz.func36, Tryz.ntmps36
    go_wp2_with fail
    refine (c1'.out).mono ?_
    rintro e w1 ⟨rfl, hB1⟩
    go_wp2
    go_ret2
    exact ⟨_, rfl, OwnR.nil _ _ _, hB1⟩
  cases Q
  · have hV3 := hV'.out
    rw [if_neg (fun h => by cases h.2.1)] at hV3
    subst hV3
    clear hV'
    go_enter Tryz.func36, Tryz.ntmps36
    go_wp2_with fail
    refine (c1'.out).mono ?_
    rintro e w1 ⟨rfl, hB1⟩
    go_wp2_with fail
    refine (c2'.out _ hB1).mono ?_
    rintro e w2 ⟨rfl, hB2⟩
    have hb2 := hB1.trans (hB2.mono hB1.size)
    go_wp2
    go_ret2
    exact ⟨_, rfl, OwnR.nil _ _ _, hb2⟩
  obtain ⟨⟨l1, l2⟩, l3, l4⟩ := e1'.out rfl rfl
  have hV3 : V = if M.length ≤ 9 then (M, true) else ([], false) := by rw [hV'.out]; by_cases h : M.length ≤ 9 <;> simp [h]
  have hR := e4'.out rfl rfl
  have e2y := e2'.out rfl rfl
  have e3y := e3'.out rfl
  clear hV' e4' e1' e2' e3'
  have hV3' := Lib.hid hV3
  have hR' := Lib.hid hR
  have e2y' := Lib.hid e2y
  have e3y' := Lib.hid e3y
  clear hV3 hR e2y e3y
  go_enter Tryz.func36, Tryz.ntmps36
  go_wp2_with fail
  refine (c1'.out).mono ?_
  rintro e w1 ⟨rfl, hB1⟩
  go_wp2_with fail
  refine (c2'.out _ hB1).mono ?_
  rintro e w2 ⟨rfl, hB2⟩
  have hb2 := hB1.trans (hB2.mono hB1.size)
  go_wp2_with (at_builtin; refine wpList_append_rats rfl _ _ rfl w2.heap.size _ _ [] xs rfl rfl (GrowR.empty (Nat.le_refl _)) (hv'.out.below (hb2.alloc hb2.size _)) (by simp only [List.length_nil]; omega) (by simp) ?_)
  intro v3 w3 hg3 hgr3
  have hb3 : Below w.heap.size w w3 := (hb2.alloc hb2.size _).grown hgr3 (by have := hb2.size; simp; omega) (fun k hk => by cases hk; exact hb2.size)
  have hg4 := hg3.mono hb2.size
  clear hg3 hgr3 hB1 hB2 hb2 c1' c2'
  go_wp2_with fail
  go_loopw [6, 22] (fun o i wr => ∃ j : Nat, j ≤ m ∧ i = .int .i64 j ∧ GrowR wr w.heap.size o (F j) ∧ Below w.heap.size w wr) (fun _ i _ => m - (intOf i).toNat)
  case atStart => exact ⟨0, Nat.zero_le _, rfl, by rw [hz'.out]; exact hg4, hb3⟩
  case round =>
    obtain ⟨j, hj, rfl, hg, hB⟩ := hrel
    clear hg4 hb3
    have hFl := hml'.out j
    have htl := htl'.out j
    by_cases hlt : j < m
    · obtain ⟨b, off, rfl, d0, d1⟩ := H'.out j hlt
      replace d0 := bkeep hB d0
      replace d1 := bkeep hB d1
      have ht := htk'.out j hlt
      have hyb := e3y'.out j hlt
      obtain ⟨⟨y1, y2⟩, hy⟩ : ∃ y, nthR ys j = y := ⟨_, rfl⟩
      rw [hy] at d0 d1 ht hyb
      simp only at d0 d1
      obtain ⟨g, gc, rfl, hrow⟩ := GrowF.form hg (by omega)
      have cp := fun w' (hB : Below wr.heap.size wr w') => imPut_some g 0 gc (F j) (y1, y2) w' (hg.read.below hB) (by omega) hyb (e2y'.out j)
      have g1 : (0 : Int) ≤ (j : Int) := by omega
      have g2 : (j : Int) < (m : Int) := by omega
      have cp' := Lib.hid cp
      have hrow' := Lib.hid hrow
      have hg' := Lib.hid hg
      have hy' := Lib.hid hy
      have ht' := Lib.hid ht
      have hyb' := Lib.hid hyb
      have hFl' := Lib.hid hFl
      have htl' := Lib.hid htl
      clear cp hrow hg hy ht hyb hFl htl
      go_wp2_with fail
      refine (cp'.out _ ((Below.refl _ _).alloc (Nat.le_refl _) _)).mono ?_
      rintro e w8 ⟨v8, rfl, h8, hB8⟩
      have hw : Below wr.heap.size wr w8 := ((Below.refl _ _).alloc (Nat.le_refl _) _).trans (hB8.mono (by simp))
      have hb8 := hB.trans (hw.mono hB.size)
      have hg8 : GrowR w8 w.heap.size v8 (F (j + 1)) := by
        rw [ht'.out]
        rcases h8 with ⟨rfl, he⟩ | h8
        · rw [he]; exact hg'.out.below hw
        · exact h8.mono (by have := hB.size; simp; omega)
      clear h8 hB8
      have hg8' := Lib.hid hg8
      have hw' := Lib.hid hw
      clear hg8 hw
      go_wp2
      go_roundw
      case rel => exact ⟨j + 1, by omega, by go_num, hg8'.out, hb8⟩
      case measure => simp [intOf]; omega
    · obtain rfl : j = m := by omega
      rw [hend'.out] at hg hFl
      have c9 := hgood'.out wr _ hg.read (by omega)
      have ho := hg.own
      have c9' := Lib.hid c9
      have ho' := Lib.hid ho
      have hg' := Lib.hid hg
      have hFl' := Lib.hid hFl
      have htl' := Lib.hid htl
      clear c9 ho hg hFl htl
      go_wp2_with fail
      refine (c9'.out).mono ?_
      rintro e w9 ⟨rfl, hB9⟩
      have hb9 := hB.trans (hB9.mono hB.size)
      have ho9 := (ho'.out.below hB9 (Nat.le_refl _)).mono (Nat.le_refl _) hB9.size
      have ho9' := Lib.hid ho9
      clear ho9
      by_cases h9 : M.length ≤ 9
      · have hR2 := hR'.out
        rw [decide_eq_true h9] at hR2
        have hV4 := hV3'.out
        rw [if_pos h9] at hV4
        subst hR2
        subst hV4
        go_wp2
        go_ret2
        exact ⟨_, rfl, ho9'.out, hb9⟩
      · have hR2 := hR'.out
        rw [decide_eq_false h9] at hR2
        have hV4 := hV3'.out
        rw [if_neg h9] at hV4
        subst hR2
        subst hV4
        go_wp2
        go_ret2
        exact ⟨_, rfl, OwnR.nil _ _ _, hb9⟩
end Go.Proofs.YtnggopbehohjnaaGreat

/- ParsePoly: the program's. No conditions but small sizes and the variables that the library reads. -/
import Derived.Test.YtgpabfbnbmbmeaaGreatDoorTextR
namespace Go.Proofs.YtgpabfbnbmbmeaaGreatDoor
open Go.Shelf Go.RowKit

theorem itoa_zero : Lib.itoa 0 = [48] := by unfold Lib.itoa; rw [if_neg (by decide)]; exact dec_small (by decide)
theorem bad_word {s x : Bytes} (hx : x ∈ words s) (hb : ∀ v, Lib.atoiAll x ≠ .ok v) : ParsePoly_v s = ([], false) := by
  have hn : ∀ n : Int, -1000000 ≤ n → n ≤ 1000000 → x ≠ Lib.itoa n := fun n h1 h2 e => hb n (by rw [e]; exact atoi_itoa n h1 h2)
  have h48 : s ≠ [48] := by
    intro e
    rw [e, words_zero, List.mem_singleton] at hx
    exact hn 0 (by decide) (by decide) (by rw [hx, itoa_zero])
  exact read_bad (fun _ hp => polyB_mem hp) h48 hx hn

set_option linter.unusedSimpArgs false in
set_option maxRecDepth 20000 in
set_option maxHeartbeats 4000000 in
theorem implParsePoly_any (S : ByteArray) (s : Bytes) (hs : S.data.toList = s) (w : World) (hn : s.length ≤ 1048576) (hv : TextVars w) :
    Calls Tryz.prog 17 #[.string S] w (RetOB Own (ParsePoly_v s) w) := by
  have hts : S = ⟨s.toArray⟩ := bytes_is hs
  have c1 := split_any s w hn hv
  have e0 : strV s = .string S := by rw [hts]; rfl
  rw [e0] at c1
  have hbw := fun x (hx : x ∈ words s) (hb : ∀ v, Lib.atoiAll x ≠ .ok v) => bad_word hx hb
  have hpi := parse_impl s
  obtain ⟨V, hV⟩ : ∃ V, ParsePoly_v s = V := ⟨_, rfl⟩
  rw [hV] at hbw hpi ⊢
  unfold readV at hpi
  have hwc := (cut32_len s []).2
  have hwl : ∀ x, x ∈ words s → x.length ≤ 1048576 := fun x hx => by
    have := words_len s x hx
    omega
  have hao := fun (y : Bytes) v (w' : World) (hy : y.length ≤ 2097152) h => atoi_ok y v w' hy h
  have hab := fun (y : Bytes) (w' : World) (hy : y.length ≤ 2097152) h (hB : Below w.heap.size w w') => atoi_bad y w' hy h (hv.below hB)
  have hst : ∀ k (h : k < (words s).length), ((words s).take (k + 1)).map rdA = ((words s).take k).map rdA ++ [rdA (words s)[k]] := fun k h => by
    rw [List.take_add_one, List.getElem?_eq_getElem h, List.map_append]; rfl
  have hall : ((words s).take (words s).length).map rdA = (words s).map rdA := by rw [List.take_length]
  have hm0 : ((words s).take 0).map rdA = [] := rfl
  have hml : ∀ k, (((words s).take k).map rdA).length ≤ 1048577 := fun k => by
    have : (words s).length ≤ s.length + 1 := hwc
    simp; omega
  have hwk : ∀ k (h : k < (words s).length), (words s)[k].length ≤ 1048576 := fun k h => hwl _ (List.getElem_mem h)
  have hwb : ∀ k (h : k < (words s).length), (∀ v, Lib.atoiAll (words s)[k] ≠ .ok v) → V = ([], false) := fun k h q => hbw _ (List.getElem_mem h) q
  have cG := fun v w' h => isPolynomial_ret v ((words s).map rdA) w' h (by rw [List.length_map]; have : (words s).length ≤ s.length + 1 := hwc; omega)
  have cT := fun v w' h hp (hB : Below w.heap.size w w') => polyText_any v ((words s).map rdA) w' h hp (hv.tab.below hB)
  have hV48 : s = [48] → V = ([], true) := fun a => by rw [hpi, if_pos a]
  have hV1 : s ≠ [48] → polyB ((words s).map rdA) = true → textP ((words s).map rdA) = s → V = ((words s).map rdA, true) := fun h48 a b => by rw [hpi, if_neg h48, if_pos ⟨a, b⟩]
  have hV0 : s ≠ [48] → ¬ (polyB ((words s).map rdA) = true ∧ textP ((words s).map rdA) = s) → V = ([], false) := fun h48 a => by rw [hpi, if_neg h48, if_neg a]
  have hbe : (S.toList == [48]) = decide (s = [48]) := by
    rw [ByteArray.toList_eq, hs]
    by_cases h : s = [48]
    · rw [decide_eq_true h, h]; rfl
    · rw [decide_eq_false h, beq_eq_false_iff_ne]; exact h
  obtain ⟨m, hmm⟩ : ∃ m, (words s).length = m := ⟨_, rfl⟩
  rw [hmm] at hall
  have hm9 : m ≤ 1048577 := by have : (words s).length ≤ s.length + 1 := hwc; omega
  obtain ⟨MK, hMK⟩ : ∃ MK : Nat → List Int, ∀ k, ((words s).take k).map rdA = MK k := ⟨_, fun _ => rfl⟩
  simp only [hMK] at hst hall hm0 hml
  have c1b : Calls Tryz.prog 49 #[.string S, .string ⟨#[32]⟩] w fun e w' => e = .returned (.slice (some ⟨w.heap.size, 0, none⟩) m m) ∧ (∀ j (hj : j < (words s).length), w'.cell? ⟨w.heap.size, j, none⟩ = some (strV (words s)[j])) ∧ Below w.heap.size w w' := by
    refine c1.mono ?_
    rintro e w' ⟨h1, h2, h3⟩
    exact ⟨by rw [h1, hmm], fun j hj => h2 j hj, h3⟩
  clear hV hwl hn hMK hpi hbw hv hwc e0 c1
  have c1b' := Lib.hid c1b
  have hao' := Lib.hid hao
  have hab' := Lib.hid hab
  have hst' := Lib.hid hst
  have hall' := Lib.hid hall
  have hm0' := Lib.hid hm0
  have hml' := Lib.hid hml
  have hwk' := Lib.hid hwk
  have hwb' := Lib.hid hwb
  have cG' := Lib.hid cG
  have cT' := Lib.hid cT
  have hV48' := Lib.hid hV48
  have hV1' := Lib.hid hV1
  have hV0' := Lib.hid hV0
  have hts' := Lib.hid hts
  have hmm' := Lib.hid hmm
  have hs' := Lib.hid hs
  have hbe' := Lib.hid hbe
  clear c1b hao hab hst hall hm0 hml hwk hwb cG cT hV48 hV1 hV0 hts hmm hs hbe
  go_enter Tryz.func17, Tryz.ntmps17
  go_wp2_with fail
  refine (c1b'.out).mono ?_
  rintro e w1 ⟨rfl, hcell, hB1⟩
  have hs1 := hB1.size
  have hcell' := Lib.hid hcell
  have hB1' := Lib.hid hB1
  clear hcell hB1
  go_wp2
  go_loopw [4, 12] (fun o i wr => ∃ k : Nat, k ≤ m ∧ i = .int .i64 k ∧ Grow wr w1.heap.size o (MK k) ∧ Below w1.heap.size w1 wr) (fun _ i _ => m - (intOf i).toNat)
  case atStart => exact ⟨0, Nat.zero_le _, rfl, by rw [hm0'.out]; exact Grow.nil _ _, Below.refl _ _⟩
  case round =>
    obtain ⟨k, hk, rfl, hgk, hB⟩ := hrel
    by_cases hlt : k < m
    · have hkw : k < (words s).length := by rw [hmm'.out]; exact hlt
      have d0 := keepC hB (hcell'.out k hkw)
      have hst1 := hst'.out k hkw
      have hyl := hwk'.out k hkw
      have hml1 := hml'.out k
      have hwb1 := hwb'.out k hkw
      obtain ⟨y, hy⟩ : ∃ y, (words s)[k] = y := ⟨_, rfl⟩
      rw [hy] at d0 hst1 hyl hwb1
      have hsr1 := hB.size
      have hbr := hB1'.out.trans (hB.mono hs1)
      clear hy
      by_cases hok : ∃ v, Lib.atoiAll y = .ok v
      · obtain ⟨v, hv⟩ := hok
        have c2 := hao'.out y v wr (by omega) hv
        rw [rdA_ok hv] at hst1
        unfold strV at c2 d0
        generalize (⟨y.toArray⟩ : ByteArray) = Y at *
        clear hwb1 hv hbr
        have c2' := Lib.hid c2
        have hst1' := Lib.hid hst1
        have hgk' := Lib.hid hgk
        have hB' := Lib.hid hB
        have hml1' := Lib.hid hml1
        clear c2 hst1 hgk hB hml1
        go_wp2_with fail
        refine (c2'.out).mono ?_
        rintro e w2 ⟨rfl, hB2⟩
        have hb3 := hB'.out.trans (hB2.mono hsr1)
        have hg3 := hgk'.out.below hB2
        have hs3 := hb3.size
        clear hB2
        have hb3' := Lib.hid hb3
        have hg3' := Lib.hid hg3
        clear hb3 hg3
        go_wp2_with (at_builtin; refine wpList_append_int rfl _ _ rfl w1.heap.size u4 (MK k) v _ rfl rfl hg3'.out (by have := hml1'.out; omega) hs3 ?_)
        intro v' w' hown hgrow
        have hbf := hg3'.out.belowB hb3'.out (Nat.le_refl _) hs3 hgrow
        rw [← hst1'.out] at hown
        clear hgrow
        have hown' := Lib.hid hown
        have hbf' := Lib.hid hbf
        clear hown hbf
        go_wp2
        go_roundw
        case rel => exact ⟨k + 1, by omega, by go_num, hown'.out, hbf'.out⟩
        case measure => simp [intOf]; omega
      · have hbad : ∀ v, Lib.atoiAll y ≠ .ok v := fun v e => hok ⟨v, e⟩
        have hV2 := hwb1 hbad
        subst hV2
        have c2 := hab'.out y wr (by omega) hbad hbr
        unfold strV at c2 d0
        generalize (⟨y.toArray⟩ : ByteArray) = Y at *
        clear hok hbad hst1
        have c2' := Lib.hid c2
        have hbr' := Lib.hid hbr
        clear c2 hbr
        go_wp2_with fail
        refine (c2'.out).mono ?_
        rintro e w2 ⟨⟨n9, t9, p9, rfl⟩, hB2⟩
        have hb3 := hbr'.out.trans (hB2.mono hbr'.out.size)
        clear hB2
        have hb3' := Lib.hid hb3
        clear hb3
        go_wp2
        go_ret2
        exact ⟨_, rfl, Own.nil _ _ _, hb3'.out⟩
    · obtain rfl : k = m := by omega
      rw [hall'.out] at hgk
      have hrd2 := hgk.read
      have hbw := hB1'.out.trans (hB.mono hs1)
      have ho := Own.mono hgk.own (B' := w.heap.size) (E' := wr.heap.size) hs1 (Nat.le_refl _)
      have c4 := cG'.out u4 wr hrd2
      have c5 := fun w' hB hp (hB2 : Below wr.heap.size wr w') => cT'.out u4 w' (hrd2.below hB2) hp hB
      obtain ⟨ao5, cap5, hu5, -⟩ := hrd2
      subst hu5
      have hlm : ((words s).map rdA).length = k := by rw [List.length_map]; exact hmm'.out
      rw [hlm] at c4 c5 ho ⊢
      clear hgk hB hlm
      by_cases h48 : s = [48]
      · have hV2 := hV48'.out h48
        subst hV2
        have hb1 : (S.toList == [48]) = true := by rw [hbe'.out, decide_eq_true h48]
        clear c4 c5 ho h48
        have hbw' := Lib.hid hbw
        clear hbw
        go_wp2
        go_ret2
        exact ⟨_, rfl, Own.nil _ _ _, hbw'.out⟩
      have hb1 : (S.toList == [48]) = false := by rw [hbe'.out, decide_eq_false h48]
      cases hp : polyB ((words s).map rdA)
      · have hV2 := hV0'.out h48 (fun q => by rw [q.1] at hp; cases hp)
        subst hV2
        rw [hp] at c4
        clear c5 ho h48
        have c4' := Lib.hid c4
        have hbw' := Lib.hid hbw
        have hp' := Lib.hid hp
        clear c4 hbw hp
        go_wp2_with fail
        refine (c4'.out).mono ?_
        rintro e w2 ⟨rfl, hB2⟩
        have hb2 := hbw'.out.trans (hB2.mono hbw'.out.size)
        clear hB2
        have hb2' := Lib.hid hb2
        clear hb2
        go_wp2
        go_ret2
        exact ⟨_, rfl, Own.nil _ _ _, hb2'.out⟩
      · have c6 := fun w' hB hB2 => c5 w' hB hp hB2
        rw [hp] at c4
        by_cases ht : textP ((words s).map rdA) = s
        · have hV2 := hV1'.out h48 hp ht
          subst hV2
          rw [ht, ← hts'.out] at c6
          clear c5 ht hp h48
          have c4' := Lib.hid c4
          have c6' := Lib.hid c6
          have hbw' := Lib.hid hbw
          have ho' := Lib.hid ho
          clear c4 c6 hbw ho
          go_wp2_with fail
          refine (c4'.out).mono ?_
          rintro e w2 ⟨rfl, hB2⟩
          have hb2 := hbw'.out.trans (hB2.mono hbw'.out.size)
          have ho2 := ho'.out.below hB2 (Nat.le_refl _)
          have c7 := c6'.out w2 hb2 hB2
          have hsz2 := hB2.size
          clear hB2
          have c7' := Lib.hid c7
          have hb2' := Lib.hid hb2
          have ho2' := Lib.hid ho2
          clear c7 hb2 ho2
          go_wp2_with fail
          refine (c7'.out).mono ?_
          rintro e w7 ⟨rfl, hB7⟩
          have hb7 := hb2'.out.trans (hB7.mono hb2'.out.size)
          have ho7 := Own.mono (ho2'.out.below hB7 hsz2) (B' := w.heap.size) (E' := w7.heap.size) (Nat.le_refl _) (Nat.le_trans hsz2 hB7.size)
          clear hB7
          have hb7' := Lib.hid hb7
          have ho7' := Lib.hid ho7
          clear hb7 ho7
          go_wp2
          go_ret2
          exact ⟨_, rfl, ho7'.out, hb7'.out⟩
        · have hV2 := hV0'.out h48 (fun q => ht q.2)
          subst hV2
          clear c5
          generalize textP ((words s).map rdA) = TX at *
          obtain ⟨T, hT⟩ : ∃ T : ByteArray, (⟨TX.toArray⟩ : ByteArray) = T := ⟨_, rfl⟩
          rw [hT] at c6
          have hbt : (T.toList == S.toList) = false := by
            rw [← hT, ByteArray.toList_mk, ByteArray.toList_eq, hs'.out, beq_eq_false_iff_ne]
            exact ht
          clear ht hp hT ho h48
          have c4' := Lib.hid c4
          have c6' := Lib.hid c6
          have hbw' := Lib.hid hbw
          clear c4 c6 hbw
          go_wp2_with fail
          refine (c4'.out).mono ?_
          rintro e w2 ⟨rfl, hB2⟩
          have hb2 := hbw'.out.trans (hB2.mono hbw'.out.size)
          have c7 := c6'.out w2 hb2 hB2
          clear hB2
          have c7' := Lib.hid c7
          have hb2' := Lib.hid hb2
          clear c7 hb2
          go_wp2_with fail
          refine (c7'.out).mono ?_
          rintro e w7 ⟨rfl, hB7⟩
          have hb7 := hb2'.out.trans (hB7.mono hb2'.out.size)
          clear hB7
          have hb7' := Lib.hid hb7
          clear hb7
          go_wp2
          go_ret2
          exact ⟨_, rfl, Own.nil _ _ _, hb7'.out⟩
end Go.Proofs.YtgpabfbnbmbmeaaGreatDoor

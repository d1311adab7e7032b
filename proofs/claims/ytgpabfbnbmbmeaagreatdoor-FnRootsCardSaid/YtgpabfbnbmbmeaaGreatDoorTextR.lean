/- ParsePoly: the program's and the reference's. No conditions but small sizes and the variables that the library reads. -/
import Derived.Test.YtgpabfbnbmbmeaaGreatDoorTextN
import Derived.Test.YtgpabfbnbmbmeaaGreatDoorTextRd
namespace Go.Proofs.YtgpabfbnbmbmeaaGreatDoor
open Go.Shelf Go.RowKit

/-- What ParsePoly returns. -/
def ParsePoly_v (s : Bytes) : List Int × Bool := readV polyB rdS s
def rdA (x : Bytes) : Int := match Lib.atoiAll x with | .ok v => v | _ => 0
theorem rdA_itoa (n : Int) (h1 : -1000000 ≤ n) (h2 : n ≤ 1000000) : rdA (Lib.itoa n) = n := by unfold rdA; rw [atoi_itoa n h1 h2]
theorem rdA_ok {x : Bytes} {v : Int} (h : Lib.atoiAll x = .ok v) : rdA x = v := by unfold rdA; rw [h]
theorem parse_impl (s : Bytes) : ParsePoly_v s = readV polyB rdA s := read_same (fun _ hp => polyB_mem hp) rdS_itoa rdA_itoa s
theorem words_zero : words [48] = [[48]] := rfl
theorem bytes_ne {S : ByteArray} {s : Bytes} (hs : S.data.toList = s) (h : s ≠ [48]) : S ≠ ⟨#[48]⟩ := by
  intro e
  subst e
  exact h hs.symm
theorem bytes_is {S : ByteArray} {s : Bytes} (hs : S.data.toList = s) : S = ⟨s.toArray⟩ := by
  apply ByteArray.ext
  rw [← hs]
theorem text_ne {S : ByteArray} {s t : Bytes} (hs : S.data.toList = s) (h : t ≠ s) : (⟨t.toArray⟩ : ByteArray) ≠ S := by
  intro e
  subst e
  exact h (by simpa using hs)

theorem cut32_mem (s : Bytes) : ∀ acc x, x ∈ cut32 acc s → x.length ≤ acc.length + s.length := by
  induction s with
  | nil => intro acc x h; rw [cut32, List.mem_singleton] at h; subst h; simp
  | cons c r ih =>
    intro acc x h
    rw [cut32] at h
    split at h
    · rcases List.mem_cons.1 h with rfl | h
      · omega
      · have := ih [] x h; simp at this ⊢; omega
    · have := ih (acc ++ [c]) x h; simp at this ⊢; omega
theorem words_len (s x : Bytes) (h : x ∈ words s) : x.length ≤ s.length := by have := cut32_mem s [] x h; simpa using this
theorem rdL_bd : ∀ (k : Nat) (l : Bytes), l.length = k → l.all isDig = true → rdL 0 l < 10 ^ k := by
  intro k
  induction k with
  | zero => intro l h _; have := List.eq_nil_of_length_eq_zero h; subst this; decide
  | succ k ih =>
    intro l h ha
    have hne : l ≠ [] := by intro e; rw [e] at h; simp at h
    have hd := List.dropLast_concat_getLast hne
    rw [← hd] at ha ⊢
    rw [List.all_append] at ha
    simp only [Bool.and_eq_true, List.all_cons, List.all_nil, Bool.and_true] at ha
    have h1 := ih l.dropLast (by rw [List.length_dropLast]; omega) ha.1
    rw [rdL_snoc]
    have h2 := ha.2
    unfold isDig at h2
    simp only [Bool.and_eq_true, decide_eq_true_iff] at h2
    have h3 : 10 ^ (k + 1) = 10 * 10 ^ k := by rw [Nat.pow_succ]; omega
    omega
theorem raRd_bd (l : Bytes) : -1 ≤ raRd l ∧ raRd l ≤ 10000000000 := by
  unfold raRd
  split
  · rename_i q
    have h1 := rdL_bd l.length l rfl q.2.2
    have h2 : 10 ^ l.length ≤ 10 ^ 10 := Nat.pow_le_pow_right (by decide) q.1.2
    omega
  · omega
set_option linter.unusedSimpArgs false in
set_option maxRecDepth 20000 in
set_option maxHeartbeats 4000000 in
theorem specParsePoly_any (S : ByteArray) (s : Bytes) (hs : S.data.toList = s) (w : World) (hn : s.length ≤ 1048576) :
    Calls Tryz.prog 18 #[.string S] w (RetOB Own (ParsePoly_v s) w) := by
  have c1 := l1Split_any S s hs w hn
  obtain ⟨V, hV⟩ : ∃ V, ParsePoly_v s = V := ⟨_, rfl⟩
  rw [hV]
  unfold ParsePoly_v at hV
  have hwne : 0 < (words s).length := (cut32_len s []).1
  by_cases hm : 9 < (words s).length
  · have h48 : s ≠ [48] := by intro e; rw [e, words_zero] at hm; simp at hm
    rw [read_many (fun _ hp => polyB_le9 hp) h48 hm] at hV
    subst hV
    obtain ⟨m, hm0⟩ : ∃ m, (words s).length = m := ⟨_, rfl⟩
    have hm1 : (9 : Int) < (m : Int) := by omega
    have hlen := hwne
    have c1' := Lib.hid c1
    have hm0' := Lib.hid hm0
    clear c1 hm0
    go_enter Tryz.func18, Tryz.ntmps18
    go_wp2_with fail
    refine (c1'.out).mono ?_
    rintro e w1 ⟨v1, rfl, hg1, hB1⟩
    obtain ⟨g, cap, rfl, -⟩ := GrowS.form hg1 hlen
    rw [hm0'.out]
    clear hg1
    go_wp2
    go_ret2
    exact ⟨_, rfl, Own.nil _ _ _, hB1⟩
  by_cases h48 : s = [48]
  · have hVr : V = ([], true) := by rw [← hV]; unfold readV; rw [if_pos h48]
    subst hVr
    have hS : S = ⟨#[48]⟩ := by rw [bytes_is hs, h48]
    subst hS
    have hlen := hwne
    have hw1 : (words s).length = 1 := by rw [h48]; rfl
    clear hs hn hm h48 hwne
    have c1' := Lib.hid c1
    have hw1' := Lib.hid hw1
    clear c1 hw1
    go_enter Tryz.func18, Tryz.ntmps18
    go_wp2_with fail
    refine (c1'.out).mono ?_
    rintro e w1 ⟨v1, rfl, hg1, hB1⟩
    obtain ⟨g, cap, rfl, -⟩ := GrowS.form hg1 hlen
    rw [hw1'.out]
    clear hg1
    go_wp2
    go_ret2
    exact ⟨_, rfl, Own.nil _ _ _, hB1⟩
  have hne := bytes_ne hs h48
  have hwl : ∀ x, x ∈ words s → x.length ≤ 1048576 := fun x hx => by
    have := words_len s x hx
    omega
  have hrd := fun (y : Bytes) (w' : World) (hy : y.length ≤ 2097152) => raRead_any ⟨y.toArray⟩ y (by simp) w' hy
  have hst : ∀ k (h : k < (words s).length), ((words s).take (k + 1)).map rdS = ((words s).take k).map rdS ++ [rdS (words s)[k]] := fun k h => by
    rw [List.take_add_one, List.getElem?_eq_getElem h, List.map_append]; rfl
  have hall : ((words s).take (words s).length).map rdS = (words s).map rdS := by rw [List.take_length]
  have hm0 : ((words s).take 0).map rdS = [] := rfl
  have hml : ∀ k, (((words s).take k).map rdS).length ≤ 9 := fun k => by simp; omega
  have hwk : ∀ k (h : k < (words s).length), (words s)[k].length ≤ 1048576 := fun k h => hwl _ (List.getElem_mem h)
  have cG := fun v w' h => poGood_any v ((words s).map rdS) w' h (by rw [List.length_map]; omega)
  have cT := fun v w' h hp => poText_any v ((words s).map rdS) w' h hp
  have hV1 : polyB ((words s).map rdS) = true → textP ((words s).map rdS) = s → V = ((words s).map rdS, true) := fun a b => by
    rw [← hV]; unfold readV; rw [if_neg h48, if_pos ⟨a, b⟩]
  have hV0 : ¬ (polyB ((words s).map rdS) = true ∧ textP ((words s).map rdS) = s) → V = ([], false) := fun a => by
    rw [← hV]; unfold readV; rw [if_neg h48, if_neg a]
  have htn := fun t (h : t ≠ s) => text_ne hs h
  have hts : S = ⟨s.toArray⟩ := bytes_is hs
  obtain ⟨m, hmm⟩ : ∃ m, (words s).length = m := ⟨_, rfl⟩
  have hm9 : m ≤ 9 := by omega
  have hm9i : ¬ (9 : Int) < (m : Int) := by omega
  rw [hmm] at hall
  have hbe : (S.toList == [48]) = false := by rw [ByteArray.toList_eq, hs, beq_eq_false_iff_ne]; exact h48
  have hm9d : decide ((9 : Int) < (m : Int)) = false := decide_eq_false hm9i
  obtain ⟨MK, hMK⟩ : ∃ MK : Nat → List Int, ∀ k, ((words s).take k).map rdS = MK k := ⟨_, fun _ => rfl⟩
  simp only [hMK] at hst hall hm0 hml
  clear hV hwl hm hn hMK
  have c1' := Lib.hid c1
  have hrd' := Lib.hid hrd
  have hst' := Lib.hid hst
  have hall' := Lib.hid hall
  have hm0' := Lib.hid hm0
  have hml' := Lib.hid hml
  have hwk' := Lib.hid hwk
  have cG' := Lib.hid cG
  have cT' := Lib.hid cT
  have hV1' := Lib.hid hV1
  have hV0' := Lib.hid hV0
  have htn' := Lib.hid htn
  have hts' := Lib.hid hts
  have hmm' := Lib.hid hmm
  have hs' := Lib.hid hs
  have h48' := Lib.hid h48
  have hwne' := Lib.hid hwne
  clear c1 hrd hst hall hm0 hml hwk cG cT hV1 hV0 htn hts hmm hs h48 hwne
  go_enter Tryz.func18, Tryz.ntmps18
  go_wp2_with fail
  refine (c1'.out).mono ?_
  rintro e w1 ⟨v1, rfl, hg1, hB1⟩
  obtain ⟨g, cap, rfl, hgl, hcap, hcell⟩ := GrowS.form hg1 hwne'.out
  rw [hmm'.out]
  have hs1 := hB1.size
  clear hg1 hcap
  have hcell' := Lib.hid hcell
  have hB1' := Lib.hid hB1
  clear hcell hB1
  go_wp2
  go_loopw [5, 18] (fun o i wr => ∃ k : Nat, k ≤ m ∧ i = .int .i64 k ∧ Grow wr w1.heap.size o (MK k) ∧ Below w1.heap.size w1 wr) (fun _ i _ => m - (intOf i).toNat)
  case atStart => exact ⟨0, Nat.zero_le _, rfl, by rw [hm0'.out]; exact Grow.nil _ _, Below.refl _ _⟩
  case round =>
    obtain ⟨k, hk, rfl, hgk, hB⟩ := hrel
    by_cases hlt : k < m
    · have hkw : k < (words s).length := by rw [hmm'.out]; exact hlt
      have d0 := keepC hB (hcell'.out k hkw)
      have hst1 := hst'.out k hkw
      have hyl := hwk'.out k hkw
      have hml1 := hml'.out k
      obtain ⟨y, hy⟩ : ∃ y, (words s)[k] = y := ⟨_, rfl⟩
      rw [hy] at d0 hst1 hyl
      have c2 := fun w' => hrd'.out y w' (by omega)
      have c3 := fun w' => hrd'.out (y.drop 1) w' (by rw [List.length_drop]; omega)
      obtain ⟨Y, hY⟩ : ∃ Y : ByteArray, (⟨y.toArray⟩ : ByteArray) = Y := ⟨_, rfl⟩
      have hYl : Y.data.toList = y := by rw [← hY]
      have hYs : Y.size = y.length := by rw [← hYl]; exact Array.length_toList.symm
      obtain ⟨ly, hly⟩ : ∃ l, y.length = l := ⟨_, rfl⟩
      have hYz : Y.size = ly := hYs.trans hly
      have hex := ext_list hYl 1 ly
      rw [show (y.take ly).drop 1 = y.drop 1 by rw [← hly, List.take_length]] at hex
      unfold strV at d0
      rw [hY] at d0 c2
      rw [← hex] at c3
      have hb0 := fun (h : 0 < Y.size) (h2 : 0 < y.length) => byte_at hYl h h2
      have hrS : rdS y = if 1 < y.length ∧ y.head? = some 45 then - raRd y.tail else raRd y := rfl
      have htl : y.tail = y.drop 1 := by simp
      rw [htl] at hrS
      obtain ⟨R1, hR1⟩ : ∃ R, raRd y = R := ⟨_, rfl⟩
      obtain ⟨R2, hR2⟩ : ∃ R, raRd (y.drop 1) = R := ⟨_, rfl⟩
      rw [hR1] at c2 hrS
      rw [hR2] at c3 hrS
      have hR2b : -1 ≤ R2 ∧ R2 ≤ 10000000000 := by rw [← hR2]; exact raRd_bd _
      have hwn : IntKind.i64.wrap (-R2) = -R2 := by rw [IntKind.wrap_i64]; omega
      have hsr := Nat.le_trans hs1 hB.size
      have hsr1 := hB.size
      clear hy hY hYs hex htl hR1 hR2
      by_cases hl1 : 1 < ly
      · have hp0 : 0 < Y.size := by omega
        have hy0 : 0 < y.length := by omega
        have hq := hb0 hp0 hy0
        have hhd : y.head? = some y[0] := by
          cases y with
          | nil => simp at hy0
          | cons a b => rfl
        obtain ⟨z, hz⟩ : ∃ z : UInt8, y[0] = z := ⟨_, rfl⟩
        rw [hz] at hq hhd
        have hl1i : (1 : Int) < (ly : Int) := by omega
        have hle : 1 ≤ ly := by omega
        by_cases h45 : z = 45
        · have hq1 : ((z.toNat : Int) == 45) = true := by rw [h45]; rfl
          have hrs : rdS y = -R2 := by rw [hrS, if_pos ⟨by omega, by rw [hhd, h45]⟩]
          rw [hrs] at hst1
          clear hrS hhd h45 hb0 hz hrs hYl hly
          have c2' := Lib.hid c2
          have c3' := Lib.hid c3
          have hst1' := Lib.hid hst1
          have hgk' := Lib.hid hgk
          have hB' := Lib.hid hB
          have hml1' := Lib.hid hml1
          clear c2 c3 hst1 hgk hB hml1
          go_wp2_with fail
          refine (c2'.out _).mono ?_
          rintro e w2 ⟨rfl, hB2⟩
          have hb2 := hB'.out.trans (hB2.mono hsr1)
          have hg2 := hgk'.out.below hB2
          clear hB2
          have hb2' := Lib.hid hb2
          have hg2' := Lib.hid hg2
          clear hb2 hg2
          go_wp2_with fail
          refine (c3'.out _).mono ?_
          rintro e w3 ⟨rfl, hB3⟩
          have hb3 := hb2'.out.trans (hB3.mono hb2'.out.size)
          have hg3 := hg2'.out.below hB3
          have hs3 := hb3.size
          clear hB3
          have hb3' := Lib.hid hb3
          have hg3' := Lib.hid hg3
          clear hb3 hg3
          go_wp2_with (at_builtin; refine wpList_append_int rfl _ _ rfl w1.heap.size u5 (MK k) (-R2) _ rfl rfl hg3'.out (by have := hml1'.out; omega) hs3 ?_)
          intro v' w' hown hgrow
          have hbf := hg3'.out.belowB hb3'.out (Nat.le_refl _) hs3 hgrow
          rw [← hst1'.out] at hown
          clear hgrow
          have hown' := Lib.hid hown
          have hbf' := Lib.hid hbf
          clear hown hbf
          go_wp2
          go_roundw
          case rel => exact ⟨k + 1, by omega, by go_num, hown'.out, hbf'.out⟩
          case measure => simp [intOf]; omega
        · have hq1 : ((z.toNat : Int) == 45) = false := by
            rw [beq_eq_false_iff_ne]
            intro e
            exact h45 (UInt8.toNat_inj.1 (by have e3 : ((45 : UInt8).toNat : Int) = 45 := rfl; omega))
          have hrs : rdS y = R1 := by rw [hrS, if_neg (fun q => h45 (by rw [hhd] at q; exact Option.some.inj q.2))]
          rw [hrs] at hst1
          clear hrS hhd h45 hb0 hz hrs hYl hly c3
          have c2' := Lib.hid c2
          have hst1' := Lib.hid hst1
          have hgk' := Lib.hid hgk
          have hB' := Lib.hid hB
          have hml1' := Lib.hid hml1
          clear c2 hst1 hgk hB hml1
          go_wp2_with fail
          refine (c2'.out _).mono ?_
          rintro e w2 ⟨rfl, hB2⟩
          have hb3 := hB'.out.trans (hB2.mono hsr1)
          have hg3 := hgk'.out.below hB2
          have hs3 := hb3.size
          clear hB2
          have hb3' := Lib.hid hb3
          have hg3' := Lib.hid hg3
          clear hb3 hg3
          go_wp2_with (at_builtin; refine wpList_append_int rfl _ _ rfl w1.heap.size u5 (MK k) R1 _ rfl rfl hg3'.out (by have := hml1'.out; omega) hs3 ?_)
          intro v' w' hown hgrow
          have hbf := hg3'.out.belowB hb3'.out (Nat.le_refl _) hs3 hgrow
          rw [← hst1'.out] at hown
          clear hgrow
          have hown' := Lib.hid hown
          have hbf' := Lib.hid hbf
          clear hown hbf
          go_wp2
          go_roundw
          case rel => exact ⟨k + 1, by omega, by go_num, hown'.out, hbf'.out⟩
          case measure => simp [intOf]; omega
      · have hl1i : ¬ (1 : Int) < (ly : Int) := by omega
        have hrs : rdS y = R1 := by rw [hrS, if_neg (fun q => hl1 (by omega))]
        rw [hrs] at hst1
        clear hrS hb0 hrs hYl hly c3
        have c2' := Lib.hid c2
        have hst1' := Lib.hid hst1
        have hgk' := Lib.hid hgk
        have hB' := Lib.hid hB
        have hml1' := Lib.hid hml1
        clear c2 hst1 hgk hB hml1
        go_wp2_with fail
        refine (c2'.out _).mono ?_
        rintro e w2 ⟨rfl, hB2⟩
        have hb3 := hB'.out.trans (hB2.mono hsr1)
        have hg3 := hgk'.out.below hB2
        have hs3 := hb3.size
        clear hB2
        have hb3' := Lib.hid hb3
        have hg3' := Lib.hid hg3
        clear hb3 hg3
        go_wp2_with (at_builtin; refine wpList_append_int rfl _ _ rfl w1.heap.size u5 (MK k) R1 _ rfl rfl hg3'.out (by have := hml1'.out; omega) hs3 ?_)
        intro v' w' hown hgrow
        have hbf := hg3'.out.belowB hb3'.out (Nat.le_refl _) hs3 hgrow
        rw [← hst1'.out] at hown
        clear hgrow
        have hown' := Lib.hid hown
        have hbf' := Lib.hid hbf
        clear hown hbf
        go_wp2
        go_roundw
        case rel => exact ⟨k + 1, by omega, by go_num, hown'.out, hbf'.out⟩
        case measure => simp [intOf]; omega
    · obtain rfl : k = m := by omega
      rw [hall'.out] at hgk
      have hrd2 := hgk.read
      have hbw := hB1'.out.trans (hB.mono hs1)
      have ho := Own.mono hgk.own (B' := w.heap.size) (E' := wr.heap.size) hs1 (Nat.le_refl _)
      have c4 := cG'.out u5 wr hrd2
      have c5 := fun hp => cT'.out u5 wr hrd2 hp
      obtain ⟨ao5, cap5, hu5, -⟩ := hrd2
      subst hu5
      have hlm : ((words s).map rdS).length = k := by rw [List.length_map]; exact hmm'.out
      rw [hlm] at c4 c5 ho ⊢
      clear hgk hB hlm
      cases hp : polyB ((words s).map rdS)
      · have hV2 := hV0'.out (fun q => by rw [q.1] at hp; cases hp)
        subst hV2
        rw [hp] at c4
        clear c5 ho
        have c4' := Lib.hid c4
        have hbw' := Lib.hid hbw
        have hp' := Lib.hid hp
        clear c4 hbw hp
        go_wp2_with fail
        refine (c4'.out).mono ?_
        rintro e w_ ⟨rfl, rfl⟩
        go_wp2
        go_ret2
        exact ⟨_, rfl, Own.nil _ _ _, hbw'.out⟩
      · have c6 := c5 hp
        rw [hp] at c4
        by_cases ht : textP ((words s).map rdS) = s
        · have hV2 := hV1'.out hp ht
          subst hV2
          rw [ht, ← hts'.out] at c6
          clear c5 ht hp
          have c4' := Lib.hid c4
          have c6' := Lib.hid c6
          have hbw' := Lib.hid hbw
          have ho' := Lib.hid ho
          clear c4 c6 hbw ho
          go_wp2_with fail
          refine (c4'.out).mono ?_
          rintro e w_ ⟨rfl, rfl⟩
          go_wp2_with fail
          refine (c6'.out).mono ?_
          rintro e w7 ⟨rfl, hB7⟩
          have hb7 := hbw'.out.trans (hB7.mono hbw'.out.size)
          have ho7 := Own.mono (ho'.out.below hB7 (Nat.le_refl _)) (B' := w.heap.size) (E' := w7.heap.size) (Nat.le_refl _) hB7.size
          clear hB7
          have hb7' := Lib.hid hb7
          have ho7' := Lib.hid ho7
          clear hb7 ho7
          go_wp2
          go_ret2
          exact ⟨_, rfl, ho7'.out, hb7'.out⟩
        · have hV2 := hV0'.out (fun q => ht q.2)
          subst hV2
          have hne2 := htn'.out _ ht
          clear c5
          generalize textP ((words s).map rdS) = TX at *
          obtain ⟨T, hT⟩ : ∃ T : ByteArray, (⟨TX.toArray⟩ : ByteArray) = T := ⟨_, rfl⟩
          rw [hT] at c6 hne2
          have hbt : (T.toList == S.toList) = false := by
            rw [← hT, ByteArray.toList_mk, ByteArray.toList_eq, hs'.out, beq_eq_false_iff_ne]
            exact ht
          clear ht hp hT ho
          have c4' := Lib.hid c4
          have c6' := Lib.hid c6
          have hbw' := Lib.hid hbw
          clear c4 c6 hbw
          go_wp2_with fail
          refine (c4'.out).mono ?_
          rintro e w_ ⟨rfl, rfl⟩
          go_wp2_with fail
          refine (c6'.out).mono ?_
          rintro e w7 ⟨rfl, hB7⟩
          have hb7 := hbw'.out.trans (hB7.mono hbw'.out.size)
          clear hB7
          have hb7' := Lib.hid hb7
          clear hb7
          go_wp2
          go_ret2
          exact ⟨_, rfl, Own.nil _ _ _, hb7'.out⟩
end Go.Proofs.YtgpabfbnbmbmeaaGreatDoor

/- The tables of the numbers of walks, if none is too great: the reference's walk and the program's. -/
import Derived.Test.YtblippeklbhepaaClosed
namespace Go.Proofs.Ytblippeklbhepaa
open Go.RowKit

theorem powerOf1_any (u : Value) (r : List Int) (n : Nat) (w : World) (hu : IntsV w u r) (hn : r.length = n) (h1 : 1 ≤ n) (hm : n ≤ 1099511627776) (h0 : ∀ j, j < n → 0 ≤ nth r j) :
    Calls Try.prog 64 #[u] w (Ret (.bool (!allB r 0 1000000000)) w) := by
  have c1 := max_any u r n w hu hn h1 hm
  obtain ⟨ao, cap, rfl, -, -, -⟩ := hu
  have e : (!allB r 0 1000000000) = decide (mxTo r (n - 1) > 1000000000) := by
    rw [Bool.eq_iff_iff]
    simp only [Bool.not_eq_true', decide_eq_true_eq, allB, List.all_eq_false]
    constructor
    · rintro ⟨x, hx, hb⟩
      obtain ⟨j, hj, rfl⟩ := List.getElem_of_mem hx
      rw [← nth_eq hj] at hb
      have hb2 : inB (nth r j) 0 1000000000 = false := by simpa using hb
      have h2 := inB_false.1 hb2
      have h3 := h0 j (by omega)
      have h4 := mxTo_ge r (n - 1) j (by omega)
      omega
    · intro hb
      obtain ⟨j, hj, e⟩ := mxTo_mem r (n - 1)
      refine ⟨nth r j, nth_mem (by omega), ?_⟩
      have : inB (nth r j) 0 1000000000 = false := inB_false.2 (by omega)
      simp [this]
  rw [e]
  clear e
  generalize mxTo r (n - 1) = M at *
  have c1' := Lib.hid c1
  clear c1
  clear h0 hn
  by_cases hb : M > 1000000000
  · rw [decide_eq_true hb]
    go_enter Try.func64, Try.ntmps64
    go_wp2_with fail
    refine (c1'.out).mono ?_
    rintro e w_ ⟨rfl, rfl⟩
    go_wp2
    go_ret
    exact ⟨rfl, Below.refl _ _⟩
  · rw [decide_eq_false hb]
    have hd : decide (1000000000 < M) = false := decide_eq_false (by omega)
    go_enter Try.func64, Try.ntmps64
    go_wp2_with fail
    refine (c1'.out).mono ?_
    rintro e w_ ⟨rfl, rfl⟩
    go_wp2
    go_ret
    exact ⟨rfl, Below.refl _ _⟩

set_option maxHeartbeats 800000 in
theorem implPowerOf_any (v : Value) (g : List (List Int)) (t : Int) (w : World) (hv : RowsV w v g) (hm : szIntSS g ≤ 1099511627776) (_ht : I64 t) :
    Calls Try.prog 7 #[v, .int .i64 t] w (RetOB OwnSS (PowerOf_v g t) w) := by
  have c1 := isWalk_any v g t w hv hm
  have c1' := Lib.hid c1
  clear c1
  cases h : (graphB g && inB t 0 12)
  · rw [h] at c1'
    rw [PowerOf_no (by simp [powOk, clOk, h])]
    clear h hv
    go_enter Try.func7, Try.ntmps7
    go_wp2_with fail
    refine (c1'.out).mono ?_
    rintro e w1 ⟨rfl, hB⟩
    go_wp2
    go_ret2
    exact ⟨_, rfl, OwnSS.nil _ _ _, hB⟩
  rw [h] at c1'
  have hok : clOk g t = true := h
  simp only [Bool.and_eq_true] at h
  obtain ⟨h, ht⟩ := h
  obtain ⟨t, rfl, ht2⟩ := inB_nat' (n := 12) ht
  obtain ⟨n, hn⟩ : ∃ n, g.length = n := ⟨_, rfl⟩
  have c2 := fun w' hB => power_g v g n t w' (hv.below hB) h hn ht2
  obtain ⟨n1, n8, -, -⟩ := graphB_true h
  have hbd := pwG_bd h t
  have hP : powOk g t = (tab n n (pwG g t)).all fun r => allB r 0 1000000000 := by unfold powOk; rw [hok, Bool.true_and, hn]; rfl
  have hyes := @PowerOf_yes g t
  have hno := @PowerOf_no g t
  rw [hn] at n1 n8 hbd hyes
  have c3 : ∀ (w' : World) (gg cap : Nat), RowsV w' (.slice (some ⟨gg, 0, none⟩) n cap) (tab n n (pwG g t)) → Calls Try.prog 63 #[.slice (some ⟨gg, 0, none⟩) n cap, .func (.func 64) #[] #[]] w' (Ret (.bool (!powOk g t)) w') := fun w' gg cap hr => by
    have := containsFuncR_any _ _ 64 #[] (fun r => !allB r 0 1000000000) w' (enters_of Try.func64 (by kernel_rfl) rfl)
      (fun u i w'' hi hB hu => by
        rw [tab_len] at hi
        rw [tab_row hi] at hu ⊢
        exact powerOf1_any u _ n w'' hu (lst_len _ _) n1 (by omega) (fun j hj => by rw [nth_lst hj]; exact (hbd i j hi hj).1)) hr (by rw [tab_len]; omega)
    rw [show (tab n n (pwG g t)).any (fun r => !allB r 0 1000000000) = !powOk g t by rw [hP]; simp [List.not_all_eq_any_not]] at this
    exact this
  have c2' := Lib.hid c2
  have c3' := Lib.hid c3
  clear c2 c3
  clear hok hv h ht hP hbd
  cases hp : powOk g t
  · rw [hno hp]
    have hp' := Lib.hid hp
    clear hp
    clear hno hyes hn
    go_enter Try.func7, Try.ntmps7
    go_wp2_with fail
    refine (c1'.out).mono ?_
    rintro e w1 ⟨rfl, hB⟩
    go_wp2_with fail
    refine (c2'.out _ hB).mono ?_
    rintro e w2 ⟨gg, cap, rb, rc, rfl, hM, hB2⟩
    go_wp2_with fail
    refine (c3'.out w2 gg cap hM.read).mono ?_
    rintro e w3 ⟨rfl, hB3⟩
    rw [hp'.out]
    have hB4 := (hB.trans (hB2.mono hB.size)).trans (hB3.mono (by have := hB.size; have := hB2.size; omega))
    clear hM hB hB2 hB3
    go_wp2
    go_ret2
    exact ⟨_, rfl, OwnSS.nil _ _ _, hB4⟩
  · rw [hyes hp]
    have hp' := Lib.hid hp
    clear hp
    clear hno hyes hn
    go_enter Try.func7, Try.ntmps7
    go_wp2_with fail
    refine (c1'.out).mono ?_
    rintro e w1 ⟨rfl, hB⟩
    go_wp2_with fail
    refine (c2'.out _ hB).mono ?_
    rintro e w2 ⟨gg, cap, rb, rc, rfl, hM, hB2⟩
    go_wp2_with fail
    refine (c3'.out w2 gg cap hM.read).mono ?_
    rintro e w3 ⟨rfl, hB3⟩
    rw [hp'.out]
    have hM2 := (hM.below hB3 (Nat.le_refl _)).mono hB.size hB3.size
    have hB4 := (hB.trans (hB2.mono hB.size)).trans (hB3.mono (by have := hB.size; have := hB2.size; omega))
    clear hM hB hB2 hB3
    have hM2' := Lib.hid hM2
    clear hM2
    go_wp2
    go_ret2
    exact RetM.ob hM2'.out hB4 rfl

set_option maxHeartbeats 800000 in
theorem specPowerOf_any (v : Value) (g : List (List Int)) (t : Int) (w : World) (hv : RowsV w v g) (hm : szIntSS g ≤ 1099511627776) (_ht : I64 t) :
    Calls Try.prog 8 #[v, .int .i64 t] w (RetOB OwnSS (PowerOf_v g t) w) := by
  have c1 := grGood_any v g w hv hm
  have c1' := Lib.hid c1
  clear c1
  cases h : graphB g
  · rw [h] at c1'
    rw [PowerOf_no (by simp [powOk, clOk, h])]
    clear h hv
    go_enter Try.func8, Try.ntmps8
    go_wp2_with fail
    refine (c1'.out).mono ?_
    rintro e w_ ⟨rfl, rfl⟩
    go_wp2
    go_ret2
    exact ⟨_, rfl, OwnSS.nil _ _ _, Below.refl _ _⟩
  rw [h] at c1'
  cases ht : inB t 0 12
  · rw [PowerOf_no (by simp [powOk, clOk, ht])]
    have ht' := Lib.hid ht
    clear ht
    clear h hv
    go_enter Try.func8, Try.ntmps8
    go_wp2_with fail
    refine (c1'.out).mono ?_
    rintro e w_ ⟨rfl, rfl⟩
    go_wp2_with fail
    refine (grSteps_any _ _).mono ?_
    rintro e w1 ⟨rfl, rfl⟩
    rw [ht'.out]
    go_wp2
    go_ret2
    exact ⟨_, rfl, OwnSS.nil _ _ _, Below.refl _ _⟩
  have hok : clOk g t = true := by simp [clOk, h, ht]
  obtain ⟨t, rfl, ht2⟩ := inB_nat' (n := 12) ht
  obtain ⟨n, hn⟩ : ∃ n, g.length = n := ⟨_, rfl⟩
  have c2 := grPower_g v g n t w hv h hn ht2
  obtain ⟨n1, n8, -, -⟩ := graphB_true h
  have hP : powOk g t = (tab n n (pwG g t)).all fun r => allB r 0 1000000000 := by unfold powOk; rw [hok, Bool.true_and, hn]; rfl
  have hyes : (∀ i, i < n → allB (lst n (pwG g t i)) 0 1000000000 = true) → PowerOf_v g t = (tab n n (pwG g t), true) := fun q => by
    have := @PowerOf_yes g t (by rw [hP, tab_all]; exact q)
    rw [hn] at this; exact this
  have hno : ∀ i, i < n → allB (lst n (pwG g t i)) 0 1000000000 = false → PowerOf_v g t = ([], false) := fun i hi q => PowerOf_no (by rw [hP]; exact tab_all_no hi q)
  rw [hn] at n1 n8
  generalize pwG g t = E at *
  obtain ⟨R, hR⟩ : ∃ R, PowerOf_v g t = R := ⟨_, rfl⟩
  rw [hR] at hyes hno ⊢
  have c2' := Lib.hid c2
  have ht' := Lib.hid ht
  have hyes' := Lib.hid hyes
  have hno' := Lib.hid hno
  have hR' := Lib.hid hR
  clear c2 ht hyes hno hR
  clear hok hv h hP hn
  go_enter Try.func8, Try.ntmps8
  go_wp2_with fail
  refine (c1'.out).mono ?_
  rintro e w_ ⟨rfl, rfl⟩
  go_wp2_with fail
  refine (grSteps_any _ _).mono ?_
  rintro e w1 ⟨rfl, rfl⟩
  rw [ht'.out]
  go_wp2_with fail
  refine (c2'.out).mono ?_
  rintro e w2 ⟨gg, cap, rb, rc, rfl, hM, hB⟩
  have hM' := Lib.hid hM
  clear hM
  go_wp2
  go_loop [22] (fun i => ∃ k : Nat, k ≤ n ∧ i = .int .i64 k ∧ Hid (∀ i, i < k → allB (lst n (E i)) 0 1000000000 = true)) (fun i => n - (intOf i).toNat)
  case atStart => exact ⟨0, Nat.zero_le _, rfl, Lib.hid (fun i hi => absurd hi (Nat.not_lt_zero i))⟩
  case round =>
    obtain ⟨k, hk, rfl, hI⟩ := hrel
    by_cases hlt : k < n
    · have p1 := hM'.out.ptr hlt
      have hu := (hM'.out.gr).ints hlt
      have c3 := l1All_any _ _ 0 1000000000 w2 hu (by rw [lst_len]; omega)
      have c3' := Lib.hid c3
      clear c3
      clear hu
      cases ha : allB (lst n (E k)) 0 1000000000
      · have hn := hno'.out k hlt ha
        rw [ha] at c3'
        have hn' := Lib.hid hn
        clear hn
        clear ha
        go_wp2_with fail
        refine (c3'.out).mono ?_
        rintro e w_ ⟨rfl, rfl⟩
        go_wp2
        go_ret2
        rw [hn'.out]
        exact ⟨_, rfl, OwnSS.nil _ _ _, hB⟩
      · have hI2 : ∀ i, i < k + 1 → allB (lst n (E i)) 0 1000000000 = true := fun i hi => by
          by_cases e : i = k
          · rw [e]; exact ha
          · exact hI.out i (by omega)
        rw [ha] at c3'
        have hI2' := Lib.hid hI2
        clear hI2
        clear ha
        go_wp2_with fail
        refine (c3'.out).mono ?_
        rintro e w_ ⟨rfl, rfl⟩
        go_wp2
        go_round
        case rel => exact ⟨k + 1, by omega, by go_num, hI2'⟩
        case measure => simp [intOf]; omega
    · obtain rfl : n = k := by omega
      have hy := hyes'.out hI.out
      have hy' := Lib.hid hy
      clear hy
      go_wp2
      go_ret2
      rw [hy'.out]
      exact RetM.ob hM'.out hB rfl

end Go.Proofs.Ytblippeklbhepaa

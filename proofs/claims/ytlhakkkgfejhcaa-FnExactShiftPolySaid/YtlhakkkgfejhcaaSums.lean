/- PowerSums: the reference's and the program's walk compute the same list (with wrapping arithmetic). -/
import Derived.Test.YtlhakkkgfejhcaaPolyIs
namespace Go.Proofs.Ytlhakkkgfejhcaa
open Go.RowKit

/-- The last coefficient is 1. -/
def monicB (xs : List Int) : Bool := decide (0 < xs.length) && nth xs (xs.length - 1) == 1
theorem monicB_nil {xs : List Int} (h : ¬ 0 < xs.length) : monicB xs = false := by
  have : decide (0 < xs.length) = false := decide_eq_false h
  simp only [monicB, this, Bool.false_and]
theorem monicB_pos {xs : List Int} (h : 0 < xs.length) : monicB xs = (nth xs (xs.length - 1) == 1) := by
  have : decide (0 < xs.length) = true := decide_eq_true h
  simp only [monicB, this, Bool.true_and]

theorem poMonic_any (v : Value) (xs : List Int) (w : World) (hv : IntsV w v xs) (hm : xs.length ≤ 1099511627776) :
    Calls Try.prog 57 #[v] w (Same (.bool (monicB xs)) w) := by
  obtain ⟨ao, cap, rfl, -, -, H⟩ := hv
  by_cases h0 : 0 < xs.length
  · rw [monicB_pos h0]
    obtain ⟨b, off, rfl, hc⟩ := H (xs.length - 1) (by omega)
    clear H
    generalize nth xs (xs.length - 1) = x at hc ⊢
    generalize xs.length = n at hc h0 hm ⊢
    go_enter Try.func57, Try.ntmps57
    go_wp2
    go_ret
    exact ⟨rfl, rfl⟩
  · rw [monicB_nil h0]
    clear H
    generalize xs.length = n at h0 hm ⊢
    go_enter Try.func57, Try.ntmps57
    go_wp2
    go_ret
    exact ⟨rfl, rfl⟩

theorem isMonic_any (v : Value) (xs : List Int) (w : World) (hv : IntsV w v xs) (hm : xs.length ≤ 1099511627776) :
    Calls Try.prog 59 #[v] w (Same (.bool (monicB xs)) w) := by
  obtain ⟨ao, cap, rfl, -, -, H⟩ := hv
  by_cases h0 : 0 < xs.length
  · rw [monicB_pos h0]
    obtain ⟨b, off, rfl, hc⟩ := H (xs.length - 1) (by omega)
    clear H
    generalize nth xs (xs.length - 1) = x at hc ⊢
    generalize xs.length = n at hc h0 hm ⊢
    go_enter Try.func59, Try.ntmps59
    go_wp2
    go_ret
    exact ⟨rfl, rfl⟩
  · rw [monicB_nil h0]
    clear H
    generalize xs.length = n at h0 hm ⊢
    go_enter Try.func59, Try.ntmps59
    go_wp2
    go_ret
    exact ⟨rfl, rfl⟩

theorem zeLength_any (n : Int) (w : World) : Calls Try.prog 58 #[.int .i64 n] w (Same (.bool (inB n 1 12)) w) := by
  go_enter Try.func58, Try.ntmps58
  go_wp2_with fail
  refine (l1In_any _ _ _ _).mono ?_
  rintro e w' ⟨rfl, rfl⟩
  go_wp2
  go_ret
  exact ⟨rfl, rfl⟩

/-- The first i rounds of the inner loop. -/
def psIn (xs out : List Int) (D k : Nat) : Nat → Int
  | 0 => 0
  | i + 1 => wrap64 (psIn xs out D k i - wrap64 (nth xs (D - (i + 1)) * nth out (k - 1 - (i + 1))))
/-- The k-th sum before the test. -/
def psSum (xs out : List Int) (D k : Nat) : Int := if k ≤ D then wrap64 (psIn xs out D k (min (k - 1) D) - wrap64 (k * nth xs (D - k))) else psIn xs out D k (min (k - 1) D)
/-- The first m sums, if none is too large. -/
def psOut (xs : List Int) (D : Nat) : Nat → Option (List Int)
  | 0 => some []
  | m + 1 => (psOut xs D m).bind fun out => if inB (psSum xs out D (m + 1)) (-1000000000) 1000000000 = true then some (out ++ [psSum xs out D (m + 1)]) else none
theorem psOut_len {xs : List Int} {D : Nat} : ∀ {m out}, psOut xs D m = some out → out.length = m
  | 0, out, h => by simp [psOut] at h; subst h; rfl
  | m + 1, out, h => by
    simp only [psOut, Option.bind_eq_some_iff] at h
    obtain ⟨o, h1, h2⟩ := h
    split at h2
    · simp at h2; subst h2; simp [psOut_len h1]
    · simp at h2
theorem psOut_none {xs : List Int} {D m : Nat} (h : psOut xs D m = none) : ∀ j, psOut xs D (m + j) = none
  | 0 => h
  | j + 1 => by rw [← Nat.add_assoc, psOut, psOut_none h j]; rfl
theorem psOut_step {xs out : List Int} {D m : Nat} {s : Int} (h : psOut xs D m = some out) (hs : psSum xs out D (m + 1) = s) (hb : inB s (-1000000000) 1000000000 = true) : psOut xs D (m + 1) = some (out ++ [s]) := by
  rw [psOut, h]; simp [hs, hb]
theorem psOut_stop {xs out : List Int} {D m N : Nat} {s : Int} (h : psOut xs D m = some out) (hs : psSum xs out D (m + 1) = s) (hb : inB s (-1000000000) 1000000000 = false) (hN : m < N) : psOut xs D N = none := by
  have h1 : psOut xs D (m + 1) = none := by rw [psOut, h]; simp [hs, hb]
  have := psOut_none h1 (N - (m + 1))
  rwa [show m + 1 + (N - (m + 1)) = N by omega] at this
def psOk (xs : List Int) (n : Int) : Bool := polyB xs && monicB xs && decide (2 ≤ xs.length) && inB n 1 12
/-- What both functions return. -/
def PowerSums_v (xs : List Int) (n : Int) : List Int × Bool :=
  if psOk xs n = true then (match psOut xs (xs.length - 1) n.toNat with | some out => (out, true) | none => ([], false)) else ([], false)
theorem PowerSums_no {xs : List Int} {n : Int} (h : psOk xs n = false) : PowerSums_v xs n = ([], false) := by simp [PowerSums_v, h]
theorem PowerSums_yes {xs out : List Int} {n : Int} (h : psOk xs n = true) (ho : psOut xs (xs.length - 1) n.toNat = some out) : PowerSums_v xs n = (out, true) := by simp [PowerSums_v, h, ho]
theorem PowerSums_big {xs : List Int} {n : Int} (h : psOk xs n = true) (ho : psOut xs (xs.length - 1) n.toNat = none) : PowerSums_v xs n = ([], false) := by simp [PowerSums_v, h, ho]
theorem PowerSums_len (xs : List Int) (n : Int) : szIntS (PowerSums_v xs n).1 ≤ 1099511627776 := by
  unfold szIntS
  cases h : psOk xs n
  · rw [PowerSums_no h]; simp
  · cases ho : psOut xs (xs.length - 1) n.toNat with
    | none => rw [PowerSums_big h ho]; simp
    | some out =>
      rw [PowerSums_yes h ho, psOut_len ho]
      simp only [psOk, Bool.and_eq_true] at h
      have := inB_true.1 h.2
      omega

theorem psOk_parts {xs : List Int} {n : Int} (h : psOk xs n = true) : polyB xs = true ∧ monicB xs = true ∧ 2 ≤ xs.length ∧ inB n 1 12 = true ∧ 1 ≤ n ∧ n ≤ 12 := by
  simp only [psOk, Bool.and_eq_true, decide_eq_true_eq] at h
  exact ⟨h.1.1.1, h.1.1.2, h.1.2, h.2, (inB_true.1 h.2).1, (inB_true.1 h.2).2⟩
theorem polyB_le {xs : List Int} (h : polyB xs = true) : xs.length ≤ 9 := by
  rcases Nat.lt_or_ge 9 xs.length with h1 | h1
  · rw [polyB_len h1] at h; cases h
  · exact h1

set_option maxHeartbeats 1000000 in
theorem specPowerSums_no (v : Value) (xs : List Int) (n : Int) (w : World) (hv : IntsV w v xs) (hm : xs.length ≤ 1099511627776) (hno : psOk xs n = false) :
    Calls Try.prog 27 #[v, .int .i64 n] w (RetOB Own ([], false) w) := by
  have hp := poGood_any v xs w hv hm
  have hq := poMonic_any v xs w hv hm
  obtain ⟨ao, cap, rfl, -, -, -⟩ := hv
  cases hb : polyB xs
  · rw [hb] at hp
    have hp' := Lib.hid hp
    clear hp hq hb hno
    go_enter Try.func27, Try.ntmps27
    go_wp2_with fail
    refine hp'.out.mono ?_
    rintro e w1 ⟨rfl, rfl⟩
    go_wp2
    go_ret2
    exact ⟨_, rfl, Own.nil _ _ _, Below.refl _ _⟩
  · rw [hb] at hp
    have hp' := Lib.hid hp
    cases hc : monicB xs
    · rw [hc] at hq
      have hq' := Lib.hid hq
      clear hp hq hb hno hc
      go_enter Try.func27, Try.ntmps27
      go_wp2_with fail
      refine hp'.out.mono ?_
      rintro e w1 ⟨rfl, rfl⟩
      go_wp2_with fail
      refine hq'.out.mono ?_
      rintro e w1 ⟨rfl, rfl⟩
      go_wp2
      go_ret2
      exact ⟨_, rfl, Own.nil _ _ _, Below.refl _ _⟩
    · rw [hc] at hq
      have hq' := Lib.hid hq
      by_cases hl : 2 ≤ xs.length
      · have hi : inB n 1 12 = false := by
          have : decide (2 ≤ xs.length) = true := decide_eq_true hl
          simpa [psOk, hb, hc, this] using hno
        have hi' := Lib.hid hi
        clear hp hq hb hno hc hi
        generalize xs.length = L at hl hm hp' hq' ⊢
        go_enter Try.func27, Try.ntmps27
        go_wp2_with fail
        refine hp'.out.mono ?_
        rintro e w1 ⟨rfl, rfl⟩
        go_wp2_with fail
        refine hq'.out.mono ?_
        rintro e w1 ⟨rfl, rfl⟩
        go_wp2_with fail
        refine (zeLength_any _ _).mono ?_
        rintro e w1 ⟨rfl, rfl⟩
        rw [hi'.out]
        go_wp2
        go_ret2
        exact ⟨_, rfl, Own.nil _ _ _, Below.refl _ _⟩
      · clear hp hq hb hno hc
        generalize xs.length = L at hl hm hp' hq' ⊢
        go_enter Try.func27, Try.ntmps27
        go_wp2_with fail
        refine hp'.out.mono ?_
        rintro e w1 ⟨rfl, rfl⟩
        go_wp2_with fail
        refine hq'.out.mono ?_
        rintro e w1 ⟨rfl, rfl⟩
        go_wp2
        go_ret2
        exact ⟨_, rfl, Own.nil _ _ _, Below.refl _ _⟩

set_option maxHeartbeats 2000000 in
theorem specPowerSums_yes (v : Value) (xs : List Int) (n : Int) (w : World) (hv : IntsV w v xs) (hm : xs.length ≤ 1099511627776) (hok : psOk xs n = true) :
    Calls Try.prog 27 #[v, .int .i64 n] w (RetOB Own (PowerSums_v xs n) w) := by
  have hp := poGood_any v xs w hv hm
  have hq := poMonic_any v xs w hv hm
  obtain ⟨k1, k2, hL2, k4, hn1, hn2⟩ := psOk_parts hok
  have hL9 := polyB_le k1
  rw [k1] at hp
  rw [k2] at hq
  have hp' := Lib.hid hp
  have hq' := Lib.hid hq
  have hok' := Lib.hid hok
  have hi' := Lib.hid k4
  clear hp hq hok k1 k2 k4
  have hv' := Lib.hid hv
  obtain ⟨ao, cap, rfl, -, -, -⟩ := id hv
  clear hv
  obtain ⟨L, hL⟩ : ∃ L, xs.length = L := ⟨_, rfl⟩
  rw [hL] at hp' hq' hv' hL2 hL9 ⊢
  have hL' := Lib.hid hL
  obtain ⟨N, rfl⟩ := Int.eq_ofNat_of_zero_le (show 0 ≤ n by omega)
  have dL : decide ((L : Int) < 2) = false := decide_eq_false (by omega)
  clear hL hm
  go_enter Try.func27, Try.ntmps27
  go_wp2_with fail
  refine hp'.out.mono ?_
  rintro e w1 ⟨rfl, rfl⟩
  go_wp2_with fail
  refine hq'.out.mono ?_
  rintro e w1 ⟨rfl, rfl⟩
  go_wp2_with fail
  refine (zeLength_any _ _).mono ?_
  rintro e w1 ⟨rfl, rfl⟩
  rw [hi'.out]
  clear hp' hq'
  go_wp2
  go_loopw [7, 8] (fun v i wr => ∃ (m : Nat) (out : List Int), m ≤ N ∧ i = .int .i64 ((m : Int) + 1) ∧ psOut xs (L - 1) m = some out ∧ Grow wr w.heap.size v out ∧ Below w.heap.size w wr) (fun _ i _ => N + 1 - (intOf i).toNat)
  case atStart => exact ⟨0, [], Nat.zero_le _, by simp, rfl, Grow.nil _ _, Below.refl _ _⟩
  case round =>
    obtain ⟨m, out, hmN, rfl, ho, hg, hB⟩ := hrel
    have hol1 : out.length ≤ m := Nat.le_of_eq (psOut_len ho)
    have hol2 : m ≤ out.length := Nat.le_of_eq (psOut_len ho).symm
    have ho' := Lib.hid ho
    clear ho
    obtain ⟨wo, rfl⟩ : ∃ wo : World, wo = wr := ⟨_, rfl⟩
    by_cases hlt : m < N
    · have dm : decide ((m : Int) + 1 ≤ (N : Int)) = true := decide_eq_true (by omega)
      go_wp2
      go_loopw [9, 10] (fun s i wr => ∃ j : Nat, j ≤ m ∧ j ≤ L - 1 ∧ i = .int .i64 ((j : Int) + 1) ∧ s = .int .i64 (psIn xs out (L - 1) (m + 1) j) ∧ Grow wr w.heap.size u7 out ∧ Below w.heap.size w wr) (fun _ i _ => m + 1 - (intOf i).toNat)
      case atStart => exact ⟨0, Nat.zero_le _, Nat.zero_le _, by simp, rfl, hg, hB⟩
      case round =>
        obtain ⟨j, hj, hjD, rfl, rfl, hg2, hB2⟩ := hrel
        clear hg hB
        obtain ⟨wo2, rfl⟩ : ∃ wo : World, wo = wr := ⟨_, rfl⟩
        by_cases hj1 : j < m ∧ j < L - 1
        · obtain ⟨hj1, hj2⟩ := hj1
          obtain ⟨g, cap2, rfl, hrow⟩ := hg2.form (by omega)
          obtain ⟨ao', cap', e, -, -, H⟩ := hv'.out.below hB2
          rw [hL'.out] at e H
          obtain ⟨rfl, _, rfl⟩ := Value.slice.inj e
          obtain ⟨b, off, rfl, hcell⟩ := H (L - 1 - (j + 1)) (by omega)
          have hcell2 := hrow.cell (j := m - (j + 1)) (by omega)
          clear H e
          have i1 : ((L : Int) - 1 - (j + 1)).toNat = L - 1 - (j + 1) := by omega
          have i2 : ((m : Int) + 1 - 1 - (j + 1)).toNat = m - (j + 1) := by omega
          have g4 : (0 : Int) ≤ (L : Int) - 1 - (j + 1) := by omega
          have g5 : (0 : Int) ≤ (m : Int) + 1 - 1 - (j + 1) := by omega
          go_wp2_with fail
          go_region
          all_goals go_wp2
          go_roundw
          case rel => exact ⟨j + 1, by omega, by omega, by go_num, rfl, hg2.drew, hB2.drew⟩
          case measure => simp [intOf]; omega
        · have hjm : j = min m (L - 1) := by omega
          have hj' := Lib.hid hjm
          clear hjm
          by_cases hmD : m < L - 1
          · have ejm : m = j := by omega
            subst ejm
            obtain ⟨ao', cap', e, -, -, H⟩ := hv'.out.below hB2
            rw [hL'.out] at e H
            obtain ⟨rfl, _, rfl⟩ := Value.slice.inj e
            obtain ⟨b, off, rfl, hcell⟩ := H (L - 1 - (m + 1)) (by omega)
            clear H e
            have i1 : ((L : Int) - 1 - (m + 1)).toNat = L - 1 - (m + 1) := by omega
            have g4 : (0 : Int) ≤ (L : Int) - 1 - (m + 1) := by omega
            obtain ⟨s, hs⟩ : ∃ s, psSum xs out (L - 1) (m + 1) = s := ⟨_, rfl⟩
            have hs1 : wrap64 (psIn xs out (L - 1) (m + 1) m - wrap64 (((m : Int) + 1) * nth xs (L - 1 - (m + 1)))) = s := by
              rw [← hs, psSum, if_pos (by omega), show min (m + 1 - 1) (L - 1) = m by omega]; simp
            have hs' := Lib.hid hs
            clear hs
            go_wp2_with fail
            refine (l1In_any _ _ _ _).mono ?_
            rintro e w1 ⟨rfl, rfl⟩
            cases hb : inB s (-1000000000) 1000000000
            · have ev := Lib.hid (PowerSums_big hok'.out (by rw [hL'.out]; exact psOut_stop ho'.out hs'.out hb hlt))
              clear hb
              go_wp2
              go_ret2
              rw [ev.out]
              exact ⟨_, rfl, Own.nil _ _ _, hB2⟩
            · have hst := Lib.hid (psOut_step ho'.out hs'.out hb)
              clear hb
              have hsz := hB2.size
              go_wp2_with (at_builtin; refine wpList_append_int rfl _ _ rfl w.heap.size u7 out s _ rfl rfl hg2 (by omega) hsz ?_)
              intro v' w' hown' hgrow
              go_wp2
              go_roundw
              case rel => exact ⟨m + 1, out ++ [s], by omega, by go_num, hst.out, hown', hg2.belowB hB2 (Nat.le_refl _) hsz hgrow⟩
              case measure => simp [intOf]; omega
          · obtain rfl : j = L - 1 := by omega
            obtain ⟨s, hs⟩ : ∃ s, psSum xs out (L - 1) (m + 1) = s := ⟨_, rfl⟩
            have hs1 : psIn xs out (L - 1) (m + 1) (L - 1) = s := by
              rw [← hs, psSum, if_neg (by omega), show min (m + 1 - 1) (L - 1) = L - 1 by omega]
            rw [hs1]
            have hs' := Lib.hid hs
            clear hs hs1
            rcases Nat.lt_or_ge (L - 1) m with hx | hx
            all_goals
              go_wp2_with fail
              refine (l1In_any _ _ _ _).mono ?_
              rintro e w1 ⟨rfl, rfl⟩
              cases hb : inB s (-1000000000) 1000000000
              · have ev := Lib.hid (PowerSums_big hok'.out (by rw [hL'.out]; exact psOut_stop ho'.out hs'.out hb hlt))
                clear hb
                go_wp2
                go_ret2
                rw [ev.out]
                exact ⟨_, rfl, Own.nil _ _ _, hB2⟩
              · have hst := Lib.hid (psOut_step ho'.out hs'.out hb)
                clear hb
                have hsz := hB2.size
                go_wp2_with (at_builtin; refine wpList_append_int rfl _ _ rfl w.heap.size u7 out s _ rfl rfl hg2 (by omega) hsz ?_)
                intro v' w' hown' hgrow
                go_wp2
                go_roundw
                case rel => exact ⟨m + 1, out ++ [s], by omega, by go_num, hst.out, hown', hg2.belowB hB2 (Nat.le_refl _) hsz hgrow⟩
                case measure => simp [intOf]; omega
    · obtain rfl : m = N := by omega
      go_wp2
      go_ret2
      rw [PowerSums_yes hok'.out (by rw [hL'.out]; exact ho'.out)]
      exact ⟨_, rfl, hg.own, hB⟩

theorem specPowerSums_any (v : Value) (xs : List Int) (n : Int) (w : World) (hv : IntsV w v xs) (hm : szIntS xs ≤ 1099511627776) (_hi : I64 n) :
    Calls Try.prog 27 #[v, .int .i64 n] w (RetOB Own (PowerSums_v xs n) w) := by
  cases h : psOk xs n
  · rw [PowerSums_no h]; exact specPowerSums_no v xs n w hv hm h
  · exact specPowerSums_yes v xs n w hv hm h

set_option maxHeartbeats 1000000 in
theorem implPowerSums_no (v : Value) (xs : List Int) (n : Int) (w : World) (hv : IntsV w v xs) (hm : xs.length ≤ 1099511627776) (hno : psOk xs n = false) :
    Calls Try.prog 28 #[v, .int .i64 n] w (RetOB Own ([], false) w) := by
  have hp := isPolynomial_any v xs w hv hm
  have hq := fun w' hB => isMonic_any v xs w' (hv.below hB) hm
  obtain ⟨ao, cap, rfl, -, -, -⟩ := id hv
  cases hb : polyB xs
  · rw [hb] at hp
    have hp' := Lib.hid hp
    clear hp hq hb hno hv
    generalize xs.length = L at hm hp' ⊢
    go_enter Try.func28, Try.ntmps28
    go_wp2_with fail
    refine hp'.out.mono ?_
    rintro e w0 ⟨rfl, hB0⟩
    go_wp2
    go_ret2
    exact ⟨_, rfl, Own.nil _ _ _, hB0⟩
  · rw [hb] at hp
    have hp' := Lib.hid hp
    cases hc : monicB xs
    · replace hq := fun w' hB => hc ▸ hq w' hB
      have hq' := Lib.hid hq
      clear hp hq hb hno hc hv
      generalize xs.length = L at hm hp' hq' ⊢
      go_enter Try.func28, Try.ntmps28
      go_wp2_with fail
      refine hp'.out.mono ?_
      rintro e w0 ⟨rfl, hB0⟩
      go_wp2_with fail
      refine (hq'.out _ hB0).mono ?_
      rintro e w1 ⟨rfl, rfl⟩
      go_wp2
      go_ret2
      exact ⟨_, rfl, Own.nil _ _ _, hB0⟩
    · replace hq := fun w' hB => hc ▸ hq w' hB
      have hq' := Lib.hid hq
      by_cases hl : 2 ≤ xs.length
      · have hi : inB n 1 12 = false := by
          have : decide (2 ≤ xs.length) = true := decide_eq_true hl
          simpa [psOk, hb, hc, this] using hno
        have hi' := Lib.hid hi
        clear hp hq hb hno hc hi hv
        generalize xs.length = L at hl hm hp' hq' ⊢
        go_enter Try.func28, Try.ntmps28
        go_wp2_with fail
        refine hp'.out.mono ?_
        rintro e w0 ⟨rfl, hB0⟩
        go_wp2_with fail
        refine (hq'.out _ hB0).mono ?_
        rintro e w1 ⟨rfl, rfl⟩
        go_wp2_with fail
        refine (within_any _ _ _ _).mono ?_
        rintro e w1 ⟨rfl, rfl⟩
        rw [hi'.out]
        go_wp2
        go_ret2
        exact ⟨_, rfl, Own.nil _ _ _, hB0⟩
      · clear hp hq hb hno hc
        generalize xs.length = L at hl hm hp' hq' ⊢
        go_enter Try.func28, Try.ntmps28
        go_wp2_with fail
        refine hp'.out.mono ?_
        rintro e w0 ⟨rfl, hB0⟩
        go_wp2_with fail
        refine (hq'.out _ hB0).mono ?_
        rintro e w1 ⟨rfl, rfl⟩
        go_wp2
        go_ret2
        exact ⟨_, rfl, Own.nil _ _ _, hB0⟩

set_option maxHeartbeats 2000000 in
theorem implPowerSums_yes (v : Value) (xs : List Int) (n : Int) (w : World) (hv : IntsV w v xs) (hm : xs.length ≤ 1099511627776) (hok : psOk xs n = true) :
    Calls Try.prog 28 #[v, .int .i64 n] w (RetOB Own (PowerSums_v xs n) w) := by
  have hp := isPolynomial_any v xs w hv hm
  have hq := fun w' hB => isMonic_any v xs w' (hv.below hB) hm
  obtain ⟨k1, k2, hL2, k4, hn1, hn2⟩ := psOk_parts hok
  have hL9 := polyB_le k1
  rw [k1] at hp
  replace hq := fun w' hB => k2 ▸ hq w' hB
  have hp' := Lib.hid hp
  have hq' := Lib.hid hq
  have hok' := Lib.hid hok
  have hi' := Lib.hid k4
  clear hp hq hok k1 k2 k4
  have hv' := Lib.hid hv
  obtain ⟨ao, cap, rfl, -, -, -⟩ := id hv
  clear hv
  obtain ⟨L, hL⟩ : ∃ L, xs.length = L := ⟨_, rfl⟩
  rw [hL] at hp' hq' hv' hL2 hL9 ⊢
  have hL' := Lib.hid hL
  obtain ⟨N, rfl⟩ := Int.eq_ofNat_of_zero_le (show 0 ≤ n by omega)
  have dL : decide ((L : Int) - 1 < 1) = false := decide_eq_false (by omega)
  clear hL hm
  go_enter Try.func28, Try.ntmps28
  go_wp2_with fail
  refine hp'.out.mono ?_
  rintro e w0 ⟨rfl, hB0⟩
  go_wp2_with fail
  refine (hq'.out _ hB0).mono ?_
  rintro e w1 ⟨rfl, rfl⟩
  go_wp2_with fail
  refine (within_any _ _ _ _).mono ?_
  rintro e w1 ⟨rfl, rfl⟩
  rw [hi'.out]
  clear hp' hq'
  go_wp2
  go_loopw [7, 8] (fun v i wr => ∃ (m : Nat) (out : List Int), m ≤ N ∧ i = .int .i64 ((m : Int) + 1) ∧ psOut xs (L - 1) m = some out ∧ Grow wr w.heap.size v out ∧ Below w.heap.size w wr) (fun _ i _ => N + 1 - (intOf i).toNat)
  case atStart => exact ⟨0, [], Nat.zero_le _, by simp, rfl, Grow.nil _ _, hB0⟩
  case round =>
    obtain ⟨m, out, hmN, rfl, ho, hg, hB⟩ := hrel
    have hol1 : out.length ≤ m := Nat.le_of_eq (psOut_len ho)
    have hol2 : m ≤ out.length := Nat.le_of_eq (psOut_len ho).symm
    have ho' := Lib.hid ho
    clear ho
    obtain ⟨wo, rfl⟩ : ∃ wo : World, wo = wr := ⟨_, rfl⟩
    by_cases hlt : m < N
    · have dm : decide ((m : Int) + 1 ≤ (N : Int)) = true := decide_eq_true (by omega)
      go_wp2
      go_loopw [9, 10] (fun s i wr => ∃ j : Nat, j ≤ m ∧ j ≤ L - 1 ∧ i = .int .i64 ((j : Int) + 1) ∧ s = .int .i64 (psIn xs out (L - 1) (m + 1) j) ∧ Grow wr w.heap.size u7 out ∧ Below w.heap.size w wr) (fun _ i _ => m + 1 - (intOf i).toNat)
      case atStart => exact ⟨0, Nat.zero_le _, Nat.zero_le _, by simp, rfl, hg, hB⟩
      case round =>
        obtain ⟨j, hj, hjD, rfl, rfl, hg2, hB2⟩ := hrel
        clear hg hB
        obtain ⟨wo2, rfl⟩ : ∃ wo : World, wo = wr := ⟨_, rfl⟩
        by_cases hj1 : j < m ∧ j < L - 1
        · obtain ⟨hj1, hj2⟩ := hj1
          obtain ⟨g, cap2, rfl, hrow⟩ := hg2.form (by omega)
          obtain ⟨ao', cap', e, -, -, H⟩ := hv'.out.below hB2
          rw [hL'.out] at e H
          obtain ⟨rfl, _, rfl⟩ := Value.slice.inj e
          obtain ⟨b, off, rfl, hcell⟩ := H (L - 1 - (j + 1)) (by omega)
          have hcell2 := hrow.cell (j := m - (j + 1)) (by omega)
          clear H e
          have i1 : ((L : Int) - 1 - (j + 1)).toNat = L - 1 - (j + 1) := by omega
          have i2 : ((m : Int) + 1 - (j + 1) - 1).toNat = m - (j + 1) := by omega
          have g4 : (0 : Int) ≤ (L : Int) - 1 - (j + 1) := by omega
          have g5 : (0 : Int) ≤ (m : Int) + 1 - (j + 1) - 1 := by omega
          go_wp2_with fail
          go_region
          all_goals go_wp2
          go_roundw
          case rel => exact ⟨j + 1, by omega, by omega, by go_num, rfl, hg2.drew, hB2.drew⟩
          case measure => simp [intOf]; omega
        · have hjm : j = min m (L - 1) := by omega
          have hj' := Lib.hid hjm
          clear hjm
          by_cases hmD : m < L - 1
          · have ejm : m = j := by omega
            subst ejm
            obtain ⟨ao', cap', e, -, -, H⟩ := hv'.out.below hB2
            rw [hL'.out] at e H
            obtain ⟨rfl, _, rfl⟩ := Value.slice.inj e
            obtain ⟨b, off, rfl, hcell⟩ := H (L - 1 - (m + 1)) (by omega)
            clear H e
            have i1 : ((L : Int) - 1 - (m + 1)).toNat = L - 1 - (m + 1) := by omega
            have g4 : (0 : Int) ≤ (L : Int) - 1 - (m + 1) := by omega
            obtain ⟨s, hs⟩ : ∃ s, psSum xs out (L - 1) (m + 1) = s := ⟨_, rfl⟩
            have hs1 : wrap64 (psIn xs out (L - 1) (m + 1) m - wrap64 (((m : Int) + 1) * nth xs (L - 1 - (m + 1)))) = s := by
              rw [← hs, psSum, if_pos (by omega), show min (m + 1 - 1) (L - 1) = m by omega]; simp
            have hs' := Lib.hid hs
            clear hs
            go_wp2_with fail
            refine (within_any _ _ _ _).mono ?_
            rintro e w1 ⟨rfl, rfl⟩
            cases hb : inB s (-1000000000) 1000000000
            · have ev := Lib.hid (PowerSums_big hok'.out (by rw [hL'.out]; exact psOut_stop ho'.out hs'.out hb hlt))
              clear hb
              go_wp2
              go_ret2
              rw [ev.out]
              exact ⟨_, rfl, Own.nil _ _ _, hB2⟩
            · have hst := Lib.hid (psOut_step ho'.out hs'.out hb)
              clear hb
              have hsz := hB2.size
              go_wp2_with (at_builtin; refine wpList_append_int rfl _ _ rfl w.heap.size u7 out s _ rfl rfl hg2 (by omega) hsz ?_)
              intro v' w' hown' hgrow
              go_wp2
              go_roundw
              case rel => exact ⟨m + 1, out ++ [s], by omega, by go_num, hst.out, hown', hg2.belowB hB2 (Nat.le_refl _) hsz hgrow⟩
              case measure => simp [intOf]; omega
          · obtain rfl : j = L - 1 := by omega
            obtain ⟨s, hs⟩ : ∃ s, psSum xs out (L - 1) (m + 1) = s := ⟨_, rfl⟩
            have hs1 : psIn xs out (L - 1) (m + 1) (L - 1) = s := by
              rw [← hs, psSum, if_neg (by omega), show min (m + 1 - 1) (L - 1) = L - 1 by omega]
            rw [hs1]
            have hs' := Lib.hid hs
            clear hs hs1
            rcases Nat.lt_or_ge (L - 1) m with hx | hx
            all_goals
              go_wp2_with fail
              refine (within_any _ _ _ _).mono ?_
              rintro e w1 ⟨rfl, rfl⟩
              cases hb : inB s (-1000000000) 1000000000
              · have ev := Lib.hid (PowerSums_big hok'.out (by rw [hL'.out]; exact psOut_stop ho'.out hs'.out hb hlt))
                clear hb
                go_wp2
                go_ret2
                rw [ev.out]
                exact ⟨_, rfl, Own.nil _ _ _, hB2⟩
              · have hst := Lib.hid (psOut_step ho'.out hs'.out hb)
                clear hb
                have hsz := hB2.size
                go_wp2_with (at_builtin; refine wpList_append_int rfl _ _ rfl w.heap.size u7 out s _ rfl rfl hg2 (by omega) hsz ?_)
                intro v' w' hown' hgrow
                go_wp2
                go_roundw
                case rel => exact ⟨m + 1, out ++ [s], by omega, by go_num, hst.out, hown', hg2.belowB hB2 (Nat.le_refl _) hsz hgrow⟩
                case measure => simp [intOf]; omega
    · obtain rfl : m = N := by omega
      go_wp2
      go_ret2
      rw [PowerSums_yes hok'.out (by rw [hL'.out]; exact ho'.out)]
      exact ⟨_, rfl, hg.own, hB⟩

theorem implPowerSums_any (v : Value) (xs : List Int) (n : Int) (w : World) (hv : IntsV w v xs) (hm : szIntS xs ≤ 1099511627776) (_hi : I64 n) :
    Calls Try.prog 28 #[v, .int .i64 n] w (RetOB Own (PowerSums_v xs n) w) := by
  cases h : psOk xs n
  · rw [PowerSums_no h]; exact implPowerSums_no v xs n w hv hm h
  · exact implPowerSums_yes v xs n w hv hm h

end Go.Proofs.Ytlhakkkgfejhcaa

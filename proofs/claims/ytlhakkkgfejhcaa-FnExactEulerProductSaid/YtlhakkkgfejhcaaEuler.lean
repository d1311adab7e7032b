/- EulerProduct: the reference's and the program's walk compute the same list (with wrapping subtraction). -/
import Derived.Test.YtlhakkkgfejhcaaPolyIs
namespace Go.Proofs.Ytlhakkkgfejhcaa
open Go.RowKit

/-- out[d] -= out[d-k]. -/
def eStep (out : List Int) (d k : Nat) : List Int := out.set d (wrap64 (nth out d - nth out (d - k)))
/-- The first j rounds of the loop from n down to k. -/
def eRun (n k : Nat) (out : List Int) : Nat → List Int
  | 0 => out
  | j + 1 => eStep (eRun n k out j) (n - j) k
/-- c times the whole loop. -/
def eCnt (n k : Nat) (out : List Int) : Nat → List Int
  | 0 => out
  | c + 1 => eRun n k (eCnt n k out c) (n + 1 - k)
/-- The first i counts. -/
def eOut (xs : List Int) : Nat → List Int
  | 0 => 1 :: List.replicate xs.length 0
  | i + 1 => eCnt xs.length (i + 1) (eOut xs i) (nth xs i).toNat

theorem eRun_len (n k : Nat) (out : List Int) (j : Nat) : (eRun n k out j).length = out.length := by
  induction j with
  | zero => rfl
  | succ j ih => simp [eRun, eStep, ih]
theorem eCnt_len (n k : Nat) (out : List Int) (c : Nat) : (eCnt n k out c).length = out.length := by
  induction c with
  | zero => rfl
  | succ c ih => simp [eCnt, eRun_len, ih]
theorem eOut_len (xs : List Int) (i : Nat) : (eOut xs i).length = xs.length + 1 := by
  induction i with
  | zero => simp [eOut]
  | succ i ih => simp [eOut, eCnt_len, ih]

def eOk (xs : List Int) : Bool := inB xs.length 1 8 && allB xs 0 100
/-- What both functions return. -/
def EulerProduct_v (xs : List Int) : List Int × Bool :=
  if eOk xs = true then (if allB (eOut xs xs.length) (-1000000) 1000000 = true then (eOut xs xs.length, true) else ([], false)) else ([], false)
theorem EulerProduct_len (xs : List Int) : szIntS (EulerProduct_v xs).1 ≤ 1099511627776 := by
  unfold EulerProduct_v szIntS
  split
  · rename_i h
    split
    · rw [eOut_len]
      simp only [eOk, Bool.and_eq_true] at h
      have := (inB_true.1 h.1).2
      omega
    · simp
  · simp
theorem euler_no {xs : List Int} (h : eOk xs = false) : EulerProduct_v xs = ([], false) := by simp [EulerProduct_v, h]
theorem euler_big {xs : List Int} (h : eOk xs = true) (h2 : allB (eOut xs xs.length) (-1000000) 1000000 = false) : EulerProduct_v xs = ([], false) := by simp [EulerProduct_v, h, h2]
theorem euler_yes {xs : List Int} (h : eOk xs = true) (h2 : allB (eOut xs xs.length) (-1000000) 1000000 = true) : EulerProduct_v xs = (eOut xs xs.length, true) := by simp [EulerProduct_v, h, h2]

theorem RowAt.drew {w : World} {B g n cap : Nat} {xs : List Int} (h : RowAt w B g n cap xs) : RowAt w.drew B g n cap xs := h

set_option maxHeartbeats 2000000 in
theorem specEulerProduct_any (v : Value) (xs : List Int) (w : World) (hv : IntsV w v xs) (hm : szIntS xs ≤ 1099511627776) :
    Calls Try.prog 23 #[v] w (RetOB Own (EulerProduct_v xs) w) := by
  have hm' : xs.length ≤ 1099511627776 := hm
  clear hm
  have hall := l1All_any v xs 0 100 w hv hm'
  cases h1 : inB xs.length 1 8
  · have e1 : eOk xs = false := by simp [eOk, h1]
    rw [euler_no e1]
    obtain ⟨ao, cap, rfl, -, -, -⟩ := id hv
    obtain ⟨n, hn⟩ : ∃ n, xs.length = n := ⟨_, rfl⟩
    rw [hn] at h1 ⊢
    have h1' := Lib.hid h1
    clear hv hall hn h1 e1 hm'
    go_enter Try.func23, Try.ntmps23
    go_wp2_with fail
    refine (l1In_any _ _ _ _).mono ?_
    rintro e w1 ⟨rfl, rfl⟩
    rw [h1'.out]
    go_wp2
    go_ret2
    exact ⟨_, rfl, Own.nil _ _ _, Below.refl _ _⟩
  · cases h2 : allB xs 0 100
    · have e1 : eOk xs = false := by simp [eOk, h2]
      rw [euler_no e1]
      rw [h2] at hall
      obtain ⟨ao, cap, rfl, -, -, -⟩ := id hv
      obtain ⟨n, hn⟩ : ∃ n, xs.length = n := ⟨_, rfl⟩
      rw [hn] at h1 hall ⊢
      have h1' := Lib.hid h1
      have hall' := Lib.hid hall
      clear hv hall hn h1 e1 hm' h2
      go_enter Try.func23, Try.ntmps23
      go_wp2_with fail
      refine (l1In_any _ _ _ _).mono ?_
      rintro e w1 ⟨rfl, rfl⟩
      rw [h1'.out]
      go_wp2_with fail
      refine hall'.out.mono ?_
      rintro e w1 ⟨rfl, rfl⟩
      go_wp2
      go_ret2
      exact ⟨_, rfl, Own.nil _ _ _, Below.refl _ _⟩
    · have e1 : eOk xs = true := by simp [eOk, h1, h2]
      have hb := (inB_true.1 h1).2
      rw [h2] at hall
      have hv' := Lib.hid hv
      obtain ⟨ao, cap, rfl, -, -, -⟩ := id hv
      obtain ⟨n, hn⟩ : ∃ n, xs.length = n := ⟨_, rfl⟩
      have hpos : ∀ i, i < xs.length → 0 ≤ nth xs i ∧ nth xs i ≤ 100 := by
        intro i hi
        exact inB_true.1 (List.all_eq_true.1 h2 _ (nth_mem hi))
      have hpos' := Lib.hid hpos
      have e1' := Lib.hid e1
      rw [hn] at h1 hall hv' hb ⊢
      have hb : n ≤ 8 := by omega
      have h1' := Lib.hid h1
      have hall' := Lib.hid hall
      have hn' := Lib.hid hn
      clear hv hall hn h1 e1 hm' h2 hpos
      obtain ⟨i, hi, hz0, hz1, hz2⟩ := info_parts Try.infoInt
      go_enter Try.func23, Try.ntmps23
      go_wp2_with fail
      refine (l1In_any _ _ _ _).mono ?_
      rintro e w1 ⟨rfl, rfl⟩
      rw [h1'.out]
      go_wp2_with fail
      refine hall'.out.mono ?_
      rintro e w1 ⟨rfl, rfl⟩
      clear h1' hall'
      go_wp2_with (at_make; refine wpList_make_full _ rfl _ _ 22 rfl w.heap.size 3 i _ 1 Try.underlying22 hi hz0 hz1 _ _ _ _ (n + 1) rfl rfl (by simp) (by simp) (by rw [hz2]; omega) (by unfold maxLen; omega) (Nat.le_refl _) ?_)
      intro w1 hown hgrow
      have hB1 : Below w.heap.size w w1 := below_made (Below.refl _ _) (Nat.le_refl _) hgrow
      have ho := row_made hown
      clear hown hgrow hi hz0 hz1 hz2
      have hc0 := ho.cell (j := 0) (by omega)
      have hf0 := ho.frozen 0
      have hst := ho.stored 0 1
      have hB2 := hB1.setCell (p := ⟨w.heap.size, 0, none⟩) (Nat.le_refl _) (.int .i64 1)
      rw [List.replicate_succ, List.set_cons_zero] at hst
      clear ho hB1
      go_wp2
      go_loopw [27] (fun i wr => ∃ k : Nat, k ≤ n ∧ i = .int .i64 k ∧ RowAt wr w.heap.size w.heap.size (n + 1) (n + 1) (eOut xs k) ∧ Below w.heap.size w wr) (fun i _ => n - (intOf i).toNat)
      case atStart => exact ⟨0, Nat.zero_le _, rfl, by rw [eOut, hn'.out]; exact hst, hB2⟩
      case round =>
        obtain ⟨k, hk, rfl, ho, hB⟩ := hrel
        clear hst hB2 hc0 hf0
        obtain ⟨wo, rfl⟩ : ∃ wo : World, wo = wr := ⟨_, rfl⟩
        by_cases hlt : k < n
        · obtain ⟨ao', cap', e, -, -, H⟩ := hv'.out.below hB
          rw [hn'.out] at e H
          obtain ⟨rfl, _, rfl⟩ := Value.slice.inj e
          obtain ⟨b, off, rfl, hcell⟩ := H k hlt
          clear H e
          have hp := hpos'.out k (by rw [hn'.out]; exact hlt)
          obtain ⟨c0, hc0⟩ : ∃ c0 : Nat, nth xs k = c0 := ⟨(nth xs k).toNat, by omega⟩
          rw [hc0] at hcell hp
          have hc0' := Lib.hid hc0
          clear hc0
          go_wp2
          go_loopw [7] (fun i wr => ∃ c : Nat, c ≤ c0 ∧ i = .int .i64 ((c0 : Int) - c) ∧ RowAt wr w.heap.size w.heap.size (n + 1) (n + 1) (eCnt n (k + 1) (eOut xs k) c) ∧ Below w.heap.size w wr) (fun i _ => (intOf i).toNat)
          case atStart => exact ⟨0, Nat.zero_le _, by simp, ho, hB⟩
          case round =>
            obtain ⟨c, hc, rfl, ho2, hB2⟩ := hrel
            clear ho hB hcell
            obtain ⟨wo2, rfl⟩ : ∃ wo : World, wo = wr := ⟨_, rfl⟩
            by_cases hlt2 : c < c0
            · go_wp2
              go_loopw [9] (fun i wr => ∃ j : Nat, j ≤ n - k ∧ i = .int .i64 ((n : Int) - j) ∧ RowAt wr w.heap.size w.heap.size (n + 1) (n + 1) (eRun n (k + 1) (eCnt n (k + 1) (eOut xs k) c) j) ∧ Below w.heap.size w wr) (fun i _ => (intOf i - k).toNat)
              case atStart => exact ⟨0, Nat.zero_le _, by simp, ho2, hB2⟩
              case round =>
                obtain ⟨j, hj, rfl, ho3, hB3⟩ := hrel
                clear ho2 hB2
                obtain ⟨wo3, rfl⟩ : ∃ wo : World, wo = wr := ⟨_, rfl⟩
                by_cases hlt3 : j < n - k
                · have i1 : ((n : Int) - j).toNat = n - j := by omega
                  have i2 : ((n : Int) - j - (k + 1)).toNat = n - j - (k + 1) := by omega
                  have g1 := ho3.cell (j := n - j) (by omega)
                  have g2 := ho3.cell (j := n - j - (k + 1)) (by omega)
                  have g3 := ho3.frozen (n - j)
                  have g4 : (0 : Int) ≤ (n : Int) - j := by omega
                  have g5 : (0 : Int) ≤ (n : Int) - j - (k + 1) := by omega
                  have hst := ho3.stored (n - j) (wrap64 (nth (eRun n (k + 1) (eCnt n (k + 1) (eOut xs k) c) j) (n - j) - nth (eRun n (k + 1) (eCnt n (k + 1) (eOut xs k) c) j) (n - j - (k + 1))))
                  have hB4 := hB3.setCell (p := ⟨w.heap.size, n - j, none⟩) (Nat.le_refl _) (.int .i64 (wrap64 (nth (eRun n (k + 1) (eCnt n (k + 1) (eOut xs k) c) j) (n - j) - nth (eRun n (k + 1) (eCnt n (k + 1) (eOut xs k) c) j) (n - j - (k + 1)))))
                  go_wp2_with fail
                  go_region
                  all_goals go_wp2
                  go_roundw
                  case rel => exact ⟨j + 1, by omega, by go_num, hst, hB4.drew⟩
                  case measure => simp [intOf]; omega
                · obtain rfl : j = n - k := by omega
                  have dn : decide ((k : Int) + 1 ≤ (n : Int) - ((n - k : Nat) : Int)) = false := decide_eq_false (by omega)
                  go_wp2
                  go_roundw
                  case rel => exact ⟨c + 1, by omega, by go_num, by rw [eCnt, show n + 1 - (k + 1) = n - k by omega]; exact ho3, hB3⟩
                  case measure => simp [intOf]; omega
            · obtain rfl : c = c0 := by omega
              go_wp2
              go_roundw
              case rel => exact ⟨k + 1, by omega, by go_num, by rw [eOut, hn'.out, hc0'.out]; exact ho2, hB2⟩
              case measure => simp [intOf]; omega
        · obtain rfl : k = n := by omega
          have hall2 := l1All_any _ (eOut xs k) (-1000000) 1000000 wo ho.ints (by rw [eOut_len, hn'.out]; omega)
          cases h3 : allB (eOut xs k) (-1000000) 1000000
          · have ev := Lib.hid (euler_big e1'.out (by rw [hn'.out]; exact h3))
            rw [h3] at hall2
            have hall3 := Lib.hid hall2
            clear hall2 h3
            go_wp2_with fail
            refine hall3.out.mono ?_
            rintro e w1 ⟨rfl, rfl⟩
            go_wp2
            go_ret2
            rw [ev.out]
            exact ⟨_, rfl, Own.nil _ _ _, hB⟩
          · have ev := Lib.hid (euler_yes e1'.out (by rw [hn'.out]; exact h3))
            rw [h3] at hall2
            have hall3 := Lib.hid hall2
            clear hall2 h3
            go_wp2_with fail
            refine hall3.out.mono ?_
            rintro e w1 ⟨rfl, rfl⟩
            go_wp2
            go_ret2
            rw [ev.out]
            exact ⟨_, rfl, by rw [hn'.out]; exact ho.own, hB⟩

theorem euler1_says (w : World) : Says 55 #[] (fun n => !inB n 0 100) w := by
  intro x w' _
  go_enter Try.func55, Try.ntmps55
  go_wp2_with fail
  refine (within_any _ _ _ _).mono ?_
  rintro e w' ⟨rfl, rfl⟩
  go_wp2
  go_ret
  exact ⟨rfl, Below.refl _ _⟩
theorem euler2_says (w : World) : Says 56 #[] (fun n => !inB n (-1000000) 1000000) w := by
  intro x w' _
  go_enter Try.func56, Try.ntmps56
  go_wp2_with fail
  refine (within_any _ _ _ _).mono ?_
  rintro e w' ⟨rfl, rfl⟩
  go_wp2
  go_ret
  exact ⟨rfl, Below.refl _ _⟩

set_option maxHeartbeats 2000000 in
theorem implEulerProduct_any (v : Value) (xs : List Int) (w : World) (hv : IntsV w v xs) (hm : szIntS xs ≤ 1099511627776) :
    Calls Try.prog 24 #[v] w (RetOB Own (EulerProduct_v xs) w) := by
  have hm' : xs.length ≤ 1099511627776 := hm
  clear hm
  have hall := containsFunc_any v xs 55 #[] _ w (enters_of Try.func55 (by kernel_rfl) rfl) (euler1_says w) hv hm'
  rw [any_not_allB] at hall
  cases h1 : inB xs.length 1 8
  · have e1 : eOk xs = false := by simp [eOk, h1]
    rw [euler_no e1]
    obtain ⟨ao, cap, rfl, -, -, -⟩ := id hv
    obtain ⟨n, hn⟩ : ∃ n, xs.length = n := ⟨_, rfl⟩
    rw [hn] at h1 ⊢
    have h1' := Lib.hid h1
    clear hv hall hn h1 e1 hm'
    go_enter Try.func24, Try.ntmps24
    go_wp2_with fail
    refine (within_any _ _ _ _).mono ?_
    rintro e w1 ⟨rfl, rfl⟩
    rw [h1'.out]
    go_wp2
    go_ret2
    exact ⟨_, rfl, Own.nil _ _ _, Below.refl _ _⟩
  · cases h2 : allB xs 0 100
    · have e1 : eOk xs = false := by simp [eOk, h2]
      rw [euler_no e1]
      rw [h2] at hall
      obtain ⟨ao, cap, rfl, -, -, -⟩ := id hv
      obtain ⟨n, hn⟩ : ∃ n, xs.length = n := ⟨_, rfl⟩
      rw [hn] at h1 hall ⊢
      have h1' := Lib.hid h1
      have hall' := Lib.hid hall
      clear hv hall hn h1 e1 hm' h2
      go_enter Try.func24, Try.ntmps24
      go_wp2_with fail
      refine (within_any _ _ _ _).mono ?_
      rintro e w1 ⟨rfl, rfl⟩
      rw [h1'.out]
      go_wp2_with fail
      refine hall'.out.mono ?_
      rintro e w1 ⟨rfl, hB⟩
      go_wp2
      go_ret2
      exact ⟨_, rfl, Own.nil _ _ _, hB⟩
    · have e1 : eOk xs = true := by simp [eOk, h1, h2]
      have hb := (inB_true.1 h1).2
      rw [h2] at hall
      have hv' := Lib.hid hv
      obtain ⟨ao, cap, rfl, -, -, -⟩ := id hv
      obtain ⟨n, hn⟩ : ∃ n, xs.length = n := ⟨_, rfl⟩
      have hpos : ∀ i, i < xs.length → 0 ≤ nth xs i ∧ nth xs i ≤ 100 := by
        intro i hi
        exact inB_true.1 (List.all_eq_true.1 h2 _ (nth_mem hi))
      have hpos' := Lib.hid hpos
      have e1' := Lib.hid e1
      rw [hn] at h1 hall hv' hb ⊢
      have hb : n ≤ 8 := by omega
      have h1' := Lib.hid h1
      have hall' := Lib.hid hall
      have hn' := Lib.hid hn
      clear hv hall hn h1 e1 hm' h2 hpos
      obtain ⟨i, hi, hz0, hz1, hz2⟩ := info_parts Try.infoInt
      go_enter Try.func24, Try.ntmps24
      go_wp2_with fail
      refine (within_any _ _ _ _).mono ?_
      rintro e w1 ⟨rfl, rfl⟩
      rw [h1'.out]
      go_wp2_with fail
      refine hall'.out.mono ?_
      rintro e w0 ⟨rfl, hB0⟩
      have hs0 := hB0.size
      clear h1' hall'
      go_wp2_with (at_make; refine wpList_make_full _ rfl _ _ 22 rfl w.heap.size 3 i _ 1 Try.underlying22 hi hz0 hz1 _ _ _ _ (n + 1) rfl rfl (by simp) (by simp) (by rw [hz2]; omega) (by unfold maxLen; omega) hs0 ?_)
      intro w1 hown hgrow
      have hB1 : Below w.heap.size w w1 := below_made hB0 hs0 hgrow
      have ho := row_made hown
      clear hown hgrow hi hz0 hz1 hz2
      have hc0 := ho.cell (j := 0) (by omega)
      have hf0 := ho.frozen 0
      have hst := ho.stored 0 1
      have hB2 := hB1.setCell (p := ⟨w0.heap.size, 0, none⟩) hs0 (.int .i64 1)
      rw [List.replicate_succ, List.set_cons_zero] at hst
      clear ho hB1
      go_wp2
      go_loopw [24] (fun i wr => ∃ k : Nat, k ≤ n ∧ i = .int .i64 k ∧ RowAt wr w.heap.size w0.heap.size (n + 1) (n + 1) (eOut xs k) ∧ Below w.heap.size w wr) (fun i _ => n - (intOf i).toNat)
      case atStart => exact ⟨0, Nat.zero_le _, rfl, by rw [eOut, hn'.out]; exact hst, hB2⟩
      case round =>
        obtain ⟨k, hk, rfl, ho, hB⟩ := hrel
        clear hst hB2 hc0 hf0 hB0
        obtain ⟨wo, rfl⟩ : ∃ wo : World, wo = wr := ⟨_, rfl⟩
        by_cases hlt : k < n
        · obtain ⟨ao', cap', e, -, -, H⟩ := hv'.out.below hB
          rw [hn'.out] at e H
          obtain ⟨rfl, _, rfl⟩ := Value.slice.inj e
          obtain ⟨b, off, rfl, hcell⟩ := H k hlt
          clear H e
          have hp := hpos'.out k (by rw [hn'.out]; exact hlt)
          obtain ⟨c0, hc0⟩ : ∃ c0 : Nat, nth xs k = c0 := ⟨(nth xs k).toNat, by omega⟩
          rw [hc0] at hcell hp
          have hc0' := Lib.hid hc0
          clear hc0
          go_wp2
          go_loopw [30] (fun i wr => ∃ c : Nat, c ≤ c0 ∧ i = .int .i64 c ∧ RowAt wr w.heap.size w0.heap.size (n + 1) (n + 1) (eCnt n (k + 1) (eOut xs k) c) ∧ Below w.heap.size w wr) (fun i _ => c0 - (intOf i).toNat)
          case atStart => exact ⟨0, Nat.zero_le _, by simp, ho, hB⟩
          case round =>
            obtain ⟨c, hc, rfl, ho2, hB2⟩ := hrel
            clear ho hB hcell
            obtain ⟨wo2, rfl⟩ : ∃ wo : World, wo = wr := ⟨_, rfl⟩
            by_cases hlt2 : c < c0
            · go_wp2
              go_loopw [7] (fun i wr => ∃ j : Nat, j ≤ n - k ∧ i = .int .i64 ((n : Int) - j) ∧ RowAt wr w.heap.size w0.heap.size (n + 1) (n + 1) (eRun n (k + 1) (eCnt n (k + 1) (eOut xs k) c) j) ∧ Below w.heap.size w wr) (fun i _ => (intOf i - k).toNat)
              case atStart => exact ⟨0, Nat.zero_le _, by simp, ho2, hB2⟩
              case round =>
                obtain ⟨j, hj, rfl, ho3, hB3⟩ := hrel
                clear ho2 hB2
                obtain ⟨wo3, rfl⟩ : ∃ wo : World, wo = wr := ⟨_, rfl⟩
                by_cases hlt3 : j < n - k
                · have i1 : ((n : Int) - j).toNat = n - j := by omega
                  have i2 : ((n : Int) - j - k - 1).toNat = n - j - (k + 1) := by omega
                  have g1 := ho3.cell (j := n - j) (by omega)
                  have g2 := ho3.cell (j := n - j - (k + 1)) (by omega)
                  have g3 := ho3.frozen (n - j)
                  have g4 : (0 : Int) ≤ (n : Int) - j := by omega
                  have g5 : (0 : Int) ≤ (n : Int) - j - k - 1 := by omega
                  have hst := ho3.stored (n - j) (wrap64 (nth (eRun n (k + 1) (eCnt n (k + 1) (eOut xs k) c) j) (n - j) - nth (eRun n (k + 1) (eCnt n (k + 1) (eOut xs k) c) j) (n - j - (k + 1))))
                  have hB4 := hB3.setCell (p := ⟨w0.heap.size, n - j, none⟩) hs0 (.int .i64 (wrap64 (nth (eRun n (k + 1) (eCnt n (k + 1) (eOut xs k) c) j) (n - j) - nth (eRun n (k + 1) (eCnt n (k + 1) (eOut xs k) c) j) (n - j - (k + 1)))))
                  go_wp2_with fail
                  go_region
                  all_goals go_wp2
                  go_roundw
                  case rel => exact ⟨j + 1, by omega, by go_num, hst, hB4.drew⟩
                  case measure => simp [intOf]; omega
                · obtain rfl : j = n - k := by omega
                  go_wp2
                  go_roundw
                  case rel => exact ⟨c + 1, by omega, by go_num, by rw [eCnt, show n + 1 - (k + 1) = n - k by omega]; exact ho3, hB3⟩
                  case measure => simp [intOf]; omega
            · obtain rfl : c = c0 := by omega
              go_wp2
              go_roundw
              case rel => exact ⟨k + 1, by omega, by go_num, by rw [eOut, hn'.out, hc0'.out]; exact ho2, hB2⟩
              case measure => simp [intOf]; omega
        · obtain rfl : k = n := by omega
          have hall2 := containsFunc_any _ (eOut xs k) 56 #[] _ wo (enters_of Try.func56 (by kernel_rfl) rfl) (euler2_says wo) ho.ints (by rw [eOut_len, hn'.out]; omega)
          rw [any_not_allB] at hall2
          cases h3 : allB (eOut xs k) (-1000000) 1000000
          · have ev := Lib.hid (euler_big e1'.out (by rw [hn'.out]; exact h3))
            rw [h3] at hall2
            have hall3 := Lib.hid hall2
            clear hall2 h3
            go_wp2_with fail
            refine hall3.out.mono ?_
            rintro e w1 ⟨rfl, hBc⟩
            go_wp2
            go_ret2
            rw [ev.out]
            exact ⟨_, rfl, Own.nil _ _ _, hB.trans (hBc.mono hB.size)⟩
          · have ev := Lib.hid (euler_yes e1'.out (by rw [hn'.out]; exact h3))
            rw [h3] at hall2
            have hall3 := Lib.hid hall2
            clear hall2 h3
            go_wp2_with fail
            refine hall3.out.mono ?_
            rintro e w1 ⟨rfl, hBc⟩
            go_wp2
            go_ret2
            rw [ev.out]
            exact ⟨_, rfl, by rw [hn'.out]; exact (ho.below hBc ho.lt.2).own, hB.trans (hBc.mono hB.size)⟩

end Go.Proofs.Ytlhakkkgfejhcaa

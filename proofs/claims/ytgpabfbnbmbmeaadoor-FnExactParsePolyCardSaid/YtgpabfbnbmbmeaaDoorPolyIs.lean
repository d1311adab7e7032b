/- Whether a list is a polynomial: the reference's and the program's functions answer the same bool. -/
import Derived.Test.YtgpabfbnbmbmeaaDoorFuncs
namespace Go.Proofs.YtgpabfbnbmbmeaaDoor
open Go.RowKit

/-- The list is a polynomial: at most 9 coefficients of at most a million, the last one not 0. -/
def polyB (xs : List Int) : Bool := decide (xs.length ≤ 9) && allB xs (-1000000) 1000000 && (decide (xs.length = 0) || nth xs (xs.length - 1) != 0)

theorem polyB_len {xs : List Int} (h : 9 < xs.length) : polyB xs = false := by
  have : decide (xs.length ≤ 9) = false := by simp; omega
  simp [polyB, this]
theorem polyB_all {xs : List Int} (h : allB xs (-1000000) 1000000 = false) : polyB xs = false := by simp [polyB, h]
theorem polyB_nil {xs : List Int} (h : xs.length = 0) : polyB xs = true := by
  obtain rfl := List.eq_nil_of_length_eq_zero h; rfl
theorem polyB_last {xs : List Int} (h1 : xs.length ≤ 9) (h2 : allB xs (-1000000) 1000000 = true) (h3 : 0 < xs.length) : polyB xs = (nth xs (xs.length - 1) != 0) := by
  have e1 : decide (xs.length ≤ 9) = true := decide_eq_true h1
  have e2 : decide (xs.length = 0) = false := decide_eq_false (by omega)
  simp only [polyB, e1, e2, h2, Bool.true_and, Bool.and_true, Bool.false_or]

set_option maxHeartbeats 400000 in
theorem poGood_any (v : Value) (xs : List Int) (w : World) (hv : IntsV w v xs) (hm : xs.length ≤ 1099511627776) :
    Calls Tryd.prog 13 #[v] w (Same (.bool (polyB xs)) w) := by
  have hall := l1All_any v xs (-1000000) 1000000 w hv hm
  obtain ⟨ao, cap, rfl, h1, h2, H⟩ := hv
  by_cases hl : xs.length ≤ 9
  · cases ha : allB xs (-1000000) 1000000
    · rw [polyB_all ha]
      rw [ha] at hall
      have hall' := Lib.hid hall
      clear hall ha H
      go_enter Tryd.func13, Tryd.ntmps13
      go_wp2_with fail
      refine hall'.out.mono ?_
      rintro e w' ⟨rfl, rfl⟩
      go_wp2
      go_ret
      exact ⟨rfl, rfl⟩
    · rw [ha] at hall
      have hall' := Lib.hid hall
      clear hall
      by_cases h0 : xs.length = 0
      · rw [polyB_nil h0]
        clear ha H
        obtain ⟨n, hn⟩ : ∃ n, xs.length = n := ⟨_, rfl⟩
        rw [hn] at hl h1 h0 hall' ⊢
        clear hn
        subst h0
        go_enter Tryd.func13, Tryd.ntmps13
        go_wp2_with fail
        refine hall'.out.mono ?_
        rintro e w' ⟨rfl, rfl⟩
        go_wp2
        go_ret
        exact ⟨rfl, rfl⟩
      · rw [polyB_last hl ha (by omega)]
        clear ha
        obtain ⟨b, off, rfl, hc⟩ := H (xs.length - 1) (by omega)
        clear H
        have hx : ∃ x, nth xs (xs.length - 1) = x := ⟨_, rfl⟩
        obtain ⟨x, hx⟩ := hx
        rw [hx] at hc ⊢
        clear hx
        obtain ⟨n, hn⟩ : ∃ n, xs.length = n := ⟨_, rfl⟩
        rw [hn] at hl h1 h0 hall' hc ⊢
        clear hn
        have hz : ((n : Int) == 0) = false := by rw [beq_eq_false_iff_ne]; omega
        go_enter Tryd.func13, Tryd.ntmps13
        go_wp2_with fail
        refine hall'.out.mono ?_
        rintro e w' ⟨rfl, rfl⟩
        go_wp2
        go_ret
        exact ⟨rfl, rfl⟩
  · rw [polyB_len (by omega)]
    clear H hall
    go_enter Tryd.func13, Tryd.ntmps13
    go_wp2
    go_ret
    exact ⟨rfl, rfl⟩

theorem any_not_allB (xs : List Int) (lo hi : Int) : (xs.any fun n => !inB n lo hi) = !allB xs lo hi := by
  simp [allB, List.not_all_eq_any_not]

theorem isPoly1_says (w : World) : Says 24 #[] (fun n => !inB n (-1000000) 1000000) w := by
  intro x w' _
  go_enter Tryd.func24, Tryd.ntmps24
  go_wp2_with fail
  refine (within_any _ _ _ _).mono ?_
  rintro e w' ⟨rfl, rfl⟩
  go_wp2
  go_ret
  exact ⟨rfl, Below.refl _ _⟩

set_option maxHeartbeats 400000 in
theorem isPolynomial_any (v : Value) (xs : List Int) (w : World) (hv : IntsV w v xs) (hm : xs.length ≤ 1099511627776) :
    Calls Tryd.prog 15 #[v] w (Ret (.bool (polyB xs)) w) := by
  have hall := containsFunc_any v xs 24 #[] _ w (enters_of Tryd.func24 (by kernel_rfl) rfl) (isPoly1_says w) hv hm
  rw [any_not_allB] at hall
  obtain ⟨ao, cap, rfl, h1, h2, H⟩ := id hv
  by_cases hl : xs.length ≤ 9
  · cases ha : allB xs (-1000000) 1000000
    · rw [polyB_all ha]
      rw [ha, Bool.not_false] at hall
      have hall' := Lib.hid hall
      clear hall ha H
      go_enter Tryd.func15, Tryd.ntmps15
      go_wp2_with fail
      refine hall'.out.mono ?_
      rintro e w' ⟨rfl, hB⟩
      go_wp2
      go_ret
      exact ⟨rfl, hB⟩
    · rw [ha, Bool.not_true] at hall
      have hall' := Lib.hid hall
      clear hall
      by_cases h0 : xs.length = 0
      · rw [polyB_nil h0]
        clear ha H
        obtain ⟨n, hn⟩ : ∃ n, xs.length = n := ⟨_, rfl⟩
        rw [hn] at hl h1 h0 hall' ⊢
        clear hn hv
        subst h0
        go_enter Tryd.func15, Tryd.ntmps15
        go_wp2_with fail
        refine hall'.out.mono ?_
        rintro e w' ⟨rfl, hB⟩
        go_wp2
        go_ret
        exact ⟨rfl, hB⟩
      · rw [polyB_last hl ha (by omega)]
        clear ha H
        obtain ⟨n, hn⟩ : ∃ n, xs.length = n := ⟨_, rfl⟩
        have hz : ((n : Int) == 0) = false := by rw [beq_eq_false_iff_ne]; omega
        have hv' := Lib.hid hv
        clear hv
        rw [hn] at hl h1 h0 hall' ⊢
        have hn' := Lib.hid hn
        clear hn
        go_enter Tryd.func15, Tryd.ntmps15
        go_wp2_with fail
        refine hall'.out.mono ?_
        rintro e w' ⟨rfl, hB⟩
        obtain ⟨ao', cap', e, _, _, H⟩ := hv'.out.below hB
        rw [hn'.out] at e H
        obtain ⟨rfl, _, rfl⟩ := Value.slice.inj e
        obtain ⟨b, off, rfl, hc⟩ := H (n - 1) (by omega)
        clear H e
        obtain ⟨x, hx⟩ : ∃ x, nth xs (n - 1) = x := ⟨_, rfl⟩
        have hx' := Lib.hid hx
        rw [hx] at hc
        clear hx
        go_wp2
        go_ret
        exact ⟨by rw [hx'.out]; rfl, hB⟩
  · rw [polyB_len (by omega)]
    clear H hall hv
    go_enter Tryd.func15, Tryd.ntmps15
    go_wp2
    go_ret
    exact ⟨rfl, Below.refl _ _⟩

/-- What both IsPolynomial functions return. -/
def IsPolynomial_v (xs : List Int) : Bool := polyB xs



theorem poGood_ret (v : Value) (xs : List Int) (w : World) (hv : IntsV w v xs) (hm : xs.length ≤ 1099511627776) :
    Calls Tryd.prog 13 #[v] w (Ret (.bool (polyB xs)) w) := (poGood_any v xs w hv hm).mono fun _ _ h => h.ret
theorem isPolynomial_ret (v : Value) (xs : List Int) (w : World) (hv : IntsV w v xs) (hm : xs.length ≤ 1099511627776) :
    Calls Tryd.prog 15 #[v] w (Ret (.bool (polyB xs)) w) := isPolynomial_any v xs w hv hm

end Go.Proofs.YtgpabfbnbmbmeaaDoor

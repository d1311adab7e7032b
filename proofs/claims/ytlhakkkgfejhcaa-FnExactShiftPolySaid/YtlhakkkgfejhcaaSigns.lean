/- Changes of sign in a list of coefficients: the reference's SignChanges and the program's return the same. -/
import Derived.Test.YtlhakkkgfejhcaaPolyIs
namespace Go.Proofs.Ytlhakkkgfejhcaa
open Go.RowKit

/-- A number's sign. -/
def sgn (n : Int) : Int := if 0 < n then 1 else if n < 0 then -1 else 0

theorem l1Sign_any (n : Int) (w : World) : Calls Try.prog 52 #[.int .i64 n] w (Same (.int .i64 (sgn n)) w) := by
  by_cases h1 : 0 < n
  · have : sgn n = 1 := by unfold sgn; rw [if_pos h1]
    rw [this]; clear this
    go_enter Try.func52, Try.ntmps52
    go_wp2
    go_ret
    exact ⟨rfl, rfl⟩
  · by_cases h2 : n < 0
    · have : sgn n = -1 := by unfold sgn; rw [if_neg h1, if_pos h2]
      rw [this]; clear this
      go_enter Try.func52, Try.ntmps52
      go_wp2
      go_ret
      exact ⟨rfl, rfl⟩
    · have : sgn n = 0 := by unfold sgn; rw [if_neg h1, if_neg h2]
      rw [this]; clear this
      go_enter Try.func52, Try.ntmps52
      go_wp2
      go_ret
      exact ⟨rfl, rfl⟩

/-- One more coefficient: the changes so far, the last one that is not 0. -/
def chgStep (s : Int × Int) (n : Int) : Int × Int := if n = 0 then s else (if s.2 ≠ 0 ∧ ¬ (s.2 < 0 ↔ n < 0) then s.1 + 1 else s.1, n)
/-- After k coefficients: c changes, l the last one that is not 0. -/
def Chg (xs : List Int) (k : Nat) (c l : Int) : Prop := (xs.take k).foldl chgStep (0, 0) = (c, l) ∧ 0 ≤ c ∧ c ≤ k
theorem Chg.start (xs : List Int) : Chg xs 0 0 0 := ⟨rfl, Int.le_refl _, Int.le_refl _⟩
theorem Chg.zero {xs : List Int} {k : Nat} {c l : Int} (h : Chg xs k c l) (hk : k < xs.length) (hx : nth xs k = 0) : Chg xs (k + 1) c l := by
  refine ⟨?_, h.2.1, by have := h.2.2; omega⟩
  rw [take_nth hk, List.foldl_append, h.1, hx]; rfl
theorem Chg.still {xs : List Int} {k : Nat} {c l : Int} (h : Chg xs k c l) (hk : k < xs.length) (hx : nth xs k ≠ 0) (hs : l = 0 ∨ (l < 0 ↔ nth xs k < 0)) : Chg xs (k + 1) c (nth xs k) := by
  refine ⟨?_, h.2.1, by have := h.2.2; omega⟩
  rw [take_nth hk, List.foldl_append, h.1]
  show chgStep (c, l) (nth xs k) = _
  unfold chgStep
  rw [if_neg hx, if_neg (by rintro ⟨h1, h2⟩; rcases hs with h3 | h3; exact h1 h3; exact h2 h3)]
theorem Chg.turn {xs : List Int} {k : Nat} {c l : Int} (h : Chg xs k c l) (hk : k < xs.length) (hx : nth xs k ≠ 0) (h0 : l ≠ 0) (hs : ¬ (l < 0 ↔ nth xs k < 0)) : Chg xs (k + 1) (c + 1) (nth xs k) := by
  refine ⟨?_, by have := h.2.1; omega, by have := h.2.2; omega⟩
  rw [take_nth hk, List.foldl_append, h.1]
  show chgStep (c, l) (nth xs k) = _
  unfold chgStep
  rw [if_neg hx, if_pos ⟨h0, hs⟩]

/-- What both functions return. -/
def SignChanges_v (xs : List Int) : Int × Bool := if polyB xs = true then ((xs.foldl chgStep (0, 0)).1, true) else (0, false)
theorem SignChanges_no {xs : List Int} (h : polyB xs = false) : SignChanges_v xs = (0, false) := by simp [SignChanges_v, h]
theorem SignChanges_yes {xs : List Int} {c l : Int} (h : polyB xs = true) (hc : Chg xs xs.length c l) : SignChanges_v xs = (c, true) := by
  have := hc.1
  rw [List.take_length] at this
  simp [SignChanges_v, h, this]

set_option maxHeartbeats 1000000 in
theorem implSignChanges_any (v : Value) (xs : List Int) (w : World) (hv : IntsV w v xs) (hm : szIntS xs ≤ 1099511627776) :
    Calls Try.prog 22 #[v] w (Ret (.tuple #[.int .i64 (SignChanges_v xs).1, .bool (SignChanges_v xs).2]) w) := by
  have hm' : xs.length ≤ 1099511627776 := hm
  clear hm
  have hp := isPolynomial_any v xs w hv hm'
  cases hb : polyB xs
  · rw [SignChanges_no hb]
    rw [hb] at hp
    have hp' := Lib.hid hp
    clear hp hb
    go_enter Try.func22, Try.ntmps22
    go_wp2_with fail
    refine hp'.out.mono ?_
    rintro e w1 ⟨rfl, hB⟩
    go_wp2
    go_ret2
    exact ⟨rfl, hB⟩
  · rw [hb] at hp
    have hp' := Lib.hid hp
    have hb' := Lib.hid hb
    have hv' := Lib.hid hv
    obtain ⟨ao, cap, rfl, -, -, -⟩ := id hv
    clear hp hb hv
    obtain ⟨n, hn⟩ : ∃ n, xs.length = n := ⟨_, rfl⟩
    rw [hn] at hm' hp' hv' ⊢
    have hn' := Lib.hid hn
    clear hn
    go_enter Try.func22, Try.ntmps22
    go_wp2_with fail
    refine hp'.out.mono ?_
    rintro e w1 ⟨rfl, hB⟩
    clear hp'
    go_wp2
    go_loop [4, 5, 13] (fun c l i => ∃ (k : Nat) (c' l' : Int), k ≤ n ∧ i = .int .i64 k ∧ c = .int .i64 c' ∧ l = .int .i64 l' ∧ Chg xs k c' l') (fun _ _ i => n - (intOf i).toNat)
    case atStart => exact ⟨0, 0, 0, Nat.zero_le _, rfl, rfl, rfl, Chg.start xs⟩
    case round =>
      obtain ⟨k, c, l, hk, rfl, rfl, rfl, hc⟩ := hrel
      by_cases hlt : k < n
      · obtain ⟨ao', cap', e, -, -, H⟩ := hv'.out.below hB
        rw [hn'.out] at e H
        obtain ⟨rfl, _, rfl⟩ := Value.slice.inj e
        obtain ⟨b, off, rfl, hcell⟩ := H k hlt
        have hkx : k < xs.length := by rw [hn'.out]; exact hlt
        clear H e
        have z0 := fun h => hc.zero hkx h
        have z1 := fun h1 h2 => hc.still hkx h1 h2
        have z2 := fun h1 h2 h3 => hc.turn hkx h1 h2 h3
        have hc1 := hc.2.1
        have hc2 := hc.2.2
        generalize nth xs k = x at hcell z0 z1 z2
        replace z0 := Lib.hid z0
        replace z1 := Lib.hid z1
        replace z2 := Lib.hid z2
        clear hkx
        rcases Int.lt_trichotomy x 0 with hx | rfl | hx
        · have hx0 : (x == 0) = false := by rw [beq_eq_false_iff_ne]; omega
          have dx : decide (x < 0) = true := decide_eq_true hx
          rcases Int.lt_trichotomy l 0 with hl | rfl | hl
          · have hl0 : (l != 0) = true := by rw [bne_iff_ne]; omega
            have dl : decide (l < 0) = true := decide_eq_true hl
            go_wp2
            go_round
            case rel => exact ⟨k + 1, c, x, by omega, by go_num, rfl, rfl, z1.out (by omega) (by omega)⟩
            case measure => simp [intOf]; omega
          · go_wp2
            go_round
            case rel => exact ⟨k + 1, c, x, by omega, by go_num, rfl, rfl, z1.out (by omega) (by omega)⟩
            case measure => simp [intOf]; omega
          · have hl0 : (l != 0) = true := by rw [bne_iff_ne]; omega
            have dl : decide (l < 0) = false := decide_eq_false (by omega)
            go_wp2
            go_round
            case rel => exact ⟨k + 1, c + 1, x, by omega, by go_num, rfl, rfl, z2.out (by omega) (by omega) (by omega)⟩
            case measure => simp [intOf]; omega
        · go_wp2
          go_round
          case rel => exact ⟨k + 1, c, l, by omega, by go_num, rfl, rfl, z0.out rfl⟩
          case measure => simp [intOf]; omega
        · have hx0 : (x == 0) = false := by rw [beq_eq_false_iff_ne]; omega
          have dx : decide (x < 0) = false := decide_eq_false (by omega)
          rcases Int.lt_trichotomy l 0 with hl | rfl | hl
          · have hl0 : (l != 0) = true := by rw [bne_iff_ne]; omega
            have dl : decide (l < 0) = true := decide_eq_true hl
            go_wp2
            go_round
            case rel => exact ⟨k + 1, c + 1, x, by omega, by go_num, rfl, rfl, z2.out (by omega) (by omega) (by omega)⟩
            case measure => simp [intOf]; omega
          · go_wp2
            go_round
            case rel => exact ⟨k + 1, c, x, by omega, by go_num, rfl, rfl, z1.out (by omega) (by omega)⟩
            case measure => simp [intOf]; omega
          · have hl0 : (l != 0) = true := by rw [bne_iff_ne]; omega
            have dl : decide (l < 0) = false := decide_eq_false (by omega)
            go_wp2
            go_round
            case rel => exact ⟨k + 1, c, x, by omega, by go_num, rfl, rfl, z1.out (by omega) (by omega)⟩
            case measure => simp [intOf]; omega
      · obtain rfl : k = n := by omega
        go_wp2
        go_ret2
        refine ⟨?_, hB⟩
        rw [SignChanges_yes hb'.out (by rw [hn'.out]; exact hc)]; rfl

theorem sgn_neg {n : Int} (h : n < 0) : sgn n = -1 := by unfold sgn; rw [if_neg (by omega), if_pos h]
theorem sgn_pos {n : Int} (h : 0 < n) : sgn n = 1 := by unfold sgn; rw [if_pos h]

set_option maxHeartbeats 1000000 in
theorem specSignChanges_any (v : Value) (xs : List Int) (w : World) (hv : IntsV w v xs) (hm : szIntS xs ≤ 1099511627776) :
    Calls Try.prog 21 #[v] w (Ret (.tuple #[.int .i64 (SignChanges_v xs).1, .bool (SignChanges_v xs).2]) w) := by
  have hm' : xs.length ≤ 1099511627776 := hm
  clear hm
  have hp := poGood_any v xs w hv hm'
  cases hb : polyB xs
  · rw [SignChanges_no hb]
    rw [hb] at hp
    have hp' := Lib.hid hp
    clear hp hb
    go_enter Try.func21, Try.ntmps21
    go_wp2_with fail
    refine hp'.out.mono ?_
    rintro e w1 ⟨rfl, rfl⟩
    go_wp2
    go_ret2
    exact ⟨rfl, Below.refl _ _⟩
  · rw [hb] at hp
    have hp' := Lib.hid hp
    have hb' := Lib.hid hb
    have hv' := Lib.hid hv
    obtain ⟨ao, cap, rfl, -, -, -⟩ := id hv
    clear hp hb hv
    obtain ⟨n, hn⟩ : ∃ n, xs.length = n := ⟨_, rfl⟩
    rw [hn] at hm' hp' hv' ⊢
    have hn' := Lib.hid hn
    clear hn
    go_enter Try.func21, Try.ntmps21
    go_wp2_with fail
    refine hp'.out.mono ?_
    rintro e w1 ⟨rfl, rfl⟩
    clear hp'
    go_wp2
    go_loop [4, 5, 13] (fun c l i => ∃ (k : Nat) (c' l' : Int), k ≤ n ∧ i = .int .i64 k ∧ c = .int .i64 c' ∧ l = .int .i64 (sgn l') ∧ Chg xs k c' l') (fun _ _ i => n - (intOf i).toNat)
    case atStart => exact ⟨0, 0, 0, Nat.zero_le _, rfl, rfl, rfl, Chg.start xs⟩
    case round =>
      obtain ⟨k, c, l, hk, rfl, rfl, rfl, hc⟩ := hrel
      by_cases hlt : k < n
      · obtain ⟨ao', cap', e, -, -, H⟩ := hv'.out
        rw [hn'.out] at e H
        obtain ⟨rfl, _, rfl⟩ := Value.slice.inj e
        obtain ⟨b, off, rfl, hcell⟩ := H k hlt
        have hkx : k < xs.length := by rw [hn'.out]; exact hlt
        clear H e
        have z0 := fun h => hc.zero hkx h
        have z1 := fun h1 h2 => hc.still hkx h1 h2
        have z2 := fun h1 h2 h3 => hc.turn hkx h1 h2 h3
        have hc1 := hc.2.1
        have hc2 := hc.2.2
        generalize nth xs k = x at hcell z0 z1 z2
        replace z0 := Lib.hid z0
        replace z1 := Lib.hid z1
        replace z2 := Lib.hid z2
        clear hkx
        rcases Int.lt_trichotomy x 0 with hx | rfl | hx
        · have hx0 : (x == 0) = false := by rw [beq_eq_false_iff_ne]; omega
          rcases Int.lt_trichotomy l 0 with hl | rfl | hl
          · have sl := sgn_neg hl
            rw [sl]
            go_wp2_with fail
            refine (l1Sign_any _ _).mono ?_
            rintro e w2 ⟨rfl, rfl⟩
            rw [sgn_neg hx]
            go_wp2_with fail
            refine (l1Sign_any _ _).mono ?_
            rintro e w2 ⟨rfl, rfl⟩
            rw [sgn_neg hx]
            go_wp2
            go_round
            case rel => exact ⟨k + 1, c, x, by omega, by go_num, rfl, by rw [sgn_neg hx], z1.out (by omega) (by omega)⟩
            case measure => simp [intOf]; omega
          · rw [show sgn 0 = 0 from rfl]
            go_wp2_with fail
            refine (l1Sign_any _ _).mono ?_
            rintro e w2 ⟨rfl, rfl⟩
            rw [sgn_neg hx]
            go_wp2
            go_round
            case rel => exact ⟨k + 1, c, x, by omega, by go_num, rfl, by rw [sgn_neg hx], z1.out (by omega) (by simp)⟩
            case measure => simp [intOf]; omega
          · have sl := sgn_pos hl
            rw [sl]
            go_wp2_with fail
            refine (l1Sign_any _ _).mono ?_
            rintro e w2 ⟨rfl, rfl⟩
            rw [sgn_neg hx]
            go_wp2_with fail
            refine (l1Sign_any _ _).mono ?_
            rintro e w2 ⟨rfl, rfl⟩
            rw [sgn_neg hx]
            go_wp2
            go_round
            case rel => exact ⟨k + 1, c + 1, x, by omega, by go_num, rfl, by rw [sgn_neg hx], z2.out (by omega) (by omega) (by omega)⟩
            case measure => simp [intOf]; omega
        · go_wp2
          go_round
          case rel => exact ⟨k + 1, c, l, by omega, by go_num, rfl, rfl, z0.out rfl⟩
          case measure => simp [intOf]; omega
        · have hx0 : (x == 0) = false := by rw [beq_eq_false_iff_ne]; omega
          rcases Int.lt_trichotomy l 0 with hl | rfl | hl
          · have sl := sgn_neg hl
            rw [sl]
            go_wp2_with fail
            refine (l1Sign_any _ _).mono ?_
            rintro e w2 ⟨rfl, rfl⟩
            rw [sgn_pos hx]
            go_wp2_with fail
            refine (l1Sign_any _ _).mono ?_
            rintro e w2 ⟨rfl, rfl⟩
            rw [sgn_pos hx]
            go_wp2
            go_round
            case rel => exact ⟨k + 1, c + 1, x, by omega, by go_num, rfl, by rw [sgn_pos hx], z2.out (by omega) (by omega) (by omega)⟩
            case measure => simp [intOf]; omega
          · rw [show sgn 0 = 0 from rfl]
            go_wp2_with fail
            refine (l1Sign_any _ _).mono ?_
            rintro e w2 ⟨rfl, rfl⟩
            rw [sgn_pos hx]
            go_wp2
            go_round
            case rel => exact ⟨k + 1, c, x, by omega, by go_num, rfl, by rw [sgn_pos hx], z1.out (by omega) (by simp)⟩
            case measure => simp [intOf]; omega
          · have sl := sgn_pos hl
            rw [sl]
            go_wp2_with fail
            refine (l1Sign_any _ _).mono ?_
            rintro e w2 ⟨rfl, rfl⟩
            rw [sgn_pos hx]
            go_wp2_with fail
            refine (l1Sign_any _ _).mono ?_
            rintro e w2 ⟨rfl, rfl⟩
            rw [sgn_pos hx]
            go_wp2
            go_round
            case rel => exact ⟨k + 1, c, x, by omega, by go_num, rfl, by rw [sgn_pos hx], z1.out (by omega) (by omega)⟩
            case measure => simp [intOf]; omega
      · obtain rfl : k = n := by omega
        go_wp2
        go_ret2
        refine ⟨?_, Below.refl _ _⟩
        rw [SignChanges_yes hb'.out (by rw [hn'.out]; exact hc)]; rfl

end Go.Proofs.Ytlhakkkgfejhcaa

/- Several texts in one: Signs Rat Rats Make RatIs LiftR Flat RatS Units. No conditions but those that each theorem states. -/
import Derived.Test.YtjkgilenhoomoaaGreatPkA
import Derived.Deep.QuietTactic
import Derived.BigQuiet
import Derived.Outline
import Derived.Lib.SmallJoins
import Derived.Deep.SlicePairs
import Derived.Deep.RegionHeld3

namespace Go.Proofs.YtjkgilenhoomoaaGreat
open Go.RowKit

/-- A number's sign. -/
def sgn (n : Int) : Int := if 0 < n then 1 else if n < 0 then -1 else 0

theorem l1Sign_any (n : Int) (w : World) : Calls Tryz.prog 46 #[.int .i64 n] w (Same (.int .i64 (sgn n)) w) := by
  by_cases h1 : 0 < n
  · have : sgn n = 1 := by unfold sgn; rw [if_pos h1]
    rw [this]; clear this
    go_enter Tryz.func46, Tryz.ntmps46
    go_wp2
    go_ret
    exact ⟨rfl, rfl⟩
  · by_cases h2 : n < 0
    · have : sgn n = -1 := by unfold sgn; rw [if_neg h1, if_pos h2]
      rw [this]; clear this
      go_enter Tryz.func46, Tryz.ntmps46
      go_wp2
      go_ret
      exact ⟨rfl, rfl⟩
    · have : sgn n = 0 := by unfold sgn; rw [if_neg h1, if_neg h2]
      rw [this]; clear this
      go_enter Tryz.func46, Tryz.ntmps46
      go_wp2
      go_ret
      exact ⟨rfl, rfl⟩

/-- One more coefficient: the changes so far, the last one that is not 0. -/
def chgStep (s : Int × Int) (n : Int) : Int × Int := if n = 0 then s else (if s.2 ≠ 0 ∧ ¬ (s.2 < 0 ↔ n < 0) then s.1 + 1 else s.1, n)
/-- After k coefficients: c changes, l the last one that is not 0. -/
def Chg (xs : List Int) (k : Nat) (c l : Int) : Prop := (xs.take k).foldl chgStep (0, 0) = (c, l) ∧ 0 ≤ c ∧ c ≤ k
theorem Chg.start (xs : List Int) : Chg xs 0 0 0 := ⟨rfl, Int.le_refl _, Int.le_refl _⟩
theorem Chg.zero {xs : List Int} {k : Nat} {c l : Int} (h : Chg xs k c l) (hk : k < xs.length) (hx : nth xs k = 0) : Chg xs (k + 1) c l := by
  refine ⟨?_, h.2.1, by have := h.2.2; omega⟩
  rw [take_nth hk, List.foldl_append, h.1, hx]; rfl
theorem Chg.still {xs : List Int} {k : Nat} {c l : Int} (h : Chg xs k c l) (hk : k < xs.length) (hx : nth xs k ≠ 0) (hs : l = 0 ∨ (l < 0 ↔ nth xs k < 0)) : Chg xs (k + 1) c (nth xs k) := by
  refine ⟨?_, h.2.1, by have := h.2.2; omega⟩
  rw [take_nth hk, List.foldl_append, h.1]
  show chgStep (c, l) (nth xs k) = _
  unfold chgStep
  rw [if_neg hx, if_neg (by rintro ⟨h1, h2⟩; rcases hs with h3 | h3; exact h1 h3; exact h2 h3)]
theorem Chg.turn {xs : List Int} {k : Nat} {c l : Int} (h : Chg xs k c l) (hk : k < xs.length) (hx : nth xs k ≠ 0) (h0 : l ≠ 0) (hs : ¬ (l < 0 ↔ nth xs k < 0)) : Chg xs (k + 1) (c + 1) (nth xs k) := by
  refine ⟨?_, by have := h.2.1; omega, by have := h.2.2; omega⟩
  rw [take_nth hk, List.foldl_append, h.1]
  show chgStep (c, l) (nth xs k) = _
  unfold chgStep
  rw [if_neg hx, if_pos ⟨h0, hs⟩]

/-- What both functions return. -/
def SignChanges_v (xs : List Int) : Int × Bool := if polyB xs = true then ((xs.foldl chgStep (0, 0)).1, true) else (0, false)
theorem SignChanges_no {xs : List Int} (h : polyB xs = false) : SignChanges_v xs = (0, false) := by simp [SignChanges_v, h]
theorem SignChanges_yes {xs : List Int} {c l : Int} (h : polyB xs = true) (hc : Chg xs xs.length c l) : SignChanges_v xs = (c, true) := by
  have := hc.1
  rw [List.take_length] at this
  simp [SignChanges_v, h, this]


theorem sgn_neg {n : Int} (h : n < 0) : sgn n = -1 := by unfold sgn; rw [if_neg (by omega), if_pos h]
theorem sgn_pos {n : Int} (h : 0 < n) : sgn n = 1 := by unfold sgn; rw [if_pos h]


end Go.Proofs.YtjkgilenhoomoaaGreat

namespace Go.Proofs.YtjkgilenhoomoaaGreat
open Go.RowKit

/-- A fraction as a value. -/
abbrev ratV (r : Int × Int) : Value := .agg #[.int .i64 r.1, .int .i64 r.2]

theorem Same.is {v : Value} {w : World} {f : FuncId} {args : Array Value} (h : Calls Tryz.prog f args w (Same v w)) : Calls Tryz.prog f args w (fun e w'' => e = .returned v ∧ w'' = w) := h.mono fun _ _ k => ⟨k.1, k.2.symm⟩

theorem abs_any (n : Int) (w : World) (h : -9223372036854775807 ≤ n ∧ n ≤ 9223372036854775807) : Calls Tryz.prog 126 #[.int .i64 n] w (Same (.int .i64 (n.natAbs : Int)) w) := by
  by_cases h0 : n < 0
  · have e : (n.natAbs : Int) = -n := by omega
    rw [e]
    clear e
    go_enter Tryz.func126, Tryz.ntmps126
    go_wp2
    go_ret
    exact ⟨rfl, rfl⟩
  · have e : (n.natAbs : Int) = n := by omega
    rw [e]
    clear e
    go_enter Tryz.func126, Tryz.ntmps126
    go_wp2
    go_ret
    exact ⟨rfl, rfl⟩
theorem l1Most_is (a b m : Int) (w : World) (hm : m = max a b) : Calls Tryz.prog 119 #[.int .i64 a, .int .i64 b] w (Same (.int .i64 m) w) := by
  by_cases h : b < a
  · obtain rfl : m = a := by omega
    clear hm
    go_enter Tryz.func119, Tryz.ntmps119
    go_wp2
    go_ret
    exact ⟨rfl, rfl⟩
  · obtain rfl : m = b := by omega
    clear hm
    go_enter Tryz.func119, Tryz.ntmps119
    go_wp2
    go_ret
    exact ⟨rfl, rfl⟩
theorem l1Abs_any (n : Int) (w : World) (h : -9223372036854775807 ≤ n ∧ n ≤ 9223372036854775807) : Calls Tryz.prog 107 #[.int .i64 n] w (Same (.int .i64 (n.natAbs : Int)) w) := by
  obtain ⟨m, hm⟩ : ∃ m, (n.natAbs : Int) = m := ⟨_, rfl⟩
  have hm2 : m = max n (-n) := by omega
  rw [hm]
  have hm' := Lib.hid hm
  have hm2' := Lib.hid hm2
  clear hm hm2
  go_enter Tryz.func107, Tryz.ntmps107
  go_wp2_with fail
  refine (l1Most_is _ _ m _ hm2'.out).mono ?_
  rintro e w_ ⟨rfl, rfl⟩
  go_wp2
  go_ret
  exact ⟨rfl, rfl⟩
/-- The greatest common divisor. -/
def gcdI (a b : Int) : Int := (Nat.gcd a.natAbs b.natAbs : Nat)
theorem raCommon_any (a b : Nat) (w : World) (ha : a ≤ 9223372036854775807) (hb : b ≤ 9223372036854775807) : Calls Tryz.prog 106 #[.int .i64 a, .int .i64 b] w (Same (.int .i64 (Nat.gcd a b : Nat)) w) := by
  obtain ⟨G, hG⟩ : ∃ G, Nat.gcd a b = G := ⟨_, rfl⟩
  rw [hG]
  have hG' := Lib.hid hG
  clear hG
  go_enter Tryz.func106, Tryz.ntmps106
  go_wp2
  go_loop [0, 1] (fun x y => ∃ p q : Nat, p ≤ 9223372036854775807 ∧ q ≤ 9223372036854775807 ∧ x = .int .i64 p ∧ y = .int .i64 q ∧ Hid (Nat.gcd p q = G)) (fun _ y => (intOf y).toNat)
  case atStart => exact ⟨a, b, ha, hb, rfl, rfl, hG'⟩
  case round =>
    obtain ⟨p, q, hp, hq, rfl, rfl, hI⟩ := hrel
    by_cases h0 : 0 < q
    · have hI2 : Nat.gcd q (p % q) = G := by rw [← hI.out, Nat.gcd_comm p q, Nat.gcd_rec q p, Nat.gcd_comm]
      have hlt := Nat.mod_lt p h0
      have e1 : ((p : Int) % (q : Int)) = ((p % q : Nat) : Int) := by simp
      have hI2' := Lib.hid hI2
      clear hI2
      go_wp2
      go_round
      case rel => exact ⟨q, p % q, by omega, by omega, rfl, by rw [← e1], hI2'⟩
      case measure => simp [intOf]; omega
    · obtain rfl : q = 0 := by omega
      have e := hI.out
      rw [Nat.gcd_zero_right] at e
      subst e
      go_wp2
      go_ret
      exact ⟨rfl, rfl⟩
theorem raCommon_is (a b : Int) (w : World) (ha : 0 ≤ a ∧ a ≤ 9223372036854775807) (hb : 0 ≤ b ∧ b ≤ 9223372036854775807) : Calls Tryz.prog 106 #[.int .i64 a, .int .i64 b] w (Same (.int .i64 (gcdI a b)) w) := by
  obtain ⟨a, rfl⟩ := Int.eq_ofNat_of_zero_le ha.1
  obtain ⟨b, rfl⟩ := Int.eq_ofNat_of_zero_le hb.1
  exact raCommon_any a b w (by omega) (by omega)
theorem greatestDivisor_any (a b : Int) (w : World) (ha : -9223372036854775807 ≤ a ∧ a ≤ 9223372036854775807) (hb : -9223372036854775807 ≤ b ∧ b ≤ 9223372036854775807) :
    Calls Tryz.prog 123 #[.int .i64 a, .int .i64 b] w fun e w' => e = .returned (.int .i64 (gcdI a b)) ∧ ∃ n, w' = w.drewN n := by
  obtain ⟨G, hG⟩ : ∃ G, Nat.gcd a.natAbs b.natAbs = G := ⟨_, rfl⟩
  unfold gcdI
  rw [hG]
  have ha2 : a.natAbs ≤ 9223372036854775807 := by omega
  have hb2 : b.natAbs ≤ 9223372036854775807 := by omega
  have hG' := Lib.hid hG
  clear hG
  go_enter Tryz.func123, Tryz.ntmps123
  go_wp2_with fail
  refine (abs_any _ _ ha).mono ?_
  rintro e w_ ⟨rfl, rfl⟩
  go_wp2_with fail
  refine (abs_any _ _ hb).mono ?_
  rintro e w_ ⟨rfl, rfl⟩
  go_wp2
  go_loopw [0, 1] (fun x y wr => ∃ p q : Nat, p ≤ 9223372036854775807 ∧ q ≤ 9223372036854775807 ∧ x = .int .i64 p ∧ y = .int .i64 q ∧ Hid (Nat.gcd p q = G) ∧ ∃ n, wr = w.drewN n) (fun _ y _ => (intOf y).toNat)
  case atStart => exact ⟨_, _, ha2, hb2, rfl, rfl, hG', 0, rfl⟩
  case round =>
    obtain ⟨p, q, hp, hq, rfl, rfl, hI, n, rfl⟩ := hrel
    by_cases h0 : 0 < q
    · have hI2 : Nat.gcd q (p % q) = G := by rw [← hI.out, Nat.gcd_comm p q, Nat.gcd_rec q p, Nat.gcd_comm]
      have hlt := Nat.mod_lt p h0
      have e1 : ((p : Int) % (q : Int)) = ((p % q : Nat) : Int) := by simp
      have h1 : ((q : Int) == 0) = false := by rw [beq_eq_false_iff_ne]; omega
      have h2 : ((q : Int) != 0) = true := by rw [bne_iff_ne]; omega
      have hI2' := Lib.hid hI2
      clear hI2
      go_wp2_with fail
      go_region
      all_goals go_wp2
      go_roundw
      case rel => exact ⟨q, p % q, by omega, by omega, rfl, by rw [← e1], hI2', n + 1, rfl⟩
      case measure => simp [intOf]; omega
    · obtain rfl : q = 0 := by omega
      have e := hI.out
      rw [Nat.gcd_zero_right] at e
      subst e
      go_wp2
      go_ret
      exact ⟨rfl, n, rfl⟩

/-- The call returns v; but draws have been made. -/
def Drew (v : Value) (w : World) (e : Ending) (w' : World) : Prop := e = .returned v ∧ ∃ n, w' = w.drewN n

/-- The fraction is valid. -/
def goodR (n d : Int) : Bool := inB d 1 1000000000 && inB n (-1000000000) 1000000000 && decide (gcdI n d = 1)
theorem goodR_den {n d : Int} (h : inB d 1 1000000000 = false) : goodR n d = false := by simp [goodR, h]
theorem goodR_num {n d : Int} (h : inB n (-1000000000) 1000000000 = false) : goodR n d = false := by simp [goodR, h]
theorem goodR_in {n d : Int} (h1 : inB d 1 1000000000 = true) (h2 : inB n (-1000000000) 1000000000 = true) : goodR n d = decide (gcdI n d = 1) := by simp [goodR, h1, h2]
theorem goodR_bd {n d : Int} (h : goodR n d = true) : (1 ≤ d ∧ d ≤ 1000000000) ∧ (-1000000000 ≤ n ∧ n ≤ 1000000000) := by
  simp only [goodR, Bool.and_eq_true, inB_true] at h
  exact h.1

theorem isRat_any (n d : Int) (w : World) : Calls Tryz.prog 120 #[.agg #[.int .i64 n, .int .i64 d]] w (Ret (.bool (goodR n d)) w) := by
  have hB : Below w.heap.size w (w.alloc (.cells #[.int .i64 n, .int .i64 d] 42)) := (Below.refl _ _).alloc (Nat.le_refl _) _
  cases h1 : inB d 1 1000000000
  · rw [goodR_den h1]
    have h1' := Lib.hid h1
    clear h1
    go_enter Tryz.func120, Tryz.ntmps120
    go_wp2_with fail
    refine (within_any _ _ _ _).mono ?_
    rintro e w_ ⟨rfl, rfl⟩
    rw [h1'.out]
    go_wp2
    go_ret
    exact ⟨rfl, hB⟩
  cases h2 : inB n (-1000000000) 1000000000
  · rw [goodR_num h2]
    have h1' := Lib.hid h1
    have h2' := Lib.hid h2
    clear h1 h2
    go_enter Tryz.func120, Tryz.ntmps120
    go_wp2_with fail
    refine (within_any _ _ _ _).mono ?_
    rintro e w_ ⟨rfl, rfl⟩
    rw [h1'.out]
    go_wp2_with fail
    refine (within_any _ _ _ _).mono ?_
    rintro e w_ ⟨rfl, rfl⟩
    rw [h2'.out]
    go_wp2
    go_ret
    exact ⟨rfl, hB⟩
  rw [goodR_in h1 h2]
  have b1 := inB_true.1 h1
  have b2 := inB_true.1 h2
  obtain ⟨G, hG⟩ : ∃ G, gcdI n d = G := ⟨_, rfl⟩
  have cg := fun w' => greatestDivisor_any n d w' (by omega) (by omega)
  simp only [hG] at cg
  rw [hG]
  have h1' := Lib.hid h1
  have h2' := Lib.hid h2
  have hG' := Lib.hid hG
  have cg' := Lib.hid cg
  clear h1 h2 hG cg
  by_cases h3 : G = 1
  · rw [decide_eq_true h3]
    subst h3
    go_enter Tryz.func120, Tryz.ntmps120
    go_wp2_with fail
    refine (within_any _ _ _ _).mono ?_
    rintro e w_ ⟨rfl, rfl⟩
    rw [h1'.out]
    go_wp2_with fail
    refine (within_any _ _ _ _).mono ?_
    rintro e w_ ⟨rfl, rfl⟩
    rw [h2'.out]
    go_wp2_with fail
    refine (cg'.out _).mono ?_
    rintro e w2 ⟨rfl, q, rfl⟩
    go_wp2
    go_ret
    exact ⟨rfl, below_drewN hB _⟩
  · rw [decide_eq_false h3]
    have h4 : (G == 1) = false := by rw [beq_eq_false_iff_ne]; exact h3
    clear h3
    go_enter Tryz.func120, Tryz.ntmps120
    go_wp2_with fail
    refine (within_any _ _ _ _).mono ?_
    rintro e w_ ⟨rfl, rfl⟩
    rw [h1'.out]
    go_wp2_with fail
    refine (within_any _ _ _ _).mono ?_
    rintro e w_ ⟨rfl, rfl⟩
    rw [h2'.out]
    go_wp2_with fail
    refine (cg'.out _).mono ?_
    rintro e w2 ⟨rfl, q, rfl⟩
    go_wp2
    go_ret
    exact ⟨rfl, below_drewN hB _⟩

set_option maxRecDepth 100000 in
set_option maxHeartbeats 4000000 in
theorem raGood_any (n d : Int) (w : World) : Calls Tryz.prog 75 #[.agg #[.int .i64 n, .int .i64 d]] w (Ret (.bool (goodR n d)) w) := by
  have hB : Below w.heap.size w (w.alloc (.cells #[.int .i64 n, .int .i64 d] 42)) := (Below.refl _ _).alloc (Nat.le_refl _) _
  cases h1 : inB d 1 1000000000
  · rw [goodR_den h1]
    go_enter Tryz.func75, Tryz.ntmps75
    go_wp2_with fail
    go_quiet ((go_at_call 40; exact Calls.quiet_of_same (Same.is (l1In_any _ _ _ _))))
    go_wp2
    go_ret
    exact ⟨rfl, below_drewN hB _⟩
  cases h2 : inB n (-1000000000) 1000000000
  · rw [goodR_num h2]
    go_enter Tryz.func75, Tryz.ntmps75
    go_wp2_with fail
    go_quiet ((go_at_call 40; exact Calls.quiet_of_same (Same.is (l1In_any _ _ _ _))))
    go_wp2
    go_ret
    exact ⟨rfl, below_drewN hB _⟩
  rw [goodR_in h1 h2]
  have b1 := inB_true.1 h1
  have b2 := inB_true.1 h2
  have e : gcdI (n.natAbs : Int) d = gcdI n d := by unfold gcdI; simp
  obtain ⟨G, hG⟩ : ∃ G, gcdI n d = G := ⟨_, rfl⟩
  rw [hG] at e ⊢
  have hG' := Lib.hid hG
  clear hG
  have b3 : -9223372036854775807 ≤ n ∧ n ≤ 9223372036854775807 := by omega
  have b4 : (0 : Int) ≤ (n.natAbs : Int) ∧ (n.natAbs : Int) ≤ 9223372036854775807 := by omega
  have b5 : 0 ≤ d ∧ d ≤ 9223372036854775807 := by omega
  by_cases h3 : G = 1
  · rw [decide_eq_true h3]
    subst h3
    go_enter Tryz.func75, Tryz.ntmps75
    go_wp2_with fail
    go_quiet ((first | (go_at_call 40; exact Calls.quiet_of_same (Same.is (l1In_any _ _ _ _))) | (go_at_call 107; exact Calls.quiet_of_same (Same.is (l1Abs_any _ _ b3))) | (go_at_call 106; exact Calls.quiet_of_same (Same.is (raCommon_is _ _ _ b4 b5)))))
    go_wp2
    go_ret
    exact ⟨rfl, below_drewN hB _⟩
  · rw [decide_eq_false h3]
    have h4 : (G == 1) = false := by rw [beq_eq_false_iff_ne]; exact h3
    clear h3
    go_enter Tryz.func75, Tryz.ntmps75
    go_wp2_with fail
    go_quiet ((first | (go_at_call 40; exact Calls.quiet_of_same (Same.is (l1In_any _ _ _ _))) | (go_at_call 107; exact Calls.quiet_of_same (Same.is (l1Abs_any _ _ b3))) | (go_at_call 106; exact Calls.quiet_of_same (Same.is (raCommon_is _ _ _ b4 b5)))))
    go_wp2
    go_ret
    exact ⟨rfl, below_drewN hB _⟩

end Go.Proofs.YtjkgilenhoomoaaGreat

namespace Go.Proofs.YtjkgilenhoomoaaGreat
open Go.RowKit

/-- Numerator and denominator of a size that the program keeps. -/
def BdR (n d : Int) : Prop := (1 ≤ d ∧ d ≤ 1000000000) ∧ (-1000000000 ≤ n ∧ n ≤ 1000000000)
theorem BdR.prod {n d n' d' : Int} (h : BdR n d) (h' : BdR n' d') : -1000000000000000000 ≤ n * d' ∧ n * d' ≤ 1000000000000000000 := by
  obtain ⟨⟨h1, h2⟩, h3, h4⟩ := h'
  obtain ⟨_, h5, h6⟩ := h
  have a1 : n * d' ≤ 1000000000 * d' := Int.mul_le_mul_of_nonneg_right h6 (by omega)
  have a2 : -1000000000 * d' ≤ n * d' := Int.mul_le_mul_of_nonneg_right h5 (by omega)
  omega
/-- -1, 0 or 1 as the first fraction is less, equal or greater. -/
def cmpN (n d n' d' : Int) : Int := sgn (n * d' - n' * d)
def ltB (n d n' d' : Int) : Bool := decide (n * d' < n' * d)
theorem cmpN_lt (n d n' d' : Int) : decide (cmpN n d n' d' < 0) = ltB n d n' d' := by
  unfold cmpN ltB sgn
  by_cases h : n * d' < n' * d
  · rw [if_neg (by omega), if_pos (by omega), decide_eq_true h]; rfl
  · rw [decide_eq_false h]
    by_cases h2 : 0 < n * d' - n' * d
    · rw [if_pos h2]; rfl
    · rw [if_neg h2, if_neg (by omega)]; rfl

set_option maxHeartbeats 400000 in
theorem compare_any (n d n' d' : Int) (w : World) (h1 : BdR n d) (h2 : BdR n' d') :
    Calls Tryz.prog 51 #[.agg #[.int .i64 n, .int .i64 d], .agg #[.int .i64 n', .int .i64 d']] w (Ret (.int .i64 (cmpN n d n' d')) w) := by
  have hB1 : Below w.heap.size w (w.alloc (.cells #[.int .i64 n, .int .i64 d] 42)) := (Below.refl _ _).alloc (Nat.le_refl _) _
  have hB : Below w.heap.size w ((w.alloc (.cells #[.int .i64 n, .int .i64 d] 42)).alloc (.cells #[.int .i64 n', .int .i64 d'] 42)) := hB1.alloc (by simp) _
  have p1 := h1.prod h2
  have p2 := h2.prod h1
  unfold cmpN
  obtain ⟨x, hx⟩ : ∃ x, n * d' = x := ⟨_, rfl⟩
  obtain ⟨y, hy⟩ : ∃ y, n' * d = y := ⟨_, rfl⟩
  rw [hx] at p1 ⊢
  rw [hy] at p2 ⊢
  clear h1 h2 hB1
  by_cases hlt : x < y
  · rw [show sgn (x - y) = -1 by unfold sgn; rw [if_neg (by omega), if_pos (by omega)]]
    go_enter Tryz.func51, Tryz.ntmps51
    go_wp2_with fail
    go_quiet (fail)
    go_wp2
    go_ret
    exact ⟨rfl, below_drewN hB _⟩
  · by_cases hgt : y < x
    · rw [show sgn (x - y) = 1 by unfold sgn; rw [if_pos (by omega)]]
      go_enter Tryz.func51, Tryz.ntmps51
      go_wp2_with fail
      go_quiet (fail)
      go_wp2
      go_ret
      exact ⟨rfl, below_drewN hB _⟩
    · rw [show sgn (x - y) = 0 by unfold sgn; rw [if_neg (by omega), if_neg (by omega)]]
      go_enter Tryz.func51, Tryz.ntmps51
      go_wp2_with fail
      go_quiet (fail)
      go_wp2
      go_ret
      exact ⟨rfl, below_drewN hB _⟩
theorem less_any (n d n' d' : Int) (w : World) (h1 : BdR n d) (h2 : BdR n' d') :
    Calls Tryz.prog 36 #[.agg #[.int .i64 n, .int .i64 d], .agg #[.int .i64 n', .int .i64 d']] w (Ret (.bool (ltB n d n' d')) w) := by
  have hB1 : Below w.heap.size w (w.alloc (.cells #[.int .i64 n, .int .i64 d] 42)) := (Below.refl _ _).alloc (Nat.le_refl _) _
  have hB : Below w.heap.size w ((w.alloc (.cells #[.int .i64 n, .int .i64 d] 42)).alloc (.cells #[.int .i64 n', .int .i64 d'] 42)) := hB1.alloc (by simp) _
  have c1 := fun w => compare_any n d n' d' w h1 h2
  have hl := cmpN_lt n d n' d'
  generalize ltB n d n' d' = L at *
  generalize cmpN n d n' d' = C at *
  have c1' := Lib.hid c1
  clear c1
  clear h1 h2 hB1
  cases L
  · have hC : ¬ C < 0 := by simpa using hl
    go_enter Tryz.func36, Tryz.ntmps36
    go_wp2_with fail
    refine (c1'.out _).mono ?_
    rintro e w1 ⟨rfl, hB2⟩
    go_wp2
    go_ret
    exact ⟨rfl, hB.trans (hB2.mono hB.size)⟩
  · have hC : C < 0 := by simpa using hl
    go_enter Tryz.func36, Tryz.ntmps36
    go_wp2_with fail
    refine (c1'.out _).mono ?_
    rintro e w1 ⟨rfl, hB2⟩
    go_wp2
    go_ret
    exact ⟨rfl, hB.trans (hB2.mono hB.size)⟩
theorem raCmp_any (n d n' d' : Int) (w : World) (h1 : BdR n d) (h2 : BdR n' d') :
    Calls Tryz.prog 29 #[.agg #[.int .i64 n, .int .i64 d], .agg #[.int .i64 n', .int .i64 d']] w (Ret (.int .i64 (cmpN n d n' d')) w) := by
  have hB1 : Below w.heap.size w (w.alloc (.cells #[.int .i64 n, .int .i64 d] 42)) := (Below.refl _ _).alloc (Nat.le_refl _) _
  have hB : Below w.heap.size w ((w.alloc (.cells #[.int .i64 n, .int .i64 d] 42)).alloc (.cells #[.int .i64 n', .int .i64 d'] 42)) := hB1.alloc (by simp) _
  have p1 := h1.prod h2
  have p2 := h2.prod h1
  unfold cmpN
  obtain ⟨x, hx⟩ : ∃ x, n * d' = x := ⟨_, rfl⟩
  obtain ⟨y, hy⟩ : ∃ y, n' * d = y := ⟨_, rfl⟩
  rw [hx] at p1 ⊢
  rw [hy] at p2 ⊢
  clear h1 h2 hB1
  go_enter Tryz.func29, Tryz.ntmps29
  go_wp2_with fail
  refine (l1Sign_any _ _).mono ?_
  rintro e w_ ⟨rfl, rfl⟩
  go_wp2
  go_ret
  exact ⟨rfl, hB⟩

/-- A fraction of 0..1. -/
def unitR (n d : Int) : Bool := goodR n d && inB n 0 d
theorem raUnit_any (n d : Int) (w : World) : Calls Tryz.prog 58 #[.agg #[.int .i64 n, .int .i64 d]] w (Ret (.bool (unitR n d)) w) := by
  have hB : Below w.heap.size w (w.alloc (.cells #[.int .i64 n, .int .i64 d] 42)) := (Below.refl _ _).alloc (Nat.le_refl _) _
  have c1 := fun w => raGood_any n d w
  unfold unitR
  have c1' := Lib.hid c1
  clear c1
  cases h : goodR n d
  · rw [h] at c1'
    rw [Bool.false_and]
    clear h
    go_enter Tryz.func58, Tryz.ntmps58
    go_wp2_with fail
    refine (c1'.out _).mono ?_
    rintro e w1 ⟨rfl, hB2⟩
    go_wp2
    go_ret
    exact ⟨rfl, hB.trans (hB2.mono hB.size)⟩
  · rw [h] at c1'
    rw [Bool.true_and]
    clear h
    go_enter Tryz.func58, Tryz.ntmps58
    go_wp2_with fail
    refine (c1'.out _).mono ?_
    rintro e w1 ⟨rfl, hB2⟩
    have q1 := hB2.cell (p := ⟨w.heap.size, 0, none⟩) (by simp)
    have q2 := hB2.cell (p := ⟨w.heap.size, 1, none⟩) (by simp)
    rw [World.cell?_alloc_at _ _ _ _ rfl] at q1 q2
    have hB3 := hB.trans (hB2.mono hB.size)
    clear hB hB2
    go_wp2_with fail
    refine (l1In_any _ _ _ _).mono ?_
    rintro e w_ ⟨rfl, rfl⟩
    go_wp2
    go_ret
    exact ⟨rfl, hB3⟩
theorem isUnit_any (n d : Int) (w : World) : Calls Tryz.prog 108 #[.agg #[.int .i64 n, .int .i64 d]] w (Ret (.bool (unitR n d)) w) := by
  have hB : Below w.heap.size w (w.alloc (.cells #[.int .i64 n, .int .i64 d] 42)) := (Below.refl _ _).alloc (Nat.le_refl _) _
  have c1 := fun w => isRat_any n d w
  unfold unitR
  have c1' := Lib.hid c1
  clear c1
  cases h : goodR n d
  · rw [h] at c1'
    rw [Bool.false_and]
    clear h
    go_enter Tryz.func108, Tryz.ntmps108
    go_wp2_with fail
    refine (c1'.out _).mono ?_
    rintro e w1 ⟨rfl, hB2⟩
    go_wp2
    go_ret
    exact ⟨rfl, hB.trans (hB2.mono hB.size)⟩
  · rw [h] at c1'
    rw [Bool.true_and]
    clear h
    by_cases h0 : 0 ≤ n
    · by_cases h1 : n ≤ d
      · rw [inB_true.2 ⟨h0, h1⟩]
        go_enter Tryz.func108, Tryz.ntmps108
        go_wp2_with fail
        refine (c1'.out _).mono ?_
        rintro e w1 ⟨rfl, hB2⟩
        have q1 := hB2.cell (p := ⟨w.heap.size, 0, none⟩) (by simp)
        have q2 := hB2.cell (p := ⟨w.heap.size, 1, none⟩) (by simp)
        rw [World.cell?_alloc_at _ _ _ _ rfl] at q1 q2
        have hB3 := hB.trans (hB2.mono hB.size)
        clear hB hB2
        go_wp2
        go_ret
        exact ⟨rfl, hB3⟩
      · rw [inB_false.2 (by omega)]
        go_enter Tryz.func108, Tryz.ntmps108
        go_wp2_with fail
        refine (c1'.out _).mono ?_
        rintro e w1 ⟨rfl, hB2⟩
        have q1 := hB2.cell (p := ⟨w.heap.size, 0, none⟩) (by simp)
        have q2 := hB2.cell (p := ⟨w.heap.size, 1, none⟩) (by simp)
        rw [World.cell?_alloc_at _ _ _ _ rfl] at q1 q2
        have hB3 := hB.trans (hB2.mono hB.size)
        have hd : decide (n ≤ d) = false := decide_eq_false (by omega)
        clear hB hB2
        go_wp2
        go_ret
        exact ⟨rfl, hB3⟩
    · rw [inB_false.2 (by omega)]
      go_enter Tryz.func108, Tryz.ntmps108
      go_wp2_with fail
      refine (c1'.out _).mono ?_
      rintro e w1 ⟨rfl, hB2⟩
      have q1 := hB2.cell (p := ⟨w.heap.size, 0, none⟩) (by simp)
      rw [World.cell?_alloc_at _ _ _ _ rfl] at q1
      have hB3 := hB.trans (hB2.mono hB.size)
      have hd : decide (0 ≤ n) = false := decide_eq_false (by omega)
      clear hB hB2
      go_wp2
      go_ret
      exact ⟨rfl, hB3⟩

/-- In lowest terms. -/
def lowN (x y : Int) : Int := if y < 0 then x.tdiv (-gcdI x y) else x.tdiv (gcdI x y)
def lowD (x y : Int) : Int := if y < 0 then y.tdiv (-gcdI x y) else y.tdiv (gcdI x y)
/-- A fraction in lowest terms, if it is valid. -/
def mkR (x y : Int) : (Int × Int) × Bool := if goodR (lowN x y) (lowD x y) = true then ((lowN x y, lowD x y), true) else ((0, 0), false)
theorem gcdI_pos {x y : Int} (h : y ≠ 0) : 0 < gcdI x y := by
  unfold gcdI
  have := Nat.gcd_pos_of_pos_right x.natAbs (show 0 < y.natAbs by omega)
  omega
theorem gcdI_le {x y : Int} (h : y ≠ 0) : gcdI x y ≤ y.natAbs := by
  unfold gcdI
  have := Nat.gcd_le_right x.natAbs (show 0 < y.natAbs by omega)
  omega

/-- What lay there before reads as before. -/
theorem bcell {W w1 : World} (hb : Below W.heap.size W w1) : (∀ b o, b < W.heap.size → w1.cell? ⟨b, o, none⟩ = W.cell? ⟨b, o, none⟩) ∧ (∀ b o, b < W.heap.size → w1.frozen? ⟨b, o, none⟩ = W.frozen? ⟨b, o, none⟩) :=
  ⟨fun b o h => hb.cell (p := ⟨b, o, none⟩) h, fun b o h => hb.frozen (p := ⟨b, o, none⟩) h⟩
theorem tdiv_bd (x g : Int) : (x.tdiv g).natAbs ≤ x.natAbs := by
  rw [Int.natAbs_tdiv]; exact Nat.div_le_self _ _
theorem mkR_no {x y : Int} (h : goodR (lowN x y) (lowD x y) = false) : mkR x y = ((0, 0), false) := by simp [mkR, h]
theorem mkR_yes {x y : Int} (h : goodR (lowN x y) (lowD x y) = true) : mkR x y = ((lowN x y, lowD x y), true) := by simp [mkR, h]

set_option maxHeartbeats 800000 in
theorem lowest_core (x y g p q : Int) (w : World) (hx : -4000000000000000000 ≤ x ∧ x ≤ 4000000000000000000) (hy : -4000000000000000000 ≤ y ∧ y ≤ 4000000000000000000) (h0 : y ≠ 0) (hp : x.tdiv g = p) (hq : y.tdiv g = q)
    (hg : g = if y < 0 then -gcdI x y else gcdI x y) : Calls Tryz.prog 112 #[.int .i64 x, .int .i64 y] w (Ret (.tuple #[if goodR p q = true then ratV (p, q) else ratV (0, 0), .bool (goodR p q)]) w) := by
  have hB : Below w.heap.size w (w.alloc (.cells #[.int .i64 0, .int .i64 0] 42)) := (Below.refl _ _).alloc (Nat.le_refl _) _
  have cg := fun w => greatestDivisor_any x y w (by omega) (by omega)
  have g1 := gcdI_pos (x := x) h0
  have g2 := gcdI_le (x := x) h0
  have b1 := tdiv_bd x g
  have b2 := tdiv_bd y g
  rw [hp] at b1
  rw [hq] at b2
  generalize gcdI x y = G at *
  have g3 : G ≤ 4000000000000000000 := by omega
  have p1 : -4000000000000000000 ≤ p ∧ p ≤ 4000000000000000000 := by omega
  have p2 : -4000000000000000000 ≤ q ∧ q ≤ 4000000000000000000 := by omega
  have cr := fun w => isRat_any p q w
  have g0 : (g == 0) = false := by rw [beq_eq_false_iff_ne]; subst hg; split <;> omega
  have g4 : g ≠ 0 := by subst hg; split <;> omega
  have cg' := Lib.hid cg
  have cr' := Lib.hid cr
  have hg' := Lib.hid hg
  clear cg cr hg
  clear g2 b1 b2
  by_cases hneg : y < 0
  · have e : -G = g := by rw [hg'.out, if_pos hneg]
    cases hr : goodR p q
    · rw [hr] at cr'
      rw [if_neg (by simp)]
      clear hr
      go_enter Tryz.func112, Tryz.ntmps112
      go_wp2_with fail
      refine (cg'.out _).mono ?_
      rintro e w2 ⟨rfl, n, rfl⟩
      go_wp2_with fail
      go_region
      all_goals go_wp2_with fail
      refine (cr'.out _).mono ?_
      rintro e w3 ⟨rfl, hB3⟩
      obtain ⟨hc, hf⟩ := bcell hB3
      have hz : w.heap.size + 1 < w3.heap.size := by have := hB3.size; simp at this; omega
      have hBz : Below w.heap.size w w3 := ((below_drewN hB _).alloc (by simp) _).trans (hB3.mono (by simp; omega))
      have q0 : w3.cell? ⟨w.heap.size, 0, none⟩ = some (.int .i64 0) := by rw [hc _ _ (by simp; omega)]; simp [go_sem]
      have q1 : w3.cell? ⟨w.heap.size, 1, none⟩ = some (.int .i64 0) := by rw [hc _ _ (by simp; omega)]; simp [go_sem]
      go_wp2
      refine bodyPost_ret (v := .tuple #[ratV (0, 0), .bool false]) (by simp [results, Tryz.results112, go_sem, q0, q1, ratV]) rfl ⟨rfl, ?_⟩
      exact (hBz.setCell (p := ⟨w.heap.size, 0, none⟩) (Nat.le_refl _) _).setCell (p := ⟨w.heap.size, 1, none⟩) (Nat.le_refl _) _
    · rw [hr] at cr'
      rw [if_pos rfl]
      clear hr
      go_enter Tryz.func112, Tryz.ntmps112
      go_wp2_with fail
      refine (cg'.out _).mono ?_
      rintro e w2 ⟨rfl, n, rfl⟩
      go_wp2_with fail
      go_region
      all_goals go_wp2_with fail
      refine (cr'.out _).mono ?_
      rintro e w3 ⟨rfl, hB3⟩
      obtain ⟨hc, hf⟩ := bcell hB3
      have hz : w.heap.size + 1 < w3.heap.size := by have := hB3.size; simp at this; omega
      have hBz : Below w.heap.size w w3 := ((below_drewN hB _).alloc (by simp) _).trans (hB3.mono (by simp; omega))
      have q0 : w3.cell? ⟨w.heap.size, 0, none⟩ = some (.int .i64 0) := by rw [hc _ _ (by simp; omega)]; simp [go_sem]
      have q1 : w3.cell? ⟨w.heap.size, 1, none⟩ = some (.int .i64 0) := by rw [hc _ _ (by simp; omega)]; simp [go_sem]
      go_wp2
      refine bodyPost_ret (v := .tuple #[ratV (p, q), .bool true]) (by simp [results, Tryz.results112, go_sem, q0, q1, ratV]) rfl ⟨rfl, ?_⟩
      exact (hBz.setCell (p := ⟨w.heap.size, 0, none⟩) (Nat.le_refl _) _).setCell (p := ⟨w.heap.size, 1, none⟩) (Nat.le_refl _) _
  · have e : G = g := by rw [hg'.out, if_neg hneg]
    cases hr : goodR p q
    · rw [hr] at cr'
      rw [if_neg (by simp)]
      clear hr
      go_enter Tryz.func112, Tryz.ntmps112
      go_wp2_with fail
      refine (cg'.out _).mono ?_
      rintro e w2 ⟨rfl, n, rfl⟩
      go_wp2_with fail
      go_region
      all_goals go_wp2_with fail
      refine (cr'.out _).mono ?_
      rintro e w3 ⟨rfl, hB3⟩
      obtain ⟨hc, hf⟩ := bcell hB3
      have hz : w.heap.size + 1 < w3.heap.size := by have := hB3.size; simp at this; omega
      have hBz : Below w.heap.size w w3 := ((below_drewN hB _).alloc (by simp) _).trans (hB3.mono (by simp; omega))
      have q0 : w3.cell? ⟨w.heap.size, 0, none⟩ = some (.int .i64 0) := by rw [hc _ _ (by simp; omega)]; simp [go_sem]
      have q1 : w3.cell? ⟨w.heap.size, 1, none⟩ = some (.int .i64 0) := by rw [hc _ _ (by simp; omega)]; simp [go_sem]
      go_wp2
      refine bodyPost_ret (v := .tuple #[ratV (0, 0), .bool false]) (by simp [results, Tryz.results112, go_sem, q0, q1, ratV]) rfl ⟨rfl, ?_⟩
      exact (hBz.setCell (p := ⟨w.heap.size, 0, none⟩) (Nat.le_refl _) _).setCell (p := ⟨w.heap.size, 1, none⟩) (Nat.le_refl _) _
    · rw [hr] at cr'
      rw [if_pos rfl]
      clear hr
      go_enter Tryz.func112, Tryz.ntmps112
      go_wp2_with fail
      refine (cg'.out _).mono ?_
      rintro e w2 ⟨rfl, n, rfl⟩
      go_wp2_with fail
      go_region
      all_goals go_wp2_with fail
      refine (cr'.out _).mono ?_
      rintro e w3 ⟨rfl, hB3⟩
      obtain ⟨hc, hf⟩ := bcell hB3
      have hz : w.heap.size + 1 < w3.heap.size := by have := hB3.size; simp at this; omega
      have hBz : Below w.heap.size w w3 := ((below_drewN hB _).alloc (by simp) _).trans (hB3.mono (by simp; omega))
      have q0 : w3.cell? ⟨w.heap.size, 0, none⟩ = some (.int .i64 0) := by rw [hc _ _ (by simp; omega)]; simp [go_sem]
      have q1 : w3.cell? ⟨w.heap.size, 1, none⟩ = some (.int .i64 0) := by rw [hc _ _ (by simp; omega)]; simp [go_sem]
      go_wp2
      refine bodyPost_ret (v := .tuple #[ratV (p, q), .bool true]) (by simp [results, Tryz.results112, go_sem, q0, q1, ratV]) rfl ⟨rfl, ?_⟩
      exact (hBz.setCell (p := ⟨w.heap.size, 0, none⟩) (Nat.le_refl _) _).setCell (p := ⟨w.heap.size, 1, none⟩) (Nat.le_refl _) _
theorem lowest_any (x y : Int) (w : World) (hx : -4000000000000000000 ≤ x ∧ x ≤ 4000000000000000000) (hy : -4000000000000000000 ≤ y ∧ y ≤ 4000000000000000000) (h0 : y ≠ 0) :
    Calls Tryz.prog 112 #[.int .i64 x, .int .i64 y] w (Ret (.tuple #[ratV (mkR x y).1, .bool (mkR x y).2]) w) := by
  have h := lowest_core x y (if y < 0 then -gcdI x y else gcdI x y) (lowN x y) (lowD x y) w hx hy h0 (by unfold lowN; split <;> rfl) (by unfold lowD; split <;> rfl) rfl
  cases hr : goodR (lowN x y) (lowD x y)
  · rw [mkR_no hr]; rw [hr, if_neg (by simp)] at h; exact h
  · rw [mkR_yes hr]; rw [hr, if_pos rfl] at h; exact h

end Go.Proofs.YtjkgilenhoomoaaGreat

namespace Go.Proofs.YtjkgilenhoomoaaGreat
open Go.RowKit

set_option maxHeartbeats 1600000 in
theorem raMake_core (x y g p q : Int) (w : World) (hx : -4000000000000000000 ≤ x ∧ x ≤ 4000000000000000000) (hy : -4000000000000000000 ≤ y ∧ y ≤ 4000000000000000000) (h0 : y ≠ 0) (hp : x.tdiv g = p) (hq : y.tdiv g = q)
    (hg : g = if y < 0 then -gcdI x y else gcdI x y) : Calls Tryz.prog 76 #[.int .i64 x, .int .i64 y] w (Ret (.tuple #[if goodR p q = true then ratV (p, q) else ratV (0, 0), .bool (goodR p q)]) w) := by
  have hB : Below w.heap.size w (w.alloc (.cells #[.int .i64 0, .int .i64 0] 42)) := (Below.refl _ _).alloc (Nat.le_refl _) _
  have g1 := gcdI_pos (x := x) h0
  have g2 := gcdI_le (x := x) h0
  have b1 := tdiv_bd x g
  have b2 := tdiv_bd y g
  rw [hp] at b1
  rw [hq] at b2
  have bx : -9223372036854775807 ≤ x ∧ x ≤ 9223372036854775807 := by omega
  have by' : -9223372036854775807 ≤ y ∧ y ≤ 9223372036854775807 := by omega
  have ba : (0 : Int) ≤ (x.natAbs : Int) ∧ (x.natAbs : Int) ≤ 9223372036854775807 := by omega
  have bb : (0 : Int) ≤ (y.natAbs : Int) ∧ (y.natAbs : Int) ≤ 9223372036854775807 := by omega
  have eG : gcdI (x.natAbs : Int) (y.natAbs : Int) = gcdI x y := by unfold gcdI; simp
  have y0 : (y == 0) = false := by rw [beq_eq_false_iff_ne]; exact h0
  generalize gcdI x y = G at *
  have g3 : G ≤ 4000000000000000000 := by omega
  have p1 : -4000000000000000000 ≤ p ∧ p ≤ 4000000000000000000 := by omega
  have p2 : -4000000000000000000 ≤ q ∧ q ≤ 4000000000000000000 := by omega
  have cr := fun w => raGood_any p q w
  have g0 : (g == 0) = false := by rw [beq_eq_false_iff_ne]; subst hg; split <;> omega
  have g4 : g ≠ 0 := by subst hg; split <;> omega
  have cr' := Lib.hid cr
  have hg' := Lib.hid hg
  clear cr hg
  clear g2 b1 b2
  by_cases hneg : y < 0
  · have e : -G = g := by rw [hg'.out, if_pos hneg]
    cases hr : goodR p q
    · rw [hr] at cr'
      rw [if_neg (by simp)]
      clear hr
      go_enter Tryz.func76, Tryz.ntmps76
      go_wp2_with fail
      refine (l1Abs_any _ _ bx).mono ?_
      rintro e w_ ⟨rfl, rfl⟩
      go_wp2_with fail
      refine (l1Abs_any _ _ by').mono ?_
      rintro e w_ ⟨rfl, rfl⟩
      go_wp2_with fail
      refine (raCommon_is _ _ _ ba bb).mono ?_
      rintro e w_ ⟨rfl, rfl⟩
      go_wp2_with fail
      go_region
      all_goals go_wp2_with fail
      refine (cr'.out _).mono ?_
      rintro e w3 ⟨rfl, hB3⟩
      obtain ⟨hc, hf⟩ := bcell hB3
      have hz : w.heap.size + 1 < w3.heap.size := by have := hB3.size; simp at this; omega
      have hBz : Below w.heap.size w w3 := ((below_drewN hB _).alloc (by simp) _).trans (hB3.mono (by simp; omega))
      have q0 : w3.cell? ⟨w.heap.size, 0, none⟩ = some (.int .i64 0) := by rw [hc _ _ (by simp; omega)]; simp [go_sem]
      have q1 : w3.cell? ⟨w.heap.size, 1, none⟩ = some (.int .i64 0) := by rw [hc _ _ (by simp; omega)]; simp [go_sem]
      go_wp2
      refine bodyPost_ret (v := .tuple #[ratV (0, 0), .bool false]) (by simp [results, Tryz.results76, go_sem, q0, q1, ratV]) rfl ⟨rfl, ?_⟩
      exact (hBz.setCell (p := ⟨w.heap.size, 0, none⟩) (Nat.le_refl _) _).setCell (p := ⟨w.heap.size, 1, none⟩) (Nat.le_refl _) _
    · rw [hr] at cr'
      rw [if_pos rfl]
      clear hr
      go_enter Tryz.func76, Tryz.ntmps76
      go_wp2_with fail
      refine (l1Abs_any _ _ bx).mono ?_
      rintro e w_ ⟨rfl, rfl⟩
      go_wp2_with fail
      refine (l1Abs_any _ _ by').mono ?_
      rintro e w_ ⟨rfl, rfl⟩
      go_wp2_with fail
      refine (raCommon_is _ _ _ ba bb).mono ?_
      rintro e w_ ⟨rfl, rfl⟩
      go_wp2_with fail
      go_region
      all_goals go_wp2_with fail
      refine (cr'.out _).mono ?_
      rintro e w3 ⟨rfl, hB3⟩
      obtain ⟨hc, hf⟩ := bcell hB3
      have hz : w.heap.size + 1 < w3.heap.size := by have := hB3.size; simp at this; omega
      have hBz : Below w.heap.size w w3 := ((below_drewN hB _).alloc (by simp) _).trans (hB3.mono (by simp; omega))
      have q0 : w3.cell? ⟨w.heap.size, 0, none⟩ = some (.int .i64 0) := by rw [hc _ _ (by simp; omega)]; simp [go_sem]
      have q1 : w3.cell? ⟨w.heap.size, 1, none⟩ = some (.int .i64 0) := by rw [hc _ _ (by simp; omega)]; simp [go_sem]
      go_wp2
      refine bodyPost_ret (v := .tuple #[ratV (p, q), .bool true]) (by simp [results, Tryz.results76, go_sem, q0, q1, ratV]) rfl ⟨rfl, ?_⟩
      exact (hBz.setCell (p := ⟨w.heap.size, 0, none⟩) (Nat.le_refl _) _).setCell (p := ⟨w.heap.size, 1, none⟩) (Nat.le_refl _) _
  · have e : G = g := by rw [hg'.out, if_neg hneg]
    cases hr : goodR p q
    · rw [hr] at cr'
      rw [if_neg (by simp)]
      clear hr
      go_enter Tryz.func76, Tryz.ntmps76
      go_wp2_with fail
      refine (l1Abs_any _ _ bx).mono ?_
      rintro e w_ ⟨rfl, rfl⟩
      go_wp2_with fail
      refine (l1Abs_any _ _ by').mono ?_
      rintro e w_ ⟨rfl, rfl⟩
      go_wp2_with fail
      refine (raCommon_is _ _ _ ba bb).mono ?_
      rintro e w_ ⟨rfl, rfl⟩
      go_wp2_with fail
      go_region
      all_goals go_wp2_with fail
      refine (cr'.out _).mono ?_
      rintro e w3 ⟨rfl, hB3⟩
      obtain ⟨hc, hf⟩ := bcell hB3
      have hz : w.heap.size + 1 < w3.heap.size := by have := hB3.size; simp at this; omega
      have hBz : Below w.heap.size w w3 := ((below_drewN hB _).alloc (by simp) _).trans (hB3.mono (by simp; omega))
      have q0 : w3.cell? ⟨w.heap.size, 0, none⟩ = some (.int .i64 0) := by rw [hc _ _ (by simp; omega)]; simp [go_sem]
      have q1 : w3.cell? ⟨w.heap.size, 1, none⟩ = some (.int .i64 0) := by rw [hc _ _ (by simp; omega)]; simp [go_sem]
      go_wp2
      refine bodyPost_ret (v := .tuple #[ratV (0, 0), .bool false]) (by simp [results, Tryz.results76, go_sem, q0, q1, ratV]) rfl ⟨rfl, ?_⟩
      exact (hBz.setCell (p := ⟨w.heap.size, 0, none⟩) (Nat.le_refl _) _).setCell (p := ⟨w.heap.size, 1, none⟩) (Nat.le_refl _) _
    · rw [hr] at cr'
      rw [if_pos rfl]
      clear hr
      go_enter Tryz.func76, Tryz.ntmps76
      go_wp2_with fail
      refine (l1Abs_any _ _ bx).mono ?_
      rintro e w_ ⟨rfl, rfl⟩
      go_wp2_with fail
      refine (l1Abs_any _ _ by').mono ?_
      rintro e w_ ⟨rfl, rfl⟩
      go_wp2_with fail
      refine (raCommon_is _ _ _ ba bb).mono ?_
      rintro e w_ ⟨rfl, rfl⟩
      go_wp2_with fail
      go_region
      all_goals go_wp2_with fail
      refine (cr'.out _).mono ?_
      rintro e w3 ⟨rfl, hB3⟩
      obtain ⟨hc, hf⟩ := bcell hB3
      have hz : w.heap.size + 1 < w3.heap.size := by have := hB3.size; simp at this; omega
      have hBz : Below w.heap.size w w3 := ((below_drewN hB _).alloc (by simp) _).trans (hB3.mono (by simp; omega))
      have q0 : w3.cell? ⟨w.heap.size, 0, none⟩ = some (.int .i64 0) := by rw [hc _ _ (by simp; omega)]; simp [go_sem]
      have q1 : w3.cell? ⟨w.heap.size, 1, none⟩ = some (.int .i64 0) := by rw [hc _ _ (by simp; omega)]; simp [go_sem]
      go_wp2
      refine bodyPost_ret (v := .tuple #[ratV (p, q), .bool true]) (by simp [results, Tryz.results76, go_sem, q0, q1, ratV]) rfl ⟨rfl, ?_⟩
      exact (hBz.setCell (p := ⟨w.heap.size, 0, none⟩) (Nat.le_refl _) _).setCell (p := ⟨w.heap.size, 1, none⟩) (Nat.le_refl _) _
theorem raMake_any (x y : Int) (w : World) (hx : -4000000000000000000 ≤ x ∧ x ≤ 4000000000000000000) (hy : -4000000000000000000 ≤ y ∧ y ≤ 4000000000000000000) (h0 : y ≠ 0) :
    Calls Tryz.prog 76 #[.int .i64 x, .int .i64 y] w (Ret (.tuple #[ratV (mkR x y).1, .bool (mkR x y).2]) w) := by
  have h := raMake_core x y (if y < 0 then -gcdI x y else gcdI x y) (lowN x y) (lowD x y) w hx hy h0 (by unfold lowN; split <;> rfl) (by unfold lowD; split <;> rfl) rfl
  cases hr : goodR (lowN x y) (lowD x y)
  · rw [mkR_no hr]; rw [hr, if_neg (by simp)] at h; exact h
  · rw [mkR_yes hr]; rw [hr, if_pos rfl] at h; exact h

end Go.Proofs.YtjkgilenhoomoaaGreat

namespace Go.Proofs.YtjkgilenhoomoaaGreat
open Go.RowKit

/-- Numerator and denominator are int64. -/
def I64R (r : Int × Int) : Prop := I64 r.1 ∧ I64 r.2

theorem toRat_any (r : Int × Int) (w : World) : Calls Tryz.prog 32 #[.agg #[.int .i64 r.1, .int .i64 r.2]] w (Ret (ratV r) w) := by
  obtain ⟨n, d⟩ := r
  have hB1 : Below w.heap.size w (w.alloc (.cells #[.int .i64 n, .int .i64 d] 50)) := (Below.refl _ _).alloc (Nat.le_refl _) _
  go_enter Tryz.func32, Tryz.ntmps32
  go_wp2
  refine bodyPost_ret (v := ratV (n, d)) (by simp [results, Tryz.results32, go_sem, ratV]) rfl ⟨rfl, ?_⟩
  exact (hB1.alloc (by simp) _).alloc (by simp; omega) _
theorem eqRat_same (n d : Int) (w : World) : Calls Tryz.prog 39 #[.agg #[.int .i64 n, .int .i64 d], .agg #[.int .i64 n, .int .i64 d]] w (Ret (.bool true) w) := by
  have hB1 : Below w.heap.size w (w.alloc (.cells #[.int .i64 n, .int .i64 d] 42)) := (Below.refl _ _).alloc (Nat.le_refl _) _
  have hB : Below w.heap.size w ((w.alloc (.cells #[.int .i64 n, .int .i64 d] 42)).alloc (.cells #[.int .i64 n, .int .i64 d] 42)) := hB1.alloc (by simp) _
  clear hB1
  go_enter Tryz.func39, Tryz.ntmps39
  go_wp2
  go_ret
  exact ⟨rfl, hB⟩

end Go.Proofs.YtjkgilenhoomoaaGreat

namespace Go.Proofs.YtjkgilenhoomoaaGreat
open Go.ChangeShapes Go.WideShapes Go.ChangeAt Go.RowKit

set_option maxRecDepth 100000 in
theorem int_of_trod {H : Type} {enc : TypeId × Value → H} {W : World} {spare : Nat → Bool} {held : Bool} {n : Nat} {v : Value} {y : DataW H × List MemPlace}
    (h : DataW.trod enc Tryz.prog W 0 spare held n 3 [v] = some y) : ∃ k, v = .int .i64 k ∧ I64 k := by
  obtain ⟨k, e, -, wn⟩ := DataW.trod_int Tryz.underlying3 h
  refine ⟨k, by simpa using e, ?_⟩
  have h1 : IntKind.i64.min = -9223372036854775808 := rfl
  have h2 : IntKind.i64.max = 9223372036854775807 := rfl
  simp only [Lit.wf, Bool.and_eq_true, decide_eq_true_eq, h1, h2] at wn
  exact wn

set_option maxRecDepth 100000 in
/-- A fraction that came in. -/
theorem open_ratX {H : Type} {enc : TypeId × Value → H} {W : World} {base : Nat} {v : Value} {d : DataW H} {p : List MemPlace}
    (hval : Value.okWide Tryz.prog W .any base 50 v) (h : DataW.Trod enc Tryz.prog W 0 (fun _ => true) true 50 v d p) : ∃ r : Int × Int, v = .agg #[.int .i64 r.1, .int .i64 r.2] ∧ I64R r := by
  obtain ⟨v0, v1, y0, y1, n, rfl, -, -, h0, h1⟩ := Go.Joins.open_agg2 Tryz.underlying50 (by kernel_rfl) (by kernel_rfl) hval h
  obtain ⟨a, rfl, ha⟩ := int_of_trod h0
  obtain ⟨b, rfl, hb⟩ := int_of_trod h1
  exact ⟨(a, b), rfl, ha, hb⟩

end Go.Proofs.YtjkgilenhoomoaaGreat

namespace Go.Proofs.YtjkgilenhoomoaaGreat
open Go.RowKit

/-- v reads as n elements of K cells; the cells hold ys, one behind the other. -/
def FlatV (K : Nat) (w : World) (v : Value) (n : Nat) (ys : List Int) : Prop :=
  ∃ ao cap, v = .slice ao n cap ∧ (n ≤ cap ∧ (ao = none → cap = 0)) ∧ cap ≤ maxLen ∧ ∀ j, j < n * K → ∃ b off, ao = some ⟨b, off, none⟩ ∧ w.cell? ⟨b, off + j, none⟩ = some (.int .i64 (nth ys j))

theorem FlatV.below {K : Nat} {w w' : World} {v : Value} {n : Nat} {ys : List Int} (h : FlatV K w v n ys) (hB : Below w.heap.size w w') : FlatV K w' v n ys := by
  obtain ⟨ao, cap, rfl, h1, h2, h⟩ := h
  refine ⟨ao, cap, rfl, h1, h2, fun i hi => ?_⟩
  obtain ⟨b, off, e, hc⟩ := h i hi
  exact ⟨b, off, e, by rw [hB.cell (World.block_lt_of_cell? w _ hc)]; exact hc⟩

/-- A slice of the call's own: its block lies in [B, E); or it has no elements. -/
def OwnF (T : TypeId) (K : Nat) (w : World) (B E : Nat) (v : Value) (n : Nat) (ys : List Int) : Prop :=
  (n = 0 ∧ ∃ ao cap, v = .slice ao 0 cap ∧ cap ≤ maxLen ∧ (ao = none → cap = 0)) ∨
  ∃ g cap, v = .slice (some ⟨g, 0, none⟩) n cap ∧ B ≤ g ∧ g < E ∧ w.ownsRow B T K v n (ys.map (Value.int .i64))

section
variable {T : TypeId} {K : Nat} {w w' : World} {B E B' E' : Nat} {v : Value} {n : Nat} {ys : List Int}

theorem OwnF.mono (h : OwnF T K w B E v n ys) (hB : B' ≤ B) (hE : E ≤ E') : OwnF T K w B' E' v n ys := by
  rcases h with h | ⟨g, cap, e, h1, h2, h3⟩
  · exact .inl h
  · exact .inr ⟨g, cap, e, by omega, by omega, h3.mono hB⟩

theorem OwnF.kept {row : Option Nat} (h : OwnF T K w B E v n ys) (hg : w.grownBy w' row) (hr : ∀ g, row = some g → g < B ∨ E ≤ g) : OwnF T K w' B E v n ys := by
  rcases h with h | ⟨g, cap, e, h1, h2, h3⟩
  · exact .inl h
  · refine .inr ⟨g, cap, e, h1, h2, h3.kept hg ?_⟩
    subst e
    right
    intro e
    have := hr g e.symm
    omega

theorem OwnF.below {E'' : Nat} (h : OwnF T K w B E v n ys) (hB : Below E'' w w') (hE : E ≤ E'') : OwnF T K w' B E v n ys := by
  rcases h with h | ⟨g, cap, e, h1, h2, h3⟩
  · exact .inl h
  · refine .inr ⟨g, cap, e, h1, h2, h3.1, ?_⟩
    rcases h3.2 with h3 | ⟨g', cap', cur, e', h4, h5, h6⟩
    · exact .inl h3
    · refine .inr ⟨g', cap', cur, e', h4, ?_, h6⟩
      subst e
      simp only [Value.slice.injEq, Option.some.injEq, Addr.mk.injEq, and_true, true_and] at e'
      rw [hB.block g' (by omega)]; exact h5

theorem OwnF.row (h : w.ownsRow B T K v n (ys.map (Value.int .i64))) : OwnF T K w B w.heap.size v n ys := by
  rcases h.2 with ⟨rfl, h0⟩ | ⟨g, cap, cur, rfl, h1, h2, h3, h4, h5, h6⟩
  · exact .inl ⟨h0, none, 0, rfl, by simp [maxLen], fun _ => rfl⟩
  · exact .inr ⟨g, cap, rfl, h1, (Array.getElem?_eq_some_iff.1 h2).1, h⟩

theorem OwnF.nil (T : TypeId) (K : Nat) (w : World) (B E : Nat) (ys : List Int) : OwnF T K w B E (.slice none 0 0) 0 ys := .inl ⟨rfl, none, 0, rfl, by simp [maxLen], fun _ => rfl⟩

theorem ownsRow_nthF {g cap : Nat} (h : w.ownsRow B T K (.slice (some ⟨g, 0, none⟩) n cap) n (ys.map (Value.int .i64))) {j : Nat} (hj : j < n * K) : w.cell? ⟨g, j, none⟩ = some (.int .i64 (nth ys j)) := by
  have hl : ys.length = n * K := by simpa using h.1
  rw [World.ownsRow.cellAt h j hj]
  have hj' : j < ys.length := by omega
  simp [nth, List.getElem?_eq_getElem hj']

theorem OwnF.read (h : OwnF T K w B E v n ys) : FlatV K w v n ys := by
  rcases h with ⟨rfl, ao, cap, rfl, hc, hz⟩ | ⟨g, cap, rfl, h1, h2, h3⟩
  · exact ⟨ao, cap, rfl, ⟨Nat.zero_le _, hz⟩, hc, fun i hi => by simp at hi⟩
  · have hcap : n ≤ cap ∧ cap ≤ maxLen := by
      rcases h3.2 with ⟨h4, _⟩ | ⟨g', cap', cur, e', h4, h5, h6, h7, _⟩
      · simp at h4
      · simp only [Value.slice.injEq, Option.some.injEq, Addr.mk.injEq, and_true, true_and] at e'
        omega
    refine ⟨some ⟨g, 0, none⟩, cap, rfl, ⟨hcap.1, fun e => by cases e⟩, hcap.2, fun i hi => ⟨g, 0, rfl, ?_⟩⟩
    rw [Nat.zero_add]
    exact ownsRow_nthF h3 hi

theorem OwnF.turned (h : OwnF T K w B E v n ys) (ht : Turned B' E' w w') (hd : E ≤ B' ∨ E' ≤ B) : OwnF T K w' B E v n ys := by
  rcases h with h | ⟨g, cap, e, h1, h2, h3⟩
  · exact .inl h
  · refine .inr ⟨g, cap, e, h1, h2, h3.1, ?_⟩
    rcases h3.2 with h3 | ⟨g', cap', cur, e', h4, h5, h6⟩
    · exact .inl h3
    · refine .inr ⟨g', cap', cur, e', h4, ?_, h6⟩
      subst e
      simp only [Value.slice.injEq, Option.some.injEq, Addr.mk.injEq, and_true, true_and] at e'
      rw [ht.block g' (by omega)]; exact h5
end

/-- A row at the head of block g. -/
def RowF (T : TypeId) (K : Nat) (w : World) (B g n cap : Nat) (ys : List Int) : Prop := w.ownsRow B T K (.slice (some ⟨g, 0, none⟩) n cap) n (ys.map (Value.int .i64))

section
variable {T : TypeId} {K : Nat} {w w' : World} {B g n cap : Nat} {ys : List Int}
theorem RowF.cell (h : RowF T K w B g n cap ys) {j : Nat} (hj : j < n * K) : w.cell? ⟨g, j, none⟩ = some (.int .i64 (nth ys j)) := ownsRow_nthF h hj
theorem RowF.frozen (h : RowF T K w B g n cap ys) (j : Nat) : w.frozen? ⟨g, j, none⟩ = false := World.ownsRow.frozenAt h j
theorem RowF.stored (h : RowF T K w B g n cap ys) (j : Nat) (x : Int) : RowF T K (w.setCell ⟨g, j, none⟩ (.int .i64 x)) B g n cap (ys.set j x) := by
  have := (World.ownsRow.stored h j (.int .i64 x)).1
  unfold RowF; rw [List.map_set]; exact this
theorem RowF.lt (h : RowF T K w B g n cap ys) : B ≤ g ∧ g < w.heap.size := World.ownsRow.lt h g rfl
theorem RowF.len (h : RowF T K w B g n cap ys) : ys.length = n * K := by simpa using h.1
theorem RowF.own (h : RowF T K w B g n cap ys) : OwnF T K w B w.heap.size (.slice (some ⟨g, 0, none⟩) n cap) n ys := OwnF.row h
theorem RowF.kept {row : Option Nat} (h : RowF T K w B g n cap ys) (hg : w.grownBy w' row) (hr : row ≠ some g) : RowF T K w' B g n cap ys :=
  World.ownsRow.kept h hg (.inr (by simpa [Value.ownBlock] using fun e => hr e.symm))
theorem RowF.below {E : Nat} (h : RowF T K w B g n cap ys) (hB : Below E w w') (hE : g < E) : RowF T K w' B g n cap ys := by
  refine ⟨h.1, ?_⟩
  rcases h.2 with h3 | ⟨g', cap', cur, e', h4, h5, h6⟩
  · exact .inl h3
  · refine .inr ⟨g', cap', cur, e', h4, ?_, h6⟩
    simp only [Value.slice.injEq, Option.some.injEq, Addr.mk.injEq, and_true, true_and] at e'
    rw [hB.block g' (by omega)]; exact h5
end

/-- K zeros made n times. -/
theorem rowF_made {T : TypeId} {K : Nat} {w w1 : World} {B n : Nat} {z : Array Value} (hz : z = (List.replicate K (Value.int .i64 0)).toArray) (hK : 0 < K)
    (h : w1.ownsRow B T K (.slice (some ⟨w.heap.size, 0, none⟩) n n) n (madeCells z (n * K)).toList) : RowF T K w1 B w.heap.size n n (List.replicate (n * K) 0) := by
  unfold RowF
  rw [List.map_replicate]
  have : (madeCells z (n * K)).toList = List.replicate (n * K) (Value.int .i64 0) := by
    subst hz
    apply List.ext_getElem?
    intro j
    by_cases hj : j < n * K
    · have := Nat.mod_lt j hK
      simp [madeCells, hj, this]
    · simp [madeCells, hj]
  rw [← this]; exact h

/-- A slice of the call's own that is appended to: nil, or a row from block B on. -/
def GrowF (T : TypeId) (K : Nat) (w : World) (B : Nat) (v : Value) (n : Nat) (ys : List Int) : Prop := w.ownsRow B T K v n (ys.map (Value.int .i64))

section
variable {T : TypeId} {K : Nat} {w w' : World} {B : Nat} {v : Value} {n : Nat} {ys : List Int}
theorem GrowF.nil (T : TypeId) (K : Nat) (w : World) (B : Nat) : GrowF T K w B (.slice none 0 0) 0 [] := World.ownsRow_nil w B T K
theorem GrowF.own (h : GrowF T K w B v n ys) : OwnF T K w B w.heap.size v n ys := OwnF.row h
theorem GrowF.drew (h : GrowF T K w B v n ys) : GrowF T K w.drew B v n ys := h
theorem GrowF.form (h : GrowF T K w B v n ys) (hn : 0 < n) : ∃ g cap, v = .slice (some ⟨g, 0, none⟩) n cap ∧ RowF T K w B g n cap ys := by
  rcases h.2 with ⟨rfl, h0⟩ | ⟨g, cap, cur, rfl, h1, h2, h3, h4, h5, h6⟩
  · omega
  · exact ⟨g, cap, rfl, h⟩
theorem GrowF.below (h : GrowF T K w B v n ys) (hB : Below w.heap.size w w') : GrowF T K w' B v n ys := by
  refine ⟨h.1, ?_⟩
  rcases h.2 with h3 | ⟨g', cap', cur, e', h4, h5, h6⟩
  · exact .inl h3
  · exact .inr ⟨g', cap', cur, e', h4, by rw [hB.block g' (Array.getElem?_eq_some_iff.1 h5).1]; exact h5, h6⟩
theorem GrowF.belowB {w0 : World} {b : Nat} (h : GrowF T K w B v n ys) (hb : Below b w0 w) (hB : b ≤ B) (hsz : b ≤ w.heap.size) (hg : w.grownBy w' v.ownBlock) : Below b w0 w' :=
  hb.grown hg hsz (fun k hk => by have := (World.ownsRow.lt h k hk).1; omega)
end

/-! Fractions. -/
/-- Element i of a list of fractions, 0/0 beyond its end. -/
def nthR (xs : List (Int × Int)) (i : Nat) : Int × Int := xs[i]?.getD (0, 0)
theorem nthR_eq {xs : List (Int × Int)} {i : Nat} (h : i < xs.length) : nthR xs i = xs[i] := by unfold nthR; rw [List.getElem?_eq_getElem h]; rfl
theorem take_nthR {xs : List (Int × Int)} {k : Nat} (h : k < xs.length) : xs.take (k + 1) = xs.take k ++ [nthR xs k] := by
  rw [List.take_add_one, List.getElem?_eq_getElem h, nthR_eq h]; rfl
def flR (xs : List (Int × Int)) : List Int := xs.flatMap fun x => [x.1, x.2]
theorem flR_len (xs : List (Int × Int)) : (flR xs).length = xs.length * 2 := by
  induction xs with
  | nil => rfl
  | cons x xs ih => simp only [flR, List.flatMap_cons, List.length_append, List.length_cons, List.length_nil] at ih ⊢; omega
theorem flR_append (xs ys : List (Int × Int)) : flR (xs ++ ys) = flR xs ++ flR ys := by simp [flR]
theorem flR_one (x : Int × Int) : flR [x] = [x.1, x.2] := rfl
theorem nth_flR {xs : List (Int × Int)} {i : Nat} (h : i < xs.length) : nth (flR xs) (i * 2) = (nthR xs i).1 ∧ nth (flR xs) (i * 2 + 1) = (nthR xs i).2 := by
  induction xs generalizing i with
  | nil => simp at h
  | cons x xs ih =>
    cases i with
    | zero => exact ⟨rfl, rfl⟩
    | succ i =>
      have h1 := ih (i := i) (by simpa using h)
      have e1 : (i + 1) * 2 = i * 2 + 2 := by omega
      have e2 : (i + 1) * 2 + 1 = (i * 2 + 1) + 2 := by omega
      rw [e1, show i * 2 + 2 + 1 = (i * 2 + 1) + 2 by omega]
      have hc : flR (x :: xs) = x.1 :: x.2 :: flR xs := rfl
      rw [hc]
      exact ⟨by simpa [nth, nthR] using h1.1, by simpa [nth, nthR] using h1.2⟩

abbrev szRatS (xs : List (Int × Int)) : Nat := xs.length
/-- How many numbers a mark writes. -/
def cntRatS (xs : List (Int × Int)) : Nat := 2 * xs.length
theorem cntRatS_le (xs : List (Int × Int)) : cntRatS xs ≤ 4 * szRatS xs := by unfold cntRatS szRatS; omega

def RatsV (w : World) (v : Value) (xs : List (Int × Int)) : Prop := FlatV 2 w v xs.length (flR xs)
theorem RatsV.below {w w' : World} {v : Value} {xs : List (Int × Int)} (h : RatsV w v xs) (hB : Below w.heap.size w w') : RatsV w' v xs := FlatV.below h hB
theorem RatsV.form {w : World} {v : Value} {xs : List (Int × Int)} (h : RatsV w v xs) : ∃ ao cap, v = .slice ao xs.length cap ∧ (xs.length ≤ cap ∧ (ao = none → cap = 0)) ∧ cap ≤ maxLen ∧
    ∀ i, i < xs.length → ∃ b off, ao = some ⟨b, off, none⟩ ∧ w.cell? ⟨b, off + i * 2, none⟩ = some (.int .i64 (nthR xs i).1) ∧ w.cell? ⟨b, off + i * 2 + 1, none⟩ = some (.int .i64 (nthR xs i).2) := by
  obtain ⟨ao, cap, e, h1, h2, H⟩ := h
  refine ⟨ao, cap, e, h1, h2, fun i hi => ?_⟩
  obtain ⟨b, off, rfl, c0⟩ := H (i * 2) (by omega)
  obtain ⟨_, _, e', c1⟩ := H (i * 2 + 1) (by omega)
  cases e'
  obtain ⟨n0, n1⟩ := nth_flR hi
  rw [n0] at c0; rw [n1] at c1
  exact ⟨b, off, rfl, c0, c1⟩
theorem RatsV.mk {w : World} {ao : Option Addr} {cap : Nat} {xs : List (Int × Int)} (h1 : xs.length ≤ cap ∧ (ao = none → cap = 0)) (h2 : cap ≤ maxLen)
    (H : ∀ i, i < xs.length → ∃ b off, ao = some ⟨b, off, none⟩ ∧ w.cell? ⟨b, off + i * 2, none⟩ = some (.int .i64 (nthR xs i).1) ∧ w.cell? ⟨b, off + i * 2 + 1, none⟩ = some (.int .i64 (nthR xs i).2)) : RatsV w (.slice ao xs.length cap) xs := by
  refine ⟨ao, cap, rfl, h1, h2, fun j hj => ?_⟩
  obtain ⟨b, off, e, c0, c1⟩ := H (j / 2) (by omega)
  obtain ⟨n0, n1⟩ := nth_flR (xs := xs) (i := j / 2) (by omega)
  rcases Nat.mod_two_eq_zero_or_one j with h0 | h0
  · have ej : j / 2 * 2 = j := by omega
    rw [ej] at c0 n0
    exact ⟨b, off, e, by rw [c0, n0]⟩
  · have ej : j / 2 * 2 + 1 = j := by omega
    rw [Nat.add_assoc, ej] at c1
    rw [ej] at n1
    exact ⟨b, off, e, by rw [c1, n1]⟩

def OwnR (w : World) (B E : Nat) (v : Value) (xs : List (Int × Int)) : Prop := OwnF 42 2 w B E v xs.length (flR xs)
section
variable {w w' : World} {B E B' E' : Nat} {v : Value} {xs : List (Int × Int)}
theorem OwnR.mono (h : OwnR w B E v xs) (hB : B' ≤ B) (hE : E ≤ E') : OwnR w B' E' v xs := OwnF.mono h hB hE
theorem OwnR.below {E'' : Nat} (h : OwnR w B E v xs) (hB : Below E'' w w') (hE : E ≤ E'') : OwnR w' B E v xs := OwnF.below h hB hE
theorem OwnR.kept {row : Option Nat} (h : OwnR w B E v xs) (hg : w.grownBy w' row) (hr : ∀ g, row = some g → g < B ∨ E ≤ g) : OwnR w' B E v xs := OwnF.kept h hg hr
theorem OwnR.turned (h : OwnR w B E v xs) (ht : Turned B' E' w w') (hd : E ≤ B' ∨ E' ≤ B) : OwnR w' B E v xs := OwnF.turned h ht hd
theorem OwnR.read (h : OwnR w B E v xs) : RatsV w v xs := OwnF.read h
theorem OwnR.nil (w : World) (B E : Nat) : OwnR w B E (.slice none 0 0) [] := OwnF.nil _ _ _ _ _ _
end
/-- A slice of fractions that is appended to. -/
def GrowR (w : World) (B : Nat) (v : Value) (xs : List (Int × Int)) : Prop := GrowF 42 2 w B v xs.length (flR xs)
theorem GrowR.nil (w : World) (B : Nat) : GrowR w B (.slice none 0 0) [] := GrowF.nil _ _ _ _
theorem GrowR.own {w : World} {B : Nat} {v : Value} {xs : List (Int × Int)} (h : GrowR w B v xs) : OwnR w B w.heap.size v xs := GrowF.own h
theorem GrowR.read {w : World} {B : Nat} {v : Value} {xs : List (Int × Int)} (h : GrowR w B v xs) : RatsV w v xs := h.own.read
theorem GrowR.below {w w' : World} {B : Nat} {v : Value} {xs : List (Int × Int)} (h : GrowR w B v xs) (hB : Below w.heap.size w w') : GrowR w' B v xs := GrowF.below h hB
theorem GrowR.belowB {w0 w w' : World} {B : Nat} {v : Value} {xs : List (Int × Int)} {b : Nat} (h : GrowR w B v xs) (hb : Below b w0 w) (hB : b ≤ B) (hsz : b ≤ w.heap.size) (hg : w.grownBy w' v.ownBlock) : Below b w0 w' := GrowF.belowB h hb hB hsz hg
theorem Tryz.infoRat : (Tryz.prog.info? 42).map (fun i => (i.zero, i.size, i.bytes)) = some (some (.agg #[.int .i64 0, .int .i64 0]), 2, 16) := by kernel_rfl

end Go.Proofs.YtjkgilenhoomoaaGreat

namespace Go.Proofs.YtjkgilenhoomoaaGreat
open Go.RowKit

theorem step_fillR (xs : List (Int × Int)) (n k : Nat) (hk : k < n) (hn : xs.length = n) :
    ((flR (xs.take k) ++ List.replicate ((n - k) * 2) 0).set (k * 2) (nthR xs k).1).set (k * 2 + 1) (nthR xs k).2 = flR (xs.take (k + 1)) ++ List.replicate ((n - (k + 1)) * 2) 0 := by
  have h1 : (n - k) * 2 = (n - (k + 1)) * 2 + 1 + 1 := by omega
  have e2 : (flR (xs.take k)).length = k * 2 := by rw [flR_len, List.length_take]; omega
  rw [h1, List.replicate_succ, List.replicate_succ, List.set_append_right _ _ (by omega), e2, Nat.sub_self, List.set_cons_zero, List.set_append_right _ _ (by omega), e2, show k * 2 + 1 - k * 2 = 1 by omega, List.set_cons_succ, List.set_cons_zero,
    take_nthR (by omega), flR_append, flR_one, List.append_assoc]; rfl






end Go.Proofs.YtjkgilenhoomoaaGreat

namespace Go.Proofs.YtjkgilenhoomoaaGreat
open Go.RowKit

theorem unitR_bd {n d : Int} (h : unitR n d = true) : BdR n d := by
  unfold unitR at h
  rw [Bool.and_eq_true] at h
  exact goodR_bd h.1

theorem idxQ_ex : True := trivial
/-- The first place at which p holds, or -1. -/
def idxQ (p : Int × Int → Bool) (xs : List (Int × Int)) : Int := match xs.findIdx? p with | some k => (k : Int) | none => -1
theorem idxQ_hit {p : Int × Int → Bool} {xs : List (Int × Int)} {k : Nat} (hk : k < xs.length) (hno : ∀ j, j < k → p (nthR xs j) = false) (hy : p (nthR xs k) = true) : idxQ p xs = k := by
  have : xs.findIdx? p = some k := by
    rw [List.findIdx?_eq_some_iff_getElem]
    refine ⟨hk, by rw [← nthR_eq hk]; exact hy, fun j hj => ?_⟩
    rw [← nthR_eq (by omega)]; simp [hno j hj]
  simp [idxQ, this]
theorem idxQ_none {p : Int × Int → Bool} {xs : List (Int × Int)} (hno : ∀ j, j < xs.length → p (nthR xs j) = false) : idxQ p xs = -1 := by
  have : xs.findIdx? p = none := by
    rw [List.findIdx?_eq_none_iff]
    intro x hx
    obtain ⟨j, hj, rfl⟩ := List.getElem_of_mem hx
    rw [← nthR_eq hj]; exact hno j hj
  simp [idxQ, this]
theorem idxQ_geq (p : Int × Int → Bool) (xs : List (Int × Int)) : decide (idxQ p xs ≥ 0) = xs.any p := by
  unfold idxQ
  cases h : xs.findIdx? p with
  | none =>
    rw [List.findIdx?_eq_none_iff] at h
    have : xs.any p = false := by rw [List.any_eq_false]; intro x hx; rw [h x hx]; simp
    rw [this]; rfl
  | some k =>
    rw [List.findIdx?_eq_some_iff_getElem] at h
    obtain ⟨hk, hp, _⟩ := h
    have : xs.any p = true := by rw [List.any_eq_true]; exact ⟨_, List.getElem_mem hk, hp⟩
    rw [this]; simp

/-- A function value of fractions that says p, whatever has been laid since w. -/
def SaysQ (g : FuncId) (cb : Array Value) (p : Int × Int → Bool) (w : World) : Prop :=
  ∀ x w', Below w.heap.size w w' → Calls Tryz.prog g (#[.agg #[.int .i64 x.1, .int .i64 x.2]] ++ cb) w' (Ret (.bool (p x)) w')

set_option maxHeartbeats 400000 in
theorem indexFuncQ_any (v : Value) (xs : List (Int × Int)) (g : FuncId) (cb : Array Value) (p : Int × Int → Bool) (w : World) (eg : Enters Tryz.prog g) (hp : SaysQ g cb p w) (hv : RatsV w v xs) (hm : xs.length ≤ 1099511627776) :
    Calls Tryz.prog 125 #[v, .func (.func g) #[] cb] w (Ret (.int .i64 (idxQ p xs)) w) := by
  have heg : ∀ args w, (callFunc g args).run Tryz.prog w = .ok (.enter g args) w := eg
  obtain ⟨ao, cap, rfl, h1, h2, H0⟩ := hv.form
  obtain ⟨n, hn⟩ : ∃ n, xs.length = n := ⟨_, rfl⟩
  rw [hn] at hm hv h1 ⊢
  clear H0 h1 h2
  have hn' := Lib.hid hn
  clear hn
  go_enter Tryz.func125, Tryz.ntmps125
  go_wp2
  go_loopw [8] (fun i wr => ∃ k : Nat, k ≤ n ∧ i = .int .i64 k ∧ (∀ j, j < k → p (nthR xs j) = false) ∧ Below w.heap.size w wr) (fun i _ => n - (intOf i).toNat)
  case atStart => exact ⟨0, Nat.zero_le _, rfl, fun j hj => absurd hj (Nat.not_lt_zero j), Below.refl _ _⟩
  case round =>
    obtain ⟨k, hk, rfl, hno, hB⟩ := hrel
    have hno' := Lib.hid hno
    clear hno
    by_cases hlt : k < n
    · obtain ⟨ao', cap', e, _, _, H⟩ := (hv.below hB).form
      obtain ⟨rfl, e1, rfl⟩ := Value.slice.inj e
      clear e1
      obtain ⟨b, off, rfl, hc0, hc1⟩ := H k (by rw [hn'.out]; exact hlt)
      obtain ⟨r, hr⟩ : ∃ r, nthR xs k = r := ⟨_, rfl⟩
      rw [hr] at hc0 hc1
      have hcall := hp r wr hB
      have hcall' := Lib.hid hcall
      have hr' := Lib.hid hr
      clear hcall hr
      clear H e
      cases hb : p r
      · have hb' := Lib.hid hb
        clear hb
        go_wp2_with fail
        refine (hcall'.out).mono ?_
        rintro e w' ⟨rfl, hB'⟩
        rw [hb'.out]
        go_wp2
        go_roundw
        case rel => exact ⟨k + 1, by omega, by go_num, fun j hj => by
          rcases Nat.lt_succ_iff_lt_or_eq.1 hj with h | rfl
          · exact hno'.out j h
          · rw [hr'.out]; exact hb'.out, hB.trans (hB'.mono hB.size)⟩
        case measure => simp [intOf]; omega
      · have hb' := Lib.hid hb
        clear hb
        go_wp2_with fail
        refine (hcall'.out).mono ?_
        rintro e w' ⟨rfl, hB'⟩
        rw [hb'.out]
        go_wp2
        go_ret
        exact ⟨by rw [idxQ_hit (by rw [hn'.out]; exact hlt) hno'.out (by rw [hr'.out]; exact hb'.out)]; rfl, hB.trans (hB'.mono hB.size)⟩
    · obtain rfl : k = n := by omega
      go_wp2
      go_ret
      exact ⟨by rw [idxQ_none (by rw [hn'.out]; exact hno'.out)]; rfl, hB⟩

theorem containsFuncQ_any (v : Value) (xs : List (Int × Int)) (g : FuncId) (cb : Array Value) (p : Int × Int → Bool) (w : World) (eg : Enters Tryz.prog g) (hp : SaysQ g cb p w) (hv : RatsV w v xs) (hm : xs.length ≤ 1099511627776) :
    Calls Tryz.prog 121 #[v, .func (.func g) #[] cb] w (Ret (.bool (xs.any p)) w) := by
  go_enter Tryz.func121, Tryz.ntmps121
  go_wp2_with fail
  refine (indexFuncQ_any v xs g cb p _ eg hp hv hm).mono ?_
  rintro e w' ⟨rfl, hB⟩
  go_wp2
  go_ret
  refine ⟨?_, hB⟩
  rw [← idxQ_geq]; rfl

/-- All are fractions of 0..1. -/
def unitsB (xs : List (Int × Int)) : Bool := !(xs.any fun x => !(unitR x.1 x.2))
theorem unitsB_nth {xs : List (Int × Int)} (h : unitsB xs = true) {i : Nat} (hi : i < xs.length) : unitR (nthR xs i).1 (nthR xs i).2 = true := by
  unfold unitsB at h
  rw [Bool.not_eq_true', List.any_eq_false] at h
  have := h _ (List.getElem_mem hi)
  rw [nthR_eq hi]
  simpa using this

theorem areUnits1_any (x : Int × Int) (w : World) : Calls Tryz.prog 122 #[.agg #[.int .i64 x.1, .int .i64 x.2]] w (Ret (.bool (!(unitR x.1 x.2))) w) := by
  obtain ⟨n, d⟩ := x
  have hB : Below w.heap.size w (w.alloc (.cells #[.int .i64 n, .int .i64 d] 42)) := (Below.refl _ _).alloc (Nat.le_refl _) _
  have c1 := fun w => isUnit_any n d w
  have c1' := Lib.hid c1
  clear c1
  show Calls _ _ _ _ (Ret (.bool (!(unitR n d))) w)
  generalize unitR n d = u at *
  go_enter Tryz.func122, Tryz.ntmps122
  go_wp2_with fail
  refine (c1'.out _).mono ?_
  rintro e w1 ⟨rfl, hB2⟩
  go_wp2
  go_ret
  exact ⟨rfl, hB.trans (hB2.mono hB.size)⟩
theorem areUnits_any (v : Value) (xs : List (Int × Int)) (w : World) (hv : RatsV w v xs) (hm : xs.length ≤ 1099511627776) :
    Calls Tryz.prog 110 #[v] w (Ret (.bool (unitsB xs)) w) := by
  have c1 := containsFuncQ_any v xs 122 #[] (fun x => !(unitR x.1 x.2)) w (enters_of Tryz.func122 (by kernel_rfl) rfl) (fun x w' _ => areUnits1_any x w') hv hm
  unfold unitsB
  generalize (xs.any fun x => !(unitR x.1 x.2)) = u at *
  have c1' := Lib.hid c1
  clear c1
  clear hv
  go_enter Tryz.func110, Tryz.ntmps110
  go_wp2_with fail
  refine (c1'.out).mono ?_
  rintro e w1 ⟨rfl, hB⟩
  go_wp2
  go_ret
  exact ⟨rfl, hB⟩

/-- The first k are strictly rising. -/
def riseK (xs : List (Int × Int)) (k : Nat) : Bool := (List.range (k - 1)).all fun i => ltB (nthR xs i).1 (nthR xs i).2 (nthR xs (i + 1)).1 (nthR xs (i + 1)).2
theorem riseK_step (xs : List (Int × Int)) (k : Nat) (hk : 1 ≤ k) : riseK xs (k + 1) = (riseK xs k && ltB (nthR xs (k - 1)).1 (nthR xs (k - 1)).2 (nthR xs k).1 (nthR xs k).2) := by
  obtain ⟨k, rfl⟩ : ∃ m, k = m + 1 := ⟨k - 1, by omega⟩
  simp [riseK, List.range_succ, List.all_append]
theorem riseK_false {xs : List (Int × Int)} {k n : Nat} (hk : 1 ≤ k) (hn : k < n) (h : ltB (nthR xs (k - 1)).1 (nthR xs (k - 1)).2 (nthR xs k).1 (nthR xs k).2 = false) : riseK xs n = false := by
  unfold riseK
  rw [List.all_eq_false]
  refine ⟨k - 1, List.mem_range.2 (by omega), ?_⟩
  rw [show k - 1 + 1 = k by omega, h]; simp

theorem isRising_any (v : Value) (xs : List (Int × Int)) (w : World) (hv : RatsV w v xs) (hm : xs.length ≤ 1099511627776) (hb : ∀ i, i < xs.length → BdR (nthR xs i).1 (nthR xs i).2) :
    Calls Tryz.prog 83 #[v] w (Ret (.bool (riseK xs xs.length)) w) := by
  obtain ⟨ao, cap, rfl, _, _, H⟩ := hv.form
  obtain ⟨n, hn⟩ : ∃ n, xs.length = n := ⟨_, rfl⟩
  rw [hn] at hm H hv hb ⊢
  have hn' := Lib.hid hn
  have hv' := Lib.hid hv
  clear hn hv
  go_enter Tryz.func83, Tryz.ntmps83
  go_wp2
  go_loopw [3] (fun i wr => ∃ k : Nat, (1 ≤ k ∧ (k ≤ n ∨ k = 1)) ∧ i = .int .i64 k ∧ riseK xs k = true ∧ Below w.heap.size w wr) (fun i _ => n - (intOf i).toNat)
  case atStart => exact ⟨1, ⟨by omega, .inr rfl⟩, rfl, rfl, Below.refl _ _⟩
  case round =>
    obtain ⟨k, ⟨h1, hk⟩, rfl, hr, hB⟩ := hrel
    by_cases hlt : k < n
    · obtain ⟨b, off, rfl, hc0, hc1⟩ := H k hlt
      obtain ⟨_, _, e', hp0, hp1⟩ := H (k - 1) (by omega)
      cases e'
      clear H
      rw [← hB.cell (World.block_lt_of_cell? w _ hc0)] at hc0
      rw [← hB.cell (World.block_lt_of_cell? w _ hc1)] at hc1
      rw [← hB.cell (World.block_lt_of_cell? w _ hp0)] at hp0
      rw [← hB.cell (World.block_lt_of_cell? w _ hp1)] at hp1
      have c1 := fun w => less_any (nthR xs (k - 1)).1 (nthR xs (k - 1)).2 (nthR xs k).1 (nthR xs k).2 w (hb (k - 1) (by omega)) (hb k hlt)
      have hst := riseK_step xs k h1
      have hfa := fun h => riseK_false (xs := xs) h1 hlt h
      clear hb
      rw [hr, Bool.true_and] at hst
      generalize ltB (nthR xs (k - 1)).1 (nthR xs (k - 1)).2 (nthR xs k).1 (nthR xs k).2 = L at *
      generalize nthR xs k = x at *
      generalize nthR xs (k - 1) = y at *
      obtain ⟨p, q⟩ := x
      obtain ⟨p', q'⟩ := y
      have l0 := World.block_lt_of_cell? _ _ hc0
      obtain ⟨m, hm1⟩ : ∃ m : Nat, k - 1 = m := ⟨_, rfl⟩
      rw [hm1] at hp0 hp1
      have g1 : IntKind.i64.wrap ((k : Int) - 1) = (m : Int) := by rw [IntKind.wrap_i64]; omega
      have g2 : (0 : Int) ≤ (m : Int) := by omega
      have g3 : (m : Int) < (n : Int) := by omega
      have g4 : (0 : Int) ≤ (k : Int) := by omega
      have g5 : (k : Int) < (n : Int) := by omega
      have c1' := Lib.hid c1
      have hst' := Lib.hid hst
      have hr' := Lib.hid hr
      have hm1' := Lib.hid hm1
      clear c1 hst hr hm1
      cases L
      · replace hfa := hfa rfl
        have hfa' := Lib.hid hfa
        clear hfa
        go_wp2_with fail
        go_region_held3 (fun w' => (w'.cell? ⟨b, off + k * 2, none⟩ = some (.int .i64 p) ∧ w'.cell? ⟨b, off + k * 2 + 1, none⟩ = some (.int .i64 q)) ∧ w'.cell? ⟨b, off + m * 2, none⟩ = some (.int .i64 p') ∧ w'.cell? ⟨b, off + m * 2 + 1, none⟩ = some (.int .i64 q'))
          (first | exact ⟨⟨hc0, hc1⟩, hp0, hp1⟩ | exact ⟨⟨hd0, hd1⟩, hd0', hd1'⟩)
          (first
            | (go_at_call 36
               refine (c1'.out _).mono ?_
               rintro e w2 ⟨rfl, hB2⟩
               have hd0 := (hB2.cell (p := ⟨b, off + k * 2, none⟩) l0).trans hc0
               have hd1 := (hB2.cell (p := ⟨b, off + k * 2 + 1, none⟩) l0).trans hc1
               have hd0' := (hB2.cell (p := ⟨b, off + m * 2, none⟩) l0).trans hp0
               have hd1' := (hB2.cell (p := ⟨b, off + m * 2 + 1, none⟩) l0).trans hp1))
        have hB3 : Below w.heap.size w w2 := hB.drew.trans (hB2.mono hB.size)
        go_wp2
        go_ret
        exact ⟨by rw [hfa'.out]; rfl, hB3⟩
      · clear hfa
        go_wp2_with fail
        go_region_held3 (fun w' => (w'.cell? ⟨b, off + k * 2, none⟩ = some (.int .i64 p) ∧ w'.cell? ⟨b, off + k * 2 + 1, none⟩ = some (.int .i64 q)) ∧ w'.cell? ⟨b, off + m * 2, none⟩ = some (.int .i64 p') ∧ w'.cell? ⟨b, off + m * 2 + 1, none⟩ = some (.int .i64 q'))
          (first | exact ⟨⟨hc0, hc1⟩, hp0, hp1⟩ | exact ⟨⟨hd0, hd1⟩, hd0', hd1'⟩)
          (first
            | (go_at_call 36
               refine (c1'.out _).mono ?_
               rintro e w2 ⟨rfl, hB2⟩
               have hd0 := (hB2.cell (p := ⟨b, off + k * 2, none⟩) l0).trans hc0
               have hd1 := (hB2.cell (p := ⟨b, off + k * 2 + 1, none⟩) l0).trans hc1
               have hd0' := (hB2.cell (p := ⟨b, off + m * 2, none⟩) l0).trans hp0
               have hd1' := (hB2.cell (p := ⟨b, off + m * 2 + 1, none⟩) l0).trans hp1))
        have hB3 : Below w.heap.size w w2 := hB.drew.trans (hB2.mono hB.size)
        go_wp2
        go_roundw
        case rel => exact ⟨k + 1, ⟨by omega, .inl (by omega)⟩, by go_num, hst'.out, hB3⟩
        case measure => simp [intOf]; omega
    · have hr2 : riseK xs n = true := by
        rcases hk with hk | rfl
        · obtain rfl : k = n := by omega
          exact hr
        · unfold riseK; rw [show n - 1 = 0 by omega]; rfl
      have hr2' := Lib.hid hr2
      clear hr2
      clear H
      go_wp2
      go_ret
      exact ⟨by rw [hr2'.out]; rfl, hB⟩

theorem zero_any (w : World) : Calls Tryz.prog 81 #[] w (Ret (ratV (0, 1)) w) := by
  go_enter Tryz.func81, Tryz.ntmps81
  go_wp2
  refine bodyPost_ret (v := ratV (0, 1)) (by simp [results, Tryz.results81, go_sem, ratV]) rfl ⟨rfl, ?_⟩
  exact (Below.refl _ _).alloc (Nat.le_refl _) _


theorem oneRat_any (w : World) : Calls Tryz.prog 82 #[] w (Ret (ratV (1, 1)) w) := by
  go_enter Tryz.func82, Tryz.ntmps82
  go_wp2
  refine bodyPost_ret (v := ratV (1, 1)) (by simp [results, Tryz.results82, go_sem, ratV]) rfl ⟨rfl, ?_⟩
  exact (Below.refl _ _).alloc (Nat.le_refl _) _
theorem raInt_any (n : Int) (w : World) : Calls Tryz.prog 42 #[.int .i64 n] w (Ret (ratV (n, 1)) w) := by
  go_enter Tryz.func42, Tryz.ntmps42
  go_wp2
  refine bodyPost_ret (v := ratV (n, 1)) (by simp [results, Tryz.results42, go_sem, ratV]) rfl ⟨rfl, ?_⟩
  exact (Below.refl _ _).alloc (Nat.le_refl _) _

end Go.Proofs.YtjkgilenhoomoaaGreat

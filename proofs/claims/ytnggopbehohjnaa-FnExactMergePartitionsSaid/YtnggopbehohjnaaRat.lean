/- Fractions: absolute values, common divisors, valid ones. No conditions but bounds. -/
import Derived.Test.YtnggopbehohjnaaSigns
import Derived.Test.YtnggopbehohjnaaWrap
import Derived.Deep.QuietTactic
import Derived.BigQuiet
import Derived.Outline
namespace Go.Proofs.Ytnggopbehohjnaa
open Go.RowKit

/-- A fraction as a value. -/
abbrev ratV (r : Int × Int) : Value := .agg #[.int .i64 r.1, .int .i64 r.2]

theorem Same.is {v : Value} {w : World} {f : FuncId} {args : Array Value} (h : Calls Try.prog f args w (Same v w)) : Calls Try.prog f args w (fun e w'' => e = .returned v ∧ w'' = w) := h.mono fun _ _ k => ⟨k.1, k.2.symm⟩

theorem abs_any (n : Int) (w : World) (h : -9223372036854775807 ≤ n ∧ n ≤ 9223372036854775807) : Calls Try.prog 60 #[.int .i64 n] w (Same (.int .i64 (n.natAbs : Int)) w) := by
  by_cases h0 : n < 0
  · have e : (n.natAbs : Int) = -n := by omega
    rw [e]
    clear e
    go_enter Try.func60, Try.ntmps60
    go_wp2
    go_ret
    exact ⟨rfl, rfl⟩
  · have e : (n.natAbs : Int) = n := by omega
    rw [e]
    clear e
    go_enter Try.func60, Try.ntmps60
    go_wp2
    go_ret
    exact ⟨rfl, rfl⟩
theorem l1Most_is (a b m : Int) (w : World) (hm : m = max a b) : Calls Try.prog 53 #[.int .i64 a, .int .i64 b] w (Same (.int .i64 m) w) := by
  by_cases h : b < a
  · obtain rfl : m = a := by omega
    clear hm
    go_enter Try.func53, Try.ntmps53
    go_wp2
    go_ret
    exact ⟨rfl, rfl⟩
  · obtain rfl : m = b := by omega
    clear hm
    go_enter Try.func53, Try.ntmps53
    go_wp2
    go_ret
    exact ⟨rfl, rfl⟩
theorem l1Abs_any (n : Int) (w : World) (h : -9223372036854775807 ≤ n ∧ n ≤ 9223372036854775807) : Calls Try.prog 40 #[.int .i64 n] w (Same (.int .i64 (n.natAbs : Int)) w) := by
  obtain ⟨m, hm⟩ : ∃ m, (n.natAbs : Int) = m := ⟨_, rfl⟩
  have hm2 : m = max n (-n) := by omega
  rw [hm]
  have hm' := Lib.hid hm
  have hm2' := Lib.hid hm2
  clear hm hm2
  go_enter Try.func40, Try.ntmps40
  go_wp2_with fail
  refine (l1Most_is _ _ m _ hm2'.out).mono ?_
  rintro e w_ ⟨rfl, rfl⟩
  go_wp2
  go_ret
  exact ⟨rfl, rfl⟩
/-- The greatest common divisor. -/
def gcdI (a b : Int) : Int := (Nat.gcd a.natAbs b.natAbs : Nat)
theorem raCommon_any (a b : Nat) (w : World) (ha : a ≤ 9223372036854775807) (hb : b ≤ 9223372036854775807) : Calls Try.prog 39 #[.int .i64 a, .int .i64 b] w (Same (.int .i64 (Nat.gcd a b : Nat)) w) := by
  obtain ⟨G, hG⟩ : ∃ G, Nat.gcd a b = G := ⟨_, rfl⟩
  rw [hG]
  have hG' := Lib.hid hG
  clear hG
  go_enter Try.func39, Try.ntmps39
  go_wp2
  go_loop [0, 1] (fun x y => ∃ p q : Nat, p ≤ 9223372036854775807 ∧ q ≤ 9223372036854775807 ∧ x = .int .i64 p ∧ y = .int .i64 q ∧ Hid (Nat.gcd p q = G)) (fun _ y => (intOf y).toNat)
  case atStart => exact ⟨a, b, ha, hb, rfl, rfl, hG'⟩
  case round =>
    obtain ⟨p, q, hp, hq, rfl, rfl, hI⟩ := hrel
    by_cases h0 : 0 < q
    · have hI2 : Nat.gcd q (p % q) = G := by rw [← hI.out, Nat.gcd_comm p q, Nat.gcd_rec q p, Nat.gcd_comm]
      have hlt := Nat.mod_lt p h0
      have e1 : ((p : Int) % (q : Int)) = ((p % q : Nat) : Int) := by simp
      have hI2' := Lib.hid hI2
      clear hI2
      go_wp2
      go_round
      case rel => exact ⟨q, p % q, by omega, by omega, rfl, by rw [← e1], hI2'⟩
      case measure => simp [intOf]; omega
    · obtain rfl : q = 0 := by omega
      have e := hI.out
      rw [Nat.gcd_zero_right] at e
      subst e
      go_wp2
      go_ret
      exact ⟨rfl, rfl⟩
theorem raCommon_is (a b : Int) (w : World) (ha : 0 ≤ a ∧ a ≤ 9223372036854775807) (hb : 0 ≤ b ∧ b ≤ 9223372036854775807) : Calls Try.prog 39 #[.int .i64 a, .int .i64 b] w (Same (.int .i64 (gcdI a b)) w) := by
  obtain ⟨a, rfl⟩ := Int.eq_ofNat_of_zero_le ha.1
  obtain ⟨b, rfl⟩ := Int.eq_ofNat_of_zero_le hb.1
  exact raCommon_any a b w (by omega) (by omega)
theorem greatestDivisor_any (a b : Int) (w : World) (ha : -9223372036854775807 ≤ a ∧ a ≤ 9223372036854775807) (hb : -9223372036854775807 ≤ b ∧ b ≤ 9223372036854775807) :
    Calls Try.prog 54 #[.int .i64 a, .int .i64 b] w fun e w' => e = .returned (.int .i64 (gcdI a b)) ∧ ∃ n, w' = w.drewN n := by
  obtain ⟨G, hG⟩ : ∃ G, Nat.gcd a.natAbs b.natAbs = G := ⟨_, rfl⟩
  unfold gcdI
  rw [hG]
  have ha2 : a.natAbs ≤ 9223372036854775807 := by omega
  have hb2 : b.natAbs ≤ 9223372036854775807 := by omega
  have hG' := Lib.hid hG
  clear hG
  go_enter Try.func54, Try.ntmps54
  go_wp2_with fail
  refine (abs_any _ _ ha).mono ?_
  rintro e w_ ⟨rfl, rfl⟩
  go_wp2_with fail
  refine (abs_any _ _ hb).mono ?_
  rintro e w_ ⟨rfl, rfl⟩
  go_wp2
  go_loopw [0, 1] (fun x y wr => ∃ p q : Nat, p ≤ 9223372036854775807 ∧ q ≤ 9223372036854775807 ∧ x = .int .i64 p ∧ y = .int .i64 q ∧ Hid (Nat.gcd p q = G) ∧ ∃ n, wr = w.drewN n) (fun _ y _ => (intOf y).toNat)
  case atStart => exact ⟨_, _, ha2, hb2, rfl, rfl, hG', 0, rfl⟩
  case round =>
    obtain ⟨p, q, hp, hq, rfl, rfl, hI, n, rfl⟩ := hrel
    by_cases h0 : 0 < q
    · have hI2 : Nat.gcd q (p % q) = G := by rw [← hI.out, Nat.gcd_comm p q, Nat.gcd_rec q p, Nat.gcd_comm]
      have hlt := Nat.mod_lt p h0
      have e1 : ((p : Int) % (q : Int)) = ((p % q : Nat) : Int) := by simp
      have h1 : ((q : Int) == 0) = false := by rw [beq_eq_false_iff_ne]; omega
      have h2 : ((q : Int) != 0) = true := by rw [bne_iff_ne]; omega
      have hI2' := Lib.hid hI2
      clear hI2
      go_wp2_with fail
      go_region
      all_goals go_wp2
      go_roundw
      case rel => exact ⟨q, p % q, by omega, by omega, rfl, by rw [← e1], hI2', n + 1, rfl⟩
      case measure => simp [intOf]; omega
    · obtain rfl : q = 0 := by omega
      have e := hI.out
      rw [Nat.gcd_zero_right] at e
      subst e
      go_wp2
      go_ret
      exact ⟨rfl, n, rfl⟩

/-- The call returns v; but draws have been made. -/
def Drew (v : Value) (w : World) (e : Ending) (w' : World) : Prop := e = .returned v ∧ ∃ n, w' = w.drewN n

/-- The fraction is valid. -/
def goodR (n d : Int) : Bool := inB d 1 1000000000 && inB n (-1000000000) 1000000000 && decide (gcdI n d = 1)
theorem goodR_den {n d : Int} (h : inB d 1 1000000000 = false) : goodR n d = false := by simp [goodR, h]
theorem goodR_num {n d : Int} (h : inB n (-1000000000) 1000000000 = false) : goodR n d = false := by simp [goodR, h]
theorem goodR_in {n d : Int} (h1 : inB d 1 1000000000 = true) (h2 : inB n (-1000000000) 1000000000 = true) : goodR n d = decide (gcdI n d = 1) := by simp [goodR, h1, h2]
theorem goodR_bd {n d : Int} (h : goodR n d = true) : (1 ≤ d ∧ d ≤ 1000000000) ∧ (-1000000000 ≤ n ∧ n ≤ 1000000000) := by
  simp only [goodR, Bool.and_eq_true, inB_true] at h
  exact h.1

theorem isRat_any (n d : Int) (w : World) : Calls Try.prog 42 #[.agg #[.int .i64 n, .int .i64 d]] w (Ret (.bool (goodR n d)) w) := by
  have hB : Below w.heap.size w (w.alloc (.cells #[.int .i64 n, .int .i64 d] 33)) := (Below.refl _ _).alloc (Nat.le_refl _) _
  cases h1 : inB d 1 1000000000
  · rw [goodR_den h1]
    have h1' := Lib.hid h1
    clear h1
    go_enter Try.func42, Try.ntmps42
    go_wp2_with fail
    refine (within_any _ _ _ _).mono ?_
    rintro e w_ ⟨rfl, rfl⟩
    rw [h1'.out]
    go_wp2
    go_ret
    exact ⟨rfl, hB⟩
  cases h2 : inB n (-1000000000) 1000000000
  · rw [goodR_num h2]
    have h1' := Lib.hid h1
    have h2' := Lib.hid h2
    clear h1 h2
    go_enter Try.func42, Try.ntmps42
    go_wp2_with fail
    refine (within_any _ _ _ _).mono ?_
    rintro e w_ ⟨rfl, rfl⟩
    rw [h1'.out]
    go_wp2_with fail
    refine (within_any _ _ _ _).mono ?_
    rintro e w_ ⟨rfl, rfl⟩
    rw [h2'.out]
    go_wp2
    go_ret
    exact ⟨rfl, hB⟩
  rw [goodR_in h1 h2]
  have b1 := inB_true.1 h1
  have b2 := inB_true.1 h2
  obtain ⟨G, hG⟩ : ∃ G, gcdI n d = G := ⟨_, rfl⟩
  have cg := fun w' => greatestDivisor_any n d w' (by omega) (by omega)
  simp only [hG] at cg
  rw [hG]
  have h1' := Lib.hid h1
  have h2' := Lib.hid h2
  have hG' := Lib.hid hG
  have cg' := Lib.hid cg
  clear h1 h2 hG cg
  by_cases h3 : G = 1
  · rw [decide_eq_true h3]
    subst h3
    go_enter Try.func42, Try.ntmps42
    go_wp2_with fail
    refine (within_any _ _ _ _).mono ?_
    rintro e w_ ⟨rfl, rfl⟩
    rw [h1'.out]
    go_wp2_with fail
    refine (within_any _ _ _ _).mono ?_
    rintro e w_ ⟨rfl, rfl⟩
    rw [h2'.out]
    go_wp2_with fail
    refine (cg'.out _).mono ?_
    rintro e w2 ⟨rfl, q, rfl⟩
    go_wp2
    go_ret
    exact ⟨rfl, below_drewN hB _⟩
  · rw [decide_eq_false h3]
    have h4 : (G == 1) = false := by rw [beq_eq_false_iff_ne]; exact h3
    clear h3
    go_enter Try.func42, Try.ntmps42
    go_wp2_with fail
    refine (within_any _ _ _ _).mono ?_
    rintro e w_ ⟨rfl, rfl⟩
    rw [h1'.out]
    go_wp2_with fail
    refine (within_any _ _ _ _).mono ?_
    rintro e w_ ⟨rfl, rfl⟩
    rw [h2'.out]
    go_wp2_with fail
    refine (cg'.out _).mono ?_
    rintro e w2 ⟨rfl, q, rfl⟩
    go_wp2
    go_ret
    exact ⟨rfl, below_drewN hB _⟩

set_option maxRecDepth 100000 in
set_option maxHeartbeats 4000000 in
theorem raGood_any (n d : Int) (w : World) : Calls Try.prog 31 #[.agg #[.int .i64 n, .int .i64 d]] w (Ret (.bool (goodR n d)) w) := by
  have hB : Below w.heap.size w (w.alloc (.cells #[.int .i64 n, .int .i64 d] 33)) := (Below.refl _ _).alloc (Nat.le_refl _) _
  cases h1 : inB d 1 1000000000
  · rw [goodR_den h1]
    go_enter Try.func31, Try.ntmps31
    go_wp2_with fail
    go_quiet ((go_at_call 18; exact Calls.quiet_of_same (Same.is (l1In_any _ _ _ _))))
    go_wp2
    go_ret
    exact ⟨rfl, below_drewN hB _⟩
  cases h2 : inB n (-1000000000) 1000000000
  · rw [goodR_num h2]
    go_enter Try.func31, Try.ntmps31
    go_wp2_with fail
    go_quiet ((go_at_call 18; exact Calls.quiet_of_same (Same.is (l1In_any _ _ _ _))))
    go_wp2
    go_ret
    exact ⟨rfl, below_drewN hB _⟩
  rw [goodR_in h1 h2]
  have b1 := inB_true.1 h1
  have b2 := inB_true.1 h2
  have e : gcdI (n.natAbs : Int) d = gcdI n d := by unfold gcdI; simp
  obtain ⟨G, hG⟩ : ∃ G, gcdI n d = G := ⟨_, rfl⟩
  rw [hG] at e ⊢
  have hG' := Lib.hid hG
  clear hG
  have b3 : -9223372036854775807 ≤ n ∧ n ≤ 9223372036854775807 := by omega
  have b4 : (0 : Int) ≤ (n.natAbs : Int) ∧ (n.natAbs : Int) ≤ 9223372036854775807 := by omega
  have b5 : 0 ≤ d ∧ d ≤ 9223372036854775807 := by omega
  by_cases h3 : G = 1
  · rw [decide_eq_true h3]
    subst h3
    go_enter Try.func31, Try.ntmps31
    go_wp2_with fail
    go_quiet ((first | (go_at_call 18; exact Calls.quiet_of_same (Same.is (l1In_any _ _ _ _))) | (go_at_call 40; exact Calls.quiet_of_same (Same.is (l1Abs_any _ _ b3))) | (go_at_call 39; exact Calls.quiet_of_same (Same.is (raCommon_is _ _ _ b4 b5)))))
    go_wp2
    go_ret
    exact ⟨rfl, below_drewN hB _⟩
  · rw [decide_eq_false h3]
    have h4 : (G == 1) = false := by rw [beq_eq_false_iff_ne]; exact h3
    clear h3
    go_enter Try.func31, Try.ntmps31
    go_wp2_with fail
    go_quiet ((first | (go_at_call 18; exact Calls.quiet_of_same (Same.is (l1In_any _ _ _ _))) | (go_at_call 40; exact Calls.quiet_of_same (Same.is (l1Abs_any _ _ b3))) | (go_at_call 39; exact Calls.quiet_of_same (Same.is (raCommon_is _ _ _ b4 b5)))))
    go_wp2
    go_ret
    exact ⟨rfl, below_drewN hB _⟩

end Go.Proofs.Ytnggopbehohjnaa

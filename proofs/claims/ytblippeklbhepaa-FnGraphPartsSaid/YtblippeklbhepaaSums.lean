/- PowerSums: the reference's and the program's walk compute the same list (with wrapping arithmetic). -/
import Derived.Test.YtblippeklbhepaaPolyIs
namespace Go.Proofs.Ytblippeklbhepaa
open Go.RowKit

/-- The last coefficient is 1. -/
def monicB (xs : List Int) : Bool := decide (0 < xs.length) && nth xs (xs.length - 1) == 1
theorem monicB_nil {xs : List Int} (h : ¬ 0 < xs.length) : monicB xs = false := by
  have : decide (0 < xs.length) = false := decide_eq_false h
  simp only [monicB, this, Bool.false_and]
theorem monicB_pos {xs : List Int} (h : 0 < xs.length) : monicB xs = (nth xs (xs.length - 1) == 1) := by
  have : decide (0 < xs.length) = true := decide_eq_true h
  simp only [monicB, this, Bool.true_and]

theorem poMonic_any (v : Value) (xs : List Int) (w : World) (hv : IntsV w v xs) (hm : xs.length ≤ 1099511627776) :
    Calls Try.prog 97 #[v] w (Same (.bool (monicB xs)) w) := by
  obtain ⟨ao, cap, rfl, -, -, H⟩ := hv
  by_cases h0 : 0 < xs.length
  · rw [monicB_pos h0]
    obtain ⟨b, off, rfl, hc⟩ := H (xs.length - 1) (by omega)
    clear H
    generalize nth xs (xs.length - 1) = x at hc ⊢
    generalize xs.length = n at hc h0 hm ⊢
    go_enter Try.func97, Try.ntmps97
    go_wp2
    go_ret
    exact ⟨rfl, rfl⟩
  · rw [monicB_nil h0]
    clear H
    generalize xs.length = n at h0 hm ⊢
    go_enter Try.func97, Try.ntmps97
    go_wp2
    go_ret
    exact ⟨rfl, rfl⟩

theorem isMonic_any (v : Value) (xs : List Int) (w : World) (hv : IntsV w v xs) (hm : xs.length ≤ 1099511627776) :
    Calls Try.prog 94 #[v] w (Same (.bool (monicB xs)) w) := by
  obtain ⟨ao, cap, rfl, -, -, H⟩ := hv
  by_cases h0 : 0 < xs.length
  · rw [monicB_pos h0]
    obtain ⟨b, off, rfl, hc⟩ := H (xs.length - 1) (by omega)
    clear H
    generalize nth xs (xs.length - 1) = x at hc ⊢
    generalize xs.length = n at hc h0 hm ⊢
    go_enter Try.func94, Try.ntmps94
    go_wp2
    go_ret
    exact ⟨rfl, rfl⟩
  · rw [monicB_nil h0]
    clear H
    generalize xs.length = n at h0 hm ⊢
    go_enter Try.func94, Try.ntmps94
    go_wp2
    go_ret
    exact ⟨rfl, rfl⟩


/-- The first i rounds of the inner loop. -/
def psIn (xs out : List Int) (D k : Nat) : Nat → Int
  | 0 => 0
  | i + 1 => wrap64 (psIn xs out D k i - wrap64 (nth xs (D - (i + 1)) * nth out (k - 1 - (i + 1))))
/-- The k-th sum before the test. -/
def psSum (xs out : List Int) (D k : Nat) : Int := if k ≤ D then wrap64 (psIn xs out D k (min (k - 1) D) - wrap64 (k * nth xs (D - k))) else psIn xs out D k (min (k - 1) D)
/-- The first m sums, if none is too large. -/
def psOut (xs : List Int) (D : Nat) : Nat → Option (List Int)
  | 0 => some []
  | m + 1 => (psOut xs D m).bind fun out => if inB (psSum xs out D (m + 1)) (-1000000000) 1000000000 = true then some (out ++ [psSum xs out D (m + 1)]) else none
theorem psOut_len {xs : List Int} {D : Nat} : ∀ {m out}, psOut xs D m = some out → out.length = m
  | 0, out, h => by simp [psOut] at h; subst h; rfl
  | m + 1, out, h => by
    simp only [psOut, Option.bind_eq_some_iff] at h
    obtain ⟨o, h1, h2⟩ := h
    split at h2
    · simp at h2; subst h2; simp [psOut_len h1]
    · simp at h2
theorem psOut_none {xs : List Int} {D m : Nat} (h : psOut xs D m = none) : ∀ j, psOut xs D (m + j) = none
  | 0 => h
  | j + 1 => by rw [← Nat.add_assoc, psOut, psOut_none h j]; rfl
theorem psOut_step {xs out : List Int} {D m : Nat} {s : Int} (h : psOut xs D m = some out) (hs : psSum xs out D (m + 1) = s) (hb : inB s (-1000000000) 1000000000 = true) : psOut xs D (m + 1) = some (out ++ [s]) := by
  rw [psOut, h]; simp [hs, hb]
theorem psOut_stop {xs out : List Int} {D m N : Nat} {s : Int} (h : psOut xs D m = some out) (hs : psSum xs out D (m + 1) = s) (hb : inB s (-1000000000) 1000000000 = false) (hN : m < N) : psOut xs D N = none := by
  have h1 : psOut xs D (m + 1) = none := by rw [psOut, h]; simp [hs, hb]
  have := psOut_none h1 (N - (m + 1))
  rwa [show m + 1 + (N - (m + 1)) = N by omega] at this
def psOk (xs : List Int) (n : Int) : Bool := polyB xs && monicB xs && decide (2 ≤ xs.length) && inB n 1 12
/-- What both functions return. -/
def PowerSums_v (xs : List Int) (n : Int) : List Int × Bool :=
  if psOk xs n = true then (match psOut xs (xs.length - 1) n.toNat with | some out => (out, true) | none => ([], false)) else ([], false)
theorem PowerSums_no {xs : List Int} {n : Int} (h : psOk xs n = false) : PowerSums_v xs n = ([], false) := by simp [PowerSums_v, h]
theorem PowerSums_yes {xs out : List Int} {n : Int} (h : psOk xs n = true) (ho : psOut xs (xs.length - 1) n.toNat = some out) : PowerSums_v xs n = (out, true) := by simp [PowerSums_v, h, ho]
theorem PowerSums_big {xs : List Int} {n : Int} (h : psOk xs n = true) (ho : psOut xs (xs.length - 1) n.toNat = none) : PowerSums_v xs n = ([], false) := by simp [PowerSums_v, h, ho]
theorem PowerSums_len (xs : List Int) (n : Int) : szIntS (PowerSums_v xs n).1 ≤ 1099511627776 := by
  unfold szIntS
  cases h : psOk xs n
  · rw [PowerSums_no h]; simp
  · cases ho : psOut xs (xs.length - 1) n.toNat with
    | none => rw [PowerSums_big h ho]; simp
    | some out =>
      rw [PowerSums_yes h ho, psOut_len ho]
      simp only [psOk, Bool.and_eq_true] at h
      have := inB_true.1 h.2
      omega

theorem psOk_parts {xs : List Int} {n : Int} (h : psOk xs n = true) : polyB xs = true ∧ monicB xs = true ∧ 2 ≤ xs.length ∧ inB n 1 12 = true ∧ 1 ≤ n ∧ n ≤ 12 := by
  simp only [psOk, Bool.and_eq_true, decide_eq_true_eq] at h
  exact ⟨h.1.1.1, h.1.1.2, h.1.2, h.2, (inB_true.1 h.2).1, (inB_true.1 h.2).2⟩
theorem polyB_le {xs : List Int} (h : polyB xs = true) : xs.length ≤ 9 := by
  rcases Nat.lt_or_ge 9 xs.length with h1 | h1
  · rw [polyB_len h1] at h; cases h
  · exact h1



end Go.Proofs.Ytblippeklbhepaa

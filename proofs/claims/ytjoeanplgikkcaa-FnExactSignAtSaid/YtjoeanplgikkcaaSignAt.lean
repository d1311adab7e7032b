/- The sign of a polynomial's value at a fraction: the reference's walk and the program's. -/
import Derived.Test.YtjoeanplgikkcaaRatIs
import Derived.Test.YtjoeanplgikkcaaRoot
namespace Go.Proofs.Ytjoeanplgikkcaa
open Go.RowKit

/-- A fraction at which signs are told. -/
def placeB (n d : Int) : Bool := goodR n d && decide (d ≤ 30) && inB n (-30) 30
theorem poPlace_any (n d : Int) (w : World) : Calls Try.prog 101 #[.agg #[.int .i64 n, .int .i64 d]] w (Ret (.bool (placeB n d)) w) := by
  have hB : Below w.heap.size w (w.alloc (.cells #[.int .i64 n, .int .i64 d] 54)) := (Below.refl _ _).alloc (Nat.le_refl _) _
  have c1 := fun w => raGood_any n d w
  unfold placeB
  have c1' := Lib.hid c1
  clear c1
  cases h : goodR n d
  · rw [h] at c1'
    rw [Bool.false_and, Bool.false_and]
    clear h
    go_enter Try.func101, Try.ntmps101
    go_wp2_with fail
    refine (c1'.out _).mono ?_
    rintro e w1 ⟨rfl, hB2⟩
    go_wp2
    go_ret
    exact ⟨rfl, hB.trans (hB2.mono hB.size)⟩
  · rw [h] at c1'
    rw [Bool.true_and]
    clear h
    by_cases h1 : d ≤ 30
    · rw [decide_eq_true h1, Bool.true_and]
      go_enter Try.func101, Try.ntmps101
      go_wp2_with fail
      refine (c1'.out _).mono ?_
      rintro e w1 ⟨rfl, hB2⟩
      obtain ⟨hc, hf⟩ := bcell hB2
      have hB3 := hB.trans (hB2.mono hB.size)
      clear hB hB2
      go_wp2_with fail
      refine (l1In_any _ _ _ _).mono ?_
      rintro e w_ ⟨rfl, rfl⟩
      go_wp2
      go_ret
      exact ⟨rfl, hB3⟩
    · rw [decide_eq_false h1, Bool.false_and]
      have hd : decide (d ≤ 30) = false := decide_eq_false h1
      go_enter Try.func101, Try.ntmps101
      go_wp2_with fail
      refine (c1'.out _).mono ?_
      rintro e w1 ⟨rfl, hB2⟩
      obtain ⟨hc, hf⟩ := bcell hB2
      have hB3 := hB.trans (hB2.mono hB.size)
      clear hB hB2
      go_wp2
      go_ret
      exact ⟨rfl, hB3⟩

def signOk (p : List Int) (n d : Int) : Bool := polyB p && placeB n d
/-- What both SignAt functions return. -/
def SignAt_v (p : List Int) (x : Int × Int) : Int × Bool := if signOk p x.1 x.2 = true then (signV p x.1 x.2, true) else (0, false)
theorem SignAt_no {p : List Int} {n d : Int} (h : signOk p n d = false) : SignAt_v p (n, d) = (0, false) := by simp [SignAt_v, h]
theorem SignAt_yes {p : List Int} {n d : Int} (h : signOk p n d = true) : SignAt_v p (n, d) = (signV p n d, true) := by simp [SignAt_v, h]

set_option maxHeartbeats 400000 in
theorem specSignAt_any (v : Value) (p : List Int) (x : Int × Int) (w : World) (hv : IntsV w v p) (hm : szIntS p ≤ 1099511627776) (_hx : I64R x) :
    Calls Try.prog 50 #[v, .agg #[.int .i64 x.1, .int .i64 x.2]] w (Ret (.tuple #[.int .i64 (SignAt_v p x).1, .bool (SignAt_v p x).2]) w) := by
  replace hm : p.length ≤ 1099511627776 := hm
  obtain ⟨n, d⟩ := x
  have hB : Below w.heap.size w (w.alloc (.cells #[.int .i64 n, .int .i64 d] 54)) := (Below.refl _ _).alloc (Nat.le_refl _) _
  have c1 := poGood_any v p _ (hv.below hB) hm
  have c2 := fun w => poPlace_any n d w
  have c1' := Lib.hid c1
  have c2' := Lib.hid c2
  clear c1 c2
  cases h1 : polyB p
  · rw [h1] at c1'
    rw [SignAt_no (by simp [signOk, h1])]
    clear h1 hv
    go_enter Try.func50, Try.ntmps50
    go_wp2_with fail
    refine (c1'.out).mono ?_
    rintro e w_ ⟨rfl, rfl⟩
    go_wp2
    go_ret2
    exact ⟨rfl, hB⟩
  rw [h1] at c1'
  cases h2 : placeB n d
  · rw [h2] at c2'
    rw [SignAt_no (by simp [signOk, h2])]
    clear h1 h2 hv
    go_enter Try.func50, Try.ntmps50
    go_wp2_with fail
    refine (c1'.out).mono ?_
    rintro e w_ ⟨rfl, rfl⟩
    go_wp2_with fail
    refine (c2'.out _).mono ?_
    rintro e w2 ⟨rfl, hB2⟩
    go_wp2
    go_ret2
    exact ⟨rfl, hB.trans (hB2.mono hB.size)⟩
  rw [h2] at c2'
  rw [SignAt_yes (by simp [signOk, h1, h2])]
  have c3 := fun w' hB => poSign_any v p n d w' (hv.below hB) hm
  generalize signV p n d = S at *
  have c3' := Lib.hid c3
  clear c3
  clear h1 h2 hv
  go_enter Try.func50, Try.ntmps50
  go_wp2_with fail
  refine (c1'.out).mono ?_
  rintro e w_ ⟨rfl, rfl⟩
  go_wp2_with fail
  refine (c2'.out _).mono ?_
  rintro e w2 ⟨rfl, hB2⟩
  obtain ⟨hc, hf⟩ := bcell hB2
  have hB3 := hB.trans (hB2.mono hB.size)
  clear hB hB2
  go_wp2_with fail
  refine (c3'.out _ hB3).mono ?_
  rintro e w_ ⟨rfl, rfl⟩
  go_wp2
  go_ret2
  exact ⟨rfl, hB3⟩

set_option maxHeartbeats 800000 in
theorem implSignAt_any (v : Value) (p : List Int) (x : Int × Int) (w : World) (hv : IntsV w v p) (hm : szIntS p ≤ 1099511627776) (_hx : I64R x) :
    Calls Try.prog 52 #[v, .agg #[.int .i64 x.1, .int .i64 x.2]] w (Ret (.tuple #[.int .i64 (SignAt_v p x).1, .bool (SignAt_v p x).2]) w) := by
  replace hm : p.length ≤ 1099511627776 := hm
  obtain ⟨n, d⟩ := x
  have hB : Below w.heap.size w (w.alloc (.cells #[.int .i64 n, .int .i64 d] 54)) := (Below.refl _ _).alloc (Nat.le_refl _) _
  have c1 := isPolynomial_ret v p _ (hv.below hB) hm
  have c2 := fun w => isRat_any n d w
  have c1' := Lib.hid c1
  have c2' := Lib.hid c2
  clear c1 c2
  cases h1 : polyB p
  · rw [h1] at c1'
    rw [SignAt_no (by simp [signOk, h1])]
    clear h1 hv
    go_enter Try.func52, Try.ntmps52
    go_wp2_with fail
    refine (c1'.out).mono ?_
    rintro e w1 ⟨rfl, hB1⟩
    go_wp2
    go_ret2
    exact ⟨rfl, hB.trans (hB1.mono hB.size)⟩
  rw [h1] at c1'
  cases h2 : goodR n d
  · rw [h2] at c2'
    rw [SignAt_no (by simp [signOk, placeB, h2])]
    clear h1 h2 hv
    go_enter Try.func52, Try.ntmps52
    go_wp2_with fail
    refine (c1'.out).mono ?_
    rintro e w1 ⟨rfl, hB1⟩
    obtain ⟨hc, hf⟩ := bcell hB1
    have hB2 := hB.trans (hB1.mono hB.size)
    clear hB hB1
    go_wp2_with fail
    refine (c2'.out _).mono ?_
    rintro e w2 ⟨rfl, hB3⟩
    go_wp2
    go_ret2
    exact ⟨rfl, hB2.trans (hB3.mono hB2.size)⟩
  rw [h2] at c2'
  have hbd := goodR_bd h2
  by_cases h3 : d ≤ 30
  · have hd : decide (30 < d) = false := decide_eq_false (by omega)
    have hab : -9223372036854775807 ≤ n ∧ n ≤ 9223372036854775807 := by omega
    by_cases h4 : n.natAbs ≤ 30
    · have hd2 : decide ((30 : Int) < (n.natAbs : Int)) = false := decide_eq_false (by omega)
      rw [SignAt_yes (by simp [signOk, placeB, h1, h2, h3, inB]; omega)]
      have c3 := fun w' hB => signAt_any v p n d w' (hv.below hB) hm
      generalize signV p n d = S at *
      have c3' := Lib.hid c3
      clear c3
      clear h1 h2 hv
      go_enter Try.func52, Try.ntmps52
      go_wp2_with fail
      refine (c1'.out).mono ?_
      rintro e w1 ⟨rfl, hB1⟩
      obtain ⟨hc, hf⟩ := bcell hB1
      have hB2 := hB.trans (hB1.mono hB.size)
      have hz : w.heap.size < w1.heap.size := by have := hB1.size; simp at this; omega
      clear hB hB1
      go_wp2_with fail
      refine (c2'.out _).mono ?_
      rintro e w2 ⟨rfl, hB3⟩
      obtain ⟨hc2, hf2⟩ := bcell hB3
      have hB4 := hB2.trans (hB3.mono hB2.size)
      clear hB2 hB3
      go_wp2_with fail
      refine (abs_any _ _ hab).mono ?_
      rintro e w_ ⟨rfl, rfl⟩
      go_wp2_with fail
      refine (c3'.out _ hB4).mono ?_
      rintro e w3 ⟨rfl, hB5⟩
      go_wp2
      go_ret2
      exact ⟨rfl, hB4.trans (hB5.mono hB4.size)⟩
    · have hd2 : decide ((30 : Int) < (n.natAbs : Int)) = true := decide_eq_true (by omega)
      rw [SignAt_no (by simp [signOk, placeB, h1, h2, h3, inB]; omega)]
      clear h1 h2 hv
      go_enter Try.func52, Try.ntmps52
      go_wp2_with fail
      refine (c1'.out).mono ?_
      rintro e w1 ⟨rfl, hB1⟩
      obtain ⟨hc, hf⟩ := bcell hB1
      have hB2 := hB.trans (hB1.mono hB.size)
      have hz : w.heap.size < w1.heap.size := by have := hB1.size; simp at this; omega
      clear hB hB1
      go_wp2_with fail
      refine (c2'.out _).mono ?_
      rintro e w2 ⟨rfl, hB3⟩
      obtain ⟨hc2, hf2⟩ := bcell hB3
      have hB4 := hB2.trans (hB3.mono hB2.size)
      clear hB2 hB3
      go_wp2_with fail
      refine (abs_any _ _ hab).mono ?_
      rintro e w_ ⟨rfl, rfl⟩
      go_wp2
      go_ret2
      exact ⟨rfl, hB4⟩
  · have hd : decide (30 < d) = true := decide_eq_true (by omega)
    rw [SignAt_no (by simp [signOk, placeB, h3])]
    clear h1 h2 hv
    go_enter Try.func52, Try.ntmps52
    go_wp2_with fail
    refine (c1'.out).mono ?_
    rintro e w1 ⟨rfl, hB1⟩
    obtain ⟨hc, hf⟩ := bcell hB1
    have hB2 := hB.trans (hB1.mono hB.size)
    have hz : w.heap.size < w1.heap.size := by have := hB1.size; simp at this; omega
    clear hB hB1
    go_wp2_with fail
    refine (c2'.out _).mono ?_
    rintro e w2 ⟨rfl, hB3⟩
    obtain ⟨hc2, hf2⟩ := bcell hB3
    have hB4 := hB2.trans (hB3.mono hB2.size)
    clear hB2 hB3
    go_wp2
    go_ret2
    exact ⟨rfl, hB4⟩

end Go.Proofs.Ytjoeanplgikkcaa

/- Small helpers of the reference and of the program on numbers and lists of numbers: bounds, all within bounds; the library's IndexFunc, ContainsFunc on []int. -/
import Derived.Test.YtgpabfbnbmbmeaaDoorLib
namespace Go.Proofs.YtgpabfbnbmbmeaaDoor
open Go.RowKit

/-- lo ≤ n ≤ hi, as a bool. -/
def inB (n lo hi : Int) : Bool := decide (lo ≤ n) && decide (n ≤ hi)
theorem inB_true {n lo hi : Int} : inB n lo hi = true ↔ lo ≤ n ∧ n ≤ hi := by simp [inB]
theorem inB_false {n lo hi : Int} : inB n lo hi = false ↔ n < lo ∨ hi < n := by
  rw [← Bool.not_eq_true, inB_true]; omega

/-- The call returns v; the world is the same. -/
def Same (v : Value) (w : World) (e : Ending) (w' : World) : Prop := e = .returned v ∧ w = w'
theorem Same.ret {v : Value} {w : World} {e : Ending} {w' : World} (h : Same v w e w') : Ret v w e w' := ⟨h.1, h.2 ▸ Below.refl _ _⟩

theorem l1In_any (n lo hi : Int) (w : World) : Calls Tryd.prog 27 #[.int .i64 n, .int .i64 lo, .int .i64 hi] w (Same (.bool (inB n lo hi)) w) := by
  by_cases h1 : lo ≤ n
  · by_cases h2 : n ≤ hi
    · have : inB n lo hi = true := inB_true.2 ⟨h1, h2⟩
      rw [this]; clear this
      go_enter Tryd.func27, Tryd.ntmps27
      go_wp2
      go_ret
      exact ⟨rfl, rfl⟩
    · have : inB n lo hi = false := inB_false.2 (by omega)
      rw [this]; clear this
      go_enter Tryd.func27, Tryd.ntmps27
      go_wp2
      go_ret
      exact ⟨rfl, rfl⟩
  · have : inB n lo hi = false := inB_false.2 (by omega)
    rw [this]; clear this
    go_enter Tryd.func27, Tryd.ntmps27
    go_wp2
    go_ret
    exact ⟨rfl, rfl⟩

theorem within_any (n lo hi : Int) (w : World) : Calls Tryd.prog 25 #[.int .i64 n, .int .i64 lo, .int .i64 hi] w (Same (.bool (inB n lo hi)) w) := by
  by_cases h1 : lo ≤ n
  · by_cases h2 : n ≤ hi
    · have : inB n lo hi = true := inB_true.2 ⟨h1, h2⟩
      rw [this]; clear this
      go_enter Tryd.func25, Tryd.ntmps25
      go_wp2
      go_ret
      exact ⟨rfl, rfl⟩
    · have : inB n lo hi = false := inB_false.2 (by omega)
      rw [this]; clear this
      go_enter Tryd.func25, Tryd.ntmps25
      go_wp2
      go_ret
      exact ⟨rfl, rfl⟩
  · have : inB n lo hi = false := inB_false.2 (by omega)
    rw [this]; clear this
    go_enter Tryd.func25, Tryd.ntmps25
    go_wp2
    go_ret
    exact ⟨rfl, rfl⟩

/-- All numbers lie within the bounds. -/
def allB (xs : List Int) (lo hi : Int) : Bool := xs.all fun n => inB n lo hi
theorem allB_take {xs : List Int} {lo hi : Int} {k : Nat} (hk : k < xs.length) : allB (xs.take (k + 1)) lo hi = (allB (xs.take k) lo hi && inB (nth xs k) lo hi) := by
  rw [take_nth hk]; simp [allB]
theorem allB_no {xs : List Int} {lo hi : Int} {k : Nat} (hk : k < xs.length) (h : inB (nth xs k) lo hi = false) : allB xs lo hi = false := by
  unfold allB
  rw [List.all_eq_false]
  exact ⟨_, nth_mem hk, by rw [h]; simp⟩

theorem l1All_any (v : Value) (xs : List Int) (lo hi : Int) (w : World) (hv : IntsV w v xs) (hm : xs.length ≤ 1099511627776) :
    Calls Tryd.prog 21 #[v, .int .i64 lo, .int .i64 hi] w (Same (.bool (allB xs lo hi)) w) := by
  obtain ⟨ao, cap, rfl, _, _, H⟩ := hv
  go_enter Tryd.func21, Tryd.ntmps21
  go_wp2
  go_loop [11] (fun i => ∃ k : Nat, k ≤ xs.length ∧ i = .int .i64 k ∧ allB (xs.take k) lo hi = true) (fun i => xs.length - (intOf i).toNat)
  case atStart => exact ⟨0, Nat.zero_le _, rfl, rfl⟩
  case round =>
    obtain ⟨k, hk, rfl, ha⟩ := hrel
    have ha' := Lib.hid ha
    clear ha
    by_cases hlt : k < xs.length
    · obtain ⟨b, off, rfl, hc⟩ := H k hlt
      clear H
      cases hb : inB (nth xs k) lo hi
      · have hb' := Lib.hid hb
        clear hb
        go_wp2_with fail
        refine (l1In_any _ _ _ _).mono ?_
        rintro e w' ⟨rfl, rfl⟩
        rw [hb'.out]
        go_wp2
        go_ret
        exact ⟨by rw [allB_no hlt hb'.out]; rfl, rfl⟩
      · have hb' := Lib.hid hb
        clear hb
        go_wp2_with fail
        refine (l1In_any _ _ _ _).mono ?_
        rintro e w' ⟨rfl, rfl⟩
        rw [hb'.out]
        go_wp2
        go_round
        case rel => exact ⟨k + 1, by omega, by go_num, by rw [allB_take hlt, ha'.out, hb'.out]; rfl⟩
        case measure => simp [intOf]; omega
    · clear H
      obtain rfl : k = xs.length := by omega
      go_wp2
      go_ret
      refine ⟨?_, rfl⟩
      have := ha'.out
      rw [List.take_length] at this
      rw [this]; rfl

/-- The first place at which p holds, or -1. -/
def idxB (p : Int → Bool) (xs : List Int) : Int := match xs.findIdx? p with | some k => (k : Int) | none => -1
theorem idxB_hit {p : Int → Bool} {xs : List Int} {k : Nat} (hk : k < xs.length) (hno : ∀ j, j < k → p (nth xs j) = false) (hy : p (nth xs k) = true) : idxB p xs = k := by
  have : xs.findIdx? p = some k := by
    rw [List.findIdx?_eq_some_iff_getElem]
    refine ⟨hk, by rw [← nth_eq hk]; exact hy, fun j hj => ?_⟩
    rw [← nth_eq (by omega)]; simp [hno j hj]
  simp [idxB, this]
theorem idxB_none {p : Int → Bool} {xs : List Int} (hno : ∀ j, j < xs.length → p (nth xs j) = false) : idxB p xs = -1 := by
  have : xs.findIdx? p = none := by
    rw [List.findIdx?_eq_none_iff]
    intro x hx
    obtain ⟨j, hj, rfl⟩ := List.getElem_of_mem hx
    rw [← nth_eq hj]; exact hno j hj
  simp [idxB, this]
theorem idxB_geq (p : Int → Bool) (xs : List Int) : decide (idxB p xs ≥ 0) = xs.any p := by
  unfold idxB
  cases h : xs.findIdx? p with
  | none =>
    rw [List.findIdx?_eq_none_iff] at h
    have : xs.any p = false := by rw [List.any_eq_false]; intro x hx; rw [h x hx]; simp
    rw [this]; rfl
  | some k =>
    rw [List.findIdx?_eq_some_iff_getElem] at h
    obtain ⟨hk, hp, _⟩ := h
    have : xs.any p = true := by rw [List.any_eq_true]; exact ⟨_, List.getElem_mem hk, hp⟩
    rw [this]; simp

/-- A function value of ints that says p, whatever has been laid since w. -/
def Says (g : FuncId) (cb : Array Value) (p : Int → Bool) (w : World) : Prop :=
  ∀ x w', Below w.heap.size w w' → Calls Tryd.prog g (#[.int .i64 x] ++ cb) w' (Ret (.bool (p x)) w')

theorem indexFunc_any (v : Value) (xs : List Int) (g : FuncId) (cb : Array Value) (p : Int → Bool) (w : World) (eg : Enters Tryd.prog g) (hp : Says g cb p w) (hv : IntsV w v xs) (hm : xs.length ≤ 1099511627776) :
    Calls Tryd.prog 32 #[v, .func (.func g) #[] cb] w (Ret (.int .i64 (idxB p xs)) w) := by
  have heg : ∀ args w, (callFunc g args).run Tryd.prog w = .ok (.enter g args) w := eg
  obtain ⟨ao, cap, rfl, h1, h2, H0⟩ := hv
  have hv : IntsV w (.slice ao xs.length cap) xs := ⟨ao, cap, rfl, h1, h2, H0⟩
  clear H0 h1 h2
  go_enter Tryd.func32, Tryd.ntmps32
  go_wp2
  go_loopw [8] (fun i wr => ∃ k : Nat, k ≤ xs.length ∧ i = .int .i64 k ∧ (∀ j, j < k → p (nth xs j) = false) ∧ Below w.heap.size w wr) (fun i _ => xs.length - (intOf i).toNat)
  case atStart => exact ⟨0, Nat.zero_le _, rfl, fun j hj => absurd hj (Nat.not_lt_zero j), Below.refl _ _⟩
  case round =>
    obtain ⟨k, hk, rfl, hno, hB⟩ := hrel
    have hno' := Lib.hid hno
    clear hno
    by_cases hlt : k < xs.length
    · obtain ⟨ao', cap', e, _, _, H⟩ := hv.below hB
      obtain ⟨rfl, _, rfl⟩ := Value.slice.inj e
      obtain ⟨b, off, rfl, hc⟩ := H k hlt
      have hcall := hp (nth xs k) wr hB
      have hcall' := Lib.hid hcall
      clear H e hcall
      cases hb : p (nth xs k)
      · have hb' := Lib.hid hb
        clear hb
        go_wp2_with fail
        refine (hcall'.out).mono ?_
        rintro e w' ⟨rfl, hB'⟩
        rw [hb'.out]
        go_wp2
        go_roundw
        case rel => exact ⟨k + 1, by omega, by go_num, fun j hj => by
          rcases Nat.lt_succ_iff_lt_or_eq.1 hj with h | rfl
          · exact hno'.out j h
          · exact hb'.out, hB.trans (hB'.mono hB.size)⟩
        case measure => simp [intOf]; omega
      · have hb' := Lib.hid hb
        clear hb
        go_wp2_with fail
        refine (hcall'.out).mono ?_
        rintro e w' ⟨rfl, hB'⟩
        rw [hb'.out]
        go_wp2
        go_ret
        exact ⟨by rw [idxB_hit hlt hno'.out hb'.out]; rfl, hB.trans (hB'.mono hB.size)⟩
    · obtain rfl : k = xs.length := by omega
      go_wp2
      go_ret
      exact ⟨by rw [idxB_none hno'.out]; rfl, hB⟩

theorem containsFunc_any (v : Value) (xs : List Int) (g : FuncId) (cb : Array Value) (p : Int → Bool) (w : World) (eg : Enters Tryd.prog g) (hp : Says g cb p w) (hv : IntsV w v xs) (hm : xs.length ≤ 1099511627776) :
    Calls Tryd.prog 23 #[v, .func (.func g) #[] cb] w (Ret (.bool (xs.any p)) w) := by
  go_enter Tryd.func23, Tryd.ntmps23
  go_wp2_with fail
  refine (indexFunc_any v xs g cb p _ eg hp hv hm).mono ?_
  rintro e w' ⟨rfl, hB⟩
  go_wp2
  go_ret
  refine ⟨?_, hB⟩
  rw [← idxB_geq]; rfl

end Go.Proofs.YtgpabfbnbmbmeaaDoor

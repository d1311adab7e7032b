/- The library's IndexFunc and ContainsFunc at lists of points and of intervals. No conditions. -/
import Derived.Test.YtfcanpebagpdbaaQuad
import Derived.Test.YtfcanpebagpdbaaFuncs
namespace Go.Proofs.Ytfcanpebagpdbaa
open Go.RowKit

/-- A pair of fractions as a value. -/
abbrev quadV (p : Quad) : Value := .agg #[.int .i64 p.1.1, .int .i64 p.1.2, .int .i64 p.2.1, .int .i64 p.2.2]
/-- The first place at which p holds, or -1. -/
def idx4 (p : Quad → Bool) (xs : List Quad) : Int := match xs.findIdx? p with | some k => (k : Int) | none => -1
theorem idx4_hit {p : Quad → Bool} {xs : List Quad} {k : Nat} (hk : k < xs.length) (hno : ∀ j, j < k → p (nth4 xs j) = false) (hy : p (nth4 xs k) = true) : idx4 p xs = k := by
  have : xs.findIdx? p = some k := by
    rw [List.findIdx?_eq_some_iff_getElem]
    refine ⟨hk, by rw [← nth4_eq hk]; exact hy, fun j hj => ?_⟩
    rw [← nth4_eq (by omega)]; simp [hno j hj]
  simp [idx4, this]
theorem idx4_none {p : Quad → Bool} {xs : List Quad} (hno : ∀ j, j < xs.length → p (nth4 xs j) = false) : idx4 p xs = -1 := by
  have : xs.findIdx? p = none := by
    rw [List.findIdx?_eq_none_iff]
    intro x hx
    obtain ⟨j, hj, rfl⟩ := List.getElem_of_mem hx
    rw [← nth4_eq hj]; exact hno j hj
  simp [idx4, this]
theorem idx4_geq (p : Quad → Bool) (xs : List Quad) : decide (idx4 p xs ≥ 0) = xs.any p := by
  unfold idx4
  cases h : xs.findIdx? p with
  | none =>
    rw [List.findIdx?_eq_none_iff] at h
    have : xs.any p = false := by rw [List.any_eq_false]; intro x hx; rw [h x hx]; simp
    rw [this]; rfl
  | some k =>
    rw [List.findIdx?_eq_some_iff_getElem] at h
    obtain ⟨hk, hp, _⟩ := h
    have : xs.any p = true := by rw [List.any_eq_true]; exact ⟨_, List.getElem_mem hk, hp⟩
    rw [this]; simp

/-- A function value of pairs of fractions that says p of these, whatever has been laid since w. -/
def Says4 (g : FuncId) (cb : Array Value) (p : Quad → Bool) (xs : List Quad) (w : World) : Prop :=
  ∀ i w', i < xs.length → Below w.heap.size w w' → Calls Try.prog g (#[quadV (nth4 xs i)] ++ cb) w' (Ret (.bool (p (nth4 xs i))) w')

set_option maxHeartbeats 400000 in
theorem indexFuncP_any (v : Value) (xs : List Quad) (g : FuncId) (cb : Array Value) (p : Quad → Bool) (w : World) (eg : Enters Try.prog g) (hp : Says4 g cb p xs w) (hv : QuadV w v xs) (hm : xs.length ≤ 1099511627776) :
    Calls Try.prog 137 #[v, .func (.func g) #[] cb] w (Ret (.int .i64 (idx4 p xs)) w) := by
  have heg : ∀ args w, (callFunc g args).run Try.prog w = .ok (.enter g args) w := eg
  obtain ⟨ao, cap, rfl, h1, h2, H0⟩ := hv.form
  obtain ⟨n, hn⟩ : ∃ n, xs.length = n := ⟨_, rfl⟩
  rw [hn] at hm hv h1 ⊢
  clear H0 h1 h2
  have hn' := Lib.hid hn
  clear hn
  go_enter Try.func137, Try.ntmps137
  go_wp2
  go_loopw [8] (fun i wr => ∃ k : Nat, k ≤ n ∧ i = .int .i64 k ∧ (∀ j, j < k → p (nth4 xs j) = false) ∧ Below w.heap.size w wr) (fun i _ => n - (intOf i).toNat)
  case atStart => exact ⟨0, Nat.zero_le _, rfl, fun j hj => absurd hj (Nat.not_lt_zero j), Below.refl _ _⟩
  case round =>
    obtain ⟨k, hk, rfl, hno, hB⟩ := hrel
    have hno' := Lib.hid hno
    clear hno
    by_cases hlt : k < n
    · obtain ⟨ao', cap', e, _, _, H⟩ := (hv.below hB).form
      obtain ⟨rfl, e1, rfl⟩ := Value.slice.inj e
      clear e1
      obtain ⟨b, off, rfl, hc0, hc1, hc2, hc3⟩ := H k (by rw [hn'.out]; exact hlt)
      have hcall := hp k wr (by rw [hn'.out]; exact hlt) hB
      obtain ⟨r, hr⟩ : ∃ r, nth4 xs k = r := ⟨_, rfl⟩
      rw [hr] at hc0 hc1 hc2 hc3 hcall
      have hcall' := Lib.hid hcall
      have hr' := Lib.hid hr
      clear hcall hr
      clear H e
      cases hb : p r
      · have hb' := Lib.hid hb
        clear hb
        go_wp2_with fail
        refine (hcall'.out).mono ?_
        rintro e w' ⟨rfl, hB'⟩
        rw [hb'.out]
        go_wp2
        go_roundw
        case rel => exact ⟨k + 1, by omega, by go_num, fun j hj => by
          rcases Nat.lt_succ_iff_lt_or_eq.1 hj with h | rfl
          · exact hno'.out j h
          · rw [hr'.out]; exact hb'.out, hB.trans (hB'.mono hB.size)⟩
        case measure => simp [intOf]; omega
      · have hb' := Lib.hid hb
        clear hb
        go_wp2_with fail
        refine (hcall'.out).mono ?_
        rintro e w' ⟨rfl, hB'⟩
        rw [hb'.out]
        go_wp2
        go_ret
        exact ⟨by rw [idx4_hit (by rw [hn'.out]; exact hlt) hno'.out (by rw [hr'.out]; exact hb'.out)]; rfl, hB.trans (hB'.mono hB.size)⟩
    · obtain rfl : k = n := by omega
      go_wp2
      go_ret
      exact ⟨by rw [idx4_none (by rw [hn'.out]; exact hno'.out)]; rfl, hB⟩
theorem containsFuncP_any (v : Value) (xs : List Quad) (g : FuncId) (cb : Array Value) (p : Quad → Bool) (w : World) (eg : Enters Try.prog g) (hp : Says4 g cb p xs w) (hv : QuadV w v xs) (hm : xs.length ≤ 1099511627776) :
    Calls Try.prog 105 #[v, .func (.func g) #[] cb] w (Ret (.bool (xs.any p)) w) := by
  go_enter Try.func105, Try.ntmps105
  go_wp2_with fail
  refine (indexFuncP_any v xs g cb p _ eg hp hv hm).mono ?_
  rintro e w' ⟨rfl, hB⟩
  go_wp2
  go_ret
  refine ⟨?_, hB⟩
  rw [← idx4_geq]; rfl
set_option maxHeartbeats 400000 in
theorem indexFuncI_any (v : Value) (xs : List Quad) (g : FuncId) (cb : Array Value) (p : Quad → Bool) (w : World) (eg : Enters Try.prog g) (hp : Says4 g cb p xs w) (hv : QuadV w v xs) (hm : xs.length ≤ 1099511627776) :
    Calls Try.prog 114 #[v, .func (.func g) #[] cb] w (Ret (.int .i64 (idx4 p xs)) w) := by
  have heg : ∀ args w, (callFunc g args).run Try.prog w = .ok (.enter g args) w := eg
  obtain ⟨ao, cap, rfl, h1, h2, H0⟩ := hv.form
  obtain ⟨n, hn⟩ : ∃ n, xs.length = n := ⟨_, rfl⟩
  rw [hn] at hm hv h1 ⊢
  clear H0 h1 h2
  have hn' := Lib.hid hn
  clear hn
  go_enter Try.func114, Try.ntmps114
  go_wp2
  go_loopw [8] (fun i wr => ∃ k : Nat, k ≤ n ∧ i = .int .i64 k ∧ (∀ j, j < k → p (nth4 xs j) = false) ∧ Below w.heap.size w wr) (fun i _ => n - (intOf i).toNat)
  case atStart => exact ⟨0, Nat.zero_le _, rfl, fun j hj => absurd hj (Nat.not_lt_zero j), Below.refl _ _⟩
  case round =>
    obtain ⟨k, hk, rfl, hno, hB⟩ := hrel
    have hno' := Lib.hid hno
    clear hno
    by_cases hlt : k < n
    · obtain ⟨ao', cap', e, _, _, H⟩ := (hv.below hB).form
      obtain ⟨rfl, e1, rfl⟩ := Value.slice.inj e
      clear e1
      obtain ⟨b, off, rfl, hc0, hc1, hc2, hc3⟩ := H k (by rw [hn'.out]; exact hlt)
      have hcall := hp k wr (by rw [hn'.out]; exact hlt) hB
      obtain ⟨r, hr⟩ : ∃ r, nth4 xs k = r := ⟨_, rfl⟩
      rw [hr] at hc0 hc1 hc2 hc3 hcall
      have hcall' := Lib.hid hcall
      have hr' := Lib.hid hr
      clear hcall hr
      clear H e
      cases hb : p r
      · have hb' := Lib.hid hb
        clear hb
        go_wp2_with fail
        refine (hcall'.out).mono ?_
        rintro e w' ⟨rfl, hB'⟩
        rw [hb'.out]
        go_wp2
        go_roundw
        case rel => exact ⟨k + 1, by omega, by go_num, fun j hj => by
          rcases Nat.lt_succ_iff_lt_or_eq.1 hj with h | rfl
          · exact hno'.out j h
          · rw [hr'.out]; exact hb'.out, hB.trans (hB'.mono hB.size)⟩
        case measure => simp [intOf]; omega
      · have hb' := Lib.hid hb
        clear hb
        go_wp2_with fail
        refine (hcall'.out).mono ?_
        rintro e w' ⟨rfl, hB'⟩
        rw [hb'.out]
        go_wp2
        go_ret
        exact ⟨by rw [idx4_hit (by rw [hn'.out]; exact hlt) hno'.out (by rw [hr'.out]; exact hb'.out)]; rfl, hB.trans (hB'.mono hB.size)⟩
    · obtain rfl : k = n := by omega
      go_wp2
      go_ret
      exact ⟨by rw [idx4_none (by rw [hn'.out]; exact hno'.out)]; rfl, hB⟩
theorem containsFuncI_any (v : Value) (xs : List Quad) (g : FuncId) (cb : Array Value) (p : Quad → Bool) (w : World) (eg : Enters Try.prog g) (hp : Says4 g cb p xs w) (hv : QuadV w v xs) (hm : xs.length ≤ 1099511627776) :
    Calls Try.prog 80 #[v, .func (.func g) #[] cb] w (Ret (.bool (xs.any p)) w) := by
  go_enter Try.func80, Try.ntmps80
  go_wp2_with fail
  refine (indexFuncI_any v xs g cb p _ eg hp hv hm).mono ?_
  rintro e w' ⟨rfl, hB⟩
  go_wp2
  go_ret
  refine ⟨?_, hB⟩
  rw [← idx4_geq]; rfl

end Go.Proofs.Ytfcanpebagpdbaa

/- Lists of fractions: all of 0..1, strictly rising; partitions. No conditions. -/
import Derived.Test.YtgpabfbnbmbmeaaGreatDoorRatS
import Derived.Test.YtgpabfbnbmbmeaaGreatDoorPkA
namespace Go.Proofs.YtgpabfbnbmbmeaaGreatDoor
open Go.RowKit

theorem unitR_bd {n d : Int} (h : unitR n d = true) : BdR n d := by
  unfold unitR at h
  rw [Bool.and_eq_true] at h
  exact goodR_bd h.1

theorem idxQ_ex : True := trivial
/-- The first place at which p holds, or -1. -/
def idxQ (p : Int × Int → Bool) (xs : List (Int × Int)) : Int := match xs.findIdx? p with | some k => (k : Int) | none => -1
theorem idxQ_hit {p : Int × Int → Bool} {xs : List (Int × Int)} {k : Nat} (hk : k < xs.length) (hno : ∀ j, j < k → p (nthR xs j) = false) (hy : p (nthR xs k) = true) : idxQ p xs = k := by
  have : xs.findIdx? p = some k := by
    rw [List.findIdx?_eq_some_iff_getElem]
    refine ⟨hk, by rw [← nthR_eq hk]; exact hy, fun j hj => ?_⟩
    rw [← nthR_eq (by omega)]; simp [hno j hj]
  simp [idxQ, this]
theorem idxQ_none {p : Int × Int → Bool} {xs : List (Int × Int)} (hno : ∀ j, j < xs.length → p (nthR xs j) = false) : idxQ p xs = -1 := by
  have : xs.findIdx? p = none := by
    rw [List.findIdx?_eq_none_iff]
    intro x hx
    obtain ⟨j, hj, rfl⟩ := List.getElem_of_mem hx
    rw [← nthR_eq hj]; exact hno j hj
  simp [idxQ, this]
theorem idxQ_geq (p : Int × Int → Bool) (xs : List (Int × Int)) : decide (idxQ p xs ≥ 0) = xs.any p := by
  unfold idxQ
  cases h : xs.findIdx? p with
  | none =>
    rw [List.findIdx?_eq_none_iff] at h
    have : xs.any p = false := by rw [List.any_eq_false]; intro x hx; rw [h x hx]; simp
    rw [this]; rfl
  | some k =>
    rw [List.findIdx?_eq_some_iff_getElem] at h
    obtain ⟨hk, hp, _⟩ := h
    have : xs.any p = true := by rw [List.any_eq_true]; exact ⟨_, List.getElem_mem hk, hp⟩
    rw [this]; simp

/-- A function value of fractions that says p, whatever has been laid since w. -/
def SaysQ (g : FuncId) (cb : Array Value) (p : Int × Int → Bool) (w : World) : Prop :=
  ∀ x w', Below w.heap.size w w' → Calls Tryz.prog g (#[.agg #[.int .i64 x.1, .int .i64 x.2]] ++ cb) w' (Ret (.bool (p x)) w')



/-- All are fractions of 0..1. -/
def unitsB (xs : List (Int × Int)) : Bool := !(xs.any fun x => !(unitR x.1 x.2))
theorem unitsB_nth {xs : List (Int × Int)} (h : unitsB xs = true) {i : Nat} (hi : i < xs.length) : unitR (nthR xs i).1 (nthR xs i).2 = true := by
  unfold unitsB at h
  rw [Bool.not_eq_true', List.any_eq_false] at h
  have := h _ (List.getElem_mem hi)
  rw [nthR_eq hi]
  simpa using this


/-- The first k are strictly rising. -/
def riseK (xs : List (Int × Int)) (k : Nat) : Bool := (List.range (k - 1)).all fun i => ltB (nthR xs i).1 (nthR xs i).2 (nthR xs (i + 1)).1 (nthR xs (i + 1)).2
theorem riseK_step (xs : List (Int × Int)) (k : Nat) (hk : 1 ≤ k) : riseK xs (k + 1) = (riseK xs k && ltB (nthR xs (k - 1)).1 (nthR xs (k - 1)).2 (nthR xs k).1 (nthR xs k).2) := by
  obtain ⟨k, rfl⟩ : ∃ m, k = m + 1 := ⟨k - 1, by omega⟩
  simp [riseK, List.range_succ, List.all_append]
theorem riseK_false {xs : List (Int × Int)} {k n : Nat} (hk : 1 ≤ k) (hn : k < n) (h : ltB (nthR xs (k - 1)).1 (nthR xs (k - 1)).2 (nthR xs k).1 (nthR xs k).2 = false) : riseK xs n = false := by
  unfold riseK
  rw [List.all_eq_false]
  refine ⟨k - 1, List.mem_range.2 (by omega), ?_⟩
  rw [show k - 1 + 1 = k by omega, h]; simp




theorem raInt_any (n : Int) (w : World) : Calls Tryz.prog 74 #[.int .i64 n] w (Ret (ratV (n, 1)) w) := by
  go_enter Tryz.func74, Tryz.ntmps74
  go_wp2
  refine bodyPost_ret (v := ratV (n, 1)) (by simp [results, Tryz.results74, go_sem, ratV]) rfl ⟨rfl, ?_⟩
  exact (Below.refl _ _).alloc (Nat.le_refl _) _

end Go.Proofs.YtgpabfbnbmbmeaaGreatDoor

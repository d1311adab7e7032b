/- slices.SortFunc at fractions: the library's contract laid at this program. No conditions but small sizes. -/
import Derived.Test.YtnggopbehohjnaaRise
import Derived.Test.YtnggopbehohjnaaFlat
import Derived.Shelf.SlSortCmp.NoneTotal
import Derived.Shelf.SlLaysF0
namespace Go.Proofs.Ytnggopbehohjnaa
open Go.Shelf Go.RowKit

theorem bears_of {P : Program} {f : FuncId} {F B : Func} (h : P.funcs[f]? = some F) (he : F = { B with name := F.name }) (hn : (F.name == "runtime.NumGoroutine") = false) : Bears P f B := ⟨F.name, hn, by rw [h, ← he]⟩

def sortR_ren : Go.Shelf.Ren := ⟨fun | 6 => 27 | 15 => 38 | 14 => 37 | 28 => 51 | 29 => 52 | 20 => 43 | 21 => 44 | 22 => 45 | 23 => 46 | 24 => 47 | 25 => 48 | 26 => 49 | 27 => 50 | 46 => 55 | 47 => 56 | 48 => 57 | 49 => 58 | 50 => 59 | 57 => 61 | n => n, fun | 22 => 24 | 24 => 33 | 25 => 42 | 3 => 3 | 39 => 53 | 0 => 0 | 53 => 65 | 55 => 67 | 4 => 4 | 46 => 58 | 45 => 57 | 50 => 62 | 5 => 5 | 9 => 9 | 66 => 68 | 70 => 72 | 76 => 74 | 77 => 75 | n => n, fun n => n⟩
set_option maxRecDepth 100000 in
theorem sortR : SlLaysF0.n6 Try.prog sortR_ren where
  mixed := by kernel_rfl
  f6 := bears_of Try.func27 (by kernel_rfl) (by kernel_rfl)
  f14 := bears_of Try.func37 (by kernel_rfl) (by kernel_rfl)
  f15 := Try.func38.trans (congrArg some (by kernel_rfl))
  f20 := bears_of Try.func43 (by kernel_rfl) (by kernel_rfl)
  f21 := bears_of Try.func44 (by kernel_rfl) (by kernel_rfl)
  f22 := bears_of Try.func45 (by kernel_rfl) (by kernel_rfl)
  f23 := bears_of Try.func46 (by kernel_rfl) (by kernel_rfl)
  f24 := bears_of Try.func47 (by kernel_rfl) (by kernel_rfl)
  f25 := bears_of Try.func48 (by kernel_rfl) (by kernel_rfl)
  f26 := bears_of Try.func49 (by kernel_rfl) (by kernel_rfl)
  f27 := bears_of Try.func50 (by kernel_rfl) (by kernel_rfl)
  f28 := Try.func51.trans (congrArg some (by kernel_rfl))
  f29 := Try.func52.trans (congrArg some (by kernel_rfl))
  f46 := bears_of Try.func55 (by kernel_rfl) (by kernel_rfl)
  f47 := Try.func56.trans (congrArg some (by kernel_rfl))
  f48 := Try.func57.trans (congrArg some (by kernel_rfl))
  f49 := bears_of Try.func58 (by kernel_rfl) (by kernel_rfl)
  f50 := bears_of Try.func59 (by kernel_rfl) (by kernel_rfl)
  f57 := bears_of Try.func61 (by kernel_rfl) (by kernel_rfl)
  t0 := Try.underlying0
  a0 := Try.isAgg0
  z0 := Try.sizeOf0
  v0 := Try.zeroValue0
  t3 := Try.underlying3
  a3 := Try.isAgg3
  z3 := Try.sizeOf3
  v3 := Try.zeroValue3
  t4 := Try.underlying4
  a4 := Try.isAgg4
  z4 := Try.sizeOf4
  v4 := Try.zeroValue4
  t5 := Try.underlying5
  a5 := Try.isAgg5
  z5 := Try.sizeOf5
  v5 := Try.zeroValue5
  t9 := Try.underlying9
  a9 := Try.isAgg9
  z9 := Try.sizeOf9
  v9 := Try.zeroValue9
  t22 := Try.underlying24
  a22 := Try.isAgg24
  z22 := Try.sizeOf24
  v22 := Try.zeroValue24
  t25 := Try.underlying42
  a25 := Try.isAgg42
  z25 := Try.sizeOf42
  v25 := Try.zeroValue42
  t39 := Try.underlying53
  a39 := Try.isAgg53
  z39 := Try.sizeOf53
  v39 := Try.zeroValue53
  t45 := Try.underlying57
  a45 := Try.isAgg57
  z45 := Try.sizeOf57
  v45 := Try.zeroValue57
  t46 := Try.underlying58
  a46 := Try.isAgg58
  z46 := Try.sizeOf58
  v46 := Try.zeroValue58
  t50 := Try.underlying62
  a50 := Try.isAgg62
  z50 := Try.sizeOf62
  v50 := Try.zeroValue62
  t53 := Try.underlying65
  a53 := Try.isAgg65
  z53 := Try.sizeOf65
  v53 := Try.zeroValue65
  t55 := Try.underlying67
  a55 := Try.isAgg67
  z55 := Try.sizeOf67
  v55 := Try.zeroValue67
  t66 := Try.underlying68
  a66 := Try.isAgg68
  z66 := Try.sizeOf68
  v66 := Try.zeroValue68
  t70 := Try.underlying72
  a70 := Try.isAgg72
  z70 := Try.sizeOf72
  v70 := Try.zeroValue72
  t76 := Try.underlying74
  a76 := Try.isAgg74
  z76 := Try.sizeOf74
  v76 := Try.zeroValue74
  t77 := Try.underlying75
  a77 := Try.isAgg75
  z77 := Try.sizeOf75
  v77 := Try.zeroValue75

/-- A fraction that is good. -/
abbrev GoodR : Type := { x : Int × Int // goodR x.1 x.2 = true }
instance : Inhabited GoodR := ⟨⟨(0, 1), by decide⟩⟩
def encR (x : GoodR) : List Value := [.int .i64 x.1.1, .int .i64 x.1.2]
def cfR (x y : GoodR) : Int := cmpN x.1.1 x.1.2 y.1.1 y.1.2

set_option maxHeartbeats 400000 in
theorem compare_lays (x y : GoodR) (w : World) :
    Calls Try.prog 28 #[.agg #[.int .i64 x.1.1, .int .i64 x.1.2], .agg #[.int .i64 y.1.1, .int .i64 y.1.2]] w fun e w' => e = .returned (.int .i64 (cfR x y)) ∧ ∃ q os', w' = Go.Sort.grow (w.drewN q) os' := by
  obtain ⟨⟨n, d⟩, gx⟩ := x
  obtain ⟨⟨n', d'⟩, gy⟩ := y
  have h1 : BdR n d := ⟨(goodR_all gx).1, (goodR_all gx).2.1⟩
  have h2 : BdR n' d' := ⟨(goodR_all gy).1, (goodR_all gy).2.1⟩
  have hgrow : ∀ q, (((w.alloc (.cells #[.int .i64 n, .int .i64 d] 33)).alloc (.cells #[.int .i64 n', .int .i64 d'] 33)).drewN q) = Go.Sort.grow (w.drewN q) #[.cells #[.int .i64 n, .int .i64 d] 33, .cells #[.int .i64 n', .int .i64 d'] 33] := fun q => by
    rw [Go.Sort.alloc_eq_grow, Go.Sort.alloc_eq_grow, Go.Sort.grow_grow]; rfl
  show Calls Try.prog 28 #[.agg #[.int .i64 n, .int .i64 d], .agg #[.int .i64 n', .int .i64 d']] w fun e w' => e = .returned (.int .i64 (cmpN n d n' d')) ∧ _
  have p1 := h1.prod h2
  have p2 := h2.prod h1
  unfold cmpN
  obtain ⟨x, hx⟩ : ∃ x, n * d' = x := ⟨_, rfl⟩
  obtain ⟨y, hy⟩ : ∃ y, n' * d = y := ⟨_, rfl⟩
  rw [hx] at p1 ⊢
  rw [hy] at p2 ⊢
  clear h1 h2 gx gy
  have hgrow' := Lib.hid hgrow
  clear hgrow
  by_cases hlt : x < y
  · rw [show sgn (x - y) = -1 by unfold sgn; rw [if_neg (by omega), if_pos (by omega)]]
    go_enter Try.func28, Try.ntmps28
    go_wp2_with fail
    go_quiet (fail)
    go_wp2
    go_ret
    exact ⟨rfl, _, _, hgrow'.out _⟩
  · by_cases hgt : y < x
    · rw [show sgn (x - y) = 1 by unfold sgn; rw [if_pos (by omega)]]
      go_enter Try.func28, Try.ntmps28
      go_wp2_with fail
      go_quiet (fail)
      go_wp2
      go_ret
      exact ⟨rfl, _, _, hgrow'.out _⟩
    · rw [show sgn (x - y) = 0 by unfold sgn; rw [if_neg (by omega), if_neg (by omega)]]
      go_enter Try.func28, Try.ntmps28
      go_wp2_with fail
      go_quiet (fail)
      go_wp2
      go_ret
      exact ⟨rfl, _, _, hgrow'.out _⟩

theorem ltR (x y : GoodR) : ltOf cfR x y = true ↔ qv x.1 < qv y.1 := by
  unfold ltOf cfR
  rw [cmpN_lt]; exact ltB_qv x.2 y.2
theorem ltRf (x y : GoodR) : ltOf cfR x y = false ↔ qv y.1 ≤ qv x.1 := by
  unfold ltOf cfR
  rw [cmpN_lt]; exact ltB_qvf x.2 y.2
theorem swoR : Go.Sort.SWO (ltOf cfR) where
  irrefl x := by rw [ltRf]; exact Rat.le_refl
  trans x y z h1 h2 := by rw [ltR] at *; grind
  ntrans x y z h1 h2 := by rw [ltRf] at *; grind
theorem totR (x y : GoodR) (h1 : ltOf cfR x y = false) (h2 : ltOf cfR y x = false) : x = y := by
  rw [ltRf] at h1 h2
  exact Subtype.ext (qv_inj x.2 y.2 (by grind))

theorem sortFunc_any (blk off cap : Nat) (d : Array GoodR) (w : World) (hH : Go.Sort.HoldsK encR 2 w blk off d) (hblk : blk < w.heap.size) (hsz : d.size ≤ 1099511627776) :
    Calls Try.prog 27 #[.slice (some ⟨blk, off, none⟩) d.size cap, .func (.func 28) #[] #[]] w fun e w' =>
      e = .returned (.tuple #[]) ∧ ∃ n os, w' = sortWorldK encR 2 w blk off n (d.toList.mergeSort fun x y => !(ltOf cfR) y x).toArray os := by
  have eg : ∀ args w, (callFunc 28 args).run Try.prog w = .ok (.enter 28 args) w := enters_of Try.func28 (by kernel_rfl) rfl
  have hcon := AnyQ.slices_SortFunc_total sortR 2 Try.isAgg33 Try.sizeOf33 encR (fun _ => rfl) (fun x v hv => by simp [encR] at hv; rcases hv with rfl | rfl <;> rfl) cfR swoR 28 #[] blk off cap d w eg (fun _ _ _ _ x y => compare_lays x y _) hH hblk (by omega) totR
  exact hcon

end Go.Proofs.Ytnggopbehohjnaa

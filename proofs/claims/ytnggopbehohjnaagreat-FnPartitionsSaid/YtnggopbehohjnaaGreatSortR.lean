/- slices.SortFunc at fractions: the library's contract laid at this program. No conditions but small sizes. -/
import Derived.Test.YtnggopbehohjnaaGreatRise
import Derived.Test.YtnggopbehohjnaaGreatPkB
import Derived.Shelf.SlSortCmp.NoneTotal
import Derived.Shelf.SlLaysF0
namespace Go.Proofs.YtnggopbehohjnaaGreat
open Go.Shelf Go.RowKit

theorem bears_of {P : Program} {f : FuncId} {F B : Func} (h : P.funcs[f]? = some F) (he : F = { B with name := F.name }) (hn : (F.name == "runtime.NumGoroutine") = false) : Bears P f B := ⟨F.name, hn, by rw [h, ← he]⟩

def sortR_ren : Go.Shelf.Ren := ⟨fun | 6 => 175 | 15 => 238 | 14 => 237 | 28 => 270 | 29 => 271 | 20 => 262 | 21 => 263 | 22 => 264 | 23 => 265 | 24 => 266 | 25 => 267 | 26 => 268 | 27 => 269 | 46 => 278 | 47 => 279 | 48 => 280 | 49 => 281 | 50 => 282 | 57 => 285 | n => n, fun | 22 => 24 | 24 => 50 | 25 => 82 | 3 => 3 | 39 => 195 | 0 => 0 | 53 => 214 | 55 => 122 | 4 => 4 | 46 => 207 | 45 => 206 | 50 => 211 | 5 => 5 | 9 => 9 | 66 => 216 | 70 => 220 | 76 => 222 | 77 => 223 | n => n, fun n => n⟩
set_option maxRecDepth 100000 in
theorem sortR : SlLaysF0.n6 Tryz.prog sortR_ren where
  mixed := by kernel_rfl
  f6 := bears_of Tryz.func175 (by kernel_rfl) (by kernel_rfl)
  f14 := bears_of Tryz.func237 (by kernel_rfl) (by kernel_rfl)
  f15 := Tryz.func238.trans (congrArg some (by kernel_rfl))
  f20 := bears_of Tryz.func262 (by kernel_rfl) (by kernel_rfl)
  f21 := bears_of Tryz.func263 (by kernel_rfl) (by kernel_rfl)
  f22 := bears_of Tryz.func264 (by kernel_rfl) (by kernel_rfl)
  f23 := bears_of Tryz.func265 (by kernel_rfl) (by kernel_rfl)
  f24 := bears_of Tryz.func266 (by kernel_rfl) (by kernel_rfl)
  f25 := bears_of Tryz.func267 (by kernel_rfl) (by kernel_rfl)
  f26 := bears_of Tryz.func268 (by kernel_rfl) (by kernel_rfl)
  f27 := bears_of Tryz.func269 (by kernel_rfl) (by kernel_rfl)
  f28 := Tryz.func270.trans (congrArg some (by kernel_rfl))
  f29 := Tryz.func271.trans (congrArg some (by kernel_rfl))
  f46 := bears_of Tryz.func278 (by kernel_rfl) (by kernel_rfl)
  f47 := Tryz.func279.trans (congrArg some (by kernel_rfl))
  f48 := Tryz.func280.trans (congrArg some (by kernel_rfl))
  f49 := bears_of Tryz.func281 (by kernel_rfl) (by kernel_rfl)
  f50 := bears_of Tryz.func282 (by kernel_rfl) (by kernel_rfl)
  f57 := bears_of Tryz.func285 (by kernel_rfl) (by kernel_rfl)
  t0 := Tryz.underlying0
  a0 := Tryz.isAgg0
  z0 := Tryz.sizeOf0
  v0 := Tryz.zeroValue0
  t3 := Tryz.underlying3
  a3 := Tryz.isAgg3
  z3 := Tryz.sizeOf3
  v3 := Tryz.zeroValue3
  t4 := Tryz.underlying4
  a4 := Tryz.isAgg4
  z4 := Tryz.sizeOf4
  v4 := Tryz.zeroValue4
  t5 := Tryz.underlying5
  a5 := Tryz.isAgg5
  z5 := Tryz.sizeOf5
  v5 := Tryz.zeroValue5
  t9 := Tryz.underlying9
  a9 := Tryz.isAgg9
  z9 := Tryz.sizeOf9
  v9 := Tryz.zeroValue9
  t22 := Tryz.underlying24
  a22 := Tryz.isAgg24
  z22 := Tryz.sizeOf24
  v22 := Tryz.zeroValue24
  t25 := Tryz.underlying82
  a25 := Tryz.isAgg82
  z25 := Tryz.sizeOf82
  v25 := Tryz.zeroValue82
  t39 := Tryz.underlying195
  a39 := Tryz.isAgg195
  z39 := Tryz.sizeOf195
  v39 := Tryz.zeroValue195
  t45 := Tryz.underlying206
  a45 := Tryz.isAgg206
  z45 := Tryz.sizeOf206
  v45 := Tryz.zeroValue206
  t46 := Tryz.underlying207
  a46 := Tryz.isAgg207
  z46 := Tryz.sizeOf207
  v46 := Tryz.zeroValue207
  t50 := Tryz.underlying211
  a50 := Tryz.isAgg211
  z50 := Tryz.sizeOf211
  v50 := Tryz.zeroValue211
  t53 := Tryz.underlying214
  a53 := Tryz.isAgg214
  z53 := Tryz.sizeOf214
  v53 := Tryz.zeroValue214
  t55 := Tryz.underlying122
  a55 := Tryz.isAgg122
  z55 := Tryz.sizeOf122
  v55 := Tryz.zeroValue122
  t66 := Tryz.underlying216
  a66 := Tryz.isAgg216
  z66 := Tryz.sizeOf216
  v66 := Tryz.zeroValue216
  t70 := Tryz.underlying220
  a70 := Tryz.isAgg220
  z70 := Tryz.sizeOf220
  v70 := Tryz.zeroValue220
  t76 := Tryz.underlying222
  a76 := Tryz.isAgg222
  z76 := Tryz.sizeOf222
  v76 := Tryz.zeroValue222
  t77 := Tryz.underlying223
  a77 := Tryz.isAgg223
  z77 := Tryz.sizeOf223
  v77 := Tryz.zeroValue223

/-- A fraction that is good. -/
abbrev GoodR : Type := { x : Int × Int // goodR x.1 x.2 = true }
instance : Inhabited GoodR := ⟨⟨(0, 1), by decide⟩⟩
def encR (x : GoodR) : List Value := [.int .i64 x.1.1, .int .i64 x.1.2]
def cfR (x y : GoodR) : Int := cmpN x.1.1 x.1.2 y.1.1 y.1.2

set_option maxHeartbeats 400000 in
theorem compare_lays (x y : GoodR) (w : World) :
    Calls Tryz.prog 137 #[.agg #[.int .i64 x.1.1, .int .i64 x.1.2], .agg #[.int .i64 y.1.1, .int .i64 y.1.2]] w fun e w' => e = .returned (.int .i64 (cfR x y)) ∧ ∃ q os', w' = Go.Sort.grow (w.drewN q) os' := by
  obtain ⟨⟨n, d⟩, gx⟩ := x
  obtain ⟨⟨n', d'⟩, gy⟩ := y
  have h1 : BdR n d := ⟨(goodR_all gx).1, (goodR_all gx).2.1⟩
  have h2 : BdR n' d' := ⟨(goodR_all gy).1, (goodR_all gy).2.1⟩
  have hgrow : ∀ q, (((w.alloc (.cells #[.int .i64 n, .int .i64 d] 50)).alloc (.cells #[.int .i64 n', .int .i64 d'] 50)).drewN q) = Go.Sort.grow (w.drewN q) #[.cells #[.int .i64 n, .int .i64 d] 50, .cells #[.int .i64 n', .int .i64 d'] 50] := fun q => by
    rw [Go.Sort.alloc_eq_grow, Go.Sort.alloc_eq_grow, Go.Sort.grow_grow]; rfl
  show Calls Tryz.prog 137 #[.agg #[.int .i64 n, .int .i64 d], .agg #[.int .i64 n', .int .i64 d']] w fun e w' => e = .returned (.int .i64 (cmpN n d n' d')) ∧ _
  have p1 := h1.prod h2
  have p2 := h2.prod h1
  unfold cmpN
  obtain ⟨x, hx⟩ : ∃ x, n * d' = x := ⟨_, rfl⟩
  obtain ⟨y, hy⟩ : ∃ y, n' * d = y := ⟨_, rfl⟩
  rw [hx] at p1 ⊢
  rw [hy] at p2 ⊢
  clear h1 h2 gx gy
  have hgrow' := Lib.hid hgrow
  clear hgrow
  by_cases hlt : x < y
  · rw [show sgn (x - y) = -1 by unfold sgn; rw [if_neg (by omega), if_pos (by omega)]]
    go_enter Tryz.func137, Tryz.ntmps137
    go_wp2_with fail
    go_quiet (fail)
    go_wp2
    go_ret
    exact ⟨rfl, _, _, hgrow'.out _⟩
  · by_cases hgt : y < x
    · rw [show sgn (x - y) = 1 by unfold sgn; rw [if_pos (by omega)]]
      go_enter Tryz.func137, Tryz.ntmps137
      go_wp2_with fail
      go_quiet (fail)
      go_wp2
      go_ret
      exact ⟨rfl, _, _, hgrow'.out _⟩
    · rw [show sgn (x - y) = 0 by unfold sgn; rw [if_neg (by omega), if_neg (by omega)]]
      go_enter Tryz.func137, Tryz.ntmps137
      go_wp2_with fail
      go_quiet (fail)
      go_wp2
      go_ret
      exact ⟨rfl, _, _, hgrow'.out _⟩

theorem ltR (x y : GoodR) : ltOf cfR x y = true ↔ qv x.1 < qv y.1 := by
  unfold ltOf cfR
  rw [cmpN_lt]; exact ltB_qv x.2 y.2
theorem ltRf (x y : GoodR) : ltOf cfR x y = false ↔ qv y.1 ≤ qv x.1 := by
  unfold ltOf cfR
  rw [cmpN_lt]; exact ltB_qvf x.2 y.2
theorem swoR : Go.Sort.SWO (ltOf cfR) where
  irrefl x := by rw [ltRf]; exact Rat.le_refl
  trans x y z h1 h2 := by rw [ltR] at *; grind
  ntrans x y z h1 h2 := by rw [ltRf] at *; grind
theorem totR (x y : GoodR) (h1 : ltOf cfR x y = false) (h2 : ltOf cfR y x = false) : x = y := by
  rw [ltRf] at h1 h2
  exact Subtype.ext (qv_inj x.2 y.2 (by grind))

theorem sortFunc_any (blk off cap : Nat) (d : Array GoodR) (w : World) (hH : Go.Sort.HoldsK encR 2 w blk off d) (hblk : blk < w.heap.size) (hsz : d.size ≤ 1099511627776) :
    Calls Tryz.prog 175 #[.slice (some ⟨blk, off, none⟩) d.size cap, .func (.func 137) #[] #[]] w fun e w' =>
      e = .returned (.tuple #[]) ∧ ∃ n os, w' = sortWorldK encR 2 w blk off n (d.toList.mergeSort fun x y => !(ltOf cfR) y x).toArray os := by
  have eg : ∀ args w, (callFunc 137 args).run Tryz.prog w = .ok (.enter 137 args) w := enters_of Tryz.func137 (by kernel_rfl) rfl
  have hcon := AnyQ.slices_SortFunc_total sortR 2 Tryz.isAgg50 Tryz.sizeOf50 encR (fun _ => rfl) (fun x v hv => by simp [encR] at hv; rcases hv with rfl | rfl <;> rfl) cfR swoR 137 #[] blk off cap d w eg (fun _ _ _ _ x y => compare_lays x y _) hH hblk (by omega) totR
  exact hcon

end Go.Proofs.YtnggopbehohjnaaGreat

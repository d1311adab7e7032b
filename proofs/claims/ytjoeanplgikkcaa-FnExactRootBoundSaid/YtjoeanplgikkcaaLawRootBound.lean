/- FnExactRootBound: for every input the law returns true, and the arguments read as before. No conditions. -/
import Derived.Test.YtjoeanplgikkcaaBound
import Derived.Test.YtjoeanplgikkcaaRatIs
import Derived.Test.YtjoeanplgikkcaaInts
import Derived.Test.YtjoeanplgikkcaaLift
namespace Go.Proofs.Ytjoeanplgikkcaa
open Go.RowKit

set_option maxHeartbeats 400000 in
theorem lawRootBound_over0 (ao0 : Option Addr) (n0 cap0 : Nat) (w : World) (hl0 : ¬ n0 ≤ 1048576) :
    Calls Try.prog 10 #[.slice ao0 n0 cap0] w (Ret (.bool true) w) := by
  go_enter Try.func10, Try.ntmps10
  go_wp2_with fail
  go_wp2
  go_ret
  exact ⟨rfl, Below.refl _ _⟩

set_option maxHeartbeats 1600000 in
theorem lawRootBound_main (ao0 : Option Addr) (n0 cap0 : Nat) (x0 : List Int) (w : World) (hv0 : Hid (IntsV w (.slice ao0 n0 cap0) x0)) (hn0 : Hid (x0.length = n0)) (hl0 : n0 ≤ 1048576) :
    Calls Try.prog 10 #[.slice ao0 n0 cap0] w (Ret (.bool true) w) := by
  have hm0 : szIntS x0 ≤ 1099511627776 := by show x0.length ≤ _; rw [hn0.out]; omega
  have hk0 := cntIntS_le x0
  obtain ⟨r, hr⟩ : ∃ r, RootBound_v x0 = r := ⟨_, rfl⟩
  have hr := Lib.hid hr
  go_enter Try.func10, Try.ntmps10
  go_wp2_with fail
  have hb0 := Below.refl w.heap.size w
  refine (toIntS_any _ x0 _ (hv0.out.below hb0) hm0).mono ?_
  rintro e w1 ⟨c1, rfl, hc1, hB1⟩
  have hs1 := hB1.size
  have hb1 := hb0.trans (hB1.mono hb0.size)
  clear hb0
  clear hB1
  go_wp2_with fail
  refine (specRootBound_any c1 x0 _ hc1.read hm0).mono ?_
  rw [hr.out]
  rintro e w2 ⟨rfl, hB2⟩
  have hs2 := hB2.size
  have hb2 := hb1.trans (hB2.mono hb1.size)
  clear hb1
  replace hc1 := hc1.below hB2 (by omega)
  clear hB2
  obtain ⟨w3, hw3⟩ : ∃ W, w2.alloc (.cells #[.int .i64 r.1.1, .int .i64 r.1.2] 54) = W := ⟨_, rfl⟩
  have hB3 : Below w2.heap.size w2 w3 := by rw [← hw3]; exact (Below.refl _ _).alloc (Nat.le_refl _) _
  have hy3 : w2.heap.size < w3.heap.size := by rw [← hw3]; simp
  have hd3_0 : w3.cell? ⟨w2.heap.size, 0, none⟩ = some (.int .i64 r.1.1) := by rw [← hw3]; simp [go_sem]
  have hd3_1 : w3.cell? ⟨w2.heap.size, 1, none⟩ = some (.int .i64 r.1.2) := by rw [← hw3]; simp [go_sem]
  have hs3 := hB3.size
  have hb3 := hb2.trans (hB3.mono hb2.size)
  clear hb2
  replace hc1 := hc1.below hB3 (by omega)
  clear hB3
  have hw3' := Lib.hid hw3
  clear hw3
  go_wp2_with fail
  rw [hw3'.out]
  clear hw3'
  refine (toIntS_any _ x0 _ (hv0.out.below hb3) hm0).mono ?_
  rintro e w4 ⟨c4, rfl, hc4, hB4⟩
  have hs4 := hB4.size
  have hb4 := hb3.trans (hB4.mono hb3.size)
  clear hb3
  replace hc1 := hc1.below hB4 (by omega)
  replace hd3_0 := (hB4.cell (p := ⟨w2.heap.size, 0, none⟩) (by show w2.heap.size < _; omega)).trans hd3_0
  replace hd3_1 := (hB4.cell (p := ⟨w2.heap.size, 1, none⟩) (by show w2.heap.size < _; omega)).trans hd3_1
  clear hB4
  go_wp2_with fail
  refine (implRootBound_any c4 x0 _ hc4.read hm0).mono ?_
  rw [hr.out]
  rintro e w5 ⟨rfl, hB5⟩
  have hs5 := hB5.size
  have hb5 := hb4.trans (hB5.mono hb4.size)
  clear hb4
  replace hc1 := hc1.below hB5 (by omega)
  replace hc4 := hc4.below hB5 (by omega)
  replace hd3_0 := (hB5.cell (p := ⟨w2.heap.size, 0, none⟩) (by show w2.heap.size < _; omega)).trans hd3_0
  replace hd3_1 := (hB5.cell (p := ⟨w2.heap.size, 1, none⟩) (by show w2.heap.size < _; omega)).trans hd3_1
  clear hB5
  obtain ⟨w6, hw6⟩ : ∃ W, w5.alloc (.cells #[.int .i64 r.1.1, .int .i64 r.1.2] 54) = W := ⟨_, rfl⟩
  have hB6 : Below w5.heap.size w5 w6 := by rw [← hw6]; exact (Below.refl _ _).alloc (Nat.le_refl _) _
  have hy6 : w5.heap.size < w6.heap.size := by rw [← hw6]; simp
  have hd6_0 : w6.cell? ⟨w5.heap.size, 0, none⟩ = some (.int .i64 r.1.1) := by rw [← hw6]; simp [go_sem]
  have hd6_1 : w6.cell? ⟨w5.heap.size, 1, none⟩ = some (.int .i64 r.1.2) := by rw [← hw6]; simp [go_sem]
  have hs6 := hB6.size
  have hb6 := hb5.trans (hB6.mono hb5.size)
  clear hb5
  replace hc1 := hc1.below hB6 (by omega)
  replace hc4 := hc4.below hB6 (by omega)
  have hd3_0n := (hB6.cell (p := ⟨w2.heap.size, 0, none⟩) (by show w2.heap.size < _; omega)).trans hd3_0
  have hd3_0l : w2.heap.size < w5.heap.size := by omega
  have hd3_1n := (hB6.cell (p := ⟨w2.heap.size, 1, none⟩) (by show w2.heap.size < _; omega)).trans hd3_1
  have hd3_1l : w2.heap.size < w5.heap.size := by omega
  clear hB6
  have hw6' := Lib.hid hw6
  clear hw6
  go_wp2_with fail
  rw [hw6'.out]
  clear hw6'
  clear hd3_0 hd3_0l; have hd3_0 := hd3_0n; clear hd3_0n
  clear hd3_1 hd3_1l; have hd3_1 := hd3_1n; clear hd3_1n
  refine (eqRat_same _ _ _).mono ?_
  rintro e w7 ⟨rfl, hB7⟩
  have hs7 := hB7.size
  have hb7 := hb6.trans (hB7.mono hb6.size)
  clear hb6
  replace hc1 := hc1.below hB7 (by omega)
  replace hc4 := hc4.below hB7 (by omega)
  replace hd3_0 := (hB7.cell (p := ⟨w2.heap.size, 0, none⟩) (by show w2.heap.size < _; omega)).trans hd3_0
  replace hd3_1 := (hB7.cell (p := ⟨w2.heap.size, 1, none⟩) (by show w2.heap.size < _; omega)).trans hd3_1
  replace hd6_0 := (hB7.cell (p := ⟨w5.heap.size, 0, none⟩) (by show w5.heap.size < _; omega)).trans hd6_0
  replace hd6_1 := (hB7.cell (p := ⟨w5.heap.size, 1, none⟩) (by show w5.heap.size < _; omega)).trans hd6_1
  clear hB7
  go_wp2_with fail
  refine (toIntS_any _ x0 _ (hv0.out.below hb7) hm0).mono ?_
  rintro e w8 ⟨c8, rfl, hc8, hB8⟩
  have hs8 := hB8.size
  have hb8 := hb7.trans (hB8.mono hb7.size)
  clear hb7
  replace hc1 := hc1.below hB8 (by omega)
  replace hc4 := hc4.below hB8 (by omega)
  replace hd3_0 := (hB8.cell (p := ⟨w2.heap.size, 0, none⟩) (by show w2.heap.size < _; omega)).trans hd3_0
  replace hd3_1 := (hB8.cell (p := ⟨w2.heap.size, 1, none⟩) (by show w2.heap.size < _; omega)).trans hd3_1
  replace hd6_0 := (hB8.cell (p := ⟨w5.heap.size, 0, none⟩) (by show w5.heap.size < _; omega)).trans hd6_0
  replace hd6_1 := (hB8.cell (p := ⟨w5.heap.size, 1, none⟩) (by show w5.heap.size < _; omega)).trans hd6_1
  clear hB8
  go_wp2_with fail
  refine (eqIntS_same _ _ x0 _ hc4.read hc8.read hm0).mono ?_
  rintro e w9 ⟨rfl, hB9⟩
  clear hc8
  have hs9 := hB9.size
  have hb9 := hb8.trans (hB9.mono hb8.size)
  clear hb8
  replace hc1 := hc1.below hB9 (by omega)
  replace hc4 := hc4.below hB9 (by omega)
  replace hd3_0 := (hB9.cell (p := ⟨w2.heap.size, 0, none⟩) (by show w2.heap.size < _; omega)).trans hd3_0
  replace hd3_1 := (hB9.cell (p := ⟨w2.heap.size, 1, none⟩) (by show w2.heap.size < _; omega)).trans hd3_1
  replace hd6_0 := (hB9.cell (p := ⟨w5.heap.size, 0, none⟩) (by show w5.heap.size < _; omega)).trans hd6_0
  replace hd6_1 := (hB9.cell (p := ⟨w5.heap.size, 1, none⟩) (by show w5.heap.size < _; omega)).trans hd6_1
  clear hB9
  go_wp2
  go_ret
  exact ⟨rfl, hb9⟩

theorem lawRootBound_any (a0 : Value) (x0 : List Int) (w : World) (hv0 : IntsV w a0 x0) :
    Calls Try.prog 10 #[a0] w (Ret (.bool true) w) := by
  obtain ⟨ao0, cap0, rfl, -, -, -⟩ := id hv0
  by_cases hl0 : x0.length ≤ 1048576
  rotate_left
  · exact lawRootBound_over0 _ _ _ w hl0
  exact lawRootBound_main _ _ _ x0 w (Lib.hid hv0) (Lib.hid rfl) hl0

open Go.ChangeShapes Go.WideShapes Go.ChangeAt in
set_option maxRecDepth 100000 in
theorem lawRootBound_lifted (os : Os) (started : os.Started) (H : Type) (enc : TypeId × Value → H) :
    ReturnsInHanded {} Try.checked os 10 .any (Rows.fnExactRootBoundSpec.pre6 enc Try.prog Try.f10 Rows.fnExactRootBoundRow.domain false) (Rows.fnExactRootBoundSpec.post enc Try.prog Try.f10 false true false false) := by
  refine returnsInHanded_of_change (C := Try.checked) Try.own started (by kernel_rfl) Try.func10
    (ChangeSpec.witness6 (enc := enc) (C := Try.checked) false ⟨#[], #[.slice none 0 0], []⟩ 8 (by kernel_rfl) (by kernel_rfl) (by kernel_rfl) (by kernel_rfl)) ?_
  intro W base args ds gs before hval0 hW _ _
  have hval : ∀ (j : Nat) t v, Try.f10.params[j]? = some t → args[j]? = some v → Value.okWide Try.prog W .any base t v := hval0
  have hW' := hW
  obtain ⟨p, q, hA0, hV, rfl, _, _⟩ := hW
  have hA : DataW.TrodAll enc Try.prog W 0 (fun _ => true) true Try.f10.params.toList args.toList ds p := hA0
  have hA' := hA
  rw [Try.params10] at hA hval
  obtain ⟨v0, d0, rfl, rfl, h0⟩ := trodAll_one hA
  obtain ⟨rfl, rfl⟩ := trodVars_none hV
  obtain ⟨x0, hx0⟩ := open_intsV (hval 0 29 v0 rfl rfl) h0
  refine (lawRootBound_any v0 x0 W hx0).mono fun e W' ⟨he, hB⟩ => ?_
  subst he
  exact law_post hW' rfl hA' (by rw [Try.params10]; decide +kernel) rfl rfl rfl rfl hB

theorem fnExactRootBound_holds : Rows.FnExactRootBoundSaid :=
  OpenClaim.holds_of_wide 10 Try.f10 rfl rfl rfl rfl rfl rfl rfl ⟨rfl, rfl, rfl, rfl, rfl⟩ rfl rfl rfl rfl rfl (by kernel_rfl) Try.func10 (by kernel_rfl)
    (of_decide_eq_true (by kernel_rfl)) (by unfold Func.isWrapper; rw [if_neg (of_decide_eq_false (by kernel_rfl))]; exact ⟨rfl, rfl⟩)
    (fun os started H enc _ => lawRootBound_lifted os started H enc)

#print axioms fnExactRootBound_holds
end Go.Proofs.Ytjoeanplgikkcaa

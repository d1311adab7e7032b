/- FnExactPolyText: for every input the law returns true, and the arguments read as before; where the listed tables lie as the program's text lays them. -/
import Derived.Test.YtgpabfbnbmbmeaaDoorInts
import Derived.Test.YtgpabfbnbmbmeaaDoorTextJ
import Derived.Test.YtgpabfbnbmbmeaaDoorLift
import Derived.Lib.LaidTab
import Derived.Stop.LaidErr
import Derived.SevenTiedAt
import Derived.Test.YtgpabfbnbmbmeaaDoorCards
import Derived.Test.YtgpabfbnbmbmeaaDoorTie
namespace Go.Proofs.YtgpabfbnbmbmeaaDoor
open Go.RowKit

set_option maxHeartbeats 400000 in
theorem lawPolyText_over0 (ao0 : Option Addr) (n0 cap0 : Nat) (w : World) (hl0 : ¬ n0 ≤ 1048576) :
    Calls Tryd.prog 3 #[.slice ao0 n0 cap0] w (Ret (.bool true) w) := by
  go_enter Tryd.func3, Tryd.ntmps3
  go_wp2_with fail
  go_wp2
  go_ret
  exact ⟨rfl, Below.refl _ _⟩

set_option maxHeartbeats 1600000 in
theorem lawPolyText_main (ao0 : Option Addr) (n0 cap0 : Nat) (x0 : List Int) (w : World) (htab : Hid (TabPow w)) (hv0 : Hid (IntsV w (.slice ao0 n0 cap0) x0)) (hn0 : Hid (x0.length = n0)) (hl0 : n0 ≤ 1048576) :
    Calls Tryd.prog 3 #[.slice ao0 n0 cap0] w (Ret (.bool true) w) := by
  have hm0 : szIntS x0 ≤ 1099511627776 := by show x0.length ≤ _; rw [hn0.out]; omega
  have hk0 := cntIntS_le x0
  obtain ⟨⟨t, b⟩, hr⟩ : ∃ r, PolyText_v x0 = r := ⟨_, rfl⟩
  have hr := Lib.hid hr
  go_enter Tryd.func3, Tryd.ntmps3
  go_wp2_with fail
  have hb0 := Below.refl w.heap.size w
  refine (toIntS_any _ x0 _ (hv0.out.below hb0) hm0).mono ?_
  rintro e w1 ⟨c1, rfl, hc1, hB1⟩
  have hs1 := hB1.size
  have hb1 := hb0.trans (hB1.mono hb0.size)
  clear hb0
  clear hB1
  go_wp2_with fail
  refine (specPolyText_any c1 x0 _ hc1.read hm0 (htab.out.below hb1)).mono ?_
  rw [hr.out]
  rintro e w2 ⟨rfl, hB2⟩
  have hs2 := hB2.size
  have hb2 := hb1.trans (hB2.mono hb1.size)
  clear hb1
  replace hc1 := hc1.below hB2 (by omega)
  clear hB2
  go_wp2_with fail
  refine (toIntS_any _ x0 _ (hv0.out.below hb2) hm0).mono ?_
  rintro e w3 ⟨c3, rfl, hc3, hB3⟩
  have hs3 := hB3.size
  have hb3 := hb2.trans (hB3.mono hb2.size)
  clear hb2
  replace hc1 := hc1.below hB3 (by omega)
  clear hB3
  go_wp2_with fail
  refine (implPolyText_any c3 x0 _ hc3.read hm0 (htab.out.below hb3)).mono ?_
  rw [hr.out]
  rintro e w4 ⟨rfl, hB4⟩
  have hs4 := hB4.size
  have hb4 := hb3.trans (hB4.mono hb3.size)
  clear hb3
  replace hc1 := hc1.below hB4 (by omega)
  replace hc3 := hc3.below hB4 (by omega)
  clear hB4
  go_wp2_with fail
  refine (toIntS_any _ x0 _ (hv0.out.below hb4) hm0).mono ?_
  rintro e w5 ⟨c5, rfl, hc5, hB5⟩
  have hs5 := hB5.size
  have hb5 := hb4.trans (hB5.mono hb4.size)
  clear hb4
  replace hc1 := hc1.below hB5 (by omega)
  replace hc3 := hc3.below hB5 (by omega)
  clear hB5
  go_wp2_with fail
  refine (eqIntS_same _ _ x0 _ hc3.read hc5.read hm0).mono ?_
  rintro e w6 ⟨rfl, hB6⟩
  clear hc5
  have hs6 := hB6.size
  have hb6 := hb5.trans (hB6.mono hb5.size)
  clear hb5
  replace hc1 := hc1.below hB6 (by omega)
  replace hc3 := hc3.below hB6 (by omega)
  clear hB6
  go_wp2
  go_ret
  exact ⟨rfl, hb6⟩

theorem lawPolyText_any (a0 : Value) (x0 : List Int) (w : World) (htab : TabPow w) (hv0 : IntsV w a0 x0) :
    Calls Tryd.prog 3 #[a0] w (Ret (.bool true) w) := by
  obtain ⟨ao0, cap0, rfl, -, -, -⟩ := id hv0
  by_cases hl0 : x0.length ≤ 1048576
  rotate_left
  · exact lawPolyText_over0 _ _ _ w hl0
  exact lawPolyText_main _ _ _ x0 w (Lib.hid htab) (Lib.hid hv0) (Lib.hid rfl) hl0

/-- One start that fits: the three tables as the program's text lays them. -/
noncomputable def laidWorld (os : Os) : World :=
  let w0 := World.holding Tryd.prog os ⟨#[], #[.slice none 0 0], []⟩
  { w0 with heap := ((w0.heap.modify 5 fun
      | .cells _ t frozen => .cells (Lib.pow10Tab.map fun z => Value.int .u64 z).toArray t frozen
      | o => o).modify 6 fun
      | .cells _ t frozen => .cells #[.int .u8 0, .int .u8 1, .int .u8 28, .int .u8 2, .int .u8 29, .int .u8 14, .int .u8 24, .int .u8 3, .int .u8 30, .int .u8 22, .int .u8 20, .int .u8 15, .int .u8 25, .int .u8 17, .int .u8 4, .int .u8 8, .int .u8 31, .int .u8 27, .int .u8 13, .int .u8 23, .int .u8 21, .int .u8 19, .int .u8 16, .int .u8 7, .int .u8 26, .int .u8 12, .int .u8 18, .int .u8 6, .int .u8 11, .int .u8 5, .int .u8 10, .int .u8 9] t frozen
      | o => o).modify 7 fun
      | .cells _ t frozen => .cells #[.int .u8 0, .int .u8 1, .int .u8 56, .int .u8 2, .int .u8 57, .int .u8 49, .int .u8 28, .int .u8 3, .int .u8 61, .int .u8 58, .int .u8 42, .int .u8 50, .int .u8 38, .int .u8 29, .int .u8 17, .int .u8 4, .int .u8 62, .int .u8 47, .int .u8 59, .int .u8 36, .int .u8 45, .int .u8 43, .int .u8 51, .int .u8 22, .int .u8 53, .int .u8 39, .int .u8 33, .int .u8 30, .int .u8 24, .int .u8 18, .int .u8 12, .int .u8 5, .int .u8 63, .int .u8 55, .int .u8 48, .int .u8 27, .int .u8 60, .int .u8 41, .int .u8 37, .int .u8 16, .int .u8 46, .int .u8 35, .int .u8 44, .int .u8 21, .int .u8 52, .int .u8 32, .int .u8 23, .int .u8 11, .int .u8 54, .int .u8 26, .int .u8 40, .int .u8 15, .int .u8 34, .int .u8 20, .int .u8 31, .int .u8 10, .int .u8 25, .int .u8 14, .int .u8 19, .int .u8 9, .int .u8 13, .int .u8 8, .int .u8 7, .int .u8 6] t frozen
      | o => o }
theorem laidWorld_met (os : Os) (args : Array Value) : laidMet Tryd.prog Rows.fnExactPolyTextRow.laid ((laidWorld os).forCall (fun _ _ => 0) ⟨#[], args, []⟩).memory :=
  laidMet_of_run' 8 (by kernel_rfl) (by kernel_rfl)
theorem tabPow_of_laid {w : World} (h : laidMet Tryd.prog Rows.fnExactPolyTextRow.laid w) : TabPow w :=
  Lib.tabIs_of_head (rest := []) (g := 5) (t := 99) (e := 68) (n := 20) (by kernel_rfl) (by kernel_rfl) Tryd.underlying99 Tryd.underlying68 (by kernel_rfl) (by kernel_rfl) h.tail.tail

open Go.ChangeShapes Go.WideShapes Go.ChangeAt in
set_option maxRecDepth 100000 in
theorem lawPolyText_lifted (os : Os) (started : os.Started) (H : Type) (enc : TypeId × Value → H) :
    ReturnsInHanded {} Tryd.checked os 3 .any (fun w args => (Rows.fnExactPolyTextSpec.pre enc Tryd.prog Tryd.f3 Rows.fnExactPolyTextRow.domain false w args ∧ laidMet Tryd.prog Rows.fnExactPolyTextRow.laid w) ∧ sizedMet enc Tryd.prog Tryd.f3 (OpenSpec.ofChange Rows.fnExactPolyTextSpec) false w args)
      (Rows.fnExactPolyTextSpec.post enc Tryd.prog Tryd.f3 false true false false) := by
  refine returnsInHanded_of_change_and (C := Tryd.checked) (X := fun w _ => laidMet Tryd.prog Rows.fnExactPolyTextRow.laid w) (fun _ _ _ hh h => h.of_heap hh) Tryd.own started (by kernel_rfl) Tryd.func3
    (ChangeSpec.witness_at (enc := enc) (C := Tryd.checked) (os := os) (X := fun w _ => laidMet Tryd.prog Rows.fnExactPolyTextRow.laid w) false (laidWorld os) #[.slice none 0 0] 8 rfl (by kernel_rfl) (by kernel_rfl) (by kernel_rfl) (by kernel_rfl) (by kernel_rfl) (laidWorld_met os _)) ?_
  intro W base args ds gs before hval0 hW _ _ hL _
  have hval : ∀ (j : Nat) t v, Tryd.f3.params[j]? = some t → args[j]? = some v → Value.okWide Tryd.prog W .any base t v := hval0
  have hW' := hW
  obtain ⟨p, q, hA0, hV, rfl, _, _⟩ := hW
  have hA : DataW.TrodAll enc Tryd.prog W 0 (fun _ => true) true Tryd.f3.params.toList args.toList ds p := hA0
  have hA' := hA
  rw [Tryd.params3] at hA hval
  obtain ⟨v0, d0, rfl, rfl, h0⟩ := trodAll_one hA
  obtain ⟨rfl, rfl⟩ := trodVars_none hV
  obtain ⟨x0, hx0⟩ := open_intsV (hval 0 22 v0 rfl rfl) h0
  refine (lawPolyText_any v0 x0 W (tabPow_of_laid hL) hx0).mono fun e W' ⟨he, hB⟩ => ?_
  subst he
  exact law_post hW' rfl hA' (by rw [Tryd.params3]; decide +kernel) rfl rfl rfl rfl hB

theorem fnExactPolyText_row : Rows.FnExactPolyTextSaid :=
  OpenClaim.holds_of_wide 3 Tryd.f3 rfl rfl rfl rfl rfl rfl rfl ⟨rfl, rfl, rfl, rfl, rfl⟩ rfl rfl rfl rfl rfl (by kernel_rfl) Tryd.func3 (by kernel_rfl)
    (of_decide_eq_true (by kernel_rfl)) (by unfold Func.isWrapper; rw [if_neg (of_decide_eq_false (by kernel_rfl))]; exact ⟨rfl, rfl⟩)
    (fun os started H enc _ => lawPolyText_lifted os started H enc)

theorem fnExactPolyText_holds : Rows.FnExactPolyTextCardSaid :=
  Claim7.holds_tied_plain_at .later [] [.data, .data, .data] true (true, "261ec9b7c189dc0f754756cc675d198b49b91ad2fd53b4761a265ceaccd6b3c7") true
    fnExactPolyText_row (fun _ h => by cases h) (by kernel_rfl) (fun _ h => by cases h) fnExactPolyText_row_tie rfl ⟨rfl, rfl⟩ (by kernel_rfl) rfl
    (fun f fn hf hfn => by
      obtain rfl : f = 3 := Option.some.inj ((show Tryd.prog.funcNamed "loop.example/g01003/laws.FnExactPolyText" = some 3 by kernel_rfl).symm.trans hf) |>.symm
      obtain rfl : fn = Tryd.f3 := (Option.some.inj (Tryd.func3.symm.trans hfn)).symm
      exact ⟨by kernel_rfl, fun j t ht => by
        rw [Tryd.params3] at ht
        have h3 : t = 22 := by
          rcases j with _ | j
          · simpa using ht.symm
          · simp at ht
        subst h3
        exact (show Tryd.prog.wantsStandIn 22 = false by kernel_rfl)⟩)
    (by kernel_rfl)
#print axioms fnExactPolyText_holds
end Go.Proofs.YtgpabfbnbmbmeaaDoor

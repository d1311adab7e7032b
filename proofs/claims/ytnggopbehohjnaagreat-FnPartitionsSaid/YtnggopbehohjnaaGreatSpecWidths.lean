/- The reference's WidthsOf. No conditions. -/
import Derived.Test.YtnggopbehohjnaaGreatMkWidths
namespace Go.Proofs.YtnggopbehohjnaaGreat
open Go.RowKit

theorem specWidthsOf_any (v : Value) (xs : List (Int × Int)) (w : World) (hv : RatsV w v xs) (hm : szRatS xs ≤ 1099511627776) :
    Calls Tryz.prog 30 #[v] w (RetOB OwnR (WidthsOf_v xs) w) := by
  have c1 := mkGood_any v xs w hv hm
  have c2 := fun w' (hB : Below w.heap.size w w') (hp : partB xs = true) => mkWidths_any v xs w' (hv.below hB) hm (partB_bd hp)
  have e1 : partB xs = true → WidthsOf_v xs = if wdOk xs (xs.length - 1) = true then (wdK xs (xs.length - 1), true) else ([], false) := fun h => by unfold WidthsOf_v; rw [h, Bool.true_and]
  have e2 : partB xs = false → WidthsOf_v xs = ([], false) := fun h => by unfold WidthsOf_v; rw [h]; rfl
  generalize (if wdOk xs (xs.length - 1) = true then (wdK xs (xs.length - 1), true) else ([], false)) = M at *
  generalize WidthsOf_v xs = R at *
  generalize partB xs = P at *
  clear hv
  have c1' := Lib.hid c1
  have c2' := Lib.hid c2
  have e1' := Lib.hid e1
  have e2' := Lib.hid e2
  clear c1 c2 e1 e2
  cases P
  · have hR : R = ([], false) := e2'.out rfl
    subst hR
    clear e1' e2' c2'
    go_enter Tryz.func30, Tryz.ntmps30
    go_wp2_with fail
    refine (c1'.out).mono ?_
    rintro e w1 ⟨rfl, hB1⟩
    go_wp2
    go_ret2
    exact ⟨_, rfl, OwnR.nil _ _ _, hB1⟩
  · have hR : R = M := e1'.out rfl
    subst hR
    have c3 := fun w' h => c2'.out w' h rfl
    obtain ⟨L, B⟩ := R
    clear e1' e2' c2'
    have c3' := Lib.hid c3
    clear c3
    go_enter Tryz.func30, Tryz.ntmps30
    go_wp2_with fail
    refine (c1'.out).mono ?_
    rintro e w1 ⟨rfl, hB1⟩
    have hs1 := hB1.size
    go_wp2_with fail
    refine (c3'.out _ hB1).mono ?_
    rintro e w2 ⟨u, rfl, hu, hB2⟩
    have hb2 := hB1.trans (hB2.mono hs1)
    have hu' := Lib.hid hu
    clear hu
    go_wp2
    go_ret2
    exact ⟨_, rfl, hu'.out.mono hs1 (Nat.le_refl _), hb2⟩

end Go.Proofs.YtnggopbehohjnaaGreat

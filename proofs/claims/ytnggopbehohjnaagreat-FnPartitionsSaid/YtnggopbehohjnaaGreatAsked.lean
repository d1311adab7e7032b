/- Whether a map and cuts are valid: the reference's. No conditions. -/
import Derived.Test.YtnggopbehohjnaaGreatPkE
import Derived.Test.YtnggopbehohjnaaGreatPkH
namespace Go.Proofs.YtnggopbehohjnaaGreat
open Go.RowKit

theorem Grow.setB {w : World} {B b o : Nat} {v : Value} {xs : List Int} (h : Grow w B v xs) (hb : b < B) (u : Value) : Grow (w.setCell ⟨b, o, none⟩ u) B v xs :=
  World.ownsRow.kept h (grownBy_setCell_some w b o u) (.inr (fun e => by have := (World.ownsRow.lt h b e).1; omega))
theorem Grow.lit (w : World) (z : Int) : Grow (w.alloc (.cells #[.int .i64 z] 3)) w.heap.size (.slice (some ⟨w.heap.size, 0, none⟩) 1 1) [z] :=
  World.ownsRow_lit (base := w.heap.size) (e := 3) (size := 1) w #[.int .i64 z] 1 (Nat.le_refl _) (by decide) rfl

theorem mkAsked_any (v u : Value) (f : List Quad) (xs : List (Int × Int)) (w : World) (hv : QuadV w v f) (hu : RatsV w u xs) (hm : f.length ≤ 1099511627776) (hn : szRatS xs ≤ 1099511627776) :
    Calls Tryz.prog 124 #[v, u] w (Ret (.bool (mapB f && partB xs)) w) := by
  have c1 := imGood_any v f w hv hm
  have c2 := fun w' (hB : Below w.heap.size w w') => mkGood_any u xs w' (hu.below hB) hn
  generalize mapB f = M at *
  generalize partB xs = I at *
  clear hv hu
  have c1' := Lib.hid c1
  have c2' := Lib.hid c2
  clear c1 c2
  go_enter Tryz.func124, Tryz.ntmps124
  go_wp2_with fail
  refine (c1'.out).mono ?_
  rintro e w1 ⟨rfl, hB1⟩
  cases M
  · go_wp2
    go_ret
    exact ⟨rfl, hB1⟩
  · have hs1 := hB1.size
    go_wp2_with fail
    refine (c2'.out _ hB1).mono ?_
    rintro e w2 ⟨rfl, hB2⟩
    have hb2 := hB1.trans (hB2.mono hs1)
    go_wp2
    go_ret
    exact ⟨rfl, hb2⟩

end Go.Proofs.YtnggopbehohjnaaGreat

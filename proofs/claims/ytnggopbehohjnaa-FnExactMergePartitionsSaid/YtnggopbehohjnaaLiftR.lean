/- Fractions that came in, as YtnggopbehohjnaaLift has it for ints. -/
import Derived.Test.YtnggopbehohjnaaLift
import Derived.Test.YtnggopbehohjnaaRatIs
import Derived.Lib.SmallJoins
import Derived.Deep.SlicePairs
namespace Go.Proofs.Ytnggopbehohjnaa
open Go.ChangeShapes Go.WideShapes Go.ChangeAt Go.RowKit

set_option maxRecDepth 100000 in
theorem int_of_trod {H : Type} {enc : TypeId × Value → H} {W : World} {spare : Nat → Bool} {held : Bool} {n : Nat} {v : Value} {y : DataW H × List MemPlace}
    (h : DataW.trod enc Try.prog W 0 spare held n 3 [v] = some y) : ∃ k, v = .int .i64 k ∧ I64 k := by
  obtain ⟨k, e, -, wn⟩ := DataW.trod_int Try.underlying3 h
  refine ⟨k, by simpa using e, ?_⟩
  have h1 : IntKind.i64.min = -9223372036854775808 := rfl
  have h2 : IntKind.i64.max = 9223372036854775807 := rfl
  simp only [Lit.wf, Bool.and_eq_true, decide_eq_true_eq, h1, h2] at wn
  exact wn

set_option maxRecDepth 100000 in
/-- A fraction that came in. -/
theorem open_ratX {H : Type} {enc : TypeId × Value → H} {W : World} {base : Nat} {v : Value} {d : DataW H} {p : List MemPlace}
    (hval : Value.okWide Try.prog W .any base 36 v) (h : DataW.Trod enc Try.prog W 0 (fun _ => true) true 36 v d p) : ∃ r : Int × Int, v = .agg #[.int .i64 r.1, .int .i64 r.2] ∧ I64R r := by
  obtain ⟨v0, v1, y0, y1, n, rfl, -, -, h0, h1⟩ := Go.Joins.open_agg2 Try.underlying36 (by kernel_rfl) (by kernel_rfl) hval h
  obtain ⟨a, rfl, ha⟩ := int_of_trod h0
  obtain ⟨b, rfl, hb⟩ := int_of_trod h1
  exact ⟨(a, b), rfl, ha, hb⟩

end Go.Proofs.Ytnggopbehohjnaa

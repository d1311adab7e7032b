/- The laws' own helpers on fractions: toRat copies, eqRat compares. No conditions. -/
import Derived.Test.YtnggopbehohjnaaRats
namespace Go.Proofs.Ytnggopbehohjnaa
open Go.RowKit

/-- Numerator and denominator are int64. -/
def I64R (r : Int × Int) : Prop := I64 r.1 ∧ I64 r.2

theorem toRat_any (r : Int × Int) (w : World) : Calls Try.prog 13 #[.agg #[.int .i64 r.1, .int .i64 r.2]] w (Ret (ratV r) w) := by
  obtain ⟨n, d⟩ := r
  have hB1 : Below w.heap.size w (w.alloc (.cells #[.int .i64 n, .int .i64 d] 36)) := (Below.refl _ _).alloc (Nat.le_refl _) _
  go_enter Try.func13, Try.ntmps13
  go_wp2
  refine bodyPost_ret (v := ratV (n, d)) (by simp [results, Try.results13, go_sem, ratV]) rfl ⟨rfl, ?_⟩
  exact (hB1.alloc (by simp) _).alloc (by simp; omega) _
theorem eqRat_same (n d : Int) (w : World) : Calls Try.prog 17 #[.agg #[.int .i64 n, .int .i64 d], .agg #[.int .i64 n, .int .i64 d]] w (Ret (.bool true) w) := by
  have hB1 : Below w.heap.size w (w.alloc (.cells #[.int .i64 n, .int .i64 d] 33)) := (Below.refl _ _).alloc (Nat.le_refl _) _
  have hB : Below w.heap.size w ((w.alloc (.cells #[.int .i64 n, .int .i64 d] 33)).alloc (.cells #[.int .i64 n, .int .i64 d] 33)) := hB1.alloc (by simp) _
  clear hB1
  go_enter Try.func17, Try.ntmps17
  go_wp2
  go_ret
  exact ⟨rfl, hB⟩

end Go.Proofs.Ytnggopbehohjnaa

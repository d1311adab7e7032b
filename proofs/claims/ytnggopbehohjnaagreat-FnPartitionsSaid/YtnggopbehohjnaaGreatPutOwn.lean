/- imPut at a slice of one's own. No conditions but small sizes. -/
import Derived.Test.YtnggopbehohjnaaGreatPutR
namespace Go.Proofs.YtnggopbehohjnaaGreat
open Go.RowKit

/-- A literal of one fraction is a slice of one's own. -/
theorem GrowR.put1 {w : World} {B : Nat} {p q : Int} (hB : B ≤ w.heap.size) : GrowR (w.alloc (.cells #[.int .i64 p, .int .i64 q] 50)) B (.slice (some ⟨w.heap.size, 0, none⟩) 1 1) [(p, q)] :=
  ⟨rfl, .inr ⟨w.heap.size, 1, #[.int .i64 p, .int .i64 q], rfl, hB, heap_alloc_new _ _, Nat.le_refl _, by simp [maxLen], rfl, rfl⟩⟩
/-- A literal of two fractions. -/
theorem GrowR.put2 {w : World} {B : Nat} {p q p' q' : Int} (hB : B ≤ w.heap.size) : GrowR (w.alloc (.cells #[.int .i64 p, .int .i64 q, .int .i64 p', .int .i64 q'] 50)) B (.slice (some ⟨w.heap.size, 0, none⟩) 2 2) [(p, q), (p', q')] :=
  ⟨rfl, .inr ⟨w.heap.size, 2, #[.int .i64 p, .int .i64 q, .int .i64 p', .int .i64 q'], rfl, hB, heap_alloc_new _ _, Nat.le_refl _, by simp [maxLen], rfl, rfl⟩⟩
/-- imPut at a slice of one's own that is not empty. -/
theorem imPut_own (B : Nat) (v : Value) (xs : List (Int × Int)) (x : Int × Int) (w : World) (hg : GrowR w B v xs) (h0 : 0 < xs.length) (hB : B ≤ w.heap.size) (hm : xs.length ≤ 1099511627776) (hx : BdR x.1 x.2) (hb : ∀ i, i < xs.length → BdR (nthR xs i).1 (nthR xs i).2) :
    Calls Tryz.prog 113 #[v, .agg #[.int .i64 x.1, .int .i64 x.2]] w fun e w' => ∃ v', e = .returned v' ∧ GrowR w' B v' (putR xs x) ∧ Below w.heap.size w w' := by
  obtain ⟨g, gc, rfl, hrow⟩ := GrowF.form hg h0
  refine (imPut_some g 0 gc xs x w hg.read hm hx hb).mono ?_
  rintro e w' ⟨v', rfl, h, hBl⟩
  refine ⟨v', rfl, ?_, hBl⟩
  rcases h with ⟨rfl, he⟩ | h
  · rw [he]; exact hg.below hBl
  · exact h.mono hB
end Go.Proofs.YtnggopbehohjnaaGreat

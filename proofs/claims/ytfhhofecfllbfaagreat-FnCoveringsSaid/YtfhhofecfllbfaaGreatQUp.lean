/- The laws' comparison of fractions; impl.IsInterval. No conditions but bounds. -/
import Derived.Test.YtfhhofecfllbfaaGreatPkE
namespace Go.Proofs.YtfhhofecfllbfaaGreat
open Go.RowKit

set_option linter.unusedSimpArgs false in
set_option maxHeartbeats 1600000 in
theorem qUp_any (n d n' d' : Int) (w : World) (h1 : BdR n d) (h2 : BdR n' d') :
    Calls Tryz.prog 32 #[.agg #[.int .i64 n, .int .i64 d], .agg #[.int .i64 n', .int .i64 d']] w (Ret (.int .i64 (cmpN n d n' d')) w) := by
  have hB1 : Below w.heap.size w (w.alloc (.cells #[.int .i64 n, .int .i64 d] 42)) := (Below.refl _ _).alloc (Nat.le_refl _) _
  have hB : Below w.heap.size w ((w.alloc (.cells #[.int .i64 n, .int .i64 d] 42)).alloc (.cells #[.int .i64 n', .int .i64 d'] 42)) := hB1.alloc (by simp) _
  have p1 := h1.prod h2
  have p2 := h2.prod h1
  unfold cmpN
  obtain ⟨x, hx⟩ : ∃ x, n * d' = x := ⟨_, rfl⟩
  obtain ⟨y, hy⟩ : ∃ y, n' * d = y := ⟨_, rfl⟩
  rw [hx] at p1 ⊢
  rw [hy] at p2 ⊢
  have e1 : IntKind.i64.wrap x = x := by rw [IntKind.wrap_i64]; omega
  have e2 : IntKind.i64.wrap y = y := by rw [IntKind.wrap_i64]; omega
  have e3 : IntKind.i64.wrap (x - y) = x - y := by rw [IntKind.wrap_i64]; omega
  clear h1 h2 hB1 p1 p2
  have hB' := Lib.hid hB
  clear hB
  by_cases l1 : x < y
  · have hsg : Hid (sgn (x - y) = -1) := Lib.hid (by unfold sgn; rw [if_neg (by omega), if_pos (by omega)])
    have q1 : x - y < 0 := by omega
    rw [show sgn (x - y) = -1 from hsg.out]
    go_enter Tryz.func32, Tryz.ntmps32
    go_wp2
    go_ret
    exact ⟨rfl, hB'.out⟩
  · have q1 : ¬ x - y < 0 := by omega
    by_cases l2 : y < x
    · have hsg : Hid (sgn (x - y) = 1) := Lib.hid (by unfold sgn; rw [if_pos (by omega)])
      have q2 : 0 < x - y := by omega
      rw [show sgn (x - y) = 1 from hsg.out]
      go_enter Tryz.func32, Tryz.ntmps32
      go_wp2
      go_ret
      exact ⟨rfl, hB'.out⟩
    · have hsg : Hid (sgn (x - y) = 0) := Lib.hid (by unfold sgn; rw [if_neg (by omega), if_neg (by omega)])
      have q2 : ¬ 0 < x - y := by omega
      rw [show sgn (x - y) = 0 from hsg.out]
      go_enter Tryz.func32, Tryz.ntmps32
      go_wp2
      go_ret
      exact ⟨rfl, hB'.out⟩
theorem IsInterval_any (i : Quad) (w : World) : Calls Tryz.prog 35 #[quadV i] w (Ret (.bool (ivB i)) w) := by
  have c1 := fun w => isInterval_any i w
  obtain ⟨⟨x, y⟩, ⟨z, t⟩⟩ := i
  have hB : Below w.heap.size w (w.alloc (.cells #[.int .i64 x, .int .i64 y, .int .i64 z, .int .i64 t] 44)) := (Below.refl _ _).alloc (Nat.le_refl _) _
  have c1' := Lib.hid c1
  have hB' := Lib.hid hB
  clear c1 hB
  show Calls _ _ #[.agg #[.int .i64 x, .int .i64 y, .int .i64 z, .int .i64 t]] w _
  go_enter Tryz.func35, Tryz.ntmps35
  go_wp2_with fail
  refine (c1'.out _).mono ?_
  rintro e w1 ⟨rfl, hB1⟩
  have hb := hB'.out.trans (hB1.mono hB'.out.size)
  have hb' := Lib.hid hb
  clear hb
  go_wp2
  go_ret
  exact ⟨rfl, hb'.out⟩
end Go.Proofs.YtfhhofecfllbfaaGreat

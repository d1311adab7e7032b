/- The program's ShortestWalk. No conditions. -/
import Derived.Test.YtblippeklbhepaaLeastV
import Derived.Test.YtblippeklbhepaaStepsTo
import Derived.Test.YtblippeklbhepaaArrows
import Derived.Test.YtblippeklbhepaaAddArrow
import Derived.BigQuiet
import Derived.Deep.QuietTactic
namespace Go.Proofs.Ytblippeklbhepaa
open Go.RowKit

/-- A function value of ints that says p of these ints, whatever has been laid since w. -/
def SaysOn (g : FuncId) (cb : Array Value) (p : Int → Bool) (xs : List Int) (w : World) : Prop :=
  ∀ i w', i < xs.length → Below w.heap.size w w' → Calls Try.prog g (#[.int .i64 (nth xs i)] ++ cb) w' (Ret (.bool (p (nth xs i))) w')
theorem indexFuncOn_any (v : Value) (xs : List Int) (g : FuncId) (cb : Array Value) (p : Int → Bool) (w : World) (eg : Enters Try.prog g) (hp : SaysOn g cb p xs w) (hv : IntsV w v xs) (hm : xs.length ≤ 1099511627776) :
    Calls Try.prog 112 #[v, .func (.func g) #[] cb] w (Ret (.int .i64 (idxB p xs)) w) := by
  have heg : ∀ args w, (callFunc g args).run Try.prog w = .ok (.enter g args) w := eg
  obtain ⟨ao, cap, rfl, h1, h2, H0⟩ := hv
  have hv : IntsV w (.slice ao xs.length cap) xs := ⟨ao, cap, rfl, h1, h2, H0⟩
  clear H0 h1 h2
  go_enter Try.func112, Try.ntmps112
  go_wp2
  go_loopw [8] (fun i wr => ∃ k : Nat, k ≤ xs.length ∧ i = .int .i64 k ∧ (∀ j, j < k → p (nth xs j) = false) ∧ Below w.heap.size w wr) (fun i _ => xs.length - (intOf i).toNat)
  case atStart => exact ⟨0, Nat.zero_le _, rfl, fun j hj => absurd hj (Nat.not_lt_zero j), Below.refl _ _⟩
  case round =>
    obtain ⟨k, hk, rfl, hno, hB⟩ := hrel
    have hno' := Lib.hid hno
    clear hno
    by_cases hlt : k < xs.length
    · obtain ⟨ao', cap', e, _, _, H⟩ := hv.below hB
      obtain ⟨rfl, _, rfl⟩ := Value.slice.inj e
      obtain ⟨b, off, rfl, hc⟩ := H k hlt
      have hcall := hp k wr hlt hB
      have hcall' := Lib.hid hcall
      clear H e hcall
      cases hb : p (nth xs k)
      · have hb' := Lib.hid hb
        clear hb
        go_wp2_with fail
        refine (hcall'.out).mono ?_
        rintro e w' ⟨rfl, hB'⟩
        rw [hb'.out]
        go_wp2
        go_roundw
        case rel => exact ⟨k + 1, by omega, by go_num, fun j hj => by
          rcases Nat.lt_succ_iff_lt_or_eq.1 hj with h | rfl
          · exact hno'.out j h
          · exact hb'.out, hB.trans (hB'.mono hB.size)⟩
        case measure => simp [intOf]; omega
      · have hb' := Lib.hid hb
        clear hb
        go_wp2_with fail
        refine (hcall'.out).mono ?_
        rintro e w' ⟨rfl, hB'⟩
        rw [hb'.out]
        go_wp2
        go_ret
        exact ⟨by rw [idxB_hit hlt hno'.out hb'.out]; rfl, hB.trans (hB'.mono hB.size)⟩
    · obtain rfl : k = xs.length := by omega
      go_wp2
      go_ret
      exact ⟨by rw [idxB_none hno'.out]; rfl, hB⟩

/-- 0, 1, .. n - 1. -/
def upTo (n : Nat) : List Int := lst n fun k => (k : Int)
theorem upTo_len (n : Nat) : (upTo n).length = n := lst_len _ _
theorem upTo_nth {n k : Nat} (h : k < n) : nth (upTo n) k = k := nth_lst h
theorem numbersTo_any (n : Nat) (w : World) (hn : n ≤ 1048576) : Calls Try.prog 113 #[.int .i64 n] w (RetO Own (upTo n) w) := by
  obtain ⟨i0, hi, hz0, hz1, hz2⟩ := info_parts Try.infoInt
  go_enter Try.func113, Try.ntmps113
  go_wp2_with (at_make; refine wpList_make_full _ rfl _ _ 39 rfl w.heap.size 3 i0 _ 1 Try.underlying39 hi hz0 hz1 _ _ _ _ n rfl rfl rfl rfl (by rw [hz2]; omega) (by unfold maxLen; omega) (Nat.le_refl _) ?_)
  intro w1 hown hgrow
  have hB1 : Below w.heap.size w w1 := below_made (Below.refl _ _) (Nat.le_refl _) hgrow
  have ho := row_made hown
  rw [lst_zero] at ho
  clear hown hgrow hi hz0 hz1 hz2
  go_wp2
  go_loopw [9] (fun x wr => ∃ k : Nat, k ≤ n ∧ x = .int .i64 k ∧ RowAt wr w.heap.size w.heap.size n n (lst n fun j => if j < k then (j : Int) else 0) ∧ Below w.heap.size w wr) (fun x _ => n - (intOf x).toNat)
  case atStart => exact ⟨0, Nat.zero_le _, rfl, by simpa using ho, hB1⟩
  case round =>
    obtain ⟨k, hk, rfl, hr, hB⟩ := hrel
    clear ho hB1
    by_cases hlt : k < n
    · have q1 := hr.cell hlt
      have q3 := hr.frozen k
      have hst := hr.stored k (k : Int)
      rw [lst_set, lst_congr (g := fun j => if j < k + 1 then (j : Int) else 0) (fun j _ => by
        by_cases e : j = k
        · subst e; simp
        · rw [if_neg e]
          by_cases e2 : j < k
          · rw [if_pos e2, if_pos (show j < k + 1 by omega)]
          · rw [if_neg e2, if_neg (show ¬ j < k + 1 by omega)])] at hst
      have hB2 := hB.setCell (p := ⟨w.heap.size, k, none⟩) (Nat.le_refl _) (.int .i64 k)
      have hst' := Lib.hid hst
      have hB2' := Lib.hid hB2
      clear hst hB2
      clear hr hB
      go_wp2
      go_roundw
      case rel => exact ⟨k + 1, by omega, by go_num, hst'.out, hB2'.out⟩
      case measure => simp [intOf]; omega
    · obtain rfl : n = k := by omega
      rw [lst_congr (g := fun j => (j : Int)) (fun j hj => if_pos hj)] at hr
      have ho := hr.own
      have hr' := Lib.hid hr
      have ho' := Lib.hid ho
      clear hr ho
      go_wp2
      go_ret
      exact ⟨_, rfl, ho'.out, hB⟩

set_option maxHeartbeats 1600000 in
/-- The closure: does the walk go on at k? -/
theorem shortest1_any (g : Nat → Nat → Int) (n x r b k : Nat) (o : Nat → Int) (ob : Nat) (bg og gcap : Nat) (ro rof rcc : Nat → Nat) (pg px pr pb ps : Nat) (w : World)
    (hG : GR w bg og n n ro rof rcc g) (hx : x < n) (hk : k < n) (hr : r ≤ 1000) (ho : ∀ i, i < n → 0 ≤ o i ∧ o i ≤ 1000) (hO : ∀ i, i < n → w.cell? ⟨ob, i, none⟩ = some (.int .i64 (o i)))
    (h1 : w.cell? ⟨pg, 0, none⟩ = some (.slice (some ⟨bg, og, none⟩) n gcap)) (h2 : w.cell? ⟨px, 0, none⟩ = some (.int .i64 x)) (h3 : w.cell? ⟨pr, 0, none⟩ = some (.int .i64 ((r : Int) + 1))) (h4 : w.cell? ⟨pb, 0, none⟩ = some (.int .i64 b)) (h5 : w.cell? ⟨ps, 0, none⟩ = some (.slice (some ⟨ob, 0, none⟩) n n)) (_hn : n ≤ 8) :
    Calls Try.prog 114 #[.int .i64 k, .pointer (some ⟨pg, 0, none⟩), .pointer (some ⟨px, 0, none⟩), .pointer (some ⟨pr, 0, none⟩), .pointer (some ⟨pb, 0, none⟩), .pointer (some ⟨ps, 0, none⟩)] w
      (Ret (.bool (decide (0 < g x k) && ((decide (r = 0) && decide (k = b)) || (decide (0 < r) && decide (o k = r))))) w) := by
  obtain ⟨p1, _, p3⟩ := hG x hx
  have p4 := p3 k hk
  have q1 := hO k hk
  have b1 := ho k hk
  generalize g x k = z at *
  generalize o k = y at *
  clear hG hO ho p3
  have e1 : ((k : Int) == (b : Int)) = decide (k = b) := by rw [Bool.eq_iff_iff, beq_iff_eq, decide_eq_true_iff]; omega
  by_cases c1 : 0 < z
  · rw [decide_eq_true c1, Bool.true_and]
    by_cases c2 : r = 0
    · subst c2
      simp only [decide_true, Bool.true_and, Nat.lt_irrefl, decide_false, Bool.false_and, Bool.or_false]
      have hw0 : ((0 : Nat) : Int) + 1 = 1 := rfl
      rw [hw0] at h3
      by_cases c3 : k = b
      · rw [decide_eq_true c3]
        rw [decide_eq_true c3] at e1
        clear c3 hw0
        go_enter Try.func114, Try.ntmps114
        go_wp2_with fail
        go_quiet (fail)
        go_wp2
        go_ret
        exact ⟨rfl, below_drewN (Below.refl _ _) _⟩
      · rw [decide_eq_false c3]
        rw [decide_eq_false c3] at e1
        clear c3 hw0
        go_enter Try.func114, Try.ntmps114
        go_wp2_with fail
        go_quiet (fail)
        go_wp2
        go_ret
        exact ⟨rfl, below_drewN (Below.refl _ _) _⟩
    · have c4 : 0 < r := by omega
      rw [decide_eq_false c2, decide_eq_true c4, Bool.false_and, Bool.false_or, Bool.true_and]
      obtain ⟨R, hR⟩ : ∃ R : Int, (r : Int) + 1 = R := ⟨_, rfl⟩
      rw [hR] at h3
      have d1 : (R == 1) = false := by rw [beq_eq_false_iff_ne]; omega
      have d2 : 1 < R := by omega
      have d3 : R ≤ 1001 := by omega
      have e2 : (y == R - 1) = decide (y = (r : Int)) := by rw [Bool.eq_iff_iff, beq_iff_eq, decide_eq_true_iff]; omega
      generalize decide (y = (r : Int)) = D at *
      clear hR c2 c4 e1 hr
      cases D
      · go_enter Try.func114, Try.ntmps114
        go_wp2_with fail
        go_quiet (fail)
        go_wp2
        go_ret
        exact ⟨rfl, below_drewN (Below.refl _ _) _⟩
      · go_enter Try.func114, Try.ntmps114
        go_wp2_with fail
        go_quiet (fail)
        go_wp2
        go_ret
        exact ⟨rfl, below_drewN (Below.refl _ _) _⟩
  · rw [decide_eq_false c1, Bool.false_and]
    have hd : decide (0 < z) = false := decide_eq_false c1
    clear e1
    go_enter Try.func114, Try.ntmps114
    go_wp2_with fail
    go_quiet (fail)
    go_wp2
    go_ret
    exact ⟨rfl, below_drewN (Below.refl _ _) _⟩

end Go.Proofs.Ytblippeklbhepaa

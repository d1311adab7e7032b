/- The program's numbers of steps to a state: those of the shortest walks. No conditions but small sizes. -/
import Derived.Test.YtblippeklbhepaaSteps
namespace Go.Proofs.Ytblippeklbhepaa
open Go.RowKit

set_option maxRecDepth 100000 in
set_option maxHeartbeats 2000000 in
theorem stepsTo_any (v : Value) (g : List (List Int)) (n to : Nat) (w : World) (hv : RowsV w v g) (hg : graphB g = true) (hn : g.length = n) (hto : to < n) :
    Calls Try.prog 111 #[v, .int .i64 to] w (fun e w' => ∃ (b : Nat) (o : Nat → Int), e = .returned (.slice (some ⟨b, 0, none⟩) n n) ∧ RowAt w' w.heap.size b n n (lst n o) ∧ StMin (ent g) n to o ∧ StB n o ∧ Below w.heap.size w w') := by
  obtain ⟨b, off, gcap, ro, rof, rcc, rfl, H⟩ := hv.graph hg hn
  obtain ⟨n1, n8, -, -⟩ := graphB_true hg
  rw [hn] at n1 n8
  obtain ⟨i0, hi, hz0, hz1, hz2⟩ := info_parts Try.infoInt
  obtain ⟨G, hG⟩ : ∃ G, ent g = G := ⟨_, rfl⟩
  rw [hG] at H ⊢
  have H' := Lib.hid H
  have hn' := Lib.hid hn
  have hg' := Lib.hid hg
  have hG' := Lib.hid hG
  clear H hn hg hG
  clear hv
  go_enter Try.func111, Try.ntmps111
  go_wp2_with (at_make; refine wpList_make_full _ rfl _ _ 39 rfl w.heap.size 3 i0 _ 1 Try.underlying39 hi hz0 hz1 _ _ _ _ n rfl rfl rfl rfl (by rw [hz2]; omega) (by unfold maxLen; omega) (Nat.le_refl _) ?_)
  intro w1 hown hgrow
  have hB1 : Below w.heap.size w w1 := below_made (Below.refl _ _) (Nat.le_refl _) hgrow
  have ho := row_made hown
  rw [lst_zero] at ho
  clear hown hgrow hi hz0 hz1 hz2
  go_wp2
  go_loopw [16] (fun x wr => ∃ (m : Nat) (o : Nat → Int), m ≤ n ∧ x = .int .i64 m ∧ RowAt wr w.heap.size w.heap.size n n (lst n o) ∧ Below w.heap.size w wr ∧ Hid (StI G n to m 0 0 o)) (fun x _ => n - (intOf x).toNat)
  case atStart => exact ⟨0, _, Nat.zero_le _, rfl, ho, hB1, Lib.hid (StI.start _ _ _)⟩
  case round =>
    obtain ⟨m, o, hm, rfl, hr, hB, hI⟩ := hrel
    clear ho hB1
    by_cases hltm : m < n
    · have hr' := Lib.hid hr
      clear hr
      go_wp2
      go_loopw [20] (fun x wr => ∃ (i : Nat) (o : Nat → Int), i ≤ n ∧ x = .int .i64 i ∧ RowAt wr w.heap.size w.heap.size n n (lst n o) ∧ Below w.heap.size w wr ∧ Hid (StI G n to m i 0 o)) (fun x _ => n - (intOf x).toNat)
      case atStart => exact ⟨0, _, Nat.zero_le _, rfl, hr'.out, hB, hI⟩
      case round =>
        clear hr' hI hB
        clear o
        obtain ⟨i, o, hi, rfl, hr, hB, hI⟩ := hrel
        by_cases hlti : i < n
        · have p1 := (H'.out.below hB i hlti).1
          have hr' := Lib.hid hr
          clear hr
          go_wp2
          go_loopw [27] (fun x wr => ∃ (k : Nat) (o : Nat → Int), k ≤ n ∧ x = .int .i64 k ∧ RowAt wr w.heap.size w.heap.size n n (lst n o) ∧ Below w.heap.size w wr ∧ Hid (StI G n to m i k o)) (fun x _ => n - (intOf x).toNat)
          case atStart => exact ⟨0, _, Nat.zero_le _, rfl, hr'.out, hB, hI⟩
          case round =>
            clear hr' hI hB p1
            clear o
            obtain ⟨k, o, hk, rfl, hr, hB, hI⟩ := hrel
            by_cases hltk : k < n
            · have p2 := (H'.out.below hB i hlti).2.2 k hltk
              have q1 := hr.cell hltk
              have q2 := hr.cell hlti
              have q3 := hr.frozen i
              rw [nth_lst hltk] at q1
              rw [nth_lst hlti] at q2
              have hst := fun x => hr.stored i x
              simp only [lst_set] at hst
              have hB2 := fun x => hB.setCell (p := ⟨w.heap.size, i, none⟩) (Nat.le_refl _) (.int .i64 x)
              have hI2 := hI.out.step hlti hltk hto
              have b1 := hI.out.b.le hltk
              have b2 := hI.out.b.le hlti
              have b3 := hI.out.ok.nn hltk
              have b4 := hI.out.ok.nn hlti
              have hself : rlx G to o i k = o i → StI G n to m i (k + 1) o := fun e => by rw [e, updF_self] at hI2; exact hI2
              have hc := rlx_cases G to o i k
              have hd := cnd_cases to o k
              change ∀ x, RowAt _ _ _ _ _ (lst n (updF o i x)) at hst
              generalize rlx G to o i k = R at *
              generalize cnd to o k = C at *
              obtain ⟨x, hx⟩ : ∃ x, o k = x := ⟨_, rfl⟩
              obtain ⟨y, hy⟩ : ∃ y, o i = y := ⟨_, rfl⟩
              obtain ⟨z, hz⟩ : ∃ z, G i k = z := ⟨_, rfl⟩
              rw [hx] at q1 b1 b3 hc hd
              rw [hy] at q2 b2 b4 hc hself
              rw [hz] at p2 hc
              have e1 : ((k : Int) == (to : Int)) = decide (k = to) := by rw [Bool.eq_iff_iff, beq_iff_eq, decide_eq_true_iff]; omega
              by_cases c1 : 0 < z
              · by_cases c2 : k = to
                · have hC : C = 1 := by omega
                  subst hC
                  subst c2
                  by_cases c3 : y = 0
                  · have d3 : (y == 0) = true := by rw [beq_iff_eq]; exact c3
                    have hR : R = 1 := by omega
                    rw [hR] at hI2
                    have hst1 := hst 1
                    have hB3 := hB2 1
                    have hst1' := Lib.hid hst1
                    have hB3' := Lib.hid hB3
                    have hI2' := Lib.hid hI2
                    have hx' := Lib.hid hx
                    have hy' := Lib.hid hy
                    have hz' := Lib.hid hz
                    clear hst1 hB3 hI2 hx hy hz
                    clear hc hd hself hst hB2 hr e1 hB
                    go_wp2
                    go_roundw
                    case rel => exact ⟨k + 1, _, by omega, by go_num, hst1'.out, hB3'.out, hI2'⟩
                    case measure => simp [intOf]; omega
                  · have d3 : (y == 0) = false := by rw [beq_eq_false_iff_ne]; exact c3
                    by_cases c4 : 1 < y
                    · have hR : R = 1 := by omega
                      rw [hR] at hI2
                      have hst1 := hst 1
                      have hB3 := hB2 1
                      have hst1' := Lib.hid hst1
                      have hB3' := Lib.hid hB3
                      have hI2' := Lib.hid hI2
                      have hx' := Lib.hid hx
                      have hy' := Lib.hid hy
                      have hz' := Lib.hid hz
                      clear hst1 hB3 hI2 hx hy hz
                      clear hc hd hself hst hB2 hr e1 hB
                      go_wp2
                      go_roundw
                      case rel => exact ⟨k + 1, _, by omega, by go_num, hst1'.out, hB3'.out, hI2'⟩
                      case measure => simp [intOf]; omega
                    · have hI3 := hself (by omega)
                      have hI3' := Lib.hid hI3
                      have hx' := Lib.hid hx
                      have hy' := Lib.hid hy
                      have hz' := Lib.hid hz
                      have hr' := Lib.hid hr
                      have hB' := Lib.hid hB
                      clear hI3 hx hy hz hr hB
                      clear hc hd hself hst hB2 e1 hI2
                      go_wp2
                      go_roundw
                      case rel => exact ⟨k + 1, _, by omega, by go_num, hr'.out, hB'.out, hI3'⟩
                      case measure => simp [intOf]; omega
                · have hC : C = x + 1 := by omega
                  subst hC
                  have d2 : ((k : Int) == (to : Int)) = false := by rw [e1]; exact decide_eq_false c2
                  have hn2 := Lib.hid c2
                  clear c2
                  by_cases c5 : 0 < x
                  · by_cases c3 : y = 0
                    · have d3 : (y == 0) = true := by rw [beq_iff_eq]; exact c3
                      have hR : R = x + 1 := by omega
                      rw [hR] at hI2
                      have hst1 := hst (x + 1)
                      have hB3 := hB2 (x + 1)
                      have hst1' := Lib.hid hst1
                      have hB3' := Lib.hid hB3
                      have hI2' := Lib.hid hI2
                      have hx' := Lib.hid hx
                      have hy' := Lib.hid hy
                      have hz' := Lib.hid hz
                      clear hst1 hB3 hI2 hx hy hz
                      clear hc hd hself hst hB2 hr e1 hB
                      go_wp2
                      go_roundw
                      case rel => exact ⟨k + 1, _, by omega, by go_num, hst1'.out, hB3'.out, hI2'⟩
                      case measure => simp [intOf]; omega
                    · have d3 : (y == 0) = false := by rw [beq_eq_false_iff_ne]; exact c3
                      by_cases c4 : x + 1 < y
                      · have hR : R = x + 1 := by omega
                        rw [hR] at hI2
                        have hst1 := hst (x + 1)
                        have hB3 := hB2 (x + 1)
                        have hst1' := Lib.hid hst1
                        have hB3' := Lib.hid hB3
                        have hI2' := Lib.hid hI2
                        have hx' := Lib.hid hx
                        have hy' := Lib.hid hy
                        have hz' := Lib.hid hz
                        clear hst1 hB3 hI2 hx hy hz
                        clear hc hd hself hst hB2 hr e1 hB
                        go_wp2
                        go_roundw
                        case rel => exact ⟨k + 1, _, by omega, by go_num, hst1'.out, hB3'.out, hI2'⟩
                        case measure => simp [intOf]; omega
                      · have hI3 := hself (by omega)
                        have hI3' := Lib.hid hI3
                        have hx' := Lib.hid hx
                        have hy' := Lib.hid hy
                        have hz' := Lib.hid hz
                        have hr' := Lib.hid hr
                        have hB' := Lib.hid hB
                        clear hI3 hx hy hz hr hB
                        clear hc hd hself hst hB2 e1 hI2
                        go_wp2
                        go_roundw
                        case rel => exact ⟨k + 1, _, by omega, by go_num, hr'.out, hB'.out, hI3'⟩
                        case measure => simp [intOf]; omega
                  · have c2 := hn2.out
                    have hI3 := hself (by omega)
                    have hI3' := Lib.hid hI3
                    have hx' := Lib.hid hx
                    have hy' := Lib.hid hy
                    have hz' := Lib.hid hz
                    have hr' := Lib.hid hr
                    have hB' := Lib.hid hB
                    clear hI3 hx hy hz hr hB
                    clear hc hd hself hst hB2 e1 hI2 c2 hn2
                    go_wp2
                    go_roundw
                    case rel => exact ⟨k + 1, _, by omega, by go_num, hr'.out, hB'.out, hI3'⟩
                    case measure => simp [intOf]; omega
              · have hI3 := hself (by omega)
                have hI3' := Lib.hid hI3
                have hx' := Lib.hid hx
                have hy' := Lib.hid hy
                have hz' := Lib.hid hz
                have hr' := Lib.hid hr
                have hB' := Lib.hid hB
                clear hI3 hx hy hz hr hB
                clear hc hd hself hst hB2 e1 hI2
                go_wp2
                go_roundw
                case rel => exact ⟨k + 1, _, by omega, by go_num, hr'.out, hB'.out, hI3'⟩
                case measure => simp [intOf]; omega
            · obtain rfl : n = k := by omega
              have hI2 := Lib.hid (hI.out.nextRow hto)
              clear hI
              have hr' := Lib.hid hr
              clear hr
              go_wp2
              go_roundw
              case rel => exact ⟨i + 1, _, by omega, by go_num, hr'.out, hB, hI2⟩
              case measure => simp [intOf]; omega
        · obtain rfl : n = i := by omega
          have hI2 := Lib.hid hI.out.nextSweep
          clear hI
          have hr' := Lib.hid hr
          clear hr
          go_wp2
          go_roundw
          case rel => exact ⟨m + 1, _, by omega, by go_num, hr'.out, hB, hI2⟩
          case measure => simp [intOf]; omega
    · obtain rfl : n = m := by omega
      have hM := hI.out.min hto
      have hb := hI.out.b
      clear hI
      have hM' := Lib.hid hM
      have hb' := Lib.hid hb
      have hr' := Lib.hid hr
      clear hM hb hr
      go_wp2
      go_ret
      exact ⟨_, o, rfl, hr'.out, hM'.out, hb'.out, hB⟩

end Go.Proofs.Ytblippeklbhepaa

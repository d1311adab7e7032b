/- A drawn text, told loosely: some text of few signs. No conditions but a readable code. -/
import Derived.Test.YtgpabfbnbmbmeaaGreatDoorDrawPB
import Derived.Test.YtgpabfbnbmbmeaaGreatDoorTextP
import Derived.Deep.Cut
import Derived.Deep.CutRange
import Derived.Deep.CutBlock
namespace Go.Proofs.YtgpabfbnbmbmeaaGreatDoor
open Go.Shelf Go.RowKit

def PicksT (c N M : Nat) (w : World) (e : Ending) (w' : World) : Prop := ∃ S : ByteArray, e = .returned (.string S) ∧ S.size ≤ M ∧ CurAt w' c N ∧ w.grownBy w' (some c)
set_option linter.unusedSimpArgs false in
set_option maxRecDepth 10000 in
set_option maxHeartbeats 4000000 in
theorem spoilt_any (c N : Nat) (T : ByteArray) (w : World) (h : CurAt w c N) (hN : N ≤ 100000) (hT : T.size ≤ 1000) :
    Calls Tryz.prog 48 #[.pointer (some ⟨c, 0, none⟩), .string T, .string ⟨#[45, 48, 49, 57, 32]⟩] w (PicksT c (N + 100) 1002 w) := by
  have c1 := pick_any c N 2 w h (by omega) (by omega) (by omega)
  have hlt := h.lt
  obtain ⟨L, hL⟩ : ∃ L, T.size = L := ⟨_, rfl⟩
  rw [hL] at hT
  clear h
  have c1' := Lib.hid c1
  have hL' := Lib.hid hL
  clear c1 hL
  go_enter Tryz.func48, Tryz.ntmps48
  go_wp2_with fail
  refine (c1'.out).mono ?_
  rintro e w1 ⟨v1, rfl, ⟨x, rfl, hx⟩, hc1, hg1⟩
  clear c1'
  have hc1' := Lib.hid hc1
  have hg1' := Lib.hid hg1
  clear hc1 hg1
  go_wp2
  go_loopw [1, 7] (fun t n wr => ∃ (S : ByteArray) (m : Nat), t = .string S ∧ n = .int .i64 m ∧ m ≤ 2 ∧ S.size + m ≤ L + 2 ∧ CurAt wr c (N + 2 + 20 * (2 - m)) ∧ w.grownBy wr (some c)) (fun _ n _ => (intOf n).toNat)
  case atStart => exact ⟨T, x + 1, rfl, by go_num, by omega, by have := hL'.out; omega, hc1'.out.mono (by omega), hg1'.out⟩
  case round =>
    obtain ⟨S, m, rfl, rfl, hm, hS, hc, hg⟩ := hrel
    obtain ⟨s, hs⟩ : ∃ s, S.size = s := ⟨_, rfl⟩
    rw [hs] at hS
    by_cases hm0 : 0 < m
    · have q0 : (0 : Int) < (m : Int) := by omega
      by_cases hs0 : 0 < s
      · have q1 : (0 : Int) < (s : Int) := by omega
        have hg' := Lib.hid hg
        clear hg
        go_wp2_with fail
        refine (pick_any c _ s wr hc (by omega) (by omega) (by omega)).mono ?_
        rintro e w2 ⟨v2, rfl, ⟨i, rfl, hi⟩, hc2, hg2⟩
        go_wp2_with fail
        refine (pick_any c _ 5 w2 hc2 (by omega) (by omega) (by omega)).mono ?_
        rintro e w3 ⟨v3, rfl, ⟨k, rfl, hk⟩, hc3, hg3⟩
        have hgg := hg'.out.trans (hg2.trans hg3)
        clear hc hc2 hg2 hg3
        have hgg' := Lib.hid hgg
        have hc3' := Lib.hid hc3
        clear hgg hc3
        have hkS : k < (⟨#[45, 48, 49, 57, 32]⟩ : ByteArray).size := hk
        obtain ⟨ch, hch⟩ : ∃ ch, (⟨#[45, 48, 49, 57, 32]⟩ : ByteArray)[k] = ch := ⟨_, rfl⟩
        have hcv := conv_new (ch.toNat : Int) ch rfl
        obtain ⟨w4, hw4⟩ : ∃ W, w3.alloc (.cells #[.int .u8 (ch.toNat : Int)] 5) = W := ⟨_, rfl⟩
        have hB4 : Below w3.heap.size w3 w4 := by rw [← hw4]; exact (Below.refl _ _).alloc (Nat.le_refl _) _
        have hc4 := hc3'.out.below hB4 hc3'.out.lt
        have hg4 := grown_below hgg'.out hB4 hgg'.out.size
        clear hc3' hgg' hB4
        have hw4' := Lib.hid hw4
        have hg4' := Lib.hid hg4
        clear hw4 hg4
        go_upto_region 6 with fail
        rw [hw4'.out]
        clear hcv hch hkS
        go_wp2_with fail
        refine (pick_any c _ 3 w4 hc4 (by omega) (by omega) (by omega)).mono ?_
        rintro e w5 ⟨v5, rfl, ⟨u, rfl, hu⟩, hc5, hg5⟩
        have hg6 := hg4'.out.trans hg5
        have f1 : (0 : Int) ≤ (i : Int) := by omega
        have f2 : (i : Int) ≤ (s : Int) := by omega
        have f3 : IntKind.i64.wrap ((i : Int) + 1) = (i : Int) + 1 := by rw [IntKind.wrap_i64]; omega
        have f4 : (i : Int) + 1 ≤ (s : Int) := by omega
        have f5 : IntKind.i64.wrap ((m : Int) - 1) = (m : Int) - 1 := by rw [IntKind.wrap_i64]; omega
        have f6 : min i s = i := Nat.min_eq_left (by omega)
        have f7 : ¬ 9223372036854775807 < i + 1 := by omega
        have f8 : ¬ 9223372036854775807 < i + 1 + (s - i) := by omega
        have f9 : ¬ 9223372036854775807 < i + 1 + (s - (i + 1)) := by omega
        have f10 : ¬ 9223372036854775807 < i + (s - (i + 1)) := by omega
        clear hc4 hg5
        have hu3 : u = 0 ∨ u = 1 ∨ u = 2 := by omega
        obtain rfl | rfl | rfl := hu3
        · have b0 : (((0 : Nat) : Int) == 0) = true := by rfl
          have b1 : (((0 : Nat) : Int) == 1) = false := by rfl
          have hsz : ((S.extract 0 i ++ ⟨#[ch]⟩) ++ S.extract i s).size ≤ s + 1 := by
            have e1 : (⟨#[ch]⟩ : ByteArray).size = 1 := rfl
            simp only [ByteArray.size_append, ByteArray.size_extract, hs, e1]
            omega
          have f11 : (0 : Int) ≤ (i : Int) + 1 := by omega
          have hc5' := Lib.hid hc5
          have hg6' := Lib.hid hg6
          have hsz' := Lib.hid hsz
          clear hc5 hg6 hsz
          go_upto_region 9 with fail
          refine wp_region_held_drew (S := (fun _ => True)) (by kernel_rfl) (by (try dsimp only); (all_goals trivial)) (fun hHeld => ?_)
          refine ly_q 0 (v := ?_) hHeld ?_
          try simp only [Act.put, lyA, lyB, lyC]
          refine ly_q 1 (v := ?_) hHeld ?_
          try simp only [Act.put, lyA, lyB, lyC]
          refine ly_q 2 (v := ?_) hHeld ?_
          try simp only [Act.put, lyA, lyB, lyC]
          refine ly_q 3 (v := ?_) hHeld ?_
          try simp only [Act.put, lyA, lyB, lyC]
          refine ly_q 4 (v := ?_) hHeld ?_
          try simp only [Act.put, lyA, lyB, lyC]
          refine ly_q 5 (v := ?_) hHeld ?_
          try simp only [Act.put, lyA, lyB, lyC]
          refine ly_q 6 (v := ?_) hHeld ?_
          try simp only [Act.put, lyA, lyB, lyC]
          refine ly_q 7 (v := ?_) hHeld ?_
          try simp only [Act.put, lyA, lyB, lyC]
          refine ly_q 8 (v := ?_) hHeld ?_
          try simp only [Act.put, lyA, lyB, lyC]
          refine ly_q 9 (v := ?_) hHeld ?_
          try simp only [Act.put, lyA, lyB, lyC]
          refine wpAnyH_done (by kernel_rfl) ?_ _
          go_wp2
          go_roundw
          case rel => exact ⟨((S.extract 0 i ++ ⟨#[ch]⟩) ++ S.extract i s), m - 1, rfl, by go_num, by omega, by have := hsz'.out; omega, (hc5'.out.heap (w' := w5.drew) rfl).mono (by omega), grownBy_heap hg6'.out rfl rfl hg6'.out.os hg6'.out.tape hg6'.out.output⟩
          case measure => simp [intOf]; omega
        · have b0 : (((1 : Nat) : Int) == 0) = false := by rfl
          have b1 : (((1 : Nat) : Int) == 1) = true := by rfl
          have hsz : ((S.extract 0 i ++ ⟨#[ch]⟩) ++ S.extract (i + 1) s).size ≤ s + 1 := by
            have e1 : (⟨#[ch]⟩ : ByteArray).size = 1 := rfl
            simp only [ByteArray.size_append, ByteArray.size_extract, hs, e1]
            omega
          have f11 : (0 : Int) ≤ (i : Int) + 1 := by omega
          have hc5' := Lib.hid hc5
          have hg6' := Lib.hid hg6
          have hsz' := Lib.hid hsz
          clear hc5 hg6 hsz
          go_upto_region 11 with fail
          refine wp_region_held_drew (S := (fun _ => True)) (by kernel_rfl) (by (try dsimp only); (all_goals trivial)) (fun hHeld => ?_)
          refine ly_q 0 (v := ?_) hHeld ?_
          try simp only [Act.put, lyA, lyB, lyC]
          refine ly_q 1 (v := ?_) hHeld ?_
          try simp only [Act.put, lyA, lyB, lyC]
          refine ly_q 2 (v := ?_) hHeld ?_
          try simp only [Act.put, lyA, lyB, lyC]
          refine ly_q 3 (v := ?_) hHeld ?_
          try simp only [Act.put, lyA, lyB, lyC]
          refine ly_q 4 (v := ?_) hHeld ?_
          try simp only [Act.put, lyA, lyB, lyC]
          refine ly_q 5 (v := ?_) hHeld ?_
          try simp only [Act.put, lyA, lyB, lyC]
          refine ly_q 6 (v := ?_) hHeld ?_
          try simp only [Act.put, lyA, lyB, lyC]
          refine ly_q 7 (v := ?_) hHeld ?_
          try simp only [Act.put, lyA, lyB, lyC]
          refine ly_q 8 (v := ?_) hHeld ?_
          try simp only [Act.put, lyA, lyB, lyC]
          refine ly_q 9 (v := ?_) hHeld ?_
          try simp only [Act.put, lyA, lyB, lyC]
          refine ly_q 10 (v := ?_) hHeld ?_
          try simp only [Act.put, lyA, lyB, lyC]
          refine wpAnyH_done (by kernel_rfl) ?_ _
          go_wp2
          go_roundw
          case rel => exact ⟨((S.extract 0 i ++ ⟨#[ch]⟩) ++ S.extract (i + 1) s), m - 1, rfl, by go_num, by omega, by have := hsz'.out; omega, (hc5'.out.heap (w' := w5.drew) rfl).mono (by omega), grownBy_heap hg6'.out rfl rfl hg6'.out.os hg6'.out.tape hg6'.out.output⟩
          case measure => simp [intOf]; omega
        · have b0 : (((2 : Nat) : Int) == 0) = false := by rfl
          have b1 : (((2 : Nat) : Int) == 1) = false := by rfl
          have hsz : (S.extract 0 i ++ S.extract (i + 1) s).size ≤ s + 1 := by
            have e1 : (⟨#[ch]⟩ : ByteArray).size = 1 := rfl
            simp only [ByteArray.size_append, ByteArray.size_extract, hs, e1]
            omega
          have f11 : (0 : Int) ≤ (i : Int) + 1 := by omega
          have hc5' := Lib.hid hc5
          have hg6' := Lib.hid hg6
          have hsz' := Lib.hid hsz
          clear hc5 hg6 hsz
          go_upto_region 7 with fail
          refine wp_region_held_drew (S := (fun _ => True)) (by kernel_rfl) (by (try dsimp only); (all_goals trivial)) (fun hHeld => ?_)
          refine ly_q 0 (v := ?_) hHeld ?_
          try simp only [Act.put, lyA, lyB, lyC]
          refine ly_q 1 (v := ?_) hHeld ?_
          try simp only [Act.put, lyA, lyB, lyC]
          refine ly_q 2 (v := ?_) hHeld ?_
          try simp only [Act.put, lyA, lyB, lyC]
          refine ly_q 3 (v := ?_) hHeld ?_
          try simp only [Act.put, lyA, lyB, lyC]
          refine ly_q 4 (v := ?_) hHeld ?_
          try simp only [Act.put, lyA, lyB, lyC]
          refine ly_q 5 (v := ?_) hHeld ?_
          try simp only [Act.put, lyA, lyB, lyC]
          refine ly_q 6 (v := ?_) hHeld ?_
          try simp only [Act.put, lyA, lyB, lyC]
          refine ly_q 7 (v := ?_) hHeld ?_
          try simp only [Act.put, lyA, lyB, lyC]
          refine ly_q 8 (v := ?_) hHeld ?_
          try simp only [Act.put, lyA, lyB, lyC]
          refine wpAnyH_done (by kernel_rfl) ?_ _
          go_wp2
          go_roundw
          case rel => exact ⟨(S.extract 0 i ++ S.extract (i + 1) s), m - 1, rfl, by go_num, by omega, by have := hsz'.out; omega, (hc5'.out.heap (w' := w5.drew) rfl).mono (by omega), grownBy_heap hg6'.out rfl rfl hg6'.out.os hg6'.out.tape hg6'.out.output⟩
          case measure => simp [intOf]; omega
      · have q1 : ¬ (0 : Int) < (s : Int) := by omega
        have hc' := Lib.hid hc
        have hg' := Lib.hid hg
        clear hc hg
        go_wp2
        go_ret
        exact ⟨S, rfl, by omega, hc'.out.mono (by omega), hg'.out⟩
    · have q0 : ¬ (0 : Int) < (m : Int) := by omega
      have hc' := Lib.hid hc
      have hg' := Lib.hid hg
      clear hc hg
      go_wp2
      go_ret
      exact ⟨S, rfl, by omega, hc'.out.mono (by omega), hg'.out⟩
end Go.Proofs.YtgpabfbnbmbmeaaGreatDoor

/- Drawn polynomials, told loosely: some list of a small size, in new memory. No conditions but small sizes. -/
import Derived.Test.YtgpabfbnbmbmeaaGreatDoorCur
import Derived.Test.YtgpabfbnbmbmeaaGreatDoorPolyOps
namespace Go.Proofs.YtgpabfbnbmbmeaaGreatDoor
open Go.RowKit

/-- It returns a list of at most L numbers in new memory that may be appended to; of the rest the cursor alone has turned. -/
def PicksP (c N L : Nat) (w : World) (e : Ending) (w' : World) : Prop := ∃ v xs, e = .returned v ∧ Grow w' w.heap.size v xs ∧ xs.length ≤ L ∧ CurAt w' c N ∧ w.grownBy w' (some c)

theorem l1Own_grow (v : Value) (xs : List Int) (w : World) (hv : IntsV w v xs) (hm : xs.length ≤ 1099511627776) :
    Calls Tryz.prog 75 #[v] w fun e w' => ∃ v', e = .returned v' ∧ Grow w' w.heap.size v' xs ∧ Below w.heap.size w w' := by
  have hB1 := (Below.refl w.heap.size w).alloc (Nat.le_refl _) (.cells #[] 3)
  have hv1 := hv.below hB1
  have hg := Grow.empty w (Nat.le_refl w.heap.size)
  go_enter Tryz.func75, Tryz.ntmps75
  go_wp2_with (at_builtin; refine wpList_append_ints rfl _ _ rfl w.heap.size _ v [] xs rfl rfl hg hv1 (by simp; omega) (by simp) ?_)
  intro v' w' hg' hgrow
  go_wp2
  go_ret
  exact ⟨_, rfl, hg', hg.belowB hB1 (Nat.le_refl _) (by simp) hgrow⟩

set_option maxHeartbeats 400000 in
theorem poTrim_grow (v : Value) (xs : List Int) (w : World) (hv : IntsV w v xs) (hm : xs.length ≤ 1099511627776) :
    Calls Tryz.prog 65 #[v] w fun e w' => ∃ v' ys, e = .returned v' ∧ Grow w' w.heap.size v' ys ∧ ys.length ≤ xs.length ∧ Below w.heap.size w w' := by
  have hv' := Lib.hid hv
  obtain ⟨ao, cap, rfl, ⟨hcap, -⟩, hcm, H⟩ := hv
  obtain ⟨n, hn⟩ : ∃ n, xs.length = n := ⟨_, rfl⟩
  rw [hn] at hm hv' hcap H ⊢
  have hn' := Lib.hid hn
  have H' := Lib.hid H
  clear hn H
  go_enter Tryz.func65, Tryz.ntmps65
  go_wp2
  go_loop [0] (fun p => ∃ k : Nat, k ≤ n ∧ p = .slice ao k cap) (fun p => match p with | .slice _ k _ => k | _ => 0)
  case atStart => exact ⟨n, Nat.le_refl _, rfl⟩
  case round =>
    obtain ⟨k, hk, rfl⟩ := hrel
    have hown := l1Own_grow _ _ w (hv'.out.take hk) (by rw [List.length_take]; omega)
    have hlk : (xs.take k).length ≤ n := by rw [List.length_take]; omega
    have hown' := Lib.hid hown
    clear hown
    by_cases h0 : 0 < k
    · obtain ⟨j, rfl⟩ : ∃ j, k = j + 1 := ⟨k - 1, by omega⟩
      obtain ⟨b, off, rfl, hc⟩ := H'.out j (by omega)
      by_cases hz : nth xs j = 0
      · rw [hz] at hc
        have hz' := Lib.hid hz
        clear hz
        go_wp2
        go_round
        case rel => exact ⟨j, by omega, rfl⟩
        case measure => simp
      · have hx : (nth xs j == 0) = false := by rw [beq_eq_false_iff_ne]; exact hz
        have hz' := Lib.hid hz
        have hlk' := Lib.hid hlk
        clear hz hlk
        go_wp2_with fail
        refine (hown'.out).mono ?_
        rintro e w1 ⟨v1, rfl, ho1, hB1⟩
        go_wp2
        go_ret
        exact ⟨_, _, rfl, ho1, hlk'.out, hB1⟩
    · obtain rfl : k = 0 := by omega
      have hlk' := Lib.hid hlk
      clear hlk
      go_wp2_with fail
      refine (hown'.out).mono ?_
      rintro e w1 ⟨v1, rfl, ho1, hB1⟩
      go_wp2
      go_ret
      exact ⟨_, _, rfl, ho1, hlk'.out, hB1⟩

def lenOf : Value → Nat | .slice _ k _ => k | _ => 0

set_option maxHeartbeats 2000000 in
theorem poly_any (c N : Nat) (w : World) (h : CurAt w c N) (hN : N ≤ 1000000) :
    Calls Tryz.prog 47 #[.pointer (some ⟨c, 0, none⟩)] w (PicksP c (N + 100) 9 w) := by
  have c1 := pick_any c N 6 w h (by omega) (by omega) (by omega)
  have hlt := h.lt
  have c1' := Lib.hid c1
  clear c1
  clear h
  go_enter Tryz.func47, Tryz.ntmps47
  go_wp2_with fail
  refine (c1'.out).mono ?_
  rintro e w1 ⟨v, rfl, ⟨n, rfl, hn⟩, hc1, hg1⟩
  go_wp2_with fail
  refine (one_any c (N + 2) 8 w1 hc1 (by omega) (by omega) (by omega)).mono ?_
  rintro e w2 ⟨v, rfl, ⟨b, rfl⟩, hc2, hg2⟩
  have hg := hg1.trans hg2
  clear hc1 hg1 hg2 c1'
  cases b
  · have hc2' := Lib.hid hc2
    have hg' := Lib.hid hg
    clear hc2 hg
    go_wp2
    go_loopw [4] (fun o wr => ∃ xs : List Int, xs.length ≤ n ∧ Grow wr w.heap.size o xs ∧ CurAt wr c (N + 4 + 6 * xs.length) ∧ w.grownBy wr (some c)) (fun o _ => n - lenOf o)
    case atStart => exact ⟨[], Nat.zero_le _, Grow.nil _ _, hc2'.out, hg'.out⟩
    case round =>
      obtain ⟨xs, hl, ho, hc, hg⟩ := hrel
      obtain ⟨wo, rfl⟩ : ∃ wo : World, wo = wr := ⟨_, rfl⟩
      obtain ⟨ao, cap, rfl⟩ := ho.shape
      obtain ⟨k, hk⟩ : ∃ k, xs.length = k := ⟨_, rfl⟩
      rw [hk] at hl hc ho ⊢
      have hsz := hg.size
      have hk' := Lib.hid hk
      have ho' := Lib.hid ho
      have hg' := Lib.hid hg
      clear hk ho hg
      by_cases hkm : k < n
      · go_wp2_with fail
        refine (pick_any c _ 41 wo hc (by omega) (by omega) (by omega)).mono ?_
        rintro e w3 ⟨v, rfl, ⟨x, rfl, hx⟩, hc3, hg3⟩
        go_wp2_with fail
        refine (among_list c _ [1000, 1000000, -1000000] w3 3 hc3 (by omega) rfl (by omega) (by omega)).mono ?_
        rintro e w4 ⟨v, rfl, ⟨y, rfl, hy⟩, hc4, hg4⟩
        go_wp2_with fail
        refine (among_list c _ [0, 1, -1, 2, -3, 5, (x : Int) - 20, y] w4 8 hc4 (by omega) rfl (by omega) (by omega)).mono ?_
        rintro e w5 ⟨v, rfl, ⟨z, rfl, hz⟩, hc5, hg5⟩
        have hgg := hg3.trans (hg4.trans hg5)
        have ho5 := ho'.out.kept hgg (fun g e => by cases e; exact hlt)
        have hg6 := hg'.out.trans hgg
        have hl9 : xs.length ≤ 1099511627776 := by rw [hk'.out]; omega
        have hsz5 := hg6.size
        have hl9' := Lib.hid hl9
        have hy' := Lib.hid hy
        have hz' := Lib.hid hz
        have hgg' := Lib.hid hgg
        have hg3' := Lib.hid hg3
        have hg4' := Lib.hid hg4
        have hg5' := Lib.hid hg5
        clear hl9 hy hz hgg hg3 hg4 hg5
        go_wp2_with (at_builtin; refine wpList_append_int rfl _ _ rfl w.heap.size (.slice ao k cap) xs z _ rfl rfl ho5 hl9'.out hsz5 ?_)
        intro v' w' hg' hgrow
        have hb5 := ho5.block
        have hc7 := hc5.kept hgrow (fun g e => Nat.lt_of_lt_of_le hlt (hb5 g e))
        have hg7 := grown_new hg6 hgrow (fun g e => hb5 g e)
        have hk1 : (xs ++ [z]).length = k + 1 := by rw [List.length_append, hk'.out]; rfl
        obtain ⟨ao', cap', rfl⟩ := hg'.shape
        have hk1' := Lib.hid hk1
        have hgrow' := Lib.hid hgrow
        clear hk1 hgrow
        go_wp2
        go_roundw
        case rel => exact ⟨xs ++ [z], by rw [hk1'.out]; omega, hg', by rw [hk1'.out]; exact hc7.mono (by omega), hg7⟩
        case measure => show n - (xs ++ [z]).length < n - k; rw [hk1'.out]; omega
      · have hr := ho'.out.read
        have hl9 : xs.length ≤ 9 := by rw [hk'.out]; omega
        have hl9' := Lib.hid hl9
        clear hl9
        go_wp2_with fail
        refine (poTrim_grow _ xs wo hr (by have := hl9'.out; omega)).mono ?_
        rintro e w3 ⟨v, ys, rfl, hy, hyl, hB⟩
        have hg8 := grown_below hg'.out hB hsz
        have hc8 := hc.below hB (by omega)
        have hyl' := Lib.hid hyl
        clear hyl
        go_wp2
        go_ret
        exact ⟨_, ys, rfl, hy.mono hsz, Nat.le_trans hyl'.out hl9'.out, hc8.mono (by omega), hg8⟩
  · have hc2' := Lib.hid hc2
    have hg' := Lib.hid hg
    clear hc2 hg
    go_wp2
    go_loopw [4] (fun o wr => ∃ xs : List Int, xs.length ≤ 9 ∧ Grow wr w.heap.size o xs ∧ CurAt wr c (N + 4 + 6 * xs.length) ∧ w.grownBy wr (some c)) (fun o _ => 9 - lenOf o)
    case atStart => exact ⟨[], Nat.zero_le _, Grow.nil _ _, hc2'.out, hg'.out⟩
    case round =>
      obtain ⟨xs, hl, ho, hc, hg⟩ := hrel
      obtain ⟨wo, rfl⟩ : ∃ wo : World, wo = wr := ⟨_, rfl⟩
      obtain ⟨ao, cap, rfl⟩ := ho.shape
      obtain ⟨k, hk⟩ : ∃ k, xs.length = k := ⟨_, rfl⟩
      rw [hk] at hl hc ho ⊢
      have hsz := hg.size
      have hk' := Lib.hid hk
      have ho' := Lib.hid ho
      have hg' := Lib.hid hg
      clear hk ho hg
      by_cases hkm : k < 9
      · go_wp2_with fail
        refine (pick_any c _ 41 wo hc (by omega) (by omega) (by omega)).mono ?_
        rintro e w3 ⟨v, rfl, ⟨x, rfl, hx⟩, hc3, hg3⟩
        go_wp2_with fail
        refine (among_list c _ [1000, 1000000, -1000000] w3 3 hc3 (by omega) rfl (by omega) (by omega)).mono ?_
        rintro e w4 ⟨v, rfl, ⟨y, rfl, hy⟩, hc4, hg4⟩
        go_wp2_with fail
        refine (among_list c _ [0, 1, -1, 2, -3, 5, (x : Int) - 20, y] w4 8 hc4 (by omega) rfl (by omega) (by omega)).mono ?_
        rintro e w5 ⟨v, rfl, ⟨z, rfl, hz⟩, hc5, hg5⟩
        have hgg := hg3.trans (hg4.trans hg5)
        have ho5 := ho'.out.kept hgg (fun g e => by cases e; exact hlt)
        have hg6 := hg'.out.trans hgg
        have hl9 : xs.length ≤ 1099511627776 := by rw [hk'.out]; omega
        have hsz5 := hg6.size
        have hl9' := Lib.hid hl9
        have hy' := Lib.hid hy
        have hz' := Lib.hid hz
        have hgg' := Lib.hid hgg
        have hg3' := Lib.hid hg3
        have hg4' := Lib.hid hg4
        have hg5' := Lib.hid hg5
        clear hl9 hy hz hgg hg3 hg4 hg5
        go_wp2_with (at_builtin; refine wpList_append_int rfl _ _ rfl w.heap.size (.slice ao k cap) xs z _ rfl rfl ho5 hl9'.out hsz5 ?_)
        intro v' w' hg' hgrow
        have hb5 := ho5.block
        have hc7 := hc5.kept hgrow (fun g e => Nat.lt_of_lt_of_le hlt (hb5 g e))
        have hg7 := grown_new hg6 hgrow (fun g e => hb5 g e)
        have hk1 : (xs ++ [z]).length = k + 1 := by rw [List.length_append, hk'.out]; rfl
        obtain ⟨ao', cap', rfl⟩ := hg'.shape
        have hk1' := Lib.hid hk1
        have hgrow' := Lib.hid hgrow
        clear hk1 hgrow
        go_wp2
        go_roundw
        case rel => exact ⟨xs ++ [z], by rw [hk1'.out]; omega, hg', by rw [hk1'.out]; exact hc7.mono (by omega), hg7⟩
        case measure => show 9 - (xs ++ [z]).length < 9 - k; rw [hk1'.out]; omega
      · have hr := ho'.out.read
        have hl9 : xs.length ≤ 9 := by rw [hk'.out]; omega
        have hl9' := Lib.hid hl9
        clear hl9
        go_wp2_with fail
        refine (poTrim_grow _ xs wo hr (by have := hl9'.out; omega)).mono ?_
        rintro e w3 ⟨v, ys, rfl, hy, hyl, hB⟩
        have hg8 := grown_below hg'.out hB hsz
        have hc8 := hc.below hB (by omega)
        have hyl' := Lib.hid hyl
        clear hyl
        go_wp2
        go_ret
        exact ⟨_, ys, rfl, hy.mono hsz, Nat.le_trans hyl'.out hl9'.out, hc8.mono (by omega), hg8⟩

/-- One more number behind a list that is the call's own. -/
theorem push_end {c N L : Nat} {w wo w' : World} {v v' : Value} {xs : List Int} {z : Int} (hlt : c < w.heap.size) (ho : Grow wo w.heap.size v xs) (hc : CurAt wo c N) (hg : w.grownBy wo (some c))
    (hg' : Grow w' w.heap.size v' (xs ++ [z])) (hgrow : wo.grownBy w' v.ownBlock) (hl : xs.length + 1 ≤ L) : Grow w' w.heap.size v' (xs ++ [z]) ∧ (xs ++ [z]).length ≤ L ∧ CurAt w' c N ∧ w.grownBy w' (some c) := by
  have hb := ho.block
  refine ⟨hg', by rw [List.length_append]; exact hl, hc.kept hgrow (fun g e => Nat.lt_of_lt_of_le hlt (hb g e)), grown_new hg hgrow (fun g e => hb g e)⟩

set_option maxHeartbeats 2000000 in
theorem anyPoly_any (c N : Nat) (w : World) (h : CurAt w c N) (hN : N ≤ 100000) :
    Calls Tryz.prog 24 #[.pointer (some ⟨c, 0, none⟩)] w (PicksP c (N + 200) 11 w) := by
  have c1 := poly_any c N w h (by omega)
  have hlt := h.lt
  have c1' := Lib.hid c1
  clear c1
  clear h
  go_enter Tryz.func24, Tryz.ntmps24
  go_wp2_with fail
  refine (c1'.out).mono ?_
  rintro e w1 ⟨v, xs, rfl, ho, hl, hc1, hg1⟩
  go_wp2_with fail
  refine (pick_any c _ 24 w1 hc1 (by omega) (by omega) (by omega)).mono ?_
  rintro e w2 ⟨v2, rfl, ⟨x, rfl, hx⟩, hc2, hg2⟩
  have hg := hg1.trans hg2
  have hsz := hg.size
  replace ho := ho.kept hg2 (fun g e => by cases e; exact hlt)
  have hl2 : xs.length ≤ 1099511627776 := by omega
  have hl' := Lib.hid hl
  have hl2' := Lib.hid hl2
  clear hl hl2
  clear hc1 hg1 hg2 c1'
  by_cases h0 : x = 0
  · subst h0
    go_wp2_with (at_builtin; refine wpList_append_int rfl _ _ rfl w.heap.size v xs 0 _ rfl rfl ho hl2'.out hsz ?_)
    intro v' w' hg' hgrow
    obtain ⟨q1, q2, q3, q4⟩ := push_end (L := 10) hlt ho hc2 hg hg' hgrow (by have := hl'.out; omega)
    have q2' := Lib.hid q2
    clear q2
    go_wp2
    go_ret
    exact ⟨_, _, rfl, q1, by have := q2'.out; omega, q3.mono (by omega), q4⟩
  by_cases h1 : x = 1
  · subst h1
    go_wp2_with fail
    refine (among_list c _ [1000001, -1000001] w2 2 hc2 (by omega) rfl (by omega) (by omega)).mono ?_
    rintro e w3 ⟨v3, rfl, ⟨z, rfl, hz⟩, hc3, hg3⟩
    replace ho := ho.kept hg3 (fun g e => by cases e; exact hlt)
    replace hg := hg.trans hg3
    replace hsz := hg.size
    have hz' := Lib.hid hz
    clear hz
    go_wp2_with (at_builtin; refine wpList_append_int rfl _ _ rfl w.heap.size v xs z _ rfl rfl ho hl2'.out hsz ?_)
    intro v' w' hg' hgrow
    obtain ⟨q1, q2, q3, q4⟩ := push_end (L := 10) hlt ho hc3 hg hg' hgrow (by have := hl'.out; omega)
    have q2' := Lib.hid q2
    clear q2
    go_wp2
    go_ret
    exact ⟨_, _, rfl, q1, by have := q2'.out; omega, q3.mono (by omega), q4⟩
  by_cases h2 : x = 2
  · subst h2
    have ho' := Lib.hid ho
    have hc2' := Lib.hid hc2
    have hg' := Lib.hid hg
    clear ho hc2 hg
    go_wp2
    go_loopw [3] (fun o wr => ∃ ys : List Int, ys.length ≤ 10 ∧ Grow wr w.heap.size o ys ∧ CurAt wr c (N + 102 + 2 * ys.length) ∧ w.grownBy wr (some c)) (fun o _ => 10 - lenOf o)
    case atStart => exact ⟨xs, by have := hl'.out; omega, ho'.out, hc2'.out.mono (by omega), hg'.out⟩
    case round =>
      obtain ⟨ys, hl, ho, hc, hg⟩ := hrel
      obtain ⟨wo, rfl⟩ : ∃ wo : World, wo = wr := ⟨_, rfl⟩
      obtain ⟨ao, cap, rfl⟩ := ho.shape
      obtain ⟨k, hk⟩ : ∃ k, ys.length = k := ⟨_, rfl⟩
      rw [hk] at hl hc ho ⊢
      have hk' := Lib.hid hk
      have ho' := Lib.hid ho
      have hg' := Lib.hid hg
      clear hk ho hg
      go_wp2_with fail
      refine (pick_any c _ 2 wo hc (by omega) (by omega) (by omega)).mono ?_
      rintro e w3 ⟨v, rfl, ⟨y, rfl, hy⟩, hc3, hg3⟩
      have ho3 := ho'.out.kept hg3 (fun g e => by cases e; exact hlt)
      have hg4 := hg'.out.trans hg3
      have hsz4 := hg4.size
      by_cases hkm : k < 9 + y
      · have hl9 : ys.length ≤ 1099511627776 := by rw [hk'.out]; omega
        have hl9' := Lib.hid hl9
        clear hl9
        go_wp2_with (at_builtin; refine wpList_append_int rfl _ _ rfl w.heap.size (.slice ao k cap) ys 1 _ rfl rfl ho3 hl9'.out hsz4 ?_)
        intro v' w' hgn hgrow
        rw [← hk'.out] at ho3
        obtain ⟨q1, q2, q3, q4⟩ := push_end (L := 10) hlt ho3 hc3 hg4 hgn (by rw [hk'.out]; exact hgrow) (by rw [hk'.out]; omega)
        have hk1 : (ys ++ [(1 : Int)]).length = k + 1 := by rw [List.length_append, hk'.out]; rfl
        obtain ⟨ao', cap', rfl⟩ := q1.shape
        have hk1' := Lib.hid hk1
        have q2' := Lib.hid q2
        have hgrow' := Lib.hid hgrow
        clear hk1 q2 hgrow
        go_wp2
        go_roundw
        case rel => exact ⟨ys ++ [1], q2'.out, q1, by rw [hk1'.out]; exact q3.mono (by omega), q4⟩
        case measure => show 10 - (ys ++ [(1 : Int)]).length < 10 - k; rw [hk1'.out]; omega
      · have hl9 : ys.length ≤ 10 := by rw [hk'.out]; exact hl
        have hl9' := Lib.hid hl9
        clear hl9
        go_wp2
        go_ret
        exact ⟨_, ys, rfl, ho3, by have := hl9'.out; omega, hc3.mono (by omega), hg4⟩
  · have b0 : ((x : Int) == 0) = false := by rw [beq_eq_false_iff_ne]; omega
    have b1 : ((x : Int) == 1) = false := by rw [beq_eq_false_iff_ne]; omega
    have b2 : ((x : Int) == 2) = false := by rw [beq_eq_false_iff_ne]; omega
    go_wp2
    go_ret
    exact ⟨_, _, rfl, ho, by have := hl'.out; omega, hc2.mono (by omega), hg⟩

/-- It returns a small list. -/
def DrawI (w : World) (e : Ending) (w' : World) : Prop := ∃ v xs, e = .returned v ∧ IntsV w' v xs ∧ xs.length ≤ 20 ∧ Below w.heap.size w w'
/-- It returns two small lists. -/
def DrawII (w : World) (e : Ending) (w' : World) : Prop := ∃ v u xs ys, e = .returned (.tuple #[v, u]) ∧ IntsV w' v xs ∧ xs.length ≤ 20 ∧ IntsV w' u ys ∧ ys.length ≤ 20 ∧ Below w.heap.size w w'
/-- It returns a small list and a small number. -/
def DrawIn (w : World) (e : Ending) (w' : World) : Prop := ∃ v xs x, e = .returned (.tuple #[v, .int .i64 x]) ∧ IntsV w' v xs ∧ xs.length ≤ 20 ∧ (-10 ≤ x ∧ x ≤ 10) ∧ Below w.heap.size w w'






theorem cur_below {c : Nat} {w w1 w2 : World} (h : Below c w w1) (hg : w1.grownBy w2 (some c)) (hs : c < w1.heap.size) : Below c w w2 :=
  h.grown hg (by omega) (fun k hk => by cases hk; exact Nat.le_refl _)

end Go.Proofs.YtgpabfbnbmbmeaaGreatDoor

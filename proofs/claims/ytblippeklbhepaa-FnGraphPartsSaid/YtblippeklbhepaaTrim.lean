/- A list without its zeros at the end, as a polynomial if it is one: the reference's poIf and the program's polynomial. -/
import Derived.Test.YtblippeklbhepaaPolyIs
namespace Go.Proofs.Ytblippeklbhepaa
open Go.RowKit

theorem l1Own_any (v : Value) (xs : List Int) (w : World) (hv : IntsV w v xs) (hm : xs.length ≤ 1099511627776) :
    Calls Try.prog 115 #[v] w (RetO Own xs w) := by
  have hB1 := (Below.refl w.heap.size w).alloc (Nat.le_refl _) (.cells #[] 3)
  have hv1 := hv.below hB1
  have hg := Grow.empty w (Nat.le_refl w.heap.size)
  go_enter Try.func115, Try.ntmps115
  go_wp2_with (at_builtin; refine wpList_append_ints rfl _ _ rfl w.heap.size _ v [] xs rfl rfl hg hv1 (by simp; omega) (by simp) ?_)
  intro v' w' hg' hgrow
  go_wp2
  go_ret
  exact ⟨_, rfl, hg'.own, hg.belowB hB1 (Nat.le_refl _) (by simp) hgrow⟩

theorem clone_any (v : Value) (xs : List Int) (w : World) (hv : IntsV w v xs) (hm : xs.length ≤ 1099511627776) :
    Calls Try.prog 95 #[v] w (RetO Own xs w) := by
  have hB1 := (Below.refl w.heap.size w).alloc (Nat.le_refl _) (.cells #[] 3)
  have hv1 := hv.below hB1
  have hg := Grow.empty w (Nat.le_refl w.heap.size)
  obtain ⟨ao, cap, rfl, ⟨_, hnl⟩, _, H⟩ := hv
  have hnil := fun w' => Lib.run_eql_slice_nil (P := Try.prog) w' 39 3 ao xs.length cap 0 0 Try.underlying39
  cases ao with
  | none =>
    have hxs : xs = [] := by
      cases xs with
      | nil => rfl
      | cons y ys => obtain ⟨b, off, e, _⟩ := H 0 (by simp); cases e
    subst hxs
    obtain rfl := hnl rfl
    have hnil2 : ∀ w', (binOp .eql 39 (.slice none 0 0) (.slice none 0 0)).run Try.prog w' = .ok (.bool true) w' := hnil
    clear H hv1 hg hB1 hnil hnl
    show Calls Try.prog 95 #[.slice none 0 0] w _
    go_enter Try.func95, Try.ntmps95
    go_wp2
    go_ret
    exact ⟨_, rfl, Own.nil _ _ _, Below.refl _ _⟩
  | some ad =>
    clear H hnl
    go_enter Try.func95, Try.ntmps95
    go_wp2_with (at_builtin; refine wpList_append_ints rfl _ _ rfl w.heap.size _ (.slice (some ad) xs.length cap) [] xs rfl rfl hg hv1 (by simp; omega) (by simp) ?_)
    intro v' w' hg' hgrow
    go_wp2
    go_ret
    exact ⟨_, rfl, hg'.own, hg.belowB hB1 (Nat.le_refl _) (by simp) hgrow⟩

/-- The length without the zeros at the end, of the first k. -/
def trimN (xs : List Int) : Nat → Nat
  | 0 => 0
  | k + 1 => if nth xs k = 0 then trimN xs k else k + 1
def trimZ (xs : List Int) : List Int := xs.take (trimN xs xs.length)
theorem trimN_le (xs : List Int) : ∀ k, trimN xs k ≤ k
  | 0 => Nat.le_refl _
  | k + 1 => by
    unfold trimN
    split
    · exact Nat.le_succ_of_le (trimN_le xs k)
    · exact Nat.le_refl _
theorem trimZ_len (xs : List Int) : (trimZ xs).length ≤ xs.length := by
  unfold trimZ; rw [List.length_take]; omega

/-- The first k elements, read through the same address. -/
theorem IntsV.take {w : World} {ao : Option Addr} {n cap : Nat} {xs : List Int} (h : IntsV w (.slice ao n cap) xs) {k : Nat} (hk : k ≤ n) : IntsV w (.slice ao k cap) (xs.take k) := by
  obtain ⟨ao', cap', e, ⟨h1, h2⟩, h3, H⟩ := h
  obtain ⟨rfl, rfl, rfl⟩ := Value.slice.inj e
  have hl : (xs.take k).length = k := by rw [List.length_take]; omega
  refine ⟨ao, cap, by rw [hl], ⟨by omega, h2⟩, h3, fun i hi => ?_⟩
  obtain ⟨b, off, e, hc⟩ := H i (by omega)
  refine ⟨b, off, e, ?_⟩
  rw [hc]
  rw [nth_eq hi, nth_eq (by omega), List.getElem_take]

set_option maxHeartbeats 400000 in
theorem poTrim_any (v : Value) (xs : List Int) (w : World) (hv : IntsV w v xs) (hm : xs.length ≤ 1099511627776) :
    Calls Try.prog 90 #[v] w (RetO Own (trimZ xs) w) := by
  have hv' := Lib.hid hv
  obtain ⟨ao, cap, rfl, ⟨hcap, -⟩, hcm, H⟩ := hv
  obtain ⟨n, hn⟩ : ∃ n, xs.length = n := ⟨_, rfl⟩
  rw [hn] at hm hv' hcap H ⊢
  have hn' := Lib.hid hn
  have H' := Lib.hid H
  clear hn H
  go_enter Try.func90, Try.ntmps90
  go_wp2
  go_loop [0] (fun p => ∃ k : Nat, k ≤ n ∧ p = .slice ao k cap ∧ trimN xs k = trimN xs n) (fun p => match p with | .slice _ k _ => k | _ => 0)
  case atStart => exact ⟨n, Nat.le_refl _, rfl, rfl⟩
  case round =>
    obtain ⟨k, hk, rfl, ht⟩ := hrel
    have ht' := Lib.hid ht
    clear ht
    by_cases h0 : 0 < k
    · obtain ⟨j, rfl⟩ : ∃ j, k = j + 1 := ⟨k - 1, by omega⟩
      obtain ⟨b, off, rfl, hc⟩ := H'.out j (by omega)
      by_cases hz : nth xs j = 0
      · rw [hz] at hc
        have hz' := Lib.hid hz
        clear hz
        go_wp2
        go_round
        case rel => exact ⟨j, by omega, rfl, by rw [← ht'.out, trimN, if_pos hz'.out]⟩
        case measure => simp
      · have hz' := Lib.hid hz
        have hx : (nth xs j == 0) = false := by rw [beq_eq_false_iff_ne]; exact hz
        clear hz
        have hto := trimN_le xs n
        have hown := l1Own_any _ _ w (hv'.out.take hk) (by rw [List.length_take]; omega)
        have hown' := Lib.hid hown
        clear hown
        go_wp2_with fail
        refine hown'.out.mono ?_
        rintro e w1 ⟨v1, rfl, ho1, hB1⟩
        go_wp2
        go_ret
        refine ⟨_, rfl, ?_, hB1⟩
        have : trimN xs n = j + 1 := by rw [← ht'.out, trimN, if_neg hz'.out]
        rw [trimZ, hn'.out, this]; exact ho1
    · obtain rfl : k = 0 := by omega
      have hown := l1Own_any _ _ w (hv'.out.take hk) (by rw [List.length_take]; omega)
      have hown' := Lib.hid hown
      clear hown
      go_wp2_with fail
      refine hown'.out.mono ?_
      rintro e w1 ⟨v1, rfl, ho1, hB1⟩
      go_wp2
      go_ret
      refine ⟨_, rfl, ?_, hB1⟩
      rw [trimZ, hn'.out, ← ht'.out]; exact ho1

/-- What poIf and polynomial return: the list without its zeros at the end, if it is a polynomial. -/
def ifPoly (xs : List Int) : List Int × Bool := if polyB (trimZ xs) = true then (trimZ xs, true) else ([], false)
theorem ifPoly_no {xs : List Int} (h : polyB (trimZ xs) = false) : ifPoly xs = ([], false) := by simp [ifPoly, h]
theorem ifPoly_yes {xs : List Int} (h : polyB (trimZ xs) = true) : ifPoly xs = (trimZ xs, true) := by simp [ifPoly, h]
theorem polyB_le9 {xs : List Int} (h : polyB xs = true) : xs.length ≤ 9 := by
  rcases Nat.lt_or_ge 9 xs.length with h1 | h1
  · rw [polyB_len h1] at h; cases h
  · exact h1
theorem ifPoly_len (xs : List Int) : (ifPoly xs).1.length ≤ 9 := by
  cases h : polyB (trimZ xs)
  · rw [ifPoly_no h]; simp
  · rw [ifPoly_yes h]; exact polyB_le9 h

set_option maxHeartbeats 400000 in
theorem poIf_any (v : Value) (xs : List Int) (w : World) (hv : IntsV w v xs) (hm : xs.length ≤ 1099511627776) :
    Calls Try.prog 85 #[v] w (RetOB Own (ifPoly xs) w) := by
  have hl := trimZ_len xs
  go_enter Try.func85, Try.ntmps85
  go_wp2_with fail
  refine (poTrim_any v xs w hv hm).mono ?_
  rintro e w1 ⟨v1, rfl, ho1, hB1⟩
  go_wp2_with fail
  refine (poGood_any _ (trimZ xs) _ ho1.read (by omega)).mono ?_
  rintro e w2 ⟨rfl, rfl⟩
  cases hb : polyB (trimZ xs)
  · have ev := Lib.hid (ifPoly_no hb)
    clear hb
    go_wp2
    go_ret2
    rw [ev.out]
    exact ⟨_, rfl, Own.nil _ _ _, hB1⟩
  · have ev := Lib.hid (ifPoly_yes hb)
    clear hb
    go_wp2
    go_ret2
    rw [ev.out]
    exact ⟨_, rfl, ho1, hB1⟩

set_option maxHeartbeats 400000 in
theorem polynomial_any (v : Value) (xs : List Int) (w : World) (hv : IntsV w v xs) (hm : xs.length ≤ 1099511627776) :
    Calls Try.prog 82 #[v] w (RetOB Own (ifPoly xs) w) := by
  have hv' := Lib.hid hv
  obtain ⟨ao, cap, rfl, ⟨hcap, -⟩, hcm, H⟩ := hv
  obtain ⟨n, hn⟩ : ∃ n, xs.length = n := ⟨_, rfl⟩
  rw [hn] at hm hv' hcap H ⊢
  have hn' := Lib.hid hn
  have H' := Lib.hid H
  clear hn H
  go_enter Try.func82, Try.ntmps82
  go_wp2
  go_loop [0] (fun p => ∃ k : Nat, k ≤ n ∧ p = .slice ao k cap ∧ trimN xs k = trimN xs n) (fun p => match p with | .slice _ k _ => k | _ => 0)
  case atStart => exact ⟨n, Nat.le_refl _, rfl, rfl⟩
  case round =>
    obtain ⟨k, hk, rfl, ht⟩ := hrel
    have ht' := Lib.hid ht
    clear ht
    by_cases h0 : 0 < k
    · obtain ⟨j, rfl⟩ : ∃ j, k = j + 1 := ⟨k - 1, by omega⟩
      obtain ⟨b, off, rfl, hc⟩ := H'.out j (by omega)
      by_cases hz : nth xs j = 0
      · rw [hz] at hc
        have hz' := Lib.hid hz
        clear hz
        go_wp2
        go_round
        case rel => exact ⟨j, by omega, rfl, by rw [← ht'.out, trimN, if_pos hz'.out]⟩
        case measure => simp
      · have hz' := Lib.hid hz
        have hx : (nth xs j == 0) = false := by rw [beq_eq_false_iff_ne]; exact hz
        clear hz
        have et : trimZ xs = xs.take (j + 1) := by rw [trimZ, hn'.out, ← ht'.out, trimN, if_neg hz'.out]
        have et' := Lib.hid et
        clear et
        have hp := isPolynomial_any _ _ w (hv'.out.take hk) (by rw [List.length_take]; omega)
        have hcl := fun w' hB => clone_any _ _ w' ((hv'.out.take hk).below hB) (by rw [List.length_take]; omega)
        rw [← et'.out] at hp
        have hp' := Lib.hid hp
        have hcl' := Lib.hid hcl
        clear hp hcl
        go_wp2_with fail
        refine hp'.out.mono ?_
        rintro e w1 ⟨rfl, hB1⟩
        cases hb : polyB (trimZ xs)
        · have ev := Lib.hid (ifPoly_no hb)
          clear hb
          go_wp2
          go_ret2
          rw [ev.out]
          exact ⟨_, rfl, Own.nil _ _ _, hB1⟩
        · have ev := Lib.hid (ifPoly_yes hb)
          clear hb
          go_wp2_with fail
          refine (hcl'.out _ hB1).mono ?_
          rintro e w2 ⟨v2, rfl, ho2, hB2⟩
          have hs := hB1.size
          go_wp2
          go_ret2
          rw [ev.out]
          exact ⟨_, rfl, by rw [et'.out]; exact ho2.mono hs (Nat.le_refl _), hB1.trans (hB2.mono hs)⟩
    · obtain rfl : k = 0 := by omega
      have et : trimZ xs = xs.take 0 := by rw [trimZ, hn'.out, ← ht'.out]; rfl
      have et' := Lib.hid et
      clear et
      have hp := isPolynomial_any _ _ w (hv'.out.take hk) (by rw [List.length_take]; omega)
      have hcl := fun w' hB => clone_any _ _ w' ((hv'.out.take hk).below hB) (by rw [List.length_take]; omega)
      have hp' := Lib.hid hp
      have hcl' := Lib.hid hcl
      clear hp hcl
      go_wp2_with fail
      refine hp'.out.mono ?_
      rintro e w1 ⟨rfl, hB1⟩
      rw [show polyB (xs.take 0) = true from rfl]
      have ev := Lib.hid (ifPoly_yes (xs := xs) (by rw [et'.out]; rfl))
      go_wp2_with fail
      refine (hcl'.out _ hB1).mono ?_
      rintro e w2 ⟨v2, rfl, ho2, hB2⟩
      have hs := hB1.size
      go_wp2
      go_ret2
      rw [ev.out]
      exact ⟨_, rfl, by rw [et'.out]; exact ho2.mono hs (Nat.le_refl _), hB1.trans (hB2.mono hs)⟩

end Go.Proofs.Ytblippeklbhepaa

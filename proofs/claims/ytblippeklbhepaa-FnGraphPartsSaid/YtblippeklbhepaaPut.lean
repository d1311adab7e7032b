/- Lists of rising numbers: the reference's words on them. No conditions but lengths far beyond any machine. -/
import Derived.Test.YtblippeklbhepaaTrim
namespace Go.Proofs.Ytblippeklbhepaa
open Go.RowKit

theorem nth_left {A R : List Int} {k : Nat} (h : k < A.length) : nth (A ++ R) k = nth A k := by
  unfold nth; rw [List.getElem?_append_left h]
theorem nth_right {A R : List Int} {k : Nat} (h : A.length ≤ k) : nth (A ++ R) k = nth R (k - A.length) := by
  unfold nth; rw [List.getElem?_append_right h]

/-- The elements from k on, read through a later address. -/
theorem IntsV.drop {w : World} {b off n cap : Nat} {xs : List Int} (h : IntsV w (.slice (some ⟨b, off, none⟩) n cap) xs) {k : Nat} (hk : k ≤ n) : IntsV w (.slice (some ⟨b, off + k, none⟩) (n - k) (cap - k)) (xs.drop k) := by
  obtain ⟨ao', cap', e, ⟨h1, h2⟩, h3, H⟩ := h
  obtain ⟨rfl, rfl, rfl⟩ := Value.slice.inj e
  have hl : (xs.drop k).length = xs.length - k := List.length_drop
  refine ⟨_, _, by rw [hl], ⟨by omega, fun e => by cases e⟩, by omega, fun i hi => ?_⟩
  rw [hl] at hi
  obtain ⟨b', off', e, hc⟩ := H (k + i) (by omega)
  cases e
  refine ⟨_, _, rfl, ?_⟩
  rw [Nat.add_assoc, hc, nth_eq (by omega), nth_eq (by omega), List.getElem_drop]

/-- A list holds a number. -/
def hasI (xs : List Int) (n : Int) : Bool := xs.any fun x => x == n
theorem l1Has_any (v : Value) (xs : List Int) (x : Int) (w : World) (hv : IntsV w v xs) (hm : xs.length ≤ 1099511627776) :
    Calls Try.prog 105 #[v, .int .i64 x] w (Same (.bool (hasI xs x)) w) := by
  obtain ⟨ao, cap, rfl, _, _, H⟩ := hv
  obtain ⟨n, hn⟩ : ∃ n, xs.length = n := ⟨_, rfl⟩
  have hyes : ∀ k, k < xs.length → nth xs k = x → hasI xs x = true := fun k hk e => by
    unfold hasI; rw [List.any_eq_true]; exact ⟨nth xs k, nth_mem hk, by rw [e]; simp⟩
  have hno : (∀ k, k < xs.length → nth xs k ≠ x) → hasI xs x = false := fun h => by
    unfold hasI; rw [List.any_eq_false]; intro y hy
    obtain ⟨j, hj, rfl⟩ := List.getElem_of_mem hy
    have := h j hj
    rw [nth_eq hj] at this; simpa using this
  rw [hn] at hm H hno hyes ⊢
  have hn' := Lib.hid hn
  have hno' := Lib.hid hno
  have hyes' := Lib.hid hyes
  have H' := Lib.hid H
  clear hn hno hyes H
  go_enter Try.func105, Try.ntmps105
  go_wp2
  go_loop [9] (fun i => ∃ k : Nat, k ≤ n ∧ i = .int .i64 k ∧ Hid (∀ j, j < k → nth xs j ≠ x)) (fun i => n - (intOf i).toNat)
  case atStart => exact ⟨0, Nat.zero_le _, rfl, Lib.hid (fun j hj => absurd hj (Nat.not_lt_zero j))⟩
  case round =>
    obtain ⟨k, hk, rfl, hI⟩ := hrel
    by_cases hlt : k < n
    · obtain ⟨b, off, rfl, hc⟩ := H'.out k hlt
      by_cases e : nth xs k = x
      · have hy := hyes'.out k hlt e
        have e1 : (nth xs k == x) = true := by rw [beq_iff_eq]; exact e
        have hy' := Lib.hid hy
        clear hy
        clear e
        go_wp2
        go_ret
        rw [hy'.out]
        exact ⟨rfl, rfl⟩
      · have hI2 : ∀ j, j < k + 1 → nth xs j ≠ x := fun j hj => by
          by_cases e2 : j = k
          · rw [e2]; exact e
          · exact hI.out j (by omega)
        have e1 : (nth xs k == x) = false := by rw [beq_eq_false_iff_ne]; exact e
        have hI2' := Lib.hid hI2
        clear hI2
        clear e
        go_wp2
        go_round
        case rel => exact ⟨k + 1, by omega, by go_num, hI2'⟩
        case measure => simp [intOf]; omega
    · obtain rfl : n = k := by omega
      have hy := hno'.out hI.out
      have hy' := Lib.hid hy
      clear hy
      go_wp2
      go_ret
      rw [hy'.out]
      exact ⟨rfl, rfl⟩

set_option maxRecDepth 100000 in
set_option maxHeartbeats 800000 in
theorem l1Put_any (v : Value) (A R : List Int) (t : Int) (w : World) (hv : IntsV w v (A ++ R)) (hA : ∀ x ∈ A, x < t) (hR : ∀ x ∈ R, t < x) (hm : (A ++ R).length ≤ 1099511627776) (hne : A ++ R = [] → v = .slice none 0 0) :
    Calls Try.prog 127 #[v, .int .i64 t] w (RetO Own (A ++ t :: R) w) := by
  have hv0 := hv
  obtain ⟨ao, cap, rfl, ⟨hcap, hnl⟩, hcm, H⟩ := hv
  obtain ⟨a, ha⟩ : ∃ a, A.length = a := ⟨_, rfl⟩
  obtain ⟨n, hn⟩ : ∃ n, (A ++ R).length = n := ⟨_, rfl⟩
  have han : a ≤ n := by rw [← hn, List.length_append, ha]; omega
  have hlow : ∀ k, k < a → nth (A ++ R) k < t := fun k hk => by
    rw [nth_left (by omega)]; exact hA _ (nth_mem (by omega))
  have hhigh : a < n → t < nth (A ++ R) a := fun h => by
    rw [nth_right (by omega), ha, Nat.sub_self]
    exact hR _ (nth_mem (by rw [← hn, List.length_append, ha] at h; omega))
  have hta : (A ++ R).take a = A := by rw [← ha]; simp
  have htd : (A ++ R).drop a = R := by rw [← ha]; simp
  rw [hn] at H hm hcap hv0 ⊢
  have htake := hv0.take han
  rw [hta] at htake
  have hB1 := (Below.refl w.heap.size w).alloc (Nat.le_refl _) (.cells #[] 3)
  have ht1 := htake.below hB1
  have hg := Grow.empty w (Nat.le_refl w.heap.size)
  have hdrop : ∀ w', Below w.heap.size w w' → a < cap → a ≤ n → ∀ b off, ao = some ⟨b, off, none⟩ → IntsV w' (.slice (some ⟨b, off + a, none⟩) (n - a) (cap - a)) R := fun w' hB _ _ b off e => by
    subst e
    have := (hv0.drop han).below hB
    rw [htd] at this; exact this
  have hRl : R.length = n - a := by rw [← hn, ← ha, List.length_append]; omega
  have ha' := Lib.hid ha
  have hn' := Lib.hid hn
  have hlow' := Lib.hid hlow
  have hhigh' := Lib.hid hhigh
  have H' := Lib.hid H
  have hta' := Lib.hid hta
  have htd' := Lib.hid htd
  have ht1' := Lib.hid ht1
  have hg' := Lib.hid hg
  have hdrop' := Lib.hid hdrop
  have hv0' := Lib.hid hv0
  have hB1' := Lib.hid hB1
  have hRl' := Lib.hid hRl
  have hA' := Lib.hid hA
  have hR' := Lib.hid hR
  have hne' := Lib.hid hne
  clear ha hn hlow hhigh H hta htd ht1 hg hdrop hv0 hB1 hRl hA hR hne
  clear htake
  go_enter Try.func127, Try.ntmps127
  go_wp2
  go_loop [5] (fun i => ∃ k : Nat, k ≤ a ∧ i = .int .i64 k) (fun i => a - (intOf i).toNat)
  case atStart => exact ⟨0, Nat.zero_le _, rfl⟩
  case round =>
    obtain ⟨k, hk, rfl⟩ := hrel
    by_cases hlt : k < a
    · have hkn : k < n := by omega
      obtain ⟨b, off, rfl, hc⟩ := H'.out k hkn
      have h1 := hlow'.out k hlt
      go_wp2
      go_round
      case rel => exact ⟨k + 1, by omega, by go_num⟩
      case measure => simp [intOf]; omega
    · obtain rfl : a = k := by omega
      by_cases han2 : a < n
      · obtain ⟨b, off, rfl, hc⟩ := H'.out a han2
        have h1 := hhigh'.out han2
        have h2 : ¬ nth (A ++ R) a < t := by omega
        have h3 : (nth (A ++ R) a == t) = false := by rw [beq_eq_false_iff_ne]; omega
        have hac : a < cap := by omega
        have hac2 : a ≤ cap := by omega
        clear h1
        go_wp2_with (at_builtin; refine wpList_append_ints rfl _ _ rfl w.heap.size _ _ [] A rfl rfl hg'.out ht1'.out (by rw [ha'.out]; simp; omega) (by simp) ?_)
        intro v1 w1 hg1 hgrow1
        have hB2 := hg'.out.belowB hB1'.out (Nat.le_refl _) (by simp) hgrow1
        have hs2 := hB2.size
        clear hgrow1
        go_wp2_with (at_builtin; refine wpList_append_int rfl _ _ rfl w.heap.size v1 A t _ rfl rfl hg1 (by rw [ha'.out]; omega) hs2 ?_)
        intro v2 w2 hg2 hgrow2
        have hB3 := hg1.belowB hB2 (Nat.le_refl _) hs2 hgrow2
        have hs3 := hB3.size
        have hd := hdrop'.out w2 hB3 hac han b off rfl
        clear hgrow2 hg1 hB2
        go_wp2_with (at_builtin; refine wpList_append_ints rfl _ _ rfl w.heap.size v2 (.slice (some ⟨b, off + a, none⟩) (n - a) (cap - a)) (A ++ [t]) R rfl rfl hg2 hd (by rw [hRl'.out]; simp [ha'.out]; omega) hs3 ?_)
        intro v3 w3 hg3 hgrow3
        have hB4 := hg2.belowB hB3 (Nat.le_refl _) hs3 hgrow3
        clear hgrow3 hg2 hB3 hd
        have hg3' := Lib.hid hg3
        have hB4' := Lib.hid hB4
        clear hg3 hB4
        go_wp2
        go_ret
        exact ⟨_, rfl, hg3'.out.own, hB4'.out⟩
      · obtain rfl : n = a := by omega
        have hRn : R = [] := List.eq_nil_of_length_eq_zero (by rw [hRl'.out]; omega)
        subst hRn
        by_cases hn0 : n = 0
        · subst hn0
          have hA0 : A = [] := List.eq_nil_of_length_eq_zero ha'.out
          subst hA0
          have e := hne'.out rfl
          obtain ⟨rfl, _, rfl⟩ := Value.slice.inj e
          clear hne' e hdrop' H' ht1' hnl
          have hnil1 : IntsV (w.alloc (.cells #[] 3)) (.slice none 0 0) [] := ⟨none, 0, rfl, ⟨Nat.le_refl _, fun _ => rfl⟩, by simp [maxLen], fun i hi => absurd hi (Nat.not_lt_zero i)⟩
          go_wp2_with (at_builtin; refine wpList_append_ints rfl _ _ rfl w.heap.size (.slice (some ⟨w.heap.size, 0, none⟩) 0 0) (.slice none 0 0) [] [] rfl rfl hg'.out hnil1 (by simp) (by simp) ?_)
          intro v1 w1 hg1 hgrow1
          have hB2 := hg'.out.belowB hB1'.out (Nat.le_refl _) (by simp) hgrow1
          have hs2 := hB2.size
          clear hgrow1
          go_wp2_with (at_builtin; refine wpList_append_int rfl _ _ rfl w.heap.size v1 [] t _ rfl rfl hg1 (by simp) hs2 ?_)
          intro v2 w2 hg2 hgrow2
          have hB3 := hg1.belowB hB2 (Nat.le_refl _) hs2 hgrow2
          have hs3 := hB3.size
          have hnil2 : IntsV w2 (.slice none 0 0) [] := ⟨none, 0, rfl, ⟨Nat.le_refl _, fun _ => rfl⟩, by simp [maxLen], fun i hi => absurd hi (Nat.not_lt_zero i)⟩
          clear hgrow2 hg1 hB2
          go_wp2_with (at_builtin; refine wpList_append_ints rfl _ _ rfl w.heap.size v2 (.slice none 0 0) [t] [] rfl rfl hg2 hnil2 (by simp) hs3 ?_)
          intro v3 w3 hg3 hgrow3
          have hB4 := hg2.belowB hB3 (Nat.le_refl _) hs3 hgrow3
          clear hgrow3 hg2 hB3
          have hg3' := Lib.hid hg3
          have hB4' := Lib.hid hB4
          clear hg3 hB4
          go_wp2
          go_ret
          exact ⟨_, rfl, hg3'.out.own, hB4'.out⟩
        · obtain ⟨b, off, rfl, _⟩ := H'.out 0 (by omega)
          have hnc : n ≤ cap := hcap
          have hend : ∃ au cu, (∀ w', IntsV w' (.slice au 0 cu) []) ∧ (if n < cap then Value.slice (some ⟨b, off + n, none⟩) 0 (cap - n) else .slice (some ⟨b, off, none⟩) 0 0) = .slice au 0 cu := by
            by_cases hc : n < cap
            · rw [if_pos hc]
              exact ⟨_, _, fun w' => ⟨_, _, rfl, ⟨Nat.zero_le _, fun e => by cases e⟩, by omega, fun i hi => absurd hi (Nat.not_lt_zero i)⟩, rfl⟩
            · rw [if_neg hc]
              exact ⟨_, _, fun w' => ⟨_, _, rfl, ⟨Nat.zero_le _, fun e => by cases e⟩, by simp [maxLen], fun i hi => absurd hi (Nat.not_lt_zero i)⟩, rfl⟩
          obtain ⟨au, cu, hau, he⟩ := hend
          by_cases hc : n < cap
          all_goals
            first | rw [if_pos hc] at he | rw [if_neg hc] at he
            obtain ⟨rfl, _, rfl⟩ := Value.slice.inj he
            first | (have hcn : ¬ n = cap := by omega) | (obtain rfl : n = cap := by omega)
            clear he hne' hdrop' hnl hc
            have hau' := Lib.hid hau
            clear hau
            go_wp2_with (at_builtin; refine wpList_append_ints rfl _ _ rfl w.heap.size (.slice (some ⟨w.heap.size, 0, none⟩) 0 0) _ [] A rfl rfl hg'.out ht1'.out (by rw [ha'.out]; simp; omega) (by simp) ?_)
            intro v1 w1 hg1 hgrow1
            have hB2 := hg'.out.belowB hB1'.out (Nat.le_refl _) (by simp) hgrow1
            have hs2 := hB2.size
            clear hgrow1
            go_wp2_with (at_builtin; refine wpList_append_int rfl _ _ rfl w.heap.size v1 A t _ rfl rfl hg1 (by rw [ha'.out]; omega) hs2 ?_)
            intro v2 w2 hg2 hgrow2
            have hB3 := hg1.belowB hB2 (Nat.le_refl _) hs2 hgrow2
            have hs3 := hB3.size
            have hd := hau'.out w2
            clear hgrow2 hg1 hB2
            go_wp2_with (at_builtin; refine wpList_append_ints rfl _ _ rfl w.heap.size v2 _ (A ++ [t]) [] rfl rfl hg2 hd (by simp [ha'.out]; omega) hs3 ?_)
            intro v3 w3 hg3 hgrow3
            have hB4 := hg2.belowB hB3 (Nat.le_refl _) hs3 hgrow3
            clear hgrow3 hg2 hB3 hd
            have hg3' := Lib.hid hg3
            have hB4' := Lib.hid hB4
            clear hg3 hB4
            go_wp2
            go_ret
            exact ⟨_, rfl, by simpa using hg3'.out.own, hB4'.out⟩

end Go.Proofs.Ytblippeklbhepaa

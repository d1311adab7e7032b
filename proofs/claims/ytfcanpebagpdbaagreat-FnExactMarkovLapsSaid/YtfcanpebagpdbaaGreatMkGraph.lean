/- The graph of a Markov partition: the program's and the reference's. No conditions. -/
import Derived.Test.YtfcanpebagpdbaaGreatMarkLaw
import Derived.Test.YtfcanpebagpdbaaGreatMarkovS
namespace Go.Proofs.YtfcanpebagpdbaaGreat
open Go.RowKit

theorem l1Least_if (a b : Int) (w : World) : Calls Tryz.prog 41 #[.int .i64 a, .int .i64 b] w (Same (.int .i64 (if a < b then a else b)) w) := by
  by_cases h : a < b
  · rw [if_pos h]
    go_enter Tryz.func41, Tryz.ntmps41
    go_wp2
    go_ret
    exact ⟨rfl, rfl⟩
  · rw [if_neg h]
    go_enter Tryz.func41, Tryz.ntmps41
    go_wp2
    go_ret
    exact ⟨rfl, rfl⟩
theorem l1Most_if (a b : Int) (w : World) : Calls Tryz.prog 42 #[.int .i64 a, .int .i64 b] w (Same (.int .i64 (if b < a then a else b)) w) := by
  by_cases h : b < a
  · rw [if_pos h]
    go_enter Tryz.func42, Tryz.ntmps42
    go_wp2
    go_ret
    exact ⟨rfl, rfl⟩
  · rw [if_neg h]
    go_enter Tryz.func42, Tryz.ntmps42
    go_wp2
    go_ret
    exact ⟨rfl, rfl⟩
theorem vi_nth {f : List Quad} {xs : List (Int × Int)} (hv : (vsL f xs).all (hasR xs) = true) {i : Nat} (hi : i < xs.length) : nth (viK f xs xs.length) i = (uI f xs i : Int) ∧ uI f xs i < xs.length := by
  have h1 : hasR xs (atZ f (nthR xs i)) = true := by
    rw [List.all_eq_true] at hv
    refine hv _ ?_
    unfold vsL vsK
    exact List.mem_map.2 ⟨i, List.mem_range.2 hi, rfl⟩
  obtain ⟨u, hu, eu, _⟩ := has_idx h1
  have e : nth (viK f xs xs.length) i = plcR xs (atZ f (nthR xs i)) := by
    rw [nth_eq (by rw [viK_len]; exact hi)]; simp [viK]
  have e2 : uI f xs i = u := by unfold uI; rw [eu, Int.toNat_natCast]
  rw [e, eu, e2]
  exact ⟨rfl, hu⟩
/-- Row k after the entries up to j. -/
def rwN (lo j c : Nat) : Int := if lo ≤ c ∧ c < j then 1 else 0
theorem rwN_step (lo j c : Nat) (h : lo ≤ j) : (if c = j then 1 else rwN lo j c) = rwN lo (j + 1) c := by
  unfold rwN
  by_cases e : c = j
  · rw [if_pos e, if_pos (by omega)]
  · rw [if_neg e]
    by_cases h2 : lo ≤ c ∧ c < j
    · rw [if_pos h2, if_pos (by omega)]
    · rw [if_neg h2, if_neg (by omega)]
theorem rwN_zero (lo c : Nat) : rwN lo lo c = 0 := by unfold rwN; rw [if_neg (by omega)]

open Classical in
noncomputable def mg_v (f : List Quad) (xs : List (Int × Int)) : List (List Int) × Bool := if mm_v f xs false = (true, true) then (tab (xs.length - 1) (xs.length - 1) (mgN f xs), true) else ([], false)
theorem MarkovGraph_yes {f : List Quad} {xs : List (Int × Int)} (h : mapB f = true ∧ partB xs = true) : MarkovGraph_v f xs = mg_v f xs := by
  unfold MarkovGraph_v mg_v
  by_cases h2 : mm_v f xs false = (true, true)
  · rw [if_pos h2, if_pos ⟨h.1, h.2, h2⟩]
  · rw [if_neg h2, if_neg (fun q => h2 q.2.2)]
theorem MarkovGraph_no {f : List Quad} {xs : List (Int × Int)} (h : ¬ (mapB f = true ∧ partB xs = true)) : MarkovGraph_v f xs = ([], false) := by
  unfold MarkovGraph_v; rw [if_neg (fun q => h ⟨q.1, q.2.1⟩)]

set_option linter.unusedSimpArgs false in
set_option maxRecDepth 10000 in
set_option maxHeartbeats 4000000 in
theorem mkGraph_in (v u : Value) (f : List Quad) (xs : List (Int × Int)) (w : World) (hv : QuadV w v f) (hu : RatsV w u xs) (hf : MapP f) (hp : partB xs = true) (hm : mm_v f xs false = (true, true)) :
    Calls Tryz.prog 21 #[v, u] w (RetOB OwnSS (tab (xs.length - 1) (xs.length - 1) (mgN f xs), true) w) := by
  have hxl := partB_len hp
  have c1 := mkMarkov_any v u f xs false w hv hu hf hp
  rw [hm] at c1
  have c2 := fun w' (hB : Below w.heap.size w w') => mkValues_any v u f xs w' (hv.below hB) (hu.below hB) hf (cuts_unit hp) (by omega)
  have hvo : voK f xs xs.length = true := by
    unfold mm_v at hm
    split at hm
    · assumption
    · cases hm
  have htv : (vsL f xs).all (hasR xs) = true := by
    rw [mm_eq] at hm
    have h1 := (Prod.mk.inj hm).1
    rw [Bool.and_eq_true] at h1
    unfold kc_v at h1
    rw [if_pos hvo] at h1
    exact h1.1
  have hW : vi_v f xs = (viK f xs xs.length, true) := by unfold vi_v; rw [if_pos hvo]
  rw [hW] at c2
  have hvn := fun i (hi : i < xs.length) => vi_nth htv hi
  have hvl : (viK f xs xs.length).length = xs.length := viK_len f xs _
  have hmg : ∀ k c, mgN f xs k c = rwN (min (uI f xs k) (uI f xs (k + 1))) (max (uI f xs k) (uI f xs (k + 1))) c := fun k c => rfl
  clear hW htv hvo hm hp hf hv
  generalize viK f xs xs.length = VI at *
  generalize uI f xs = U at *
  generalize mgN f xs = MG at *
  obtain ⟨ao, cap, rfl, _, _, _⟩ := hu.form
  obtain ⟨n, hn⟩ : ∃ n, xs.length = n := ⟨_, rfl⟩
  rw [hn] at hvn hvl hxl c1 c2 ⊢
  obtain ⟨m, hm⟩ : ∃ m, n - 1 = m := ⟨_, rfl⟩
  rw [hm]
  have hnm : n = m + 1 := by omega
  have hm8 : 1 ≤ m ∧ m ≤ 8 := by omega
  obtain ⟨i2, hi2, hy0, hy1, hy2⟩ := info_parts Tryz.infoInt
  clear hu
  have hgw : IntKind.i64.wrap ((n : Int) - 1) = (m : Int) := by rw [IntKind.wrap_i64]; omega
  have c1' := Lib.hid c1
  have c2' := Lib.hid c2
  have hvn' := Lib.hid hvn
  have hvl' := Lib.hid hvl
  have hmg' := Lib.hid hmg
  have hn' := Lib.hid hn
  have hm' := Lib.hid hm
  have hnm' := Lib.hid hnm
  clear c1 c2 hvn hvl hmg hn hm hnm
  go_enter Tryz.func21, Tryz.ntmps21
  go_wp2_with fail
  refine (c1'.out).mono ?_
  rintro e w1 ⟨rfl, hB1⟩
  go_wp2_with fail
  refine (c2'.out _ hB1).mono ?_
  rintro e w2 ⟨sv, rfl, hsv, hB2⟩
  have hb2 := hB1.trans (hB2.mono hB1.size)
  obtain ⟨so, scap, rfl, _, _, HV⟩ := hsv.read
  rw [hvl'.out] at HV ⊢
  obtain ⟨sb, soff, rfl, _⟩ := HV 0 (by omega)
  have hcell : ∀ w', Below w2.heap.size w2 w' → ∀ i, i < n → w'.cell? ⟨sb, soff + i, none⟩ = some (.int .i64 (U i : Int)) := fun w' hB i hi => by
    obtain ⟨_, _, e, hc⟩ := HV i hi
    cases e
    rw [(hvn'.out i hi).1] at hc
    exact bkeep hB hc
  clear hsv HV hB1 hB2 c1' c2'
  have hcell' := Lib.hid hcell
  clear hcell
  go_wp2
  go_loopw [10, 11] (fun o i wr => ∃ (k : Nat) (rb rc : Nat → Nat), k ≤ m ∧ i = .int .i64 ((k : Int) + 1) ∧ GrowT wr w2.heap.size wr.heap.size o k m rb rc MG ∧ Below w2.heap.size w2 wr) (fun _ i _ => n - (intOf i).toNat)
  case atStart => exact ⟨0, fun _ => 0, fun _ => 0, Nat.zero_le _, rfl, GrowT.nil _ _ _ _ _ _ _, Below.refl _ _⟩
  case round =>
    obtain ⟨k, rb, rc, hk, rfl, hpt, hB⟩ := hrel
    obtain ⟨wo, rfl⟩ : ∃ wo : World, wo = wr := ⟨_, rfl⟩
    have hso := hB.size
    by_cases hlt : k < m
    · obtain ⟨j, hj⟩ : ∃ j : Nat, j = k + 1 := ⟨_, rfl⟩
      have hjn : j < n := by have := hnm'.out; omega
      have hkn : k < n := by omega
      have hu1 := (hvn'.out k hkn).2
      have hu2 := (hvn'.out j hjn).2
      obtain ⟨lo, hlo⟩ : ∃ lo, min (U k) (U j) = lo := ⟨_, rfl⟩
      obtain ⟨hi, hhi⟩ : ∃ hi, max (U k) (U j) = hi := ⟨_, rfl⟩
      have hlh : lo ≤ hi ∧ hi ≤ m := by have := hnm'.out; omega
      have hrow : ∀ c, MG k c = rwN lo hi c := fun c => by rw [hmg'.out, ← hj, hlo, hhi]
      have cL : ∀ w', Calls Tryz.prog 41 #[.int .i64 (U k : Int), .int .i64 (U j : Int)] w' (Same (.int .i64 (lo : Int)) w') := fun w' => by
        have := l1Least_if (U k : Int) (U j : Int) w'
        rw [show (if (U k : Int) < (U j : Int) then (U k : Int) else (U j : Int)) = (lo : Int) by split <;> omega] at this
        exact this
      have cM : ∀ w', Calls Tryz.prog 42 #[.int .i64 (U k : Int), .int .i64 (U j : Int)] w' (Same (.int .i64 (hi : Int)) w') := fun w' => by
        have := l1Most_if (U k : Int) (U j : Int) w'
        rw [show (if (U j : Int) < (U k : Int) then (U k : Int) else (U j : Int)) = (hi : Int) by split <;> omega] at this
        exact this
      have g1 : IntKind.i64.wrap ((j : Int) - 1) = (k : Int) := by rw [IntKind.wrap_i64]; omega
      have g2 : (0 : Int) ≤ (k : Int) := by omega
      have g3 : (k : Int) < (n : Int) := by omega
      have g4 : (j : Int) < (n : Int) := by omega
      have hj2 : (j : Int) = (k : Int) + 1 := by omega
      have hgj : IntKind.i64.wrap ((j : Int) + 1) = (j : Int) + 1 := by have := hnm'.out; rw [IntKind.wrap_i64]; omega
      rw [show (k : Int) + 1 = (j : Int) by omega]
      have hcs : ∀ w', Below w2.heap.size w2 w' → w'.cell? ⟨sb, soff + k, none⟩ = some (.int .i64 (U k : Int)) ∧ w'.cell? ⟨sb, soff + j, none⟩ = some (.int .i64 (U j : Int)) := fun w' h => ⟨hcell'.out w' h k hkn, hcell'.out w' h j hjn⟩
      generalize U k = a at *
      generalize U j = b at *
      have hlo' := Lib.hid hlo
      have hhi' := Lib.hid hhi
      have hrow' := Lib.hid hrow
      have cL' := Lib.hid cL
      have cM' := Lib.hid cM
      have hj' := Lib.hid hj
      have hj2' := Lib.hid hj2
      have hcs' := Lib.hid hcs
      have hpt' := Lib.hid hpt
      clear hlo hhi hrow cL cM hj hj2 hcs hpt
      go_wp2_with (at_make; refine wpList_make_full _ rfl _ _ 59 rfl w2.heap.size 3 i2 _ 1 Tryz.underlying59 hi2 hy0 hy1 _ _ _ _ m rfl rfl rfl rfl (by rw [hy2]; omega) (by unfold maxLen; omega) hso ?_)
      intro w4 hown hgrow
      have hB4 : Below wo.heap.size wo w4 := below_made (Below.refl _ _) (Nat.le_refl _) hgrow
      have ho := row_made hown
      rw [lst_zero] at ho
      have ho2 : RowAt w4 w2.heap.size wo.heap.size m m (lst m (rwN lo lo)) := by
        rw [lst_congr (fun c _ => rwN_zero lo c)]; exact ho
      have hbw4 := hB.trans (hB4.mono hso)
      have hd4 := hbw4.drew
      clear hown hgrow ho
      have ho2' := Lib.hid ho2
      clear ho2
      go_wp2_with fail
      refine wp_region_held_drew (S := (fun w' => w'.cell? ⟨sb, soff + k, none⟩ = some (.int .i64 (a : Int)) ∧ w'.cell? ⟨sb, soff + j, none⟩ = some (.int .i64 (b : Int)))) (by kernel_rfl) (by (try dsimp only); (first | exact hcs'.out _ hd4)) (fun hHeld => ?_)
      refine wpAnyH_take (i := 0) (oi := Oper.mk _ _ _ _ _ _) (v := ?_) rfl (by kernel_rfl) (by kernel_rfl) (by kernel_rfl) (fun _ _ _ h => h) (Or.inl ⟨by kernel_rfl, ?_⟩) hHeld ?_
      rotate_left
      · (intro wS hSw; (try dsimp only at hSw); go_simp; all_goals (with_reducible rfl))
      try simp only [Act.put, List.setIfInBounds_toArray, List.set_cons_zero, List.set_cons_succ]
      refine wpAnyH_take (i := 1) (oi := Oper.mk _ _ _ _ _ _) (v := ?_) rfl (by kernel_rfl) (by kernel_rfl) (by kernel_rfl) (fun _ _ _ h => h) (Or.inl ⟨by kernel_rfl, ?_⟩) hHeld ?_
      rotate_left
      · (intro wS hSw; (try dsimp only at hSw); go_simp; all_goals (with_reducible rfl))
      try simp only [Act.put, List.setIfInBounds_toArray, List.set_cons_zero, List.set_cons_succ]
      refine wpAnyH_take (i := 2) (oi := Oper.mk _ _ _ _ _ _) (v := ?_) rfl (by kernel_rfl) (by kernel_rfl) (by kernel_rfl) (fun _ _ _ h => h) (Or.inl ⟨by kernel_rfl, ?_⟩) hHeld ?_
      rotate_left
      · (intro wS hSw; (try dsimp only at hSw); go_simp; all_goals (with_reducible rfl))
      try simp only [Act.put, List.setIfInBounds_toArray, List.set_cons_zero, List.set_cons_succ]
      refine wpAnyH_take (i := 3) (oi := Oper.mk _ _ _ _ _ _) (v := ?_) rfl (by kernel_rfl) (by kernel_rfl) (by kernel_rfl) (fun _ _ _ h => h) (Or.inl ⟨by kernel_rfl, ?_⟩) hHeld ?_
      rotate_left
      · (intro wS hSw; (try dsimp only at hSw); go_simp; all_goals (with_reducible rfl))
      try simp only [Act.put, List.setIfInBounds_toArray, List.set_cons_zero, List.set_cons_succ]
      refine wpAnyH_take (i := 4) (oi := Oper.mk _ _ _ _ _ _) (v := ?_) rfl (by kernel_rfl) (by kernel_rfl) (by kernel_rfl) (fun _ _ _ h => h) (Or.inl ⟨by kernel_rfl, ?_⟩) hHeld ?_
      rotate_left
      · (intro wS hSw; (try dsimp only at hSw); go_simp; all_goals (with_reducible rfl))
      try simp only [Act.put, List.setIfInBounds_toArray, List.set_cons_zero, List.set_cons_succ]
      refine wpAnyH_take (i := 5) (oi := Oper.mk _ _ _ _ _ _) (v := ?_) rfl (by kernel_rfl) (by kernel_rfl) (by kernel_rfl) (fun _ _ _ h => h) (Or.inl ⟨by kernel_rfl, ?_⟩) hHeld ?_
      rotate_left
      · (intro wS hSw; (try dsimp only at hSw); go_simp; all_goals (with_reducible rfl))
      try simp only [Act.put, List.setIfInBounds_toArray, List.set_cons_zero, List.set_cons_succ]
      refine wpAnyH_take (i := 6) (oi := Oper.mk _ _ _ _ _ _) (v := ?_) rfl (by kernel_rfl) (by kernel_rfl) (by kernel_rfl) (fun _ _ _ h => h) (Or.inl ⟨by kernel_rfl, ?_⟩) hHeld ?_
      rotate_left
      · (intro wS hSw; (try dsimp only at hSw); go_simp; all_goals (with_reducible rfl))
      try simp only [Act.put, List.setIfInBounds_toArray, List.set_cons_zero, List.set_cons_succ]
      refine wpAnyH_take (i := 7) (oi := Oper.mk _ _ _ _ _ _) (v := ?_) rfl (by kernel_rfl) (by kernel_rfl) (by kernel_rfl) (fun _ _ _ h => h) (Or.inl ⟨by kernel_rfl, ?_⟩) hHeld ?_
      rotate_left
      · (intro wS hSw; (try dsimp only at hSw); go_simp; all_goals (with_reducible rfl))
      try simp only [Act.put, List.setIfInBounds_toArray, List.set_cons_zero, List.set_cons_succ]
      refine wpAnyH_take (i := 8) (oi := Oper.mk _ _ _ _ _ _) (v := ?_) rfl (by kernel_rfl) (by kernel_rfl) (by kernel_rfl) (fun _ _ _ h => h) (Or.inl ⟨by kernel_rfl, ?_⟩) hHeld ?_
      rotate_left
      · (intro wS hSw; (try dsimp only at hSw); go_simp; all_goals (with_reducible rfl))
      try simp only [Act.put, List.setIfInBounds_toArray, List.set_cons_zero, List.set_cons_succ]
      refine wpAnyH_ready (rs := [9]) (by kernel_rfl) (by simp) ?_
      refine AllReadyH.cons (o := Oper.mk _ _ _ _ _ _) rfl (fun KK hKK => ?_) AllReadyH.nil
      rw [if_pos (by kernel_rfl)]
      go_simp
      refine (cL'.out _).mono ?_
      rintro e w5 ⟨rfl, rfl⟩
      try dsimp only
      refine hKK.out _ _ (by (try dsimp only); (first | exact hcs'.out _ hd4)) (fun hHeld => ?_)
      clear hKK KK
      try simp only [Act.put, List.setIfInBounds_toArray, List.set_cons_zero, List.set_cons_succ]
      refine wpAnyH_take (i := 10) (oi := Oper.mk _ _ _ _ _ _) (v := ?_) rfl (by kernel_rfl) (by kernel_rfl) (by kernel_rfl) (fun _ _ _ h => h) (Or.inl ⟨by kernel_rfl, ?_⟩) hHeld ?_
      rotate_left
      · (intro wS hSw; (try dsimp only at hSw); go_simp; all_goals (with_reducible rfl))
      try simp only [Act.put, List.setIfInBounds_toArray, List.set_cons_zero, List.set_cons_succ]
      refine wpAnyH_done (by kernel_rfl) ?_ _
      clear hHeld
      have ho3 : RowAt w4.drew w2.heap.size wo.heap.size m m (lst m (rwN lo lo)) := ho2'.out
      have hB5 := hB4.drew
      clear ho2' hbw4 hd4 hB4
      have ho3' := Lib.hid ho3
      have hB5' := Lib.hid hB5
      clear ho3 hB5
      go_wp2
      go_loopw [13] (fun i wr => ∃ c : Nat, lo ≤ c ∧ c ≤ hi ∧ i = .int .i64 c ∧ RowAt wr w2.heap.size wo.heap.size m m (lst m (rwN lo c)) ∧ Below wo.heap.size wo wr) (fun i _ => hi - (intOf i).toNat)
      case atStart => exact ⟨lo, Nat.le_refl _, hlh.1, rfl, ho3'.out, hB5'.out⟩
      case round =>
        obtain ⟨c, hc1, hc2, rfl, hr, hBr⟩ := hrel
        clear ho3' hB5'
        have hdd := (hB.trans (hBr.mono hso)).drew
        have hr2 : RowAt wr.drew w2.heap.size wo.heap.size m m (lst m (rwN lo c)) := hr
        have hBd := hBr.drew
        clear hr hBr
        by_cases hc : c < hi
        · have hci : (c : Int) < (hi : Int) := by omega
          have hr2' := Lib.hid hr2
          have hBd' := Lib.hid hBd
          clear hr2 hBd
          go_wp2_with fail
          refine wp_region_held_drew (S := (fun w' => w'.cell? ⟨sb, soff + k, none⟩ = some (.int .i64 (a : Int)) ∧ w'.cell? ⟨sb, soff + j, none⟩ = some (.int .i64 (b : Int)))) (by kernel_rfl) (by (try dsimp only); (first | exact hcs'.out _ hdd)) (fun hHeld => ?_)
          refine wpAnyH_take (i := 0) (oi := Oper.mk _ _ _ _ _ _) (v := ?_) rfl (by kernel_rfl) (by kernel_rfl) (by kernel_rfl) (fun _ _ _ h => h) (Or.inl ⟨by kernel_rfl, ?_⟩) hHeld ?_
          rotate_left
          · (intro wS hSw; (try dsimp only at hSw); go_simp; all_goals (with_reducible rfl))
          try simp only [Act.put, List.setIfInBounds_toArray, List.set_cons_zero, List.set_cons_succ]
          refine wpAnyH_take (i := 1) (oi := Oper.mk _ _ _ _ _ _) (v := ?_) rfl (by kernel_rfl) (by kernel_rfl) (by kernel_rfl) (fun _ _ _ h => h) (Or.inl ⟨by kernel_rfl, ?_⟩) hHeld ?_
          rotate_left
          · (intro wS hSw; (try dsimp only at hSw); go_simp; all_goals (with_reducible rfl))
          try simp only [Act.put, List.setIfInBounds_toArray, List.set_cons_zero, List.set_cons_succ]
          refine wpAnyH_take (i := 2) (oi := Oper.mk _ _ _ _ _ _) (v := ?_) rfl (by kernel_rfl) (by kernel_rfl) (by kernel_rfl) (fun _ _ _ h => h) (Or.inl ⟨by kernel_rfl, ?_⟩) hHeld ?_
          rotate_left
          · (intro wS hSw; (try dsimp only at hSw); go_simp; all_goals (with_reducible rfl))
          try simp only [Act.put, List.setIfInBounds_toArray, List.set_cons_zero, List.set_cons_succ]
          refine wpAnyH_take (i := 3) (oi := Oper.mk _ _ _ _ _ _) (v := ?_) rfl (by kernel_rfl) (by kernel_rfl) (by kernel_rfl) (fun _ _ _ h => h) (Or.inl ⟨by kernel_rfl, ?_⟩) hHeld ?_
          rotate_left
          · (intro wS hSw; (try dsimp only at hSw); go_simp; all_goals (with_reducible rfl))
          try simp only [Act.put, List.setIfInBounds_toArray, List.set_cons_zero, List.set_cons_succ]
          refine wpAnyH_take (i := 4) (oi := Oper.mk _ _ _ _ _ _) (v := ?_) rfl (by kernel_rfl) (by kernel_rfl) (by kernel_rfl) (fun _ _ _ h => h) (Or.inl ⟨by kernel_rfl, ?_⟩) hHeld ?_
          rotate_left
          · (intro wS hSw; (try dsimp only at hSw); go_simp; all_goals (with_reducible rfl))
          try simp only [Act.put, List.setIfInBounds_toArray, List.set_cons_zero, List.set_cons_succ]
          refine wpAnyH_take (i := 5) (oi := Oper.mk _ _ _ _ _ _) (v := ?_) rfl (by kernel_rfl) (by kernel_rfl) (by kernel_rfl) (fun _ _ _ h => h) (Or.inl ⟨by kernel_rfl, ?_⟩) hHeld ?_
          rotate_left
          · (intro wS hSw; (try dsimp only at hSw); go_simp; all_goals (with_reducible rfl))
          try simp only [Act.put, List.setIfInBounds_toArray, List.set_cons_zero, List.set_cons_succ]
          refine wpAnyH_take (i := 6) (oi := Oper.mk _ _ _ _ _ _) (v := ?_) rfl (by kernel_rfl) (by kernel_rfl) (by kernel_rfl) (fun _ _ _ h => h) (Or.inl ⟨by kernel_rfl, ?_⟩) hHeld ?_
          rotate_left
          · (intro wS hSw; (try dsimp only at hSw); go_simp; all_goals (with_reducible rfl))
          try simp only [Act.put, List.setIfInBounds_toArray, List.set_cons_zero, List.set_cons_succ]
          refine wpAnyH_take (i := 7) (oi := Oper.mk _ _ _ _ _ _) (v := ?_) rfl (by kernel_rfl) (by kernel_rfl) (by kernel_rfl) (fun _ _ _ h => h) (Or.inl ⟨by kernel_rfl, ?_⟩) hHeld ?_
          rotate_left
          · (intro wS hSw; (try dsimp only at hSw); go_simp; all_goals (with_reducible rfl))
          try simp only [Act.put, List.setIfInBounds_toArray, List.set_cons_zero, List.set_cons_succ]
          refine wpAnyH_take (i := 8) (oi := Oper.mk _ _ _ _ _ _) (v := ?_) rfl (by kernel_rfl) (by kernel_rfl) (by kernel_rfl) (fun _ _ _ h => h) (Or.inl ⟨by kernel_rfl, ?_⟩) hHeld ?_
          rotate_left
          · (intro wS hSw; (try dsimp only at hSw); go_simp; all_goals (with_reducible rfl))
          try simp only [Act.put, List.setIfInBounds_toArray, List.set_cons_zero, List.set_cons_succ]
          refine wpAnyH_take (i := 9) (oi := Oper.mk _ _ _ _ _ _) (v := ?_) rfl (by kernel_rfl) (by kernel_rfl) (by kernel_rfl) (fun _ _ _ h => h) (Or.inl ⟨by kernel_rfl, ?_⟩) hHeld ?_
          rotate_left
          · (intro wS hSw; (try dsimp only at hSw); go_simp; all_goals (with_reducible rfl))
          try simp only [Act.put, List.setIfInBounds_toArray, List.set_cons_zero, List.set_cons_succ]
          refine wpAnyH_ready (rs := [10]) (by kernel_rfl) (by simp) ?_
          refine AllReadyH.cons (o := Oper.mk _ _ _ _ _ _) rfl (fun KK hKK => ?_) AllReadyH.nil
          rw [if_pos (by kernel_rfl)]
          go_simp
          refine (cM'.out _).mono ?_
          rintro e w5 ⟨rfl, rfl⟩
          try dsimp only
          refine hKK.out _ _ (by (try dsimp only); (first | exact hcs'.out _ hdd)) (fun hHeld => ?_)
          clear hKK KK
          try simp only [Act.put, List.setIfInBounds_toArray, List.set_cons_zero, List.set_cons_succ]
          refine wpAnyH_take (i := 11) (oi := Oper.mk _ _ _ _ _ _) (v := .bool true) rfl (by kernel_rfl) (by kernel_rfl) (by kernel_rfl) (fun _ _ _ h => h) (Or.inl ⟨by kernel_rfl, ?_⟩) hHeld ?_
          · (intro wS hSw; (try dsimp only at hSw); go_simp; all_goals (first | (simp [hc]; done) | (with_reducible rfl)))
          try simp only [Act.put, List.setIfInBounds_toArray, List.set_cons_zero, List.set_cons_succ]
          refine wpAnyH_done (by kernel_rfl) ?_ _
          clear hHeld
          have hcm : c < m := by omega
          have p0 := hr2'.out.cell hcm
          have p1 := hr2'.out.frozen c
          have hst := hr2'.out.stored c 1
          rw [lst_set, lst_congr (fun q _ => rwN_step lo c q hc1)] at hst
          have hB2 := hBd'.out.setCell (p := ⟨wo.heap.size, c, none⟩) (Nat.le_refl _) (.int .i64 1)
          have hcM : (c : Int) < (m : Int) := by omega
          have hc0 : (0 : Int) ≤ (c : Int) := by omega
          have hcw : IntKind.i64.wrap ((c : Int) + 1) = (c : Int) + 1 := by rw [IntKind.wrap_i64]; omega
          clear hr2' hBd'
          have hst' := Lib.hid hst
          have hB2' := Lib.hid hB2
          clear hst hB2
          go_wp2
          go_roundw
          case rel => exact ⟨c + 1, by omega, by omega, by go_num, hst'.out, hB2'.out⟩
          case measure => simp [intOf]; omega
        · obtain rfl : c = hi := by omega
          have hp2 := hpt'.out.kept hBd
          have hr3 : RowAt wr.drew w2.heap.size wo.heap.size m m (lst m (MG k)) := by
            rw [lst_congr (fun q _ => hrow'.out q)]; exact hr2
          have hs3 : w2.heap.size ≤ wr.drew.heap.size := hdd.size
          have hkl : k ≤ 1099511627776 := by omega
          clear hr2
          have hr3' := Lib.hid hr3
          have hBd' := Lib.hid hBd
          clear hr3 hBd
          go_wp2_with fail
          refine wp_region_held_drew (S := (fun w' => w'.cell? ⟨sb, soff + k, none⟩ = some (.int .i64 (a : Int)) ∧ w'.cell? ⟨sb, soff + j, none⟩ = some (.int .i64 (b : Int)))) (by kernel_rfl) (by (try dsimp only); (first | exact hcs'.out _ hdd)) (fun hHeld => ?_)
          refine wpAnyH_take (i := 0) (oi := Oper.mk _ _ _ _ _ _) (v := ?_) rfl (by kernel_rfl) (by kernel_rfl) (by kernel_rfl) (fun _ _ _ h => h) (Or.inl ⟨by kernel_rfl, ?_⟩) hHeld ?_
          rotate_left
          · (intro wS hSw; (try dsimp only at hSw); go_simp; all_goals (with_reducible rfl))
          try simp only [Act.put, List.setIfInBounds_toArray, List.set_cons_zero, List.set_cons_succ]
          refine wpAnyH_take (i := 1) (oi := Oper.mk _ _ _ _ _ _) (v := ?_) rfl (by kernel_rfl) (by kernel_rfl) (by kernel_rfl) (fun _ _ _ h => h) (Or.inl ⟨by kernel_rfl, ?_⟩) hHeld ?_
          rotate_left
          · (intro wS hSw; (try dsimp only at hSw); go_simp; all_goals (with_reducible rfl))
          try simp only [Act.put, List.setIfInBounds_toArray, List.set_cons_zero, List.set_cons_succ]
          refine wpAnyH_take (i := 2) (oi := Oper.mk _ _ _ _ _ _) (v := ?_) rfl (by kernel_rfl) (by kernel_rfl) (by kernel_rfl) (fun _ _ _ h => h) (Or.inl ⟨by kernel_rfl, ?_⟩) hHeld ?_
          rotate_left
          · (intro wS hSw; (try dsimp only at hSw); go_simp; all_goals (with_reducible rfl))
          try simp only [Act.put, List.setIfInBounds_toArray, List.set_cons_zero, List.set_cons_succ]
          refine wpAnyH_take (i := 3) (oi := Oper.mk _ _ _ _ _ _) (v := ?_) rfl (by kernel_rfl) (by kernel_rfl) (by kernel_rfl) (fun _ _ _ h => h) (Or.inl ⟨by kernel_rfl, ?_⟩) hHeld ?_
          rotate_left
          · (intro wS hSw; (try dsimp only at hSw); go_simp; all_goals (with_reducible rfl))
          try simp only [Act.put, List.setIfInBounds_toArray, List.set_cons_zero, List.set_cons_succ]
          refine wpAnyH_take (i := 4) (oi := Oper.mk _ _ _ _ _ _) (v := ?_) rfl (by kernel_rfl) (by kernel_rfl) (by kernel_rfl) (fun _ _ _ h => h) (Or.inl ⟨by kernel_rfl, ?_⟩) hHeld ?_
          rotate_left
          · (intro wS hSw; (try dsimp only at hSw); go_simp; all_goals (with_reducible rfl))
          try simp only [Act.put, List.setIfInBounds_toArray, List.set_cons_zero, List.set_cons_succ]
          refine wpAnyH_take (i := 5) (oi := Oper.mk _ _ _ _ _ _) (v := ?_) rfl (by kernel_rfl) (by kernel_rfl) (by kernel_rfl) (fun _ _ _ h => h) (Or.inl ⟨by kernel_rfl, ?_⟩) hHeld ?_
          rotate_left
          · (intro wS hSw; (try dsimp only at hSw); go_simp; all_goals (with_reducible rfl))
          try simp only [Act.put, List.setIfInBounds_toArray, List.set_cons_zero, List.set_cons_succ]
          refine wpAnyH_take (i := 6) (oi := Oper.mk _ _ _ _ _ _) (v := ?_) rfl (by kernel_rfl) (by kernel_rfl) (by kernel_rfl) (fun _ _ _ h => h) (Or.inl ⟨by kernel_rfl, ?_⟩) hHeld ?_
          rotate_left
          · (intro wS hSw; (try dsimp only at hSw); go_simp; all_goals (with_reducible rfl))
          try simp only [Act.put, List.setIfInBounds_toArray, List.set_cons_zero, List.set_cons_succ]
          refine wpAnyH_take (i := 7) (oi := Oper.mk _ _ _ _ _ _) (v := ?_) rfl (by kernel_rfl) (by kernel_rfl) (by kernel_rfl) (fun _ _ _ h => h) (Or.inl ⟨by kernel_rfl, ?_⟩) hHeld ?_
          rotate_left
          · (intro wS hSw; (try dsimp only at hSw); go_simp; all_goals (with_reducible rfl))
          try simp only [Act.put, List.setIfInBounds_toArray, List.set_cons_zero, List.set_cons_succ]
          refine wpAnyH_take (i := 8) (oi := Oper.mk _ _ _ _ _ _) (v := ?_) rfl (by kernel_rfl) (by kernel_rfl) (by kernel_rfl) (fun _ _ _ h => h) (Or.inl ⟨by kernel_rfl, ?_⟩) hHeld ?_
          rotate_left
          · (intro wS hSw; (try dsimp only at hSw); go_simp; all_goals (with_reducible rfl))
          try simp only [Act.put, List.setIfInBounds_toArray, List.set_cons_zero, List.set_cons_succ]
          refine wpAnyH_take (i := 9) (oi := Oper.mk _ _ _ _ _ _) (v := ?_) rfl (by kernel_rfl) (by kernel_rfl) (by kernel_rfl) (fun _ _ _ h => h) (Or.inl ⟨by kernel_rfl, ?_⟩) hHeld ?_
          rotate_left
          · (intro wS hSw; (try dsimp only at hSw); go_simp; all_goals (with_reducible rfl))
          try simp only [Act.put, List.setIfInBounds_toArray, List.set_cons_zero, List.set_cons_succ]
          refine wpAnyH_ready (rs := [10]) (by kernel_rfl) (by simp) ?_
          refine AllReadyH.cons (o := Oper.mk _ _ _ _ _ _) rfl (fun KK hKK => ?_) AllReadyH.nil
          rw [if_pos (by kernel_rfl)]
          go_simp
          refine (cM'.out _).mono ?_
          rintro e w5 ⟨rfl, rfl⟩
          try dsimp only
          refine hKK.out _ _ (by (try dsimp only); (first | exact hcs'.out _ hdd)) (fun hHeld => ?_)
          clear hKK KK
          try simp only [Act.put, List.setIfInBounds_toArray, List.set_cons_zero, List.set_cons_succ]
          refine wpAnyH_take (i := 11) (oi := Oper.mk _ _ _ _ _ _) (v := .bool false) rfl (by kernel_rfl) (by kernel_rfl) (by kernel_rfl) (fun _ _ _ h => h) (Or.inl ⟨by kernel_rfl, ?_⟩) hHeld ?_
          · (intro wS hSw; (try dsimp only at hSw); go_simp; all_goals (first | (simp; done) | (with_reducible rfl)))
          try simp only [Act.put, List.setIfInBounds_toArray, List.set_cons_zero, List.set_cons_succ]
          refine wpAnyH_done (by kernel_rfl) ?_ _
          clear hHeld
          go_wp2_with (at_builtin; refine wpList_append_row rfl _ _ rfl w2.heap.size wo.heap.size u10 k m wo.heap.size m 1 rb rc MG (MG k) rfl rfl hp2 hr3'.out (Nat.le_refl _) hkl hs3 ?_)
          intro v' w6 hp3 hg3
          have hB6 := hdd.grown hg3 hs3 (fun q hq => (World.ownsRow.lt hp2.outer q hq).1)
          clear hg3 hp2
          have hp3' := Lib.hid hp3
          have hB6' := Lib.hid hB6
          clear hp3 hB6
          go_wp2
          go_roundw
          case rel =>
            exact ⟨k + 1, (fun i => if i = k then wo.heap.size else rb i), (fun i => if i = k then m else rc i), by omega, by have := hj2'.out; go_num, hp3'.out.congr (fun i q _ _ => by split <;> (try subst_vars) <;> rfl), hB6'.out⟩
          case measure => simp [intOf]; have := hj'.out; have := hnm'.out; omega
    · obtain rfl : k = m := by omega
      obtain ⟨gg, gcap, rfl, hall⟩ := hpt.form (by omega)
      have hown := (hall.mono hb2.size (Nat.le_refl _)).own
      have hbe := hb2.trans (hB.mono hb2.size)
      have hge : ¬ ((k : Int) + 1 < (n : Int)) := by have := hnm'.out; omega
      clear hpt hall
      have hown' := Lib.hid hown
      have hbe' := Lib.hid hbe
      clear hown hbe
      go_wp2
      go_ret2
      exact ⟨_, rfl, hown'.out, hbe'.out⟩
theorem mkGraph_any (v u : Value) (f : List Quad) (xs : List (Int × Int)) (w : World) (hv : QuadV w v f) (hu : RatsV w u xs) (hf : MapP f) (hp : partB xs = true) :
    Calls Tryz.prog 21 #[v, u] w (RetOB OwnSS (mg_v f xs) w) := by
  by_cases hm : mm_v f xs false = (true, true)
  · have e : mg_v f xs = (tab (xs.length - 1) (xs.length - 1) (mgN f xs), true) := by unfold mg_v; rw [if_pos hm]
    rw [e]
    exact mkGraph_in v u f xs w hv hu hf hp hm
  · have e : mg_v f xs = ([], false) := by unfold mg_v; rw [if_neg hm]
    rw [e]
    have c1 := mkMarkov_any v u f xs false w hv hu hf hp
    generalize mm_v f xs false = M at *
    obtain ⟨m1, m2⟩ := M
    simp only at c1
    clear hv hu e
    have c1' := Lib.hid c1
    have hm' := Lib.hid hm
    clear c1 hm
    cases m1
    · go_enter Tryz.func21, Tryz.ntmps21
      go_wp2_with fail
      refine (c1'.out).mono ?_
      rintro e w1 ⟨rfl, hB1⟩
      go_wp2
      go_ret2
      exact ⟨_, rfl, OwnSS.nil _ _ _, hB1⟩
    · cases m2
      · go_enter Tryz.func21, Tryz.ntmps21
        go_wp2_with fail
        refine (c1'.out).mono ?_
        rintro e w1 ⟨rfl, hB1⟩
        go_wp2
        go_ret2
        exact ⟨_, rfl, OwnSS.nil _ _ _, hB1⟩
      · exact absurd rfl hm'.out
theorem specMarkovGraph_any (v : Value) (f : List Quad) (u : Value) (xs : List (Int × Int)) (w : World) (hv : QuadV w v f) (hm : szPointS f ≤ 1099511627776) (hu : RatsV w u xs) (hn : szRatS xs ≤ 1099511627776) :
    Calls Tryz.prog 7 #[v, u] w (RetOB OwnSS (MarkovGraph_v f xs) w) := by
  have c0 := mkAsked_any v u f xs w hv hu hm hn
  by_cases h : mapB f = true ∧ partB xs = true
  · rw [MarkovGraph_yes h]
    rw [h.1, h.2] at c0
    have c1 := fun w' (hB : Below w.heap.size w w') => mkGraph_any v u f xs w' (hv.below hB) (hu.below hB) (mapB_true h.1) h.2
    generalize mg_v f xs = R at *
    obtain ⟨L, B⟩ := R
    clear hv hu h
    have c0' := Lib.hid c0
    have c1' := Lib.hid c1
    clear c0 c1
    go_enter Tryz.func7, Tryz.ntmps7
    go_wp2_with fail
    refine (c0'.out).mono ?_
    rintro e w0 ⟨rfl, hB0⟩
    have hs0 := hB0.size
    go_wp2_with fail
    refine (c1'.out _ hB0).mono ?_
    rintro e w1 ⟨s, rfl, hs, hB1⟩
    have hb1 := hB0.trans (hB1.mono hs0)
    have hs' := Lib.hid hs
    clear hs
    go_wp2
    go_ret2
    exact ⟨_, rfl, hs'.out.mono hs0 (Nat.le_refl _), hb1⟩
  · rw [MarkovGraph_no h]
    rw [asked_no h] at c0
    clear hv hu h
    have c0' := Lib.hid c0
    clear c0
    go_enter Tryz.func7, Tryz.ntmps7
    go_wp2_with fail
    refine (c0'.out).mono ?_
    rintro e w1 ⟨rfl, hB1⟩
    go_wp2
    go_ret2
    exact ⟨_, rfl, OwnSS.nil _ _ _, hB1⟩
theorem implMarkovGraph_any (v : Value) (f : List Quad) (u : Value) (xs : List (Int × Int)) (w : World) (hv : QuadV w v f) (hm : szPointS f ≤ 1099511627776) (hu : RatsV w u xs) (hn : szRatS xs ≤ 1099511627776) :
    Calls Tryz.prog 10 #[v, u] w (RetOB OwnSS (MarkovGraph_v f xs) w) := by
  have c1 := implIsMarkov_any v f u xs w hv hm hu hn
  by_cases h : mapB f = true ∧ partB xs = true ∧ mm_v f xs false = (true, true)
  · obtain ⟨h1, h2, h3⟩ := h
    rw [IsMarkov_yes ⟨h1, h2⟩, h3] at c1
    have hxl := partB_len h2
    have c2 := fun w' (hB : Below w.heap.size w w') => between_any u xs w' (hu.below hB) hn
    have hbl : (betwL xs).length = xs.length - 1 := betwK_len _ _
    have c3 := fun t w' (hB : Below w.heap.size w w') (ht : QuadV w' t (betwL xs)) => implCoverGraph_any v f t (betwL xs) w' (hv.below hB) hm ht (by show (betwL xs).length ≤ _; omega)
    rw [mark_graph h1 h2 h3] at c3
    generalize MarkovGraph_v f xs = R at *
    generalize betwL xs = BL at *
    obtain ⟨L, B⟩ := R
    clear hv hu h1 h2 h3 hbl
    have c1' := Lib.hid c1
    have c2' := Lib.hid c2
    have c3' := Lib.hid c3
    clear c1 c2 c3
    go_enter Tryz.func10, Tryz.ntmps10
    go_wp2_with fail
    refine (c1'.out).mono ?_
    rintro e w1 ⟨rfl, hB1⟩
    go_wp2_with fail
    refine (c2'.out _ hB1).mono ?_
    rintro e w2 ⟨t, rfl, ht, hB2⟩
    have hb2 := hB1.trans (hB2.mono hB1.size)
    have c4 := c3'.out t w2 hb2 ht.read
    clear ht hB1 hB2
    have c4' := Lib.hid c4
    clear c4
    go_wp2_with fail
    refine (c4'.out).mono ?_
    rintro e w3 ⟨s, rfl, hs, hB3⟩
    have hb3 := hb2.trans (hB3.mono hb2.size)
    have hs' := Lib.hid hs
    clear hs
    go_wp2
    go_ret2
    exact ⟨_, rfl, hs'.out.mono hb2.size (Nat.le_refl _), hb3⟩
  · have e : MarkovGraph_v f xs = ([], false) := by unfold MarkovGraph_v; rw [if_neg h]
    rw [e]
    have hI : IsMarkov_v f xs ≠ (true, true) := fun q => by
      by_cases h2 : mapB f = true ∧ partB xs = true
      · rw [IsMarkov_yes h2] at q
        exact h ⟨h2.1, h2.2, q⟩
      · rw [IsMarkov_no h2] at q; cases q
    generalize IsMarkov_v f xs = M at *
    obtain ⟨m1, m2⟩ := M
    simp only at c1
    clear hv hu e h
    have c1' := Lib.hid c1
    have hI' := Lib.hid hI
    clear c1 hI
    cases m2
    · go_enter Tryz.func10, Tryz.ntmps10
      go_wp2_with fail
      refine (c1'.out).mono ?_
      rintro e w1 ⟨rfl, hB1⟩
      go_wp2
      go_ret2
      exact ⟨_, rfl, OwnSS.nil _ _ _, hB1⟩
    · cases m1
      · go_enter Tryz.func10, Tryz.ntmps10
        go_wp2_with fail
        refine (c1'.out).mono ?_
        rintro e w1 ⟨rfl, hB1⟩
        go_wp2
        go_ret2
        exact ⟨_, rfl, OwnSS.nil _ _ _, hB1⟩
      · exact absurd rfl hI'.out

end Go.Proofs.YtfcanpebagpdbaaGreat

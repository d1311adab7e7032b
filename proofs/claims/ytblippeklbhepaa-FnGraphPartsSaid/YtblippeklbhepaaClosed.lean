/- Closed walks, traces, powers as the laws ask for them: the reference's walks and the program's. -/
import Derived.Test.YtblippeklbhepaaWalks
namespace Go.Proofs.Ytblippeklbhepaa
open Go.RowKit

theorem ClosedWalks_no {g : List (List Int)} {t : Int} (h : clOk g t = false) : ClosedWalks_v g t = (0, false) := by simp [ClosedWalks_v, h]
theorem ClosedWalks_yes {g : List (List Int)} {t : Nat} (h : clOk g t = true) : ClosedWalks_v g t = clR (pwG g t) g.length := by simp [ClosedWalks_v, h]

set_option maxHeartbeats 800000 in
theorem grClosed_any (v : Value) (g : List (List Int)) (t : Nat) (w : World) (hv : RowsV w v g) (hg : graphB g = true) (ht : t ≤ 12) :
    Calls Try.prog 71 #[v, .int .i64 t] w (Ret (.int .i64 (clC (pwG g t) g.length)) w) := by
  obtain ⟨n, hn⟩ : ∃ n, g.length = n := ⟨_, rfl⟩
  obtain ⟨n1, n8, -, -⟩ := graphB_true hg
  have c1 := grPower_g v g n t w hv hg hn ht
  have hbd := pwG_bd hg t
  rw [hn] at hbd n1 n8 ⊢
  obtain ⟨E, hE⟩ : ∃ E, pwG g t = E := ⟨_, rfl⟩
  rw [hE] at c1 hbd ⊢
  have hcl := clC_eq (fun k hk => hbd k k hk hk)
  have hcl2 := clS_bd (fun k hk => hbd k k hk hk)
  have c1' := Lib.hid c1
  have hn' := Lib.hid hn
  have hg' := Lib.hid hg
  have hv' := Lib.hid hv
  have hbd' := Lib.hid hbd
  have hcl' := Lib.hid hcl
  have hcl2' := Lib.hid hcl2
  have hE' := Lib.hid hE
  clear c1 hn hg hv hbd hcl hcl2 hE
  go_enter Try.func71, Try.ntmps71
  go_wp2_with fail
  refine (c1'.out).mono ?_
  rintro e w2 ⟨gg, cap, rb, rc, rfl, hM, hB⟩
  have hM' := Lib.hid hM
  clear hM
  go_wp2
  go_loop [5, 12] (fun s i => ∃ k : Nat, k ≤ n ∧ i = .int .i64 k ∧ s = .int .i64 (clC E k)) (fun _ i => n - (intOf i).toNat)
  case atStart => exact ⟨0, Nat.zero_le _, rfl, rfl⟩
  case round =>
    obtain ⟨k, hk, rfl, rfl⟩ := hrel
    by_cases hlt : k < n
    · have p1 := hM'.out.ptr hlt
      have p2 := hM'.out.cell hlt hlt
      have b1 := hbd'.out k k hlt hlt
      have b2 := hcl'.out k hk
      have b3 := (hcl2'.out k hk).1
      have b4 : 0 ≤ clC E k ∧ clC E k ≤ 1000000001 := by omega
      have hs := clC_succ E k
      obtain ⟨m, hm⟩ : ∃ m, clC E (k + 1) = m := ⟨_, rfl⟩
      rw [hm] at hs
      replace hs := hs.symm
      have hs' := Lib.hid hs
      have hm' := Lib.hid hm
      clear hs hm
      clear b2 b3
      go_wp2_with fail
      refine (grCap_is _ m _ hs'.out).mono ?_
      rintro e w_ ⟨rfl, rfl⟩
      go_wp2
      go_round
      case rel => exact ⟨k + 1, by omega, by go_num, by rw [hm'.out]⟩
      case measure => simp [intOf]; omega
    · obtain rfl : n = k := by omega
      go_wp2
      go_ret
      exact ⟨rfl, hB⟩

theorem clC_big {g : List (List Int)} (h : graphB g = true) (t : Nat) : (clC (pwG g t) g.length ≤ 1000000000 → clR (pwG g t) g.length = (clC (pwG g t) g.length, true)) ∧ (¬ clC (pwG g t) g.length ≤ 1000000000 → clR (pwG g t) g.length = (0, false)) := by
  have hbd := pwG_bd h t
  have h1 := clC_eq (fun k hk => hbd k k hk hk) g.length (Nat.le_refl _)
  rw [h1]
  unfold clR
  refine ⟨fun q => ?_, fun q => ?_⟩
  · rw [if_neg (by omega), show min (clS (pwG g t) g.length) 1000000001 = clS (pwG g t) g.length by omega]
  · rw [if_pos (by omega)]

set_option maxHeartbeats 800000 in
theorem specClosedWalks_any (v : Value) (g : List (List Int)) (t : Int) (w : World) (hv : RowsV w v g) (hm : szIntSS g ≤ 1099511627776) (_ht : I64 t) :
    Calls Try.prog 10 #[v, .int .i64 t] w (Ret (.tuple #[.int .i64 (ClosedWalks_v g t).1, .bool (ClosedWalks_v g t).2]) w) := by
  have c1 := grGood_any v g w hv hm
  have c1' := Lib.hid c1
  clear c1
  cases h : graphB g
  · rw [h] at c1'
    rw [ClosedWalks_no (by simp [clOk, h])]
    clear h hv
    go_enter Try.func10, Try.ntmps10
    go_wp2_with fail
    refine (c1'.out).mono ?_
    rintro e w_ ⟨rfl, rfl⟩
    go_wp2
    go_ret2
    exact ⟨rfl, Below.refl _ _⟩
  rw [h] at c1'
  cases ht : inB t 0 12
  · rw [ClosedWalks_no (by simp [clOk, ht])]
    have ht' := Lib.hid ht
    clear ht
    clear h hv
    go_enter Try.func10, Try.ntmps10
    go_wp2_with fail
    refine (c1'.out).mono ?_
    rintro e w_ ⟨rfl, rfl⟩
    go_wp2_with fail
    refine (grSteps_any _ _).mono ?_
    rintro e w1 ⟨rfl, rfl⟩
    rw [ht'.out]
    go_wp2
    go_ret2
    exact ⟨rfl, Below.refl _ _⟩
  have hok : clOk g t = true := by simp [clOk, h, ht]
  obtain ⟨t, rfl, ht2⟩ := inB_nat' (n := 12) ht
  rw [ClosedWalks_yes hok]
  have c2 := fun w' hB => grClosed_any v g t w' (hv.below hB) h ht2
  have hR := clC_big h t
  obtain ⟨S, hS⟩ : ∃ S, clC (pwG g t) g.length = S := ⟨_, rfl⟩
  rw [hS] at hR
  simp only [hS] at c2
  have c2' := Lib.hid c2
  have ht' := Lib.hid ht
  clear c2 ht
  clear hok hS hv h
  by_cases hbig : S ≤ 1000000000
  · rw [hR.1 hbig]
    clear hR
    go_enter Try.func10, Try.ntmps10
    go_wp2_with fail
    refine (c1'.out).mono ?_
    rintro e w_ ⟨rfl, rfl⟩
    go_wp2_with fail
    refine (grSteps_any _ _).mono ?_
    rintro e w1 ⟨rfl, rfl⟩
    rw [ht'.out]
    go_wp2_with fail
    refine (c2'.out _ (Below.refl _ _)).mono ?_
    rintro e w1 ⟨rfl, hB⟩
    go_wp2_with fail
    refine (c2'.out _ hB).mono ?_
    rintro e w2 ⟨rfl, hB2⟩
    go_wp2
    go_ret2
    exact ⟨rfl, hB.trans (hB2.mono hB.size)⟩
  · rw [hR.2 hbig]
    clear hR
    go_enter Try.func10, Try.ntmps10
    go_wp2_with fail
    refine (c1'.out).mono ?_
    rintro e w_ ⟨rfl, rfl⟩
    go_wp2_with fail
    refine (grSteps_any _ _).mono ?_
    rintro e w1 ⟨rfl, rfl⟩
    rw [ht'.out]
    go_wp2_with fail
    refine (c2'.out _ (Below.refl _ _)).mono ?_
    rintro e w1 ⟨rfl, hB⟩
    go_wp2
    go_ret2
    exact ⟨rfl, hB⟩

theorem implClosedWalks_any (v : Value) (g : List (List Int)) (t : Int) (w : World) (hv : RowsV w v g) (hm : szIntSS g ≤ 1099511627776) (_ht : I64 t) :
    Calls Try.prog 9 #[v, .int .i64 t] w (Ret (.tuple #[.int .i64 (ClosedWalks_v g t).1, .bool (ClosedWalks_v g t).2]) w) := by
  have c1 := isWalk_any v g t w hv hm
  have c1' := Lib.hid c1
  clear c1
  cases h : (graphB g && inB t 0 12)
  · rw [h] at c1'
    rw [ClosedWalks_no h]
    clear h hv
    go_enter Try.func9, Try.ntmps9
    go_wp2_with fail
    refine (c1'.out).mono ?_
    rintro e w1 ⟨rfl, hB⟩
    go_wp2
    go_ret2
    exact ⟨rfl, hB⟩
  rw [h] at c1'
  have hok : clOk g t = true := h
  simp only [Bool.and_eq_true] at h
  obtain ⟨h, ht⟩ := h
  obtain ⟨t, rfl, ht2⟩ := inB_nat' (n := 12) ht
  rw [ClosedWalks_yes hok]
  have c2 := fun w' hB => closedWalks_any v g t w' (hv.below hB) h ht2
  generalize clR (pwG g t) g.length = R at *
  have c2' := Lib.hid c2
  clear c2
  clear hok hv h ht
  go_enter Try.func9, Try.ntmps9
  go_wp2_with fail
  refine (c1'.out).mono ?_
  rintro e w1 ⟨rfl, hB⟩
  go_wp2_with fail
  refine (c2'.out _ hB).mono ?_
  rintro e w2 ⟨rfl, hB2⟩
  go_wp2
  go_ret2
  exact ⟨rfl, hB.trans (hB2.mono hB.size)⟩

/-! Traces. -/
theorem pwS_id {g : Nat → Nat → Int} {most : Int} {n i c : Nat} (h9 : 9 ≤ most) (hb : most ≤ 1000000001) (hi : i < n) (hg : ∀ a, a < n → 0 ≤ g a c ∧ g a c ≤ 9) :
    ∀ k, k ≤ n → pwS (fun i j => if i = j then 1 else 0) g most i c k = if i < k then g i c else 0 := by
  intro k
  induction k with
  | zero => intro _; rw [if_neg (Nat.not_lt_zero _)]; rfl
  | succ k ih =>
    intro hk
    have h1 := ih (by omega)
    have h2 := (pwS_bd (o := fun i j => if i = j then 1 else 0) (i := i) (c := c) (most := most) (by omega) hb (fun k _ => by split <;> omega) hg k (by omega)).2 (by omega)
    have hx : (if i = k then (1 : Int) else 0) * g k c = if i = k then g i c else 0 := by by_cases e : i = k <;> simp [e]
    simp only [hx] at h2
    have hgi := hg i hi
    rw [h2, h1]
    repeat' split
    all_goals omega
theorem pwG_one {g : List (List Int)} (h : graphB g = true) {i j : Nat} (hi : i < g.length) (hj : j < g.length) : pwG g 1 i j = ent g i j := by
  obtain ⟨_, _, _, hent⟩ := graphB_true h
  show pwS (fun i j => if i = j then 1 else 0) (ent g) 1000000001 i j g.length = _
  rw [pwS_id (by omega) (by omega) hi (fun a ha => hent a j ha hj) g.length (Nat.le_refl _), if_pos hi]
theorem clS_congr {f f' : Nat → Nat → Int} : ∀ n, (∀ k, k < n → f k k = f' k k) → clS f n = clS f' n := by
  intro n
  induction n with
  | zero => intro _; rfl
  | succ n ih => intro h; rw [clS_succ, clS_succ, ih (fun k hk => h k (by omega)), h n (by omega)]
/-- What both TraceOf functions return. -/
def TraceOf_v (g : List (List Int)) : Int × Bool := if graphB g = true then (clS (ent g) g.length, true) else (0, false)
theorem TraceOf_no {g : List (List Int)} (h : graphB g = false) : TraceOf_v g = (0, false) := by simp [TraceOf_v, h]
theorem TraceOf_yes {g : List (List Int)} (h : graphB g = true) : TraceOf_v g = (clS (ent g) g.length, true) := by simp [TraceOf_v, h]
theorem clR_one {g : List (List Int)} (h : graphB g = true) : clR (pwG g 1) g.length = (clS (ent g) g.length, true) := by
  obtain ⟨_, h8, _, hent⟩ := graphB_true h
  have e : clS (pwG g 1) g.length = clS (ent g) g.length := clS_congr _ fun k hk => pwG_one h hk hk
  have b := (clS_bd (fun k hk => hent k k hk hk) g.length (Nat.le_refl _)).2
  unfold clR
  rw [e, if_neg (by omega)]




/-! Powers. -/
def powOk (g : List (List Int)) (t : Int) : Bool := clOk g t && (tab g.length g.length (pwG g t.toNat)).all fun r => allB r 0 1000000000
/-- What both PowerOf functions return. -/
def PowerOf_v (g : List (List Int)) (t : Int) : List (List Int) × Bool := if powOk g t = true then (tab g.length g.length (pwG g t.toNat), true) else ([], false)
theorem PowerOf_no {g : List (List Int)} {t : Int} (h : powOk g t = false) : PowerOf_v g t = ([], false) := by simp [PowerOf_v, h]
theorem PowerOf_yes {g : List (List Int)} {t : Nat} (h : powOk g t = true) : PowerOf_v g t = (tab g.length g.length (pwG g t), true) := by simp [PowerOf_v, h]
theorem PowerOf_len (g : List (List Int)) (t : Int) : szIntSS (PowerOf_v g t).1 ≤ 1099511627776 := by
  cases h : powOk g t
  · rw [PowerOf_no h]; exact Nat.zero_le _
  · unfold PowerOf_v
    rw [if_pos h, sz_tab]
    have hg : graphB g = true := by simp only [powOk, clOk, Bool.and_eq_true] at h; exact h.1.1
    have h2 := (graphB_sz hg).2
    have : g.length * g.length ≤ 8 * 8 := Nat.mul_le_mul h2 h2
    omega
theorem tab_all {n m : Nat} {f : Nat → Nat → Int} {p : List Int → Bool} : (tab n m f).all p = true ↔ ∀ i, i < n → p (lst m (f i)) = true := by
  simp [tab, List.all_eq_true]
theorem tab_all_no {n m i : Nat} {f : Nat → Nat → Int} {p : List Int → Bool} (hi : i < n) (h : p (lst m (f i)) = false) : (tab n m f).all p = false := by
  rw [Bool.eq_false_iff]; intro q; rw [tab_all] at q; rw [q i hi] at h; cases h

/-- The greatest of the first numbers. -/
def mxTo (xs : List Int) : Nat → Int
  | 0 => nth xs 0
  | k + 1 => if nth xs (k + 1) > mxTo xs k then nth xs (k + 1) else mxTo xs k
theorem mxTo_succ (xs : List Int) (k : Nat) : mxTo xs (k + 1) = if nth xs (k + 1) > mxTo xs k then nth xs (k + 1) else mxTo xs k := rfl
theorem mxTo_ge (xs : List Int) : ∀ k j, j ≤ k → nth xs j ≤ mxTo xs k := by
  intro k
  induction k with
  | zero => intro j hj; obtain rfl : j = 0 := by omega
            exact Int.le_refl _
  | succ k ih =>
    intro j hj
    rw [mxTo_succ]
    by_cases e : j = k + 1
    · subst e; split <;> omega
    · have := ih j (by omega)
      split <;> omega
theorem mxTo_mem (xs : List Int) : ∀ k, ∃ j, j ≤ k ∧ mxTo xs k = nth xs j := by
  intro k
  induction k with
  | zero => exact ⟨0, Nat.le_refl _, rfl⟩
  | succ k ih =>
    obtain ⟨j, hj, e⟩ := ih
    rw [mxTo_succ]
    split
    · exact ⟨k + 1, Nat.le_refl _, rfl⟩
    · exact ⟨j, by omega, e⟩
theorem max_any (v : Value) (xs : List Int) (n : Nat) (w : World) (hv : IntsV w v xs) (hn : xs.length = n) (h1 : 1 ≤ n) (hm : n ≤ 1099511627776) :
    Calls Try.prog 65 #[v] w (Same (.int .i64 (mxTo xs (n - 1))) w) := by
  obtain ⟨ao, cap, rfl, _, _, H⟩ := hv
  rw [hn] at H ⊢
  obtain ⟨b, off, rfl, h0⟩ := H 0 (by omega)
  rw [Nat.add_zero] at h0
  have h00 : mxTo xs 0 = nth xs 0 := rfl
  have hn' := Lib.hid hn
  have h00' := Lib.hid h00
  clear hn h00
  go_enter Try.func65, Try.ntmps65
  go_wp2
  go_loop [3, 4] (fun s i => ∃ k : Nat, 1 ≤ k ∧ k ≤ n ∧ i = .int .i64 k ∧ s = .int .i64 (mxTo xs (k - 1))) (fun _ i => n - (intOf i).toNat)
  case atStart => exact ⟨1, Nat.le_refl _, h1, rfl, by rw [Nat.sub_self, h00'.out]⟩
  case round =>
    obtain ⟨k, hk1, hk, rfl, rfl⟩ := hrel
    by_cases hlt : k < n
    · obtain ⟨b', off', e, hc⟩ := H k (by omega)
      cases e
      have hs := mxTo_succ xs (k - 1)
      rw [show k - 1 + 1 = k by omega] at hs
      clear H
      by_cases hgt : nth xs k > mxTo xs (k - 1)
      · rw [if_pos hgt] at hs
        have hs' := Lib.hid hs
        clear hs
        go_wp2
        go_round
        case rel => exact ⟨k + 1, by omega, by omega, by go_num, by rw [Nat.add_sub_cancel, hs'.out]⟩
        case measure => simp [intOf]; omega
      · rw [if_neg hgt] at hs
        have hs' := Lib.hid hs
        clear hs
        go_wp2
        go_round
        case rel => exact ⟨k + 1, by omega, by omega, by go_num, by rw [Nat.add_sub_cancel, hs'.out]⟩
        case measure => simp [intOf]; omega
    · obtain rfl : k = n := by omega
      clear H
      go_wp2
      go_ret
      exact ⟨rfl, rfl⟩

end Go.Proofs.Ytblippeklbhepaa

/- The states that a state reaches; the parts of states that reach each other: the reference's walks and the program's. -/
import Derived.Test.YtblippeklbhepaaBfs
namespace Go.Proofs.Ytblippeklbhepaa
open Go.RowKit

def reachOk (g : List (List Int)) (x : Int) : Bool := graphB g && inB x 0 ((g.length : Int) - 1)
/-- What both ReachOf functions return. -/
def ReachOf_v (g : List (List Int)) (x : Int) : List Int × Bool := if reachOk g x = true then (setL g.length (rcB g x.toNat), true) else ([], false)
theorem ReachOf_no {g : List (List Int)} {x : Int} (h : reachOk g x = false) : ReachOf_v g x = ([], false) := by simp [ReachOf_v, h]
theorem ReachOf_yes {g : List (List Int)} {a : Nat} (h : reachOk g a = true) : ReachOf_v g a = (setL g.length (rcB g a), true) := by simp [ReachOf_v, h]
theorem ReachOf_len (g : List (List Int)) (x : Int) : szIntS (ReachOf_v g x).1 ≤ 1099511627776 := by
  cases h : reachOk g x
  · rw [ReachOf_no h]; exact Nat.zero_le _
  · unfold ReachOf_v
    rw [if_pos h]
    show (setL g.length (rcB g x.toNat)).length ≤ _
    have hg : graphB g = true := by simp only [reachOk, Bool.and_eq_true] at h; exact h.1
    have h2 := (graphB_sz hg).2
    rw [setL_len]
    have := cnt_le (rcB g x.toNat) g.length
    omega

/-- A slice literal of one int. -/
theorem IntsV.one (w : World) (x : Int) : IntsV (w.alloc (.cells #[.int .i64 x] 3)) (.slice (some ⟨w.heap.size, 0, none⟩) 1 1) [x] := by
  refine ⟨_, 1, rfl, ⟨Nat.le_refl _, fun e => by cases e⟩, by simp [maxLen], fun i hi => ⟨_, _, rfl, ?_⟩⟩
  have : i = 0 := by simp at hi; omega
  rw [World.cell?_alloc_at _ _ _ _ rfl]
  subst this; simp [nth]

theorem specReachOf_any (v : Value) (g : List (List Int)) (x : Int) (w : World) (hv : RowsV w v g) (hm : szIntSS g ≤ 1099511627776) (_hx : I64 x) :
    Calls Try.prog 54 #[v, .int .i64 x] w (RetOB Own (ReachOf_v g x) w) := by
  have hB : Below w.heap.size w (w.alloc (.cells #[.int .i64 x] 3)) := (Below.refl _ _).alloc (Nat.le_refl _) _
  have c1 := grHas_any v _ g [x] _ (hv.below hB) (IntsV.one w x) hm (by simp)
  have e1 : hasB g [x] = reachOk g x := by simp [hasB, reachOk, allB]
  rw [e1] at c1
  have c1' := Lib.hid c1
  clear c1
  clear e1
  cases h : reachOk g x
  · rw [h] at c1'
    rw [ReachOf_no h]
    clear h hv
    go_enter Try.func54, Try.ntmps54
    go_wp2_with fail
    refine (c1'.out).mono ?_
    rintro e w1 ⟨rfl, rfl⟩
    go_wp2
    go_ret2
    exact ⟨_, rfl, Own.nil _ _ _, hB⟩
  rw [h] at c1'
  have h0 := h
  simp only [reachOk, Bool.and_eq_true] at h0
  obtain ⟨hg, hx⟩ := h0
  obtain ⟨a, rfl, ha⟩ := inB_nat hx
  rw [ReachOf_yes h]
  have c2 := fun w' hB => grReach_any v g a g.length w' (hv.below hB) hg rfl ha
  generalize setL g.length (rcB g a) = L at *
  have c2' := Lib.hid c2
  clear c2
  clear h hg hx hv ha
  go_enter Try.func54, Try.ntmps54
  go_wp2_with fail
  refine (c1'.out).mono ?_
  rintro e w1 ⟨rfl, rfl⟩
  go_wp2_with fail
  refine (c2'.out _ hB).mono ?_
  rintro e w2 ⟨u, rfl, ho, hB2⟩
  have hB3 := hB.trans (hB2.mono hB.size)
  have ho2 := ho.mono hB.size (Nat.le_refl _)
  have ho2' := Lib.hid ho2
  clear ho2
  clear ho
  go_wp2
  go_ret2
  exact ⟨_, rfl, ho2'.out, hB3⟩

set_option maxHeartbeats 800000 in
theorem implReachOf_any (v : Value) (g : List (List Int)) (x : Int) (w : World) (hv : RowsV w v g) (hm : szIntSS g ≤ 1099511627776) (_hx : I64 x) :
    Calls Try.prog 53 #[v, .int .i64 x] w (RetOB Own (ReachOf_v g x) w) := by
  have c1 := isGraph_any v g w hv hm
  have hl : g.length ≤ 1099511627776 := by unfold szIntSS at hm; omega
  have c2 := fun (w' : World) (hB : Below w.heap.size w w') => isState_any v g x w' (hv.below hB) hl
  have c1' := Lib.hid c1
  have c2' := Lib.hid c2
  clear c1 c2
  cases h : graphB g
  · rw [h] at c1'
    rw [ReachOf_no (by simp [reachOk, h])]
    clear h hv hl
    go_enter Try.func53, Try.ntmps53
    go_wp2_with fail
    refine (c1'.out).mono ?_
    rintro e w1 ⟨rfl, hB⟩
    go_wp2
    go_ret2
    exact ⟨_, rfl, Own.nil _ _ _, hB⟩
  rw [h] at c1'
  cases hx : inB x 0 ((g.length : Int) - 1)
  · rw [ReachOf_no (by simp [reachOk, hx])]
    have hx' := Lib.hid hx
    clear hx
    clear h hv hl
    go_enter Try.func53, Try.ntmps53
    go_wp2_with fail
    refine (c1'.out).mono ?_
    rintro e w1 ⟨rfl, hB⟩
    go_wp2_with fail
    refine (c2'.out _ hB).mono ?_
    rintro e w_ ⟨rfl, rfl⟩
    rw [hx'.out]
    go_wp2
    go_ret2
    exact ⟨_, rfl, Own.nil _ _ _, hB⟩
  obtain ⟨a, rfl, ha⟩ := inB_nat hx
  rw [ReachOf_yes (by simp [reachOk, h, hx])]
  obtain ⟨n, hn⟩ : ∃ n, g.length = n := ⟨_, rfl⟩
  have c3 := fun w' hB => reach_any v g n w' (hv.below hB) h hn
  have hn8 := (graphB_sz h).2
  rw [hn] at hx ha hn8 ⊢
  obtain ⟨R, hR⟩ : ∃ R, rcB g = R := ⟨_, rfl⟩
  rw [hR] at c3 ⊢
  have c3' := Lib.hid c3
  have hn' := Lib.hid hn
  have hx' := Lib.hid hx
  have hv' := Lib.hid hv
  have h' := Lib.hid h
  have hR' := Lib.hid hR
  clear c3 hn hx hv h hR
  clear hl
  go_enter Try.func53, Try.ntmps53
  go_wp2_with fail
  refine (c1'.out).mono ?_
  rintro e w1 ⟨rfl, hB⟩
  go_wp2_with fail
  refine (c2'.out _ hB).mono ?_
  rintro e w_ ⟨rfl, rfl⟩
  rw [hn'.out, hx'.out]
  go_wp2_with fail
  refine (c3'.out _ hB).mono ?_
  rintro e w2 ⟨gg, rb, rc, rfl, hM, hB2⟩
  have hB3 := hB.trans (hB2.mono hB.size)
  have p1 := hM.ptr ha
  have hsz2 := hB.size
  clear hB hB2
  have hM' := Lib.hid hM
  have hB3' := Lib.hid hB3
  clear hM hB3
  go_wp2
  go_loopw [6, 24] (fun o i wr => ∃ k : Nat, k ≤ n ∧ i = .int .i64 k ∧ Grow wr w2.heap.size o (setL k (R a)) ∧ Below w2.heap.size w2 wr) (fun _ i _ => n - (intOf i).toNat)
  case atStart => exact ⟨0, Nat.zero_le _, rfl, Grow.nil _ _, Below.refl _ _⟩
  case round =>
    obtain ⟨k, hk, rfl, hg, hB⟩ := hrel
    have hs := hB.size
    by_cases hlt : k < n
    · have p2 := (hM'.out.below hB (Nat.le_refl _)).cell ha hlt
      have hss := setL_succ k (R a)
      have hlen : (setL k (R a)).length ≤ 1099511627776 := by rw [setL_len]; have := cnt_le (R a) k; omega
      clear p1
      cases hr : R a k
      · rw [hr] at hss p2
        simp only [Bool.false_eq_true, if_false, List.append_nil] at hss
        have hss' := Lib.hid hss
        have hg' := Lib.hid hg
        have hlen' := Lib.hid hlen
        clear hss hg hlen
        clear hr
        go_wp2
        go_roundw
        case rel => exact ⟨k + 1, by omega, by go_num, by rw [hss'.out]; exact hg'.out, hB⟩
        case measure => simp [intOf]; omega
      · rw [hr] at hss p2
        simp only [if_true] at hss
        have hss' := Lib.hid hss
        have hlen' := Lib.hid hlen
        clear hss hlen
        clear hr
        go_wp2_with (at_builtin; refine wpList_append_int rfl _ _ rfl w2.heap.size u6 (setL k (R a)) (k : Int) _ rfl rfl hg hlen'.out hs ?_)
        intro v3 w3 hg3 hgrow
        have hB4 := hg.belowB hB (Nat.le_refl _) hs hgrow
        rw [← hss'.out] at hg3
        clear hg hgrow hB
        have hg3' := Lib.hid hg3
        have hB4' := Lib.hid hB4
        clear hg3 hB4
        go_wp2
        go_roundw
        case rel => exact ⟨k + 1, by omega, by go_num, hg3'.out, hB4'.out⟩
        case measure => simp [intOf]; omega
    · obtain rfl : n = k := by omega
      have ho := hg.own.mono (hB3'.out.size) (Nat.le_refl _)
      have hB5 := hB3'.out.trans (hB.mono hB3'.out.size)
      clear hg p1
      have ho' := Lib.hid ho
      clear ho
      go_wp2
      go_ret2
      exact ⟨_, rfl, ho'.out, hB5⟩

/-! Parts. -/
/-- The least number below n with a property, from the end on; i if there is none. -/
def dnP (p : Nat → Bool) (i n : Nat) : Nat → Nat
  | 0 => i
  | m + 1 => if p (n - 1 - m) = true then n - 1 - m else dnP p i n m
theorem dnP_succ (p : Nat → Bool) (i n m : Nat) : dnP p i n (m + 1) = if p (n - 1 - m) = true then n - 1 - m else dnP p i n m := rfl
theorem dnP_spec (p : Nat → Bool) (i n : Nat) : ∀ m, m ≤ n → (dnP p i n m = i ∧ ∀ j, n - m ≤ j → j < n → p j = false) ∨ (p (dnP p i n m) = true ∧ dnP p i n m < n ∧ ∀ j, n - m ≤ j → j < n → p j = true → dnP p i n m ≤ j) := by
  intro m
  induction m with
  | zero => intro _; exact .inl ⟨rfl, fun j h1 h2 => by omega⟩
  | succ m ih =>
    intro hm
    rw [dnP_succ]
    by_cases e : p (n - 1 - m) = true
    · rw [if_pos e]
      exact .inr ⟨e, by omega, fun j h1 h2 _ => by omega⟩
    · rw [if_neg e]
      rcases ih (by omega) with ⟨h1, h2⟩ | ⟨h1, h2, h3⟩
      · refine .inl ⟨h1, fun j h3 h4 => ?_⟩
        by_cases ej : j = n - 1 - m
        · rw [ej]; simpa using e
        · exact h2 j (by omega) h4
      · refine .inr ⟨h1, h2, fun j h4 h5 h6 => ?_⟩
        by_cases ej : j = n - 1 - m
        · rw [ej] at h6; exact absurd h6 e
        · exact h3 j (by omega) h5 h6
/-- They reach each other. -/
def mutB (g : List (List Int)) (i j : Nat) : Bool := rcB g i j && rcB g j i
/-- The least state of the part of i. -/
def partN (g : List (List Int)) (i : Nat) : Nat := dnP (mutB g i) i g.length g.length
theorem partN_only {g : List (List Int)} {i : Nat} {R : Nat} (hi : i < g.length) (h1 : R = i ∨ (R < g.length ∧ mutB g i R = true)) (_h2 : R ≤ i) (h3 : ∀ j, j < g.length → mutB g i j = true → R ≤ j) : R = partN g i := by
  unfold partN
  rcases dnP_spec (mutB g i) i g.length g.length (Nat.le_refl _) with ⟨h4, h5⟩ | ⟨h4, h5, h6⟩
  · rw [h4]
    rcases h1 with h1 | ⟨h1, h1'⟩
    · exact h1
    · rw [h5 R (by omega) h1] at h1'; cases h1'
  · have h7 := h3 _ h5 h4
    rcases h1 with h1 | ⟨h1, h1'⟩
    · have h8 : mutB g i i = true := by
        simp only [mutB, Bool.and_eq_true] at h4 ⊢
        exact ⟨rcB_trans h5 h4.1 h4.2, rcB_trans h5 h4.1 h4.2⟩
      have := h6 i (by omega) hi h8
      omega
    · have := h6 R (by omega) h1 h1'
      omega
/-- What both StrongParts functions return. -/
def StrongParts_v (g : List (List Int)) : List Int × Bool := if graphB g = true then (lst g.length (fun i => (partN g i : Int)), true) else ([], false)
theorem StrongParts_no {g : List (List Int)} (h : graphB g = false) : StrongParts_v g = ([], false) := by simp [StrongParts_v, h]
theorem StrongParts_yes {g : List (List Int)} (h : graphB g = true) : StrongParts_v g = (lst g.length (fun i => (partN g i : Int)), true) := by simp [StrongParts_v, h]
theorem StrongParts_len (g : List (List Int)) : szIntS (StrongParts_v g).1 ≤ 1099511627776 := by
  cases h : graphB g
  · rw [StrongParts_no h]; exact Nat.zero_le _
  · rw [StrongParts_yes h]
    show (lst g.length _).length ≤ _
    have h2 := (graphB_sz h).2
    rw [lst_len]; omega

set_option maxRecDepth 100000 in
set_option maxHeartbeats 1000000 in
theorem implStrongParts_any (v : Value) (g : List (List Int)) (w : World) (hv : RowsV w v g) (hm : szIntSS g ≤ 1099511627776) :
    Calls Try.prog 41 #[v] w (RetOB Own (StrongParts_v g) w) := by
  have c1 := isGraph_any v g w hv hm
  have c1' := Lib.hid c1
  clear c1
  cases h : graphB g
  · rw [h] at c1'
    rw [StrongParts_no h]
    clear h hv
    go_enter Try.func41, Try.ntmps41
    go_wp2_with fail
    refine (c1'.out).mono ?_
    rintro e w1 ⟨rfl, hB⟩
    go_wp2
    go_ret2
    exact ⟨_, rfl, Own.nil _ _ _, hB⟩
  rw [h] at c1'
  rw [StrongParts_yes h]
  obtain ⟨n, hn⟩ : ∃ n, g.length = n := ⟨_, rfl⟩
  have c3 := fun w' hB => reach_any v g n w' (hv.below hB) h hn
  obtain ⟨n1, n8, -, -⟩ := graphB_true h
  have hpart : ∀ i, partN g i = dnP (mutB g i) i n n := fun i => by unfold partN; rw [hn]
  rw [show (fun i => (partN g i : Int)) = (fun i => ((dnP (mutB g i) i n n : Nat) : Int)) by funext i; rw [hpart]]
  have hmut : ∀ i j, mutB g i j = (rcB g i j && rcB g j i) := fun _ _ => rfl
  generalize mutB g = M at *
  generalize rcB g = R at *
  rw [hn] at n1 n8 ⊢
  obtain ⟨ao, cap, rfl, -, -, -⟩ := hv
  rw [hn] at c1' c3 ⊢
  have c3' := Lib.hid c3
  have hn' := Lib.hid hn
  have h' := Lib.hid h
  have hmut' := Lib.hid hmut
  have hpart' := Lib.hid hpart
  clear c3 hn h hmut hpart
  go_enter Try.func41, Try.ntmps41
  go_wp2_with fail
  refine (c1'.out).mono ?_
  rintro e w1 ⟨rfl, hB⟩
  go_wp2_with fail
  refine (c3'.out _ hB).mono ?_
  rintro e w2 ⟨gg, rb, rc, rfl, hM, hB2⟩
  have hB3 := hB.trans (hB2.mono hB.size)
  clear hB hB2
  have hM' := Lib.hid hM
  have hB3' := Lib.hid hB3
  clear hM hB3
  go_wp2
  go_loopw [5, 16] (fun o i wr => ∃ k : Nat, k ≤ n ∧ i = .int .i64 k ∧ Grow wr w2.heap.size o (lst k (fun i => ((dnP (M i) i n n : Nat) : Int))) ∧ Below w2.heap.size w2 wr) (fun _ i _ => n - (intOf i).toNat)
  case atStart => exact ⟨0, Nat.zero_le _, rfl, Grow.nil _ _, Below.refl _ _⟩
  case round =>
    obtain ⟨k, hk, rfl, hg, hB⟩ := hrel
    have hs := hB.size
    obtain ⟨wo, rfl⟩ : ∃ wo : World, wo = wr := ⟨_, rfl⟩
    by_cases hlt : k < n
    · have hg' := Lib.hid hg
      clear hg
      go_wp2
      go_loop [7, 8] (fun l j => ∃ m : Nat, m ≤ n ∧ j = .int .i64 ((n : Int) - 1 - m) ∧ l = .int .i64 ((dnP (M k) k n m : Nat) : Int)) (fun _ j => (intOf j + 1).toNat)
      case atStart => exact ⟨0, Nat.zero_le _, by go_num, rfl⟩
      case round =>
        obtain ⟨m, hm1, rfl, rfl⟩ := hrel
        by_cases hlm : m < n
        · have hjn : n - 1 - m < n := by omega
          have hM2 := hM'.out.below hB (Nat.le_refl _)
          have p1 := hM2.ptr hlt
          have p2 := hM2.cell hlt hjn
          have p3 := hM2.ptr hjn
          have p4 := hM2.cell hjn hlt
          have i1 : ((n : Int) - 1 - m).toNat = n - 1 - m := by omega
          have i2 : (0 : Int) ≤ (n : Int) - 1 - m := by omega
          have i3 : (n : Int) - 1 - m < n := by omega
          have i4 : ((n : Int) - 1 - m) = ((n - 1 - m : Nat) : Int) := by omega
          have hd : dnP (M k) k n (m + 1) = if M k (n - 1 - m) = true then n - 1 - m else dnP (M k) k n m := rfl
          have hmm := hmut'.out k (n - 1 - m)
          clear hM2
          cases h1 : R k (n - 1 - m)
          · rw [h1] at p2 hmm
            rw [Bool.false_and] at hmm
            rw [hmm, if_neg (by simp)] at hd
            have hd' := Lib.hid hd
            have hmm' := Lib.hid hmm
            have i4' := Lib.hid i4
            clear hd hmm i4
            clear h1
            go_wp2
            go_round
            case rel => exact ⟨m + 1, by omega, by go_num, by rw [hd'.out]⟩
            case measure => simp [intOf]; omega
          · cases h2 : R (n - 1 - m) k
            · rw [h1] at p2 hmm
              rw [h2] at p4 hmm
              rw [Bool.and_false] at hmm
              rw [hmm, if_neg (by simp)] at hd
              have hd' := Lib.hid hd
              have hmm' := Lib.hid hmm
              have i4' := Lib.hid i4
              clear hd hmm i4
              clear h1 h2
              go_wp2
              go_round
              case rel => exact ⟨m + 1, by omega, by go_num, by rw [hd'.out]⟩
              case measure => simp [intOf]; omega
            · rw [h1] at p2 hmm
              rw [h2] at p4 hmm
              rw [Bool.and_true] at hmm
              rw [hmm, if_pos rfl] at hd
              have hd' := Lib.hid hd
              have hmm' := Lib.hid hmm
              have i4' := Lib.hid i4
              clear hd hmm i4
              clear h1 h2
              go_wp2
              go_round
              case rel => exact ⟨m + 1, by omega, by go_num, by rw [hd'.out, i4'.out]⟩
              case measure => simp [intOf]; omega
        · obtain rfl : m = n := by omega
          have hneg : ¬ (0 : Int) ≤ (m : Int) - 1 - m := by omega
          have e2 := lst_succ k (fun i => ((dnP (M i) i m m : Nat) : Int))
          have hg := hg'.out
          have e2' := Lib.hid e2
          clear e2
          go_wp2_with (at_builtin; refine wpList_append_int rfl _ _ rfl w2.heap.size u5 (lst k (fun i => ((dnP (M i) i m m : Nat) : Int))) ((dnP (M k) k m m : Nat) : Int) _ rfl rfl hg (by rw [lst_len]; omega) hs ?_)
          intro v3 w3 hg3 hgrow
          have hB4 := hg.belowB hB (Nat.le_refl _) hs hgrow
          rw [← e2'.out] at hg3
          clear hg hgrow hB hg'
          have hg3' := Lib.hid hg3
          have hB4' := Lib.hid hB4
          clear hg3 hB4
          go_wp2
          go_roundw
          case rel => exact ⟨k + 1, by omega, by go_num, hg3'.out, hB4'.out⟩
          case measure => simp [intOf]; omega
    · obtain rfl : n = k := by omega
      have ho := hg.own.mono (hB3'.out.size) (Nat.le_refl _)
      have hB5 := hB3'.out.trans (hB.mono hB3'.out.size)
      clear hg
      have ho' := Lib.hid ho
      clear ho
      go_wp2
      go_ret2
      exact ⟨_, rfl, ho'.out, hB5⟩

theorem l1Least_is (a b m : Int) (w : World) (hm : (if a < b then a else b) = m) : Calls Try.prog 106 #[.int .i64 a, .int .i64 b] w (Same (.int .i64 m) w) := by
  subst hm; exact l1Least_any a b w
/-- What is known of the least state so far. -/
def LeastTo (g : List (List Int)) (n i : Nat) (xs : List Int) (j R : Nat) : Prop := (R = i ∨ (R < n ∧ mutB g i R = true)) ∧ R ≤ i ∧ ∀ idx (k : Nat), idx < j → nth xs idx = k → rcB g k i = true → R ≤ k
theorem LeastTo.next {g : List (List Int)} {n i : Nat} {xs : List Int} {j R k : Nat} (h : LeastTo g n i xs j R) (hk : nth xs j = k) (hkn : k < n) (hki : rcB g i k = true) :
    (rcB g k i = false → LeastTo g n i xs (j + 1) R) ∧ (rcB g k i = true → LeastTo g n i xs (j + 1) (if R < k then R else k)) := by
  obtain ⟨h1, h2, h3⟩ := h
  refine ⟨fun hf => ⟨h1, h2, fun idx k' hi he hr => ?_⟩, fun ht => ⟨?_, by split <;> omega, fun idx k' hi he hr => ?_⟩⟩
  · by_cases e : idx = j
    · subst e
      have : k' = k := by omega
      subst this
      rw [hf] at hr; cases hr
    · exact h3 idx k' (by omega) he hr
  · by_cases e : R < k
    · rw [if_pos e]; exact h1
    · rw [if_neg e]; exact .inr ⟨hkn, by simp [mutB, hki, ht]⟩
  · by_cases e : idx = j
    · subst e
      have : k' = k := by omega
      subst this
      split <;> omega
    · have := h3 idx k' (by omega) he hr
      split <;> omega
theorem LeastTo.all {g : List (List Int)} {i R : Nat} (hi : i < g.length) (h : LeastTo g g.length i (setL g.length (rcB g i)) (setL g.length (rcB g i)).length R) : R = partN g i := by
  obtain ⟨h1, h2, h3⟩ := h
  refine partN_only hi h1 h2 fun j hj hm => ?_
  simp only [mutB, Bool.and_eq_true] at hm
  have hmem : (j : Int) ∈ setL g.length (rcB g i) := setL_mem.2 ⟨j, hj, hm.1, rfl⟩
  obtain ⟨idx, hidx, e⟩ := List.getElem_of_mem hmem
  exact h3 idx j hidx (by rw [nth_eq hidx]; exact e) hm.2

set_option maxRecDepth 100000 in
set_option maxHeartbeats 1000000 in
theorem specStrongParts_any (v : Value) (g : List (List Int)) (w : World) (hv : RowsV w v g) (hm : szIntSS g ≤ 1099511627776) :
    Calls Try.prog 42 #[v] w (RetOB Own (StrongParts_v g) w) := by
  have c1 := grGood_any v g w hv hm
  have c1' := Lib.hid c1
  clear c1
  cases h : graphB g
  · rw [h] at c1'
    rw [StrongParts_no h]
    clear h hv
    go_enter Try.func42, Try.ntmps42
    go_wp2_with fail
    refine (c1'.out).mono ?_
    rintro e w_ ⟨rfl, rfl⟩
    go_wp2
    go_ret2
    exact ⟨_, rfl, Own.nil _ _ _, Below.refl _ _⟩
  rw [h] at c1'
  rw [StrongParts_yes h]
  obtain ⟨n, hn⟩ : ∃ n, g.length = n := ⟨_, rfl⟩
  have c3 := fun a (ha : a < n) w' hB => grReach_any v g a n w' (hv.below hB) h hn ha
  obtain ⟨n1, n8, -, -⟩ := graphB_true h
  have hall := fun i R => @LeastTo.all g i R
  have hnx := fun i xs j R k => @LeastTo.next g n i xs j R k
  rw [hn] at n1 n8 hall ⊢
  obtain ⟨ao, cap, rfl, -, -, -⟩ := hv
  rw [hn] at c1' c3 ⊢
  have c3' := Lib.hid c3
  have hn' := Lib.hid hn
  have h' := Lib.hid h
  have hall' := Lib.hid hall
  have hnx' := Lib.hid hnx
  clear c3 hn h hall hnx
  go_enter Try.func42, Try.ntmps42
  go_wp2_with fail
  refine (c1'.out).mono ?_
  rintro e w_ ⟨rfl, rfl⟩
  go_wp2
  go_loopw [4, 14] (fun o i wr => ∃ k : Nat, k ≤ n ∧ i = .int .i64 k ∧ Grow wr w.heap.size o (lst k (fun i => (partN g i : Int))) ∧ Below w.heap.size w wr) (fun _ i _ => n - (intOf i).toNat)
  case atStart => exact ⟨0, Nat.zero_le _, rfl, Grow.nil _ _, Below.refl _ _⟩
  case round =>
    obtain ⟨k, hk, rfl, hg, hB⟩ := hrel
    obtain ⟨wo, rfl⟩ : ∃ wo : World, wo = wr := ⟨_, rfl⟩
    by_cases hlt : k < n
    · have c4 := c3'.out k hlt wo hB
      have hg' := Lib.hid hg
      have c4' := Lib.hid c4
      clear hg c4
      go_wp2_with fail
      refine (c4'.out).mono ?_
      rintro e w2 ⟨u, rfl, ho, hB2⟩
      have hB3 := hB.trans (hB2.mono hB.size)
      have hg2 := hg'.out.below hB2
      have hr := ho.read
      obtain ⟨uo, ucap, rfl, -, -, -⟩ := id hr
      obtain ⟨xs, hxs⟩ : ∃ xs, setL n (rcB g k) = xs := ⟨_, rfl⟩
      have hmem : ∀ j, j < xs.length → ∃ s : Nat, nth xs j = s ∧ s < n ∧ rcB g k s = true := fun j hj => by
        have := nth_mem hj
        rw [← hxs] at this
        obtain ⟨s, h1, h2, h3⟩ := setL_mem.1 this
        rw [hxs] at h3
        exact ⟨s, h3, h1, h2⟩
      have hfin := hall'.out k
      rw [hxs] at hr hfin ⊢
      have hxl : xs.length ≤ n := by rw [← hxs, setL_len]; exact cnt_le _ _
      obtain ⟨m, hm⟩ : ∃ m, xs.length = m := ⟨_, rfl⟩
      rw [hm] at hxl hr hmem hfin ⊢
      have hL0 : LeastTo g n k xs 0 k := ⟨.inl rfl, Nat.le_refl _, fun idx _ hi => absurd hi (Nat.not_lt_zero idx)⟩
      clear ho hg' hB2 c4'
      have hg2' := Lib.hid hg2
      have hB3' := Lib.hid hB3
      have hr' := Lib.hid hr
      have hmem' := Lib.hid hmem
      have hfin' := Lib.hid hfin
      have hm' := Lib.hid hm
      have hxs' := Lib.hid hxs
      have hL0' := Lib.hid hL0
      clear hg2 hB3 hr hmem hfin hm hxs hL0
      go_wp2
      go_loopw [6, 22] (fun l i wr => ∃ j R : Nat, j ≤ m ∧ i = .int .i64 j ∧ l = .int .i64 R ∧ R ≤ k ∧ Hid (LeastTo g n k xs j R) ∧ Below w2.heap.size w2 wr) (fun _ i _ => m - (intOf i).toNat)
      case atStart => exact ⟨0, k, Nat.zero_le _, rfl, rfl, Nat.le_refl _, hL0', Below.refl _ _⟩
      case round =>
        obtain ⟨j, R, hj, rfl, rfl, hRk, hL, hB4⟩ := hrel
        obtain ⟨w4, rfl⟩ : ∃ w4 : World, w4 = wr := ⟨_, rfl⟩
        by_cases hltj : j < m
        · obtain ⟨ao', cap', e, -, -, H⟩ := hr'.out.below hB4
          rw [hm'.out] at e H
          obtain ⟨rfl, _, rfl⟩ := Value.slice.inj e
          obtain ⟨b, off, rfl, hc⟩ := H j hltj
          obtain ⟨s, hs1, hs2, hs3⟩ := hmem'.out j hltj
          have hN := hnx'.out k xs j R s hL.out hs1 hs2 hs3
          rw [hs1] at hc
          have hB5 := hB3'.out.trans (hB4.mono hB3'.out.size)
          have c5 := c3'.out s hs2 w4 hB5
          clear H e hs1 hs3 hL
          have c5' := Lib.hid c5
          have hN' := Lib.hid hN
          have hB5' := Lib.hid hB5
          clear c5 hN hB5
          go_wp2_with fail
          refine (c5'.out).mono ?_
          rintro e w5 ⟨u2, rfl, ho2, hB6⟩
          have hH := l1Has_any u2 (setL n (rcB g s)) (k : Int) w5 ho2.read (by rw [setL_len]; have := cnt_le (rcB g s) n; omega)
          rw [setL_has hlt] at hH
          have hB7 := hB4.trans (hB6.mono hB4.size)
          clear ho2 c5' hB6 hB4 hc
          cases hsk : rcB g s k
          · rw [hsk] at hH
            have hL2 := hN'.out.1 hsk
            clear hsk
            have hH' := Lib.hid hH
            have hL2' := Lib.hid hL2
            clear hH hL2
            go_wp2_with fail
            refine (hH'.out).mono ?_
            rintro e w_ ⟨rfl, rfl⟩
            go_wp2
            go_roundw
            case rel => exact ⟨j + 1, R, by omega, by go_num, rfl, hRk, hL2', hB7⟩
            case measure => simp [intOf]; omega
          · rw [hsk] at hH
            have hL2 := hN'.out.2 hsk
            clear hsk
            obtain ⟨R2, hR2⟩ : ∃ R2, (if R < s then R else s) = R2 := ⟨_, rfl⟩
            rw [hR2] at hL2
            have hm2 : (if (R : Int) < (s : Int) then (R : Int) else s) = (R2 : Int) := by rw [← hR2]; split <;> split <;> omega
            have hR2k : R2 ≤ k := by rw [← hR2]; split <;> omega
            clear hR2
            have hH' := Lib.hid hH
            have hL2' := Lib.hid hL2
            have hm2' := Lib.hid hm2
            clear hH hL2 hm2
            go_wp2_with fail
            refine (hH'.out).mono ?_
            rintro e w_ ⟨rfl, rfl⟩
            go_wp2_with fail
            refine (l1Least_is _ _ _ _ hm2'.out).mono ?_
            rintro e w_ ⟨rfl, rfl⟩
            go_wp2
            go_roundw
            case rel => exact ⟨j + 1, R2, by omega, by go_num, rfl, hR2k, hL2', hB7⟩
            case measure => simp [intOf]; omega
        · obtain rfl : m = j := by omega
          have hR := hfin'.out R hlt hL.out
          subst hR
          have hg3 := hg2'.out.below hB4
          have hB5 := hB3'.out.trans (hB4.mono hB3'.out.size)
          have hs5 := hB5.size
          have e2 := lst_succ k (fun i => (partN g i : Int))
          clear hL hRk hg2' hB4
          have e2' := Lib.hid e2
          clear e2
          go_wp2_with (at_builtin; refine wpList_append_int rfl _ _ rfl w.heap.size u4 (lst k (fun i => (partN g i : Int))) (partN g k : Int) _ rfl rfl hg3 (by rw [lst_len]; omega) hs5 ?_)
          intro v3 w3 hg4 hgrow
          have hB6 := hg3.belowB hB5 (Nat.le_refl _) hs5 hgrow
          rw [← e2'.out] at hg4
          clear hg3 hgrow hB5
          have hg4' := Lib.hid hg4
          have hB6' := Lib.hid hB6
          clear hg4 hB6
          go_wp2
          go_roundw
          case rel => exact ⟨k + 1, by omega, by go_num, hg4'.out, hB6'.out⟩
          case measure => simp [intOf]; omega
    · obtain rfl : n = k := by omega
      have ho := hg.own
      clear hg
      have ho' := Lib.hid ho
      clear ho
      go_wp2
      go_ret2
      exact ⟨_, rfl, ho'.out, hB⟩

end Go.Proofs.Ytblippeklbhepaa

/- Whether a graph is nilpotent: the reference counts walks, the program asks which states reach themselves. -/
import Derived.Test.YtnmcmepkfggfnaaWk
import Derived.Test.YtnmcmepkfggfnaaPower
namespace Go.Proofs.Ytnmcmepkfggfnaa
open Go.RowKit

/-- A row's entries added to s, never more than 1000000001. -/
def toR (f : Nat → Nat → Int) (i : Nat) (s : Int) : Nat → Int
  | 0 => s
  | j + 1 => if 1000000001 < toR f i s j + f i j then 1000000001 else toR f i s j + f i j
theorem toR_succ (f : Nat → Nat → Int) (i : Nat) (s : Int) (j : Nat) : toR f i s (j + 1) = if 1000000001 < toR f i s j + f i j then 1000000001 else toR f i s j + f i j := rfl
/-- All entries of the first rows added. -/
def toT (f : Nat → Nat → Int) (n : Nat) : Nat → Int
  | 0 => 0
  | i + 1 => toR f i (toT f n i) n
theorem toT_succ (f : Nat → Nat → Int) (n i : Nat) : toT f n (i + 1) = toR f i (toT f n i) n := rfl
theorem toR_bd {f : Nat → Nat → Int} {n i : Nat} {s : Int} (h : ∀ j, j < n → 0 ≤ f i j) (hs : 0 ≤ s ∧ s ≤ 1000000001) : ∀ j, j ≤ n → (0 ≤ toR f i s j ∧ toR f i s j ≤ 1000000001) ∧ (toR f i s j = 0 ↔ s = 0 ∧ ∀ k, k < j → f i k = 0) := by
  intro j
  induction j with
  | zero => intro _; exact ⟨hs, ⟨fun q => ⟨q, fun k hk => absurd hk (Nat.not_lt_zero k)⟩, fun q => q.1⟩⟩
  | succ j ih =>
    intro hj
    obtain ⟨h1, h2⟩ := ih (by omega)
    have h3 := h j (by omega)
    rw [toR_succ]
    refine ⟨by split <;> omega, ?_⟩
    have h4 : (if 1000000001 < toR f i s j + f i j then 1000000001 else toR f i s j + f i j) = 0 ↔ toR f i s j = 0 ∧ f i j = 0 := by split <;> omega
    rw [h4, h2]
    constructor
    · rintro ⟨⟨q1, q2⟩, q3⟩
      refine ⟨q1, fun k hk => ?_⟩
      by_cases e : k = j
      · rw [e]; exact q3
      · exact q2 k (by omega)
    · rintro ⟨q1, q2⟩
      exact ⟨⟨q1, fun k hk => q2 k (by omega)⟩, q2 j (by omega)⟩
theorem toT_bd {f : Nat → Nat → Int} {n : Nat} (h : ∀ i j, i < n → j < n → 0 ≤ f i j) : ∀ i, i ≤ n → (0 ≤ toT f n i ∧ toT f n i ≤ 1000000001) ∧ (toT f n i = 0 ↔ ∀ a k, a < i → k < n → f a k = 0) := by
  intro i
  induction i with
  | zero => intro _; exact ⟨⟨Int.le_refl _, by show (0 : Int) ≤ _; omega⟩, ⟨fun _ a _ ha => absurd ha (Nat.not_lt_zero a), fun _ => rfl⟩⟩
  | succ i ih =>
    intro hi
    obtain ⟨h1, h2⟩ := ih (by omega)
    obtain ⟨h3, h4⟩ := toR_bd (i := i) (fun j hj => h i j (by omega) hj) h1 n (Nat.le_refl _)
    rw [toT_succ]
    refine ⟨h3, ?_⟩
    rw [h4, h2]
    constructor
    · rintro ⟨q1, q2⟩ a k ha hk
      by_cases e : a = i
      · rw [e]; exact q2 k hk
      · exact q1 a k (by omega) hk
    · intro q
      exact ⟨fun a k ha hk => q a k (by omega) hk, fun k hk => q i k (by omega) hk⟩
theorem toT_nil {g : List (List Int)} (hg : graphB g = true) : (toT (pwG g g.length) g.length g.length == 0) = nilB g := by
  have h := (toT_bd (fun i j hi hj => (pwG_bd hg g.length i j hi hj).1) g.length (Nat.le_refl _)).2
  rw [Bool.eq_iff_iff, beq_iff_eq, h, nilB_walks hg]

set_option maxHeartbeats 800000 in
theorem gwTotal_any (v : Value) (g : List (List Int)) (t : Nat) (w : World) (hv : RowsV w v g) (hg : graphB g = true) (ht : t ≤ 12) :
    Calls Try.prog 65 #[v, .int .i64 t] w (Ret (.int .i64 (toT (pwG g t) g.length g.length)) w) := by
  obtain ⟨n, hn⟩ : ∃ n, g.length = n := ⟨_, rfl⟩
  obtain ⟨n1, n8, -, -⟩ := graphB_true hg
  have c1 := grPower_g v g n t w hv hg hn ht
  have hbd := pwG_bd hg t
  rw [hn] at hbd n1 n8 ⊢
  obtain ⟨E, hE⟩ : ∃ E, pwG g t = E := ⟨_, rfl⟩
  rw [hE] at c1 hbd ⊢
  have hT := toT_bd (fun i j hi hj => (hbd i j hi hj).1)
  have c1' := Lib.hid c1
  have hn' := Lib.hid hn
  have hg' := Lib.hid hg
  have hv' := Lib.hid hv
  have hbd' := Lib.hid hbd
  have hT' := Lib.hid hT
  have hE' := Lib.hid hE
  clear c1 hn hg hv hbd hT hE
  go_enter Try.func65, Try.ntmps65
  go_wp2_with fail
  refine (c1'.out).mono ?_
  rintro e w2 ⟨gg, cap, rb, rc, rfl, hM, hB⟩
  have hM' := Lib.hid hM
  clear hM
  go_wp2
  go_loop [5, 14] (fun s i => ∃ k : Nat, k ≤ n ∧ i = .int .i64 k ∧ s = .int .i64 (toT E n k)) (fun _ i => n - (intOf i).toNat)
  case atStart => exact ⟨0, Nat.zero_le _, rfl, rfl⟩
  case round =>
    obtain ⟨k, hk, rfl, rfl⟩ := hrel
    by_cases hlt : k < n
    · have p1 := hM'.out.ptr hlt
      have hb0 := (hT'.out k hk).1
      have hR := toR_bd (f := E) (n := n) (i := k) (fun j hj => (hbd'.out k j hlt hj).1) hb0
      have ht2 := toT_succ E n k
      clear hb0
      have hR' := Lib.hid hR
      have ht2' := Lib.hid ht2
      clear hR ht2
      go_wp2
      go_loop [5, 20] (fun s i => ∃ j : Nat, j ≤ n ∧ i = .int .i64 j ∧ s = .int .i64 (toR E k (toT E n k) j)) (fun _ i => n - (intOf i).toNat)
      case atStart => exact ⟨0, Nat.zero_le _, rfl, rfl⟩
      case round =>
        obtain ⟨j, hj, rfl, rfl⟩ := hrel
        by_cases hltj : j < n
        · have p2 := hM'.out.cell hlt hltj
          have b1 := hbd'.out k j hlt hltj
          have b2 := (hR'.out j hj).1
          have hs := toR_succ E k (toT E n k) j
          obtain ⟨m, hm⟩ : ∃ m, toR E k (toT E n k) (j + 1) = m := ⟨_, rfl⟩
          rw [hm] at hs
          replace hs := hs.symm
          have hs' := Lib.hid hs
          have hm' := Lib.hid hm
          clear hs hm
          go_wp2_with fail
          refine (grCap_is _ m _ hs'.out).mono ?_
          rintro e w_ ⟨rfl, rfl⟩
          go_wp2
          go_round
          case rel => exact ⟨j + 1, by omega, by go_num, by rw [hm'.out]⟩
          case measure => simp [intOf]; omega
        · obtain rfl : n = j := by omega
          go_wp2
          go_round
          case rel => exact ⟨k + 1, by omega, by go_num, by rw [ht2'.out]⟩
          case measure => simp [intOf]; omega
    · obtain rfl : n = k := by omega
      go_wp2
      go_ret
      exact ⟨rfl, hB⟩

/-- What both IsNilpotent functions return. -/
def IsNilpotent_v (g : List (List Int)) : Bool × Bool := if graphB g = true then (nilB g, true) else (false, false)
theorem IsNilpotent_no {g : List (List Int)} (h : graphB g = false) : IsNilpotent_v g = (false, false) := by simp [IsNilpotent_v, h]
theorem IsNilpotent_yes {g : List (List Int)} (h : graphB g = true) : IsNilpotent_v g = (nilB g, true) := by simp [IsNilpotent_v, h]

theorem specIsNilpotent_any (v : Value) (g : List (List Int)) (w : World) (hv : RowsV w v g) (hm : szIntSS g ≤ 1099511627776) :
    Calls Try.prog 31 #[v] w (Ret (.tuple #[.bool (IsNilpotent_v g).1, .bool (IsNilpotent_v g).2]) w) := by
  have c1 := grGood_any v g w hv hm
  have c1' := Lib.hid c1
  clear c1
  cases h : graphB g
  · rw [h] at c1'
    rw [IsNilpotent_no h]
    clear h hv
    go_enter Try.func31, Try.ntmps31
    go_wp2_with fail
    refine (c1'.out).mono ?_
    rintro e w_ ⟨rfl, rfl⟩
    go_wp2
    go_ret2
    exact ⟨rfl, Below.refl _ _⟩
  · rw [h] at c1'
    rw [IsNilpotent_yes h, ← toT_nil h]
    have c2 := gwTotal_any v g g.length w hv h (by have := (graphB_sz h).2; omega)
    obtain ⟨ao, cap, rfl, -, -, -⟩ := hv
    generalize toT (pwG g g.length) g.length g.length = S at *
    have hn := (graphB_sz h).2
    generalize g.length = n at *
    have c2' := Lib.hid c2
    clear c2
    clear h
    go_enter Try.func31, Try.ntmps31
    go_wp2_with fail
    refine (c1'.out).mono ?_
    rintro e w_ ⟨rfl, rfl⟩
    go_wp2_with fail
    refine (c2'.out).mono ?_
    rintro e w2 ⟨rfl, hB⟩
    go_wp2
    go_ret2
    exact ⟨rfl, hB⟩

set_option maxHeartbeats 800000 in
theorem implIsNilpotent_any (v : Value) (g : List (List Int)) (w : World) (hv : RowsV w v g) (hm : szIntSS g ≤ 1099511627776) :
    Calls Try.prog 32 #[v] w (Ret (.tuple #[.bool (IsNilpotent_v g).1, .bool (IsNilpotent_v g).2]) w) := by
  have c1 := isGraph_any v g w hv hm
  have c1' := Lib.hid c1
  clear c1
  cases h : graphB g
  · rw [h] at c1'
    rw [IsNilpotent_no h]
    clear h hv
    go_enter Try.func32, Try.ntmps32
    go_wp2_with fail
    refine (c1'.out).mono ?_
    rintro e w1 ⟨rfl, hB⟩
    go_wp2
    go_ret2
    exact ⟨rfl, hB⟩
  rw [h] at c1'
  rw [IsNilpotent_yes h]
  obtain ⟨n, hn⟩ : ∃ n, g.length = n := ⟨_, rfl⟩
  have c2 := fun w' hB => reach_any v g n w' (hv.below hB) h hn
  obtain ⟨n1, n8, -, -⟩ := graphB_true h
  have hyes := (@nilB_true g).2
  have hno : ∀ i, i < g.length → rcB g i i = true → nilB g = false := fun i hi q => by
    rw [Bool.eq_false_iff]; intro r; rw [nilB_true.1 r i hi] at q; cases q
  rw [hn] at n1 n8 hyes hno
  generalize rcB g = R at *
  generalize nilB g = N at *
  have c2' := Lib.hid c2
  have hn' := Lib.hid hn
  have hyes' := Lib.hid hyes
  have hno' := Lib.hid hno
  clear c2 hn hyes hno
  clear hv h
  go_enter Try.func32, Try.ntmps32
  go_wp2_with fail
  refine (c1'.out).mono ?_
  rintro e w1 ⟨rfl, hB⟩
  go_wp2_with fail
  refine (c2'.out _ hB).mono ?_
  rintro e w2 ⟨gg, rb, rc, rfl, hM, hB2⟩
  have hB3 := hB.trans (hB2.mono hB.size)
  have hM' := Lib.hid hM
  clear hM
  clear hB hB2
  go_wp2
  go_loop [12] (fun i => ∃ k : Nat, k ≤ n ∧ i = .int .i64 k ∧ Hid (∀ j, j < k → R j j = false)) (fun i => n - (intOf i).toNat)
  case atStart => exact ⟨0, Nat.zero_le _, rfl, Lib.hid (fun j hj => absurd hj (Nat.not_lt_zero j))⟩
  case round =>
    obtain ⟨k, hk, rfl, hI⟩ := hrel
    by_cases hlt : k < n
    · have p1 := hM'.out.ptr hlt
      have p2 := hM'.out.cell hlt hlt
      cases hr : R k k
      · have hI2 : ∀ j, j < k + 1 → R j j = false := fun j hj => by
          by_cases e : j = k
          · rw [e]; exact hr
          · exact hI.out j (by omega)
        rw [hr] at p2
        have hI2' := Lib.hid hI2
        clear hI2
        clear hr
        go_wp2
        go_round
        case rel => exact ⟨k + 1, by omega, by go_num, hI2'⟩
        case measure => simp [intOf]; omega
      · have hN := hno'.out k hlt hr
        rw [hr] at p2
        have hN' := Lib.hid hN
        clear hN
        clear hr
        go_wp2
        go_ret2
        rw [hN'.out]
        exact ⟨rfl, hB3⟩
    · obtain rfl : n = k := by omega
      have hN := hyes'.out hI.out
      have hN' := Lib.hid hN
      clear hN
      go_wp2
      go_ret2
      rw [hN'.out]
      exact ⟨rfl, hB3⟩

end Go.Proofs.Ytnmcmepkfggfnaa

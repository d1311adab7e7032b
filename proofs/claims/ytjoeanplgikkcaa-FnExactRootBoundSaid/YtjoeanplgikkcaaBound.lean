/- A bound of the roots of a polynomial: the reference's walk and the program's. -/
import Derived.Test.YtjoeanplgikkcaaMake
import Derived.Test.YtjoeanplgikkcaaTrim
namespace Go.Proofs.Ytjoeanplgikkcaa
open Go.RowKit

/-- The greatest absolute value of the first k. -/
def mxA (xs : List Int) : Nat → Int
  | 0 => 0
  | k + 1 => max (mxA xs k) ((nth xs k).natAbs : Int)
theorem mxA_succ (xs : List Int) (k : Nat) : mxA xs (k + 1) = max (mxA xs k) ((nth xs k).natAbs : Int) := rfl
theorem mxA_bd {xs : List Int} {n : Nat} (h : ∀ i, i < n → -1000000 ≤ nth xs i ∧ nth xs i ≤ 1000000) : ∀ k, k ≤ n → 0 ≤ mxA xs k ∧ mxA xs k ≤ 1000000 := by
  intro k
  induction k with
  | zero => intro _; show (0 : Int) ≤ 0 ∧ (0 : Int) ≤ 1000000; omega
  | succ k ih =>
    intro hk
    have h1 := ih (by omega)
    have h2 := h k (by omega)
    rw [mxA_succ]; omega
def boundOk (p : List Int) : Bool := polyB p && !decide (p.length = 0)
/-- The greatest absolute value but the last one's, and the last one's. -/
def bndX (p : List Int) : Int := mxA p (p.length - 1) + ((nth p (p.length - 1)).natAbs : Int)
def bndY (p : List Int) : Int := ((nth p (p.length - 1)).natAbs : Int)
/-- What both RootBound functions return. -/
def RootBound_v (p : List Int) : (Int × Int) × Bool := if boundOk p = true then mkR (bndX p) (bndY p) else ((0, 0), false)
theorem RootBound_no {p : List Int} (h : boundOk p = false) : RootBound_v p = ((0, 0), false) := by simp [RootBound_v, h]
theorem RootBound_yes {p : List Int} (h : boundOk p = true) : RootBound_v p = mkR (bndX p) (bndY p) := by simp [RootBound_v, h]
theorem boundOk_parts {p : List Int} {d : Nat} (h : boundOk p = true) (hd : p.length = d + 1) : polyB p = true ∧ d ≤ 8 ∧ (∀ i, i < d + 1 → -1000000 ≤ nth p i ∧ nth p i ≤ 1000000) ∧ nth p d ≠ 0 := by
  simp only [boundOk, Bool.and_eq_true] at h
  have h1 := h.1
  have h5 := polyB_le9 h1
  simp only [polyB, Bool.and_eq_true, Bool.or_eq_true, decide_eq_true_eq, hd, Nat.add_sub_cancel, bne_iff_ne, ne_eq] at h1
  obtain ⟨⟨_, h2⟩, h3⟩ := h1
  refine ⟨h.1, by omega, fun i hi => ?_, by rcases h3 with h3 | h3; omega; exact h3⟩
  simp only [allB, List.all_eq_true, inB_true] at h2
  have := h2 _ (nth_mem (xs := p) (i := i) (by omega))
  omega

set_option maxHeartbeats 1000000 in
theorem implRootBound_yes (v : Value) (p : List Int) (d : Nat) (w : World) (hv : IntsV w v p) (hok : boundOk p = true) (hd : p.length = d + 1) :
    Calls Try.prog 48 #[v] w (Ret (.tuple #[ratV (RootBound_v p).1, .bool (RootBound_v p).2]) w) := by
  rw [RootBound_yes hok]
  obtain ⟨hp, d8, hbd, hl0⟩ := boundOk_parts hok hd
  have hB : Below w.heap.size w (w.alloc (.cells #[.int .i64 0, .int .i64 0] 54)) := (Below.refl _ _).alloc (Nat.le_refl _) _
  have c1 := isPolynomial_ret v p _ (hv.below hB) (by omega)
  rw [hp] at c1
  have hmx := mxA_bd hbd
  obtain ⟨ao, cap, rfl, hcc, _, K⟩ := id hv
  have hcap : d ≤ cap := by omega
  clear hcc
  have e1 : bndX p = mxA p d + ((nth p d).natAbs : Int) := by unfold bndX; rw [hd]; rfl
  have e2 : bndY p = ((nth p d).natAbs : Int) := by unfold bndY; rw [hd]; rfl
  rw [hd] at hv K c1 ⊢
  rw [e1, e2]
  obtain ⟨b, off, rfl, _⟩ := K 0 (by omega)
  have K2 : ∀ w', Below w.heap.size w w' → ∀ i, i < d + 1 → w'.cell? ⟨b, off + i, none⟩ = some (.int .i64 (nth p i)) := fun w' hB i hi => by
    obtain ⟨b', off', e, hc⟩ := K i hi
    cases e
    rw [hB.cell (World.block_lt_of_cell? w _ hc)]; exact hc
  have hlast := hbd d (Nat.lt_succ_self d)
  have hm1 := (hmx d (Nat.le_succ d))
  have cl := fun w => lowest_any (mxA p d + ((nth p d).natAbs : Int)) ((nth p d).natAbs : Int) w (by omega) (by omega) (by omega)
  rw [show mxA p d + ((nth p d).natAbs : Int) = ((nth p d).natAbs : Int) + mxA p d by omega] at cl ⊢
  obtain ⟨R, hR⟩ : ∃ R, mkR (((nth p d).natAbs : Int) + mxA p d) ((nth p d).natAbs : Int) = R := ⟨_, rfl⟩
  rw [hR] at cl ⊢
  obtain ⟨⟨rn, rd⟩, rb⟩ := R
  have hne : ((d : Int) + 1 == 0) = false := by rw [beq_eq_false_iff_ne]; omega
  clear K hv hp hok hl0
  have c1' := Lib.hid c1
  have K2' := Lib.hid K2
  have hd' := Lib.hid hd
  have hbd' := Lib.hid hbd
  have hmx' := Lib.hid hmx
  have cl' := Lib.hid cl
  have hR' := Lib.hid hR
  have e1' := Lib.hid e1
  have e2' := Lib.hid e2
  clear c1 K2 hd hbd hmx cl hR e1 e2
  go_enter Try.func48, Try.ntmps48
  go_wp2_with fail
  refine (c1'.out).mono ?_
  rintro e w1 ⟨rfl, hB1⟩
  obtain ⟨hc1, hf1⟩ := bcell hB1
  have hz1 : w.heap.size < w1.heap.size := by have := hB1.size; simp at this; omega
  have hB2 := hB.trans (hB1.mono hB.size)
  have q0 : w1.cell? ⟨w.heap.size, 0, none⟩ = some (.int .i64 0) := by rw [hc1 _ _ (by simp)]; simp [go_sem]
  have q1 : w1.cell? ⟨w.heap.size, 1, none⟩ = some (.int .i64 0) := by rw [hc1 _ _ (by simp)]; simp [go_sem]
  have q2 : w1.frozen? ⟨w.heap.size, 0, none⟩ = false := by rw [hf1 _ _ (by simp)]; simp [go_sem]
  have q3 : w1.frozen? ⟨w.heap.size, 1, none⟩ = false := by rw [hf1 _ _ (by simp)]; simp [go_sem]
  clear hB hB1 hc1 hf1
  go_wp2
  go_loop [4, 23] (fun s i => ∃ k : Nat, k ≤ d ∧ i = .int .i64 k ∧ s = .int .i64 (mxA p k)) (fun _ i => d - (intOf i).toNat)
  case atStart => exact ⟨0, Nat.zero_le _, rfl, rfl⟩
  case round =>
    obtain ⟨k, hk, rfl, rfl⟩ := hrel
    by_cases hlt : k < d
    · have p1 := K2'.out _ hB2 k (by omega)
      have b1 := hbd'.out k (by omega)
      have hs := mxA_succ p k
      have hab : -9223372036854775807 ≤ nth p k ∧ nth p k ≤ 9223372036854775807 := by omega
      by_cases hgt : mxA p k < ((nth p k).natAbs : Int)
      · have hm : mxA p (k + 1) = ((nth p k).natAbs : Int) := by omega
        have hs' := Lib.hid hs
        have hm' := Lib.hid hm
        clear hs hm
        go_wp2_with fail
        refine (abs_any _ _ hab).mono ?_
        rintro e w_ ⟨rfl, rfl⟩
        go_wp2
        go_round
        case rel => exact ⟨k + 1, by omega, by go_num, by rw [hm'.out]⟩
        case measure => simp [intOf]; omega
      · have hm : mxA p (k + 1) = mxA p k := by omega
        have hs' := Lib.hid hs
        have hm' := Lib.hid hm
        clear hs hm
        go_wp2_with fail
        refine (abs_any _ _ hab).mono ?_
        rintro e w_ ⟨rfl, rfl⟩
        go_wp2
        go_round
        case rel => exact ⟨k + 1, by omega, by go_num, by rw [hm'.out]⟩
        case measure => simp [intOf]; omega
    · obtain rfl : d = k := by omega
      have p1 := K2'.out _ hB2 d (by omega)
      have hab : -9223372036854775807 ≤ nth p d ∧ nth p d ≤ 9223372036854775807 := by omega
      go_wp2_with fail
      refine (abs_any _ _ hab).mono ?_
      rintro e w_ ⟨rfl, rfl⟩
      go_wp2_with fail
      refine (cl'.out _).mono ?_
      rintro e w2 ⟨rfl, hB3⟩
      obtain ⟨hc2, hf2⟩ := bcell hB3
      have hz2 : w.heap.size < w2.heap.size := by have := hB3.size; omega
      have r0 : w2.cell? ⟨w.heap.size, 0, none⟩ = some (.int .i64 0) := by rw [hc2 _ _ hz1]; exact q0
      have r1 : w2.cell? ⟨w.heap.size, 1, none⟩ = some (.int .i64 0) := by rw [hc2 _ _ hz1]; exact q1
      have r2 : w2.frozen? ⟨w.heap.size, 0, none⟩ = false := by rw [hf2 _ _ hz1]; exact q2
      have r3 : w2.frozen? ⟨w.heap.size, 1, none⟩ = false := by rw [hf2 _ _ hz1]; exact q3
      have hB4 := hB2.trans (hB3.mono hB2.size)
      clear hB2 hB3 hc2 hf2
      go_wp2
      refine bodyPost_ret (v := .tuple #[ratV (rn, rd), .bool rb]) (by simp [results, Try.results48, go_sem, r0, r1, ratV]) rfl ⟨rfl, ?_⟩
      exact (hB4.setCell (p := ⟨w.heap.size, 0, none⟩) (Nat.le_refl _) _).setCell (p := ⟨w.heap.size, 1, none⟩) (Nat.le_refl _) _

set_option maxHeartbeats 1000000 in
theorem specRootBound_yes (v : Value) (p : List Int) (d : Nat) (w : World) (hv : IntsV w v p) (hok : boundOk p = true) (hd : p.length = d + 1) :
    Calls Try.prog 46 #[v] w (Ret (.tuple #[ratV (RootBound_v p).1, .bool (RootBound_v p).2]) w) := by
  rw [RootBound_yes hok]
  obtain ⟨hp, d8, hbd, hl0⟩ := boundOk_parts hok hd
  have hB : Below w.heap.size w (w.alloc (.cells #[.int .i64 0, .int .i64 0] 54)) := (Below.refl _ _).alloc (Nat.le_refl _) _
  have c1 := poGood_ret v p _ (hv.below hB) (by omega)
  rw [hp] at c1
  have hmx := mxA_bd hbd
  obtain ⟨ao, cap, rfl, hcc, _, K⟩ := id hv
  have hcap : d ≤ cap := by omega
  clear hcc
  have e1 : bndX p = mxA p d + ((nth p d).natAbs : Int) := by unfold bndX; rw [hd]; rfl
  have e2 : bndY p = ((nth p d).natAbs : Int) := by unfold bndY; rw [hd]; rfl
  rw [hd] at hv K c1 ⊢
  rw [e1, e2]
  obtain ⟨b, off, rfl, _⟩ := K 0 (by omega)
  have K2 : ∀ w', Below w.heap.size w w' → ∀ i, i < d + 1 → w'.cell? ⟨b, off + i, none⟩ = some (.int .i64 (nth p i)) := fun w' hB i hi => by
    obtain ⟨b', off', e, hc⟩ := K i hi
    cases e
    rw [hB.cell (World.block_lt_of_cell? w _ hc)]; exact hc
  have hlast := hbd d (Nat.lt_succ_self d)
  have hm1 := (hmx d (Nat.le_succ d))
  have cl := fun w => raMake_any (mxA p d + ((nth p d).natAbs : Int)) ((nth p d).natAbs : Int) w (by omega) (by omega) (by omega)
  obtain ⟨R, hR⟩ : ∃ R, mkR (mxA p d + ((nth p d).natAbs : Int)) ((nth p d).natAbs : Int) = R := ⟨_, rfl⟩
  rw [hR] at cl ⊢
  obtain ⟨⟨rn, rd⟩, rb⟩ := R
  have hne : ((d : Int) + 1 == 0) = false := by rw [beq_eq_false_iff_ne]; omega
  clear K hv hp hok hl0
  have c1' := Lib.hid c1
  have K2' := Lib.hid K2
  have hd' := Lib.hid hd
  have hbd' := Lib.hid hbd
  have hmx' := Lib.hid hmx
  have cl' := Lib.hid cl
  have hR' := Lib.hid hR
  have e1' := Lib.hid e1
  have e2' := Lib.hid e2
  clear c1 K2 hd hbd hmx cl hR e1 e2
  go_enter Try.func46, Try.ntmps46
  go_wp2_with fail
  refine (c1'.out).mono ?_
  rintro e w1 ⟨rfl, hB1⟩
  obtain ⟨hc1, hf1⟩ := bcell hB1
  have hz1 : w.heap.size < w1.heap.size := by have := hB1.size; simp at this; omega
  have hB2 := hB.trans (hB1.mono hB.size)
  have q0 : w1.cell? ⟨w.heap.size, 0, none⟩ = some (.int .i64 0) := by rw [hc1 _ _ (by simp)]; simp [go_sem]
  have q1 : w1.cell? ⟨w.heap.size, 1, none⟩ = some (.int .i64 0) := by rw [hc1 _ _ (by simp)]; simp [go_sem]
  have q2 : w1.frozen? ⟨w.heap.size, 0, none⟩ = false := by rw [hf1 _ _ (by simp)]; simp [go_sem]
  have q3 : w1.frozen? ⟨w.heap.size, 1, none⟩ = false := by rw [hf1 _ _ (by simp)]; simp [go_sem]
  clear hB hB1 hc1 hf1
  go_wp2
  go_loop [4, 23] (fun s i => ∃ k : Nat, k ≤ d ∧ i = .int .i64 k ∧ s = .int .i64 (mxA p k)) (fun _ i => d - (intOf i).toNat)
  case atStart => exact ⟨0, Nat.zero_le _, rfl, rfl⟩
  case round =>
    obtain ⟨k, hk, rfl, rfl⟩ := hrel
    by_cases hlt : k < d
    · have p1 := K2'.out _ hB2 k (by omega)
      have b1 := hbd'.out k (by omega)
      have hs := mxA_succ p k
      have hab : -9223372036854775807 ≤ nth p k ∧ nth p k ≤ 9223372036854775807 := by omega
      have hm : mxA p (k + 1) = max (mxA p k) ((nth p k).natAbs : Int) := hs
      obtain ⟨m, hm2⟩ : ∃ m, mxA p (k + 1) = m := ⟨_, rfl⟩
      rw [hm2] at hm
      clear hs
      have hm' := Lib.hid hm
      have hm2' := Lib.hid hm2
      clear hm hm2
      go_wp2_with fail
      refine (l1Abs_any _ _ hab).mono ?_
      rintro e w_ ⟨rfl, rfl⟩
      go_wp2_with fail
      refine (l1Most_is _ _ m _ hm'.out).mono ?_
      rintro e w_ ⟨rfl, rfl⟩
      go_wp2
      go_round
      case rel => exact ⟨k + 1, by omega, by go_num, by rw [hm2'.out]⟩
      case measure => simp [intOf]; omega
    · obtain rfl : d = k := by omega
      have p1 := K2'.out _ hB2 d (by omega)
      have hab : -9223372036854775807 ≤ nth p d ∧ nth p d ≤ 9223372036854775807 := by omega
      go_wp2_with fail
      refine (l1Abs_any _ _ hab).mono ?_
      rintro e w_ ⟨rfl, rfl⟩
      go_wp2_with fail
      refine (cl'.out _).mono ?_
      rintro e w2 ⟨rfl, hB3⟩
      obtain ⟨hc2, hf2⟩ := bcell hB3
      have hz2 : w.heap.size < w2.heap.size := by have := hB3.size; omega
      have r0 : w2.cell? ⟨w.heap.size, 0, none⟩ = some (.int .i64 0) := by rw [hc2 _ _ hz1]; exact q0
      have r1 : w2.cell? ⟨w.heap.size, 1, none⟩ = some (.int .i64 0) := by rw [hc2 _ _ hz1]; exact q1
      have r2 : w2.frozen? ⟨w.heap.size, 0, none⟩ = false := by rw [hf2 _ _ hz1]; exact q2
      have r3 : w2.frozen? ⟨w.heap.size, 1, none⟩ = false := by rw [hf2 _ _ hz1]; exact q3
      have hB4 := hB2.trans (hB3.mono hB2.size)
      clear hB2 hB3 hc2 hf2
      go_wp2
      refine bodyPost_ret (v := .tuple #[ratV (rn, rd), .bool rb]) (by simp [results, Try.results46, go_sem, r0, r1, ratV]) rfl ⟨rfl, ?_⟩
      exact (hB4.setCell (p := ⟨w.heap.size, 0, none⟩) (Nat.le_refl _) _).setCell (p := ⟨w.heap.size, 1, none⟩) (Nat.le_refl _) _

set_option maxHeartbeats 400000 in
theorem implRootBound_any (v : Value) (p : List Int) (w : World) (hv : IntsV w v p) (hm : szIntS p ≤ 1099511627776) :
    Calls Try.prog 48 #[v] w (Ret (.tuple #[ratV (RootBound_v p).1, .bool (RootBound_v p).2]) w) := by
  cases hok : boundOk p
  rotate_left
  · refine implRootBound_yes v p (p.length - 1) w hv hok ?_
    simp only [boundOk, Bool.and_eq_true, Bool.not_eq_true', decide_eq_false_iff_not] at hok
    omega
  replace hm : p.length ≤ 1099511627776 := hm
  rw [RootBound_no hok]
  have hB : Below w.heap.size w (w.alloc (.cells #[.int .i64 0, .int .i64 0] 54)) := (Below.refl _ _).alloc (Nat.le_refl _) _
  have c1 := isPolynomial_ret v p _ (hv.below hB) hm
  obtain ⟨ao, cap, rfl, -, -, -⟩ := hv
  cases hp : polyB p
  · rw [hp] at c1
    generalize p.length = n at *
    have c1' := Lib.hid c1
    clear c1
    clear hok hp
    go_enter Try.func48, Try.ntmps48
    go_wp2_with fail
    refine (c1'.out).mono ?_
    rintro e w1 ⟨rfl, hB1⟩
    obtain ⟨hc1, hf1⟩ := bcell hB1
    have hz1 : w.heap.size < w1.heap.size := by have := hB1.size; simp at this; omega
    have hB2 := hB.trans (hB1.mono hB.size)
    have q0 : w1.cell? ⟨w.heap.size, 0, none⟩ = some (.int .i64 0) := by rw [hc1 _ _ (by simp)]; simp [go_sem]
    have q1 : w1.cell? ⟨w.heap.size, 1, none⟩ = some (.int .i64 0) := by rw [hc1 _ _ (by simp)]; simp [go_sem]
    have q2 : w1.frozen? ⟨w.heap.size, 0, none⟩ = false := by rw [hf1 _ _ (by simp)]; simp [go_sem]
    have q3 : w1.frozen? ⟨w.heap.size, 1, none⟩ = false := by rw [hf1 _ _ (by simp)]; simp [go_sem]
    clear hB hB1 hc1 hf1
    go_wp2
    refine bodyPost_ret (v := .tuple #[ratV (0, 0), .bool false]) (by simp [results, Try.results48, go_sem, q0, q1, ratV]) rfl ⟨rfl, ?_⟩
    exact (hB2.setCell (p := ⟨w.heap.size, 0, none⟩) (Nat.le_refl _) _).setCell (p := ⟨w.heap.size, 1, none⟩) (Nat.le_refl _) _
  · rw [hp] at c1
    have h0 : p.length = 0 := by simpa [boundOk, hp] using hok
    rw [h0] at c1 ⊢
    have c1' := Lib.hid c1
    have h0' := Lib.hid h0
    clear c1 h0
    clear hok hp
    go_enter Try.func48, Try.ntmps48
    go_wp2_with fail
    refine (c1'.out).mono ?_
    rintro e w1 ⟨rfl, hB1⟩
    obtain ⟨hc1, hf1⟩ := bcell hB1
    have hz1 : w.heap.size < w1.heap.size := by have := hB1.size; simp at this; omega
    have hB2 := hB.trans (hB1.mono hB.size)
    have q0 : w1.cell? ⟨w.heap.size, 0, none⟩ = some (.int .i64 0) := by rw [hc1 _ _ (by simp)]; simp [go_sem]
    have q1 : w1.cell? ⟨w.heap.size, 1, none⟩ = some (.int .i64 0) := by rw [hc1 _ _ (by simp)]; simp [go_sem]
    have q2 : w1.frozen? ⟨w.heap.size, 0, none⟩ = false := by rw [hf1 _ _ (by simp)]; simp [go_sem]
    have q3 : w1.frozen? ⟨w.heap.size, 1, none⟩ = false := by rw [hf1 _ _ (by simp)]; simp [go_sem]
    clear hB hB1 hc1 hf1
    go_wp2
    refine bodyPost_ret (v := .tuple #[ratV (0, 0), .bool false]) (by simp [results, Try.results48, go_sem, q0, q1, ratV]) rfl ⟨rfl, ?_⟩
    exact (hB2.setCell (p := ⟨w.heap.size, 0, none⟩) (Nat.le_refl _) _).setCell (p := ⟨w.heap.size, 1, none⟩) (Nat.le_refl _) _
set_option maxHeartbeats 400000 in
theorem specRootBound_any (v : Value) (p : List Int) (w : World) (hv : IntsV w v p) (hm : szIntS p ≤ 1099511627776) :
    Calls Try.prog 46 #[v] w (Ret (.tuple #[ratV (RootBound_v p).1, .bool (RootBound_v p).2]) w) := by
  cases hok : boundOk p
  rotate_left
  · refine specRootBound_yes v p (p.length - 1) w hv hok ?_
    simp only [boundOk, Bool.and_eq_true, Bool.not_eq_true', decide_eq_false_iff_not] at hok
    omega
  replace hm : p.length ≤ 1099511627776 := hm
  rw [RootBound_no hok]
  have hB : Below w.heap.size w (w.alloc (.cells #[.int .i64 0, .int .i64 0] 54)) := (Below.refl _ _).alloc (Nat.le_refl _) _
  have c1 := poGood_ret v p _ (hv.below hB) hm
  obtain ⟨ao, cap, rfl, -, -, -⟩ := hv
  cases hp : polyB p
  · rw [hp] at c1
    generalize p.length = n at *
    have c1' := Lib.hid c1
    clear c1
    clear hok hp
    go_enter Try.func46, Try.ntmps46
    go_wp2_with fail
    refine (c1'.out).mono ?_
    rintro e w1 ⟨rfl, hB1⟩
    obtain ⟨hc1, hf1⟩ := bcell hB1
    have hz1 : w.heap.size < w1.heap.size := by have := hB1.size; simp at this; omega
    have hB2 := hB.trans (hB1.mono hB.size)
    have q0 : w1.cell? ⟨w.heap.size, 0, none⟩ = some (.int .i64 0) := by rw [hc1 _ _ (by simp)]; simp [go_sem]
    have q1 : w1.cell? ⟨w.heap.size, 1, none⟩ = some (.int .i64 0) := by rw [hc1 _ _ (by simp)]; simp [go_sem]
    have q2 : w1.frozen? ⟨w.heap.size, 0, none⟩ = false := by rw [hf1 _ _ (by simp)]; simp [go_sem]
    have q3 : w1.frozen? ⟨w.heap.size, 1, none⟩ = false := by rw [hf1 _ _ (by simp)]; simp [go_sem]
    clear hB hB1 hc1 hf1
    go_wp2
    refine bodyPost_ret (v := .tuple #[ratV (0, 0), .bool false]) (by simp [results, Try.results46, go_sem, q0, q1, ratV]) rfl ⟨rfl, ?_⟩
    exact (hB2.setCell (p := ⟨w.heap.size, 0, none⟩) (Nat.le_refl _) _).setCell (p := ⟨w.heap.size, 1, none⟩) (Nat.le_refl _) _
  · rw [hp] at c1
    have h0 : p.length = 0 := by simpa [boundOk, hp] using hok
    rw [h0] at c1 ⊢
    have c1' := Lib.hid c1
    have h0' := Lib.hid h0
    clear c1 h0
    clear hok hp
    go_enter Try.func46, Try.ntmps46
    go_wp2_with fail
    refine (c1'.out).mono ?_
    rintro e w1 ⟨rfl, hB1⟩
    obtain ⟨hc1, hf1⟩ := bcell hB1
    have hz1 : w.heap.size < w1.heap.size := by have := hB1.size; simp at this; omega
    have hB2 := hB.trans (hB1.mono hB.size)
    have q0 : w1.cell? ⟨w.heap.size, 0, none⟩ = some (.int .i64 0) := by rw [hc1 _ _ (by simp)]; simp [go_sem]
    have q1 : w1.cell? ⟨w.heap.size, 1, none⟩ = some (.int .i64 0) := by rw [hc1 _ _ (by simp)]; simp [go_sem]
    have q2 : w1.frozen? ⟨w.heap.size, 0, none⟩ = false := by rw [hf1 _ _ (by simp)]; simp [go_sem]
    have q3 : w1.frozen? ⟨w.heap.size, 1, none⟩ = false := by rw [hf1 _ _ (by simp)]; simp [go_sem]
    clear hB hB1 hc1 hf1
    go_wp2
    refine bodyPost_ret (v := .tuple #[ratV (0, 0), .bool false]) (by simp [results, Try.results46, go_sem, q0, q1, ratV]) rfl ⟨rfl, ?_⟩
    exact (hB2.setCell (p := ⟨w.heap.size, 0, none⟩) (Nat.le_refl _) _).setCell (p := ⟨w.heap.size, 1, none⟩) (Nat.le_refl _) _

end Go.Proofs.Ytjoeanplgikkcaa

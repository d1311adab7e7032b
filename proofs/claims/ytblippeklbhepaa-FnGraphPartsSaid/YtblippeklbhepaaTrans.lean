/- Whether each state reaches each one: the reference's walk and the program's. -/
import Derived.Test.YtblippeklbhepaaBfs
namespace Go.Proofs.Ytblippeklbhepaa
open Go.RowKit

/-- The first place of false among f 0 .. f (n - 1), or -1. -/
def fstF (f : Nat → Bool) : Nat → Int
  | 0 => -1
  | n + 1 => if fstF f n < 0 then (if f n = true then -1 else n) else fstF f n
theorem fstF_pre {f : Nat → Bool} : ∀ n, (∀ j, j < n → f j = true) → fstF f n = -1 := by
  intro n
  induction n with
  | zero => intro _; rfl
  | succ n ih =>
    intro h
    show (if fstF f n < 0 then (if f n = true then -1 else (n : Int)) else fstF f n) = -1
    rw [ih (fun j hj => h j (by omega)), if_pos (by omega), if_pos (h n (by omega))]
theorem fstF_hit {f : Nat → Bool} {k : Nat} (h : ∀ j, j < k → f j = true) (hk : f k = false) : ∀ m, fstF f (k + 1 + m) = k := by
  intro m
  induction m with
  | zero =>
    show (if fstF f k < 0 then (if f k = true then -1 else (k : Int)) else fstF f k) = k
    rw [fstF_pre k h, if_pos (by omega), hk]; simp
  | succ m ih =>
    show (if fstF f (k + 1 + m) < 0 then (if f (k + 1 + m) = true then -1 else ((k + 1 + m : Nat) : Int)) else fstF f (k + 1 + m)) = k
    rw [ih, if_neg (by omega)]
theorem fstF_geq (f : Nat → Bool) (n : Nat) : decide (fstF f n ≥ 0) = !(List.range n).all f := by
  induction n with
  | zero => rfl
  | succ n ih =>
    show decide ((if fstF f n < 0 then (if f n = true then -1 else (n : Int)) else fstF f n) ≥ 0) = _
    rw [List.range_succ, List.all_append, Bool.not_and]
    rw [← ih]
    by_cases h : fstF f n < 0
    · rw [if_pos h]
      have : decide (fstF f n ≥ 0) = false := decide_eq_false (by omega)
      rw [this]
      cases hf : f n <;> simp [hf]
    · rw [if_neg h]
      have : decide (fstF f n ≥ 0) = true := decide_eq_true (by omega)
      rw [this]; rfl

theorem indexFalse_any (b c n : Nat) (f : Nat → Bool) (w : World) (h : ∀ j, j < n → w.cell? ⟨b, j, none⟩ = some (.bool (f j))) (hm : n ≤ 1099511627776) :
    Calls Try.prog 135 #[.slice (some ⟨b, 0, none⟩) n c, .bool false] w (Same (.int .i64 (fstF f n)) w) := by
  have h' := Lib.hid h
  clear h
  go_enter Try.func135, Try.ntmps135
  go_wp2
  go_loop [8] (fun i => ∃ k : Nat, k ≤ n ∧ i = .int .i64 k ∧ Hid (∀ j, j < k → f j = true)) (fun i => n - (intOf i).toNat)
  case atStart => exact ⟨0, Nat.zero_le _, rfl, Lib.hid (fun j hj => absurd hj (Nat.not_lt_zero j))⟩
  case round =>
    obtain ⟨k, hk, rfl, hI⟩ := hrel
    by_cases hlt : k < n
    · have hc := h'.out k hlt
      cases hf : f k
      · have hr := fstF_hit hI.out hf (n - (k + 1))
        rw [show k + 1 + (n - (k + 1)) = n by omega] at hr
        rw [hf] at hc
        have hr' := Lib.hid hr
        clear hr
        clear hf
        go_wp2
        go_ret
        rw [hr'.out]
        exact ⟨rfl, rfl⟩
      · have hI2 : ∀ j, j < k + 1 → f j = true := fun j hj => by
          by_cases e : j = k
          · rw [e]; exact hf
          · exact hI.out j (by omega)
        rw [hf] at hc
        have hI2' := Lib.hid hI2
        clear hI2
        clear hf
        go_wp2
        go_round
        case rel => exact ⟨k + 1, by omega, by go_num, hI2'⟩
        case measure => simp [intOf]; omega
    · obtain rfl : n = k := by omega
      have hr := fstF_pre n hI.out
      have hr' := Lib.hid hr
      clear hr
      go_wp2
      go_ret
      rw [hr'.out]
      exact ⟨rfl, rfl⟩
theorem containsFalse_any (b c n : Nat) (f : Nat → Bool) (w : World) (h : ∀ j, j < n → w.cell? ⟨b, j, none⟩ = some (.bool (f j))) (hm : n ≤ 1099511627776) :
    Calls Try.prog 130 #[.slice (some ⟨b, 0, none⟩) n c, .bool false] w (Same (.bool (!(List.range n).all f)) w) := by
  have c1 := indexFalse_any b c n f w h hm
  rw [← fstF_geq]
  generalize fstF f n = z at *
  have c1' := Lib.hid c1
  have h' := Lib.hid h
  clear c1 h
  by_cases hz : z ≥ 0
  · rw [decide_eq_true hz]
    go_enter Try.func130, Try.ntmps130
    go_wp2_with fail
    refine (c1'.out).mono ?_
    rintro e w_ ⟨rfl, rfl⟩
    go_wp2
    go_ret
    exact ⟨rfl, rfl⟩
  · rw [decide_eq_false hz]
    have hd : decide (0 ≤ z) = false := decide_eq_false (by omega)
    go_enter Try.func130, Try.ntmps130
    go_wp2_with fail
    refine (c1'.out).mono ?_
    rintro e w_ ⟨rfl, rfl⟩
    go_wp2
    go_ret
    exact ⟨rfl, rfl⟩

/-- Row i of a table of bools holds no false. -/
def rowT (f : Nat → Nat → Bool) (n i : Nat) : Bool := (List.range n).all (f i)
theorem isTransitive1_any (b c n : Nat) (f : Nat → Bool) (w : World) (h : ∀ j, j < n → w.cell? ⟨b, j, none⟩ = some (.bool (f j))) (hm : n ≤ 1099511627776) :
    Calls Try.prog 129 #[.slice (some ⟨b, 0, none⟩) n c] w (Same (.bool (!(List.range n).all f)) w) := by
  have c1 := containsFalse_any b c n f w h hm
  have c1' := Lib.hid c1
  have h' := Lib.hid h
  clear c1 h
  go_enter Try.func129, Try.ntmps129
  go_wp2_with fail
  refine (c1'.out).mono ?_
  rintro e w_ ⟨rfl, rfl⟩
  go_wp2
  go_ret
  exact ⟨rfl, rfl⟩

theorem indexRows_any (w : World) (B E g n cap : Nat) (rb rc : Nat → Nat) (f : Nat → Nat → Bool) (hM : MatTB w B E g n cap n rb rc f) (hm : n ≤ 1099511627776) :
    Calls Try.prog 134 #[.slice (some ⟨g, 0, none⟩) n cap, .func (.func 129) #[] #[]] w (Same (.int .i64 (fstF (rowT f n) n)) w) := by
  have eg : Enters Try.prog 129 := enters_of Try.func129 (by kernel_rfl) rfl
  have heg : ∀ args w, (callFunc 129 args).run Try.prog w = .ok (.enter 129 args) w := eg
  have c1 := fun i (hi : i < n) => isTransitive1_any (rb i) (rc i) n (f i) w (fun j hj => hM.cell hi hj) hm
  have c1' := Lib.hid c1
  have hM' := Lib.hid hM
  clear c1 hM
  go_enter Try.func134, Try.ntmps134
  go_wp2
  go_loop [8] (fun i => ∃ k : Nat, k ≤ n ∧ i = .int .i64 k ∧ Hid (∀ j, j < k → rowT f n j = true)) (fun i => n - (intOf i).toNat)
  case atStart => exact ⟨0, Nat.zero_le _, rfl, Lib.hid (fun j hj => absurd hj (Nat.not_lt_zero j))⟩
  case round =>
    obtain ⟨k, hk, rfl, hI⟩ := hrel
    by_cases hlt : k < n
    · have hc := hM'.out.ptr hlt
      have hcall := c1'.out k hlt
      change Calls Try.prog _ _ w (Same (.bool (!rowT f n k)) w) at hcall
      cases hf : rowT f n k
      · have hr := fstF_hit hI.out hf (n - (k + 1))
        rw [show k + 1 + (n - (k + 1)) = n by omega] at hr
        rw [hf] at hcall
        have hr' := Lib.hid hr
        have hcall' := Lib.hid hcall
        clear hr hcall
        clear hf
        go_wp2_with fail
        refine hcall'.out.mono ?_
        rintro e w_ ⟨rfl, rfl⟩
        go_wp2
        go_ret
        rw [hr'.out]
        exact ⟨rfl, rfl⟩
      · have hI2 : ∀ j, j < k + 1 → rowT f n j = true := fun j hj => by
          by_cases e : j = k
          · rw [e]; exact hf
          · exact hI.out j (by omega)
        rw [hf] at hcall
        have hI2' := Lib.hid hI2
        have hcall' := Lib.hid hcall
        clear hI2 hcall
        clear hf
        go_wp2_with fail
        refine hcall'.out.mono ?_
        rintro e w_ ⟨rfl, rfl⟩
        go_wp2
        go_round
        case rel => exact ⟨k + 1, by omega, by go_num, hI2'⟩
        case measure => simp [intOf]; omega
    · obtain rfl : n = k := by omega
      have hr := fstF_pre n hI.out
      have hr' := Lib.hid hr
      clear hr
      go_wp2
      go_ret
      rw [hr'.out]
      exact ⟨rfl, rfl⟩

/-- Each state reaches each one. -/
def transB (g : List (List Int)) : Bool := (List.range g.length).all (rowT (rcB g) g.length)
theorem transB_true {g : List (List Int)} : transB g = true ↔ ∀ i j, i < g.length → j < g.length → rcB g i j = true := by
  simp only [transB, rowT, List.all_eq_true, List.mem_range]
  exact ⟨fun h i j hi hj => h i hi j hj, fun h i hi j hj => h i j hi hj⟩

theorem isTransitive_any (v : Value) (g : List (List Int)) (w : World) (hv : RowsV w v g) (hg : graphB g = true) :
    Calls Try.prog 107 #[v] w (Ret (.bool (transB g)) w) := by
  obtain ⟨n, hn⟩ : ∃ n, g.length = n := ⟨_, rfl⟩
  have hn8 := (graphB_sz hg).2
  have c1 := reach_any v g n w hv hg hn
  have c2 := fun w' B E gg cap rb rc hM => indexRows_any w' B E gg n cap rb rc (rcB g) hM (by omega)
  have hT : transB g = !decide (fstF (rowT (rcB g) n) n ≥ 0) := by rw [fstF_geq]; unfold transB; rw [hn]; simp
  rw [hT]
  generalize fstF (rowT (rcB g) n) n = z at *
  rw [hn] at hn8
  have c3 : ∀ w' B E gg cap rb rc, MatTB w' B E gg n cap n rb rc (rcB g) → Calls Try.prog 128 #[.slice (some ⟨gg, 0, none⟩) n cap, .func (.func 129) #[] #[]] w' (Same (.bool (decide (z ≥ 0))) w') := by
    intro w' B E gg cap rb rc hM
    have c4 := c2 w' B E gg cap rb rc hM
    have c4' := Lib.hid c4
    clear c4
    clear c1 c2 hM hT hv
    by_cases hz : z ≥ 0
    · rw [decide_eq_true hz]
      go_enter Try.func128, Try.ntmps128
      go_wp2_with fail
      refine (c4'.out).mono ?_
      rintro e w_ ⟨rfl, rfl⟩
      go_wp2
      go_ret
      exact ⟨rfl, rfl⟩
    · rw [decide_eq_false hz]
      have hd : decide (0 ≤ z) = false := decide_eq_false (by omega)
      go_enter Try.func128, Try.ntmps128
      go_wp2_with fail
      refine (c4'.out).mono ?_
      rintro e w_ ⟨rfl, rfl⟩
      go_wp2
      go_ret
      exact ⟨rfl, rfl⟩
  generalize decide (z ≥ 0) = D at *
  have c1' := Lib.hid c1
  have c3' := Lib.hid c3
  have hn' := Lib.hid hn
  have hg' := Lib.hid hg
  have hv' := Lib.hid hv
  clear c1 c3 hn hg hv
  clear c2 hT
  go_enter Try.func107, Try.ntmps107
  go_wp2_with fail
  refine (c1'.out).mono ?_
  rintro e w2 ⟨gg, rb, rc, rfl, hM, hB⟩
  have c4 := c3'.out w2 _ _ gg n rb rc hM
  have c4' := Lib.hid c4
  have hM' := Lib.hid hM
  clear c4 hM
  go_wp2_with fail
  refine (c4'.out).mono ?_
  rintro e w_ ⟨rfl, rfl⟩
  go_wp2
  go_ret
  exact ⟨rfl, hB⟩

theorem cnt_all {p : Nat → Bool} : ∀ n, cnt p n = n ↔ ∀ j, j < n → p j = true := by
  intro n
  induction n with
  | zero => exact ⟨fun _ j hj => absurd hj (Nat.not_lt_zero j), fun _ => rfl⟩
  | succ n ih =>
    have h1 := cnt_le p n
    show cnt p n + (if p n = true then 1 else 0) = n + 1 ↔ _
    constructor
    · intro h j hj
      by_cases e : p n = true
      · rw [if_pos e] at h
        by_cases e2 : j = n
        · rw [e2]; exact e
        · exact ih.1 (by omega) j (by omega)
      · rw [if_neg e] at h; omega
    · intro h
      rw [if_pos (h n (by omega)), ih.2 (fun j hj => h j (by omega))]
set_option maxHeartbeats 400000 in
theorem grTransitive_any (v : Value) (g : List (List Int)) (w : World) (hv : RowsV w v g) (hg : graphB g = true) :
    Calls Try.prog 108 #[v] w (Ret (.bool (transB g)) w) := by
  obtain ⟨n, hn⟩ : ∃ n, g.length = n := ⟨_, rfl⟩
  obtain ⟨n1, n8, -, -⟩ := graphB_true hg
  have c1 := fun a (ha : a < n) w' hB => grReach_any v g a n w' (hv.below hB) hg hn ha
  have hyes := (@transB_true g).2
  have hno : ∀ i, i < g.length → cnt (rcB g i) g.length < g.length → transB g = false := fun i hi q => by
    rw [Bool.eq_false_iff]; intro r
    have := (cnt_all g.length).2 (fun j hj => transB_true.1 r i j hi hj)
    omega
  have hall : ∀ i, ¬ cnt (rcB g i) g.length < g.length → ∀ j, j < g.length → rcB g i j = true := fun i q => (cnt_all g.length).1 (by have := cnt_le (rcB g i) g.length; omega)
  obtain ⟨ao, cap, rfl, -, -, -⟩ := hv
  rw [hn] at hyes hno hall c1 n8 n1 ⊢
  generalize transB g = T at *
  have c1' := Lib.hid c1
  have hn' := Lib.hid hn
  have hg' := Lib.hid hg
  have hyes' := Lib.hid hyes
  have hno' := Lib.hid hno
  have hall' := Lib.hid hall
  clear c1 hn hg hyes hno hall
  go_enter Try.func108, Try.ntmps108
  go_wp2
  go_loopw [6] (fun i wr => ∃ k : Nat, k ≤ n ∧ i = .int .i64 k ∧ Below w.heap.size w wr ∧ Hid (∀ i j, i < k → j < n → rcB g i j = true)) (fun i _ => n - (intOf i).toNat)
  case atStart => exact ⟨0, Nat.zero_le _, rfl, Below.refl _ _, Lib.hid (fun i j hi => absurd hi (Nat.not_lt_zero i))⟩
  case round =>
    obtain ⟨k, hk, rfl, hB, hI⟩ := hrel
    by_cases hlt : k < n
    · have hcall := c1'.out k hlt _ hB
      have hcall' := Lib.hid hcall
      clear hcall
      go_wp2_with fail
      refine (hcall'.out).mono ?_
      rintro e w2 ⟨u, rfl, ho, hB2⟩
      have hB3 := hB.trans (hB2.mono hB.size)
      obtain ⟨uo, ucap, rfl, -, -, -⟩ := ho.read
      rw [setL_len]
      obtain ⟨m, hm⟩ : ∃ m, cnt (rcB g k) n = m := ⟨_, rfl⟩
      rw [hm]
      clear ho hB hB2
      by_cases hmn : m < n
      · have hT := hno'.out k hlt (by rw [hm]; exact hmn)
        have hT' := Lib.hid hT
        have hm' := Lib.hid hm
        clear hT hm
        go_wp2
        go_ret
        rw [hT'.out]
        exact ⟨rfl, hB3⟩
      · have hT := hall'.out k (by rw [hm]; exact hmn)
        have hI2 : ∀ i j, i < k + 1 → j < n → rcB g i j = true := fun i j hi hj => by
          by_cases e : i = k
          · rw [e]; exact hT j hj
          · exact hI.out i j (by omega) hj
        clear hT
        have hI2' := Lib.hid hI2
        have hm' := Lib.hid hm
        clear hI2 hm
        go_wp2
        go_roundw
        case rel => exact ⟨k + 1, by omega, by go_num, hB3, hI2'⟩
        case measure => simp [intOf]; omega
    · obtain rfl : n = k := by omega
      have hT := hyes'.out hI.out
      have hT' := Lib.hid hT
      clear hT
      go_wp2
      go_ret
      rw [hT'.out]
      exact ⟨rfl, hB⟩

/-- What both IsTransitive functions return. -/
def IsTransitive_v (g : List (List Int)) : Bool × Bool := if graphB g = true then (transB g, true) else (false, false)
theorem IsTransitive_no {g : List (List Int)} (h : graphB g = false) : IsTransitive_v g = (false, false) := by simp [IsTransitive_v, h]
theorem IsTransitive_yes {g : List (List Int)} (h : graphB g = true) : IsTransitive_v g = (transB g, true) := by simp [IsTransitive_v, h]
theorem specIsTransitive_any (v : Value) (g : List (List Int)) (w : World) (hv : RowsV w v g) (hm : szIntSS g ≤ 1099511627776) :
    Calls Try.prog 44 #[v] w (Ret (.tuple #[.bool (IsTransitive_v g).1, .bool (IsTransitive_v g).2]) w) := by
  have c1 := grGood_any v g w hv hm
  have c1' := Lib.hid c1
  clear c1
  cases h : graphB g
  · rw [h] at c1'
    rw [IsTransitive_no h]
    clear h hv
    go_enter Try.func44, Try.ntmps44
    go_wp2_with fail
    refine (c1'.out).mono ?_
    rintro e w_ ⟨rfl, rfl⟩
    go_wp2
    go_ret2
    exact ⟨rfl, Below.refl _ _⟩
  · rw [h] at c1'
    rw [IsTransitive_yes h]
    have c2 := fun w' hB => grTransitive_any v g w' (hv.below hB) h
    generalize transB g = T at *
    have c2' := Lib.hid c2
    clear c2
    clear h hv
    go_enter Try.func44, Try.ntmps44
    go_wp2_with fail
    refine (c1'.out).mono ?_
    rintro e w_ ⟨rfl, rfl⟩
    go_wp2_with fail
    refine (c2'.out _ (Below.refl _ _)).mono ?_
    rintro e w2 ⟨rfl, hB2⟩
    have hB0 : Below w.heap.size w _ := Below.refl _ _
    have hB3 := hB0.trans (hB2.mono hB0.size)
    go_wp2
    go_ret2
    exact ⟨rfl, hB3⟩
theorem implIsTransitive_any (v : Value) (g : List (List Int)) (w : World) (hv : RowsV w v g) (hm : szIntSS g ≤ 1099511627776) :
    Calls Try.prog 43 #[v] w (Ret (.tuple #[.bool (IsTransitive_v g).1, .bool (IsTransitive_v g).2]) w) := by
  have c1 := isGraph_any v g w hv hm
  have c1' := Lib.hid c1
  clear c1
  cases h : graphB g
  · rw [h] at c1'
    rw [IsTransitive_no h]
    clear h hv
    go_enter Try.func43, Try.ntmps43
    go_wp2_with fail
    refine (c1'.out).mono ?_
    rintro e w1 ⟨rfl, hB⟩
    go_wp2
    go_ret2
    exact ⟨rfl, hB⟩
  · rw [h] at c1'
    rw [IsTransitive_yes h]
    have c2 := fun w' hB => isTransitive_any v g w' (hv.below hB) h
    generalize transB g = T at *
    have c2' := Lib.hid c2
    clear c2
    clear h hv
    go_enter Try.func43, Try.ntmps43
    go_wp2_with fail
    refine (c1'.out).mono ?_
    rintro e w1 ⟨rfl, hB⟩
    go_wp2_with fail
    refine (c2'.out _ hB).mono ?_
    rintro e w2 ⟨rfl, hB2⟩
    have hB0 : Below w.heap.size w _ := hB
    have hB3 := hB0.trans (hB2.mono hB0.size)
    go_wp2
    go_ret2
    exact ⟨rfl, hB3⟩

end Go.Proofs.Ytblippeklbhepaa

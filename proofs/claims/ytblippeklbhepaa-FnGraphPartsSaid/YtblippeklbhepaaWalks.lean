/- Walks between states, closed walks, powers, traces: the reference's walks and the program's. -/
import Derived.Test.YtblippeklbhepaaPower
import Derived.Test.YtblippeklbhepaaArrows
import Derived.Test.YtblippeklbhepaaWrap
namespace Go.Proofs.Ytblippeklbhepaa
open Go.RowKit

/-! Bounds of the numbers of walks. -/
theorem pwS_bd {o g : Nat → Nat → Int} {most : Int} {n i c : Nat} (h0 : 0 ≤ most) (hb : most ≤ 1000000001) (ho : ∀ k, k < n → 0 ≤ o i k ∧ o i k ≤ most) (hg : ∀ k, k < n → 0 ≤ g k c ∧ g k c ≤ 9) :
    ∀ k, k ≤ n → (0 ≤ pwS o g most i c k ∧ pwS o g most i c k ≤ most) ∧ (k < n → pwS o g most i c (k + 1) = if most < pwS o g most i c k + o i k * g k c then most else pwS o g most i c k + o i k * g k c) := by
  have hstep : ∀ k, k < n → (0 ≤ pwS o g most i c k ∧ pwS o g most i c k ≤ most) → (0 ≤ o i k * g k c) ∧ pwS o g most i c (k + 1) = if most < pwS o g most i c k + o i k * g k c then most else pwS o g most i c k + o i k * g k c := fun k hk hb' => by
    have h1 := ho k hk
    have h2 := hg k hk
    have h3 : 0 ≤ o i k * g k c := Int.mul_nonneg h1.1 h2.1
    have h4 : o i k * g k c ≤ 1000000001 * 9 := Int.mul_le_mul (by omega) h2.2 h2.1 (by omega)
    refine ⟨h3, ?_⟩
    rw [pwS_succ, wrap64_id (a := o i k * g k c) (by omega) (by omega), wrap64_id (by omega) (by omega)]
  intro k
  induction k with
  | zero => intro _; exact ⟨⟨by show (0 : Int) ≤ 0; omega, by show (0 : Int) ≤ most; omega⟩, fun h => (hstep 0 h ⟨by show (0 : Int) ≤ 0; omega, by show (0 : Int) ≤ most; omega⟩).2⟩
  | succ k ih =>
    intro hk
    have hk' := ih (by omega)
    have hs := hstep k (by omega) hk'.1
    have hbd : 0 ≤ pwS o g most i c (k + 1) ∧ pwS o g most i c (k + 1) ≤ most := by
      rw [hs.2]
      have := hk'.1
      split <;> omega
    exact ⟨hbd, fun h => (hstep (k + 1) h hbd).2⟩
theorem pwE_bd {g : Nat → Nat → Int} {most : Int} {n : Nat} (h0 : 1 ≤ most) (hb : most ≤ 1000000001) (hg : ∀ i j, i < n → j < n → 0 ≤ g i j ∧ g i j ≤ 9) : ∀ t i j, i < n → j < n → 0 ≤ pwE g most n t i j ∧ pwE g most n t i j ≤ most := by
  intro t
  induction t with
  | zero => intro i j _ _; show 0 ≤ (if i = j then (1 : Int) else 0) ∧ (if i = j then (1 : Int) else 0) ≤ most; split <;> omega
  | succ t ih =>
    intro i j hi hj
    rw [pwE_succ]
    exact ((pwS_bd (by omega) hb (fun k hk => ih i k hi hk) (fun k hk => hg k j hk hj)) n (Nat.le_refl _)).1

theorem power_any (v : Value) (g : List (List Int)) (n t : Nat) (w : World) (hv : RowsV w v g) (hg : graphB g = true) (hn : g.length = n) (ht : t ≤ 12) :
    Calls Try.prog 62 #[v, .int .i64 t] w (RetM n n (pwE (ent g) 1000000001 n t) w) := by
  have c1 := powerUpTo_any v g n t 1000000001 w hv hg hn ht
  have c1' := Lib.hid c1
  have hn' := Lib.hid hn
  have hg' := Lib.hid hg
  have hv' := Lib.hid hv
  clear c1 hn hg hv
  go_enter Try.func62, Try.ntmps62
  go_wp2_with fail
  refine (c1'.out).mono ?_
  rintro e w2 ⟨gg, cap, rb, rc, rfl, hM, hB⟩
  have hM' := Lib.hid hM
  clear hM
  go_wp2
  go_ret
  exact ⟨_, _, _, _, rfl, hM'.out, hB⟩

/-- The numbers of walks of t steps of a graph. -/
def pwG (g : List (List Int)) (t : Nat) : Nat → Nat → Int := pwE (ent g) 1000000001 g.length t
theorem pwG_bd {g : List (List Int)} (h : graphB g = true) (t : Nat) : ∀ i j, i < g.length → j < g.length → 0 ≤ pwG g t i j ∧ pwG g t i j ≤ 1000000001 := by
  obtain ⟨_, _, _, hent⟩ := graphB_true h
  exact pwE_bd (by omega) (by omega) hent t

theorem power_g (v : Value) (g : List (List Int)) (n t : Nat) (w : World) (hv : RowsV w v g) (hg : graphB g = true) (hn : g.length = n) (ht : t ≤ 12) :
    Calls Try.prog 62 #[v, .int .i64 t] w (RetM n n (pwG g t) w) := by
  unfold pwG; rw [hn]; exact power_any v g n t w hv hg hn ht
theorem grPower_g (v : Value) (g : List (List Int)) (n t : Nat) (w : World) (hv : RowsV w v g) (hg : graphB g = true) (hn : g.length = n) (ht : t ≤ 12) :
    Calls Try.prog 68 #[v, .int .i64 t] w (RetM n n (pwG g t) w) := by
  unfold pwG; rw [hn]; exact grPower_any v g n t w hv hg hn ht

/-! Walks from a state to a state. -/
def walkOk (g : List (List Int)) (x y t : Int) : Bool := graphB g && inB x 0 ((g.length : Int) - 1) && inB y 0 ((g.length : Int) - 1) && inB t 0 12
/-- What both WalkCount functions return. -/
def WalkCount_v (g : List (List Int)) (x y t : Int) : Int × Bool :=
  if walkOk g x y t = true then (if 1000000000 < pwG g t.toNat x.toNat y.toNat then (0, false) else (pwG g t.toNat x.toNat y.toNat, true)) else (0, false)
theorem WalkCount_no {g : List (List Int)} {x y t : Int} (h : walkOk g x y t = false) : WalkCount_v g x y t = (0, false) := by simp [WalkCount_v, h]
theorem WalkCount_yes {g : List (List Int)} {a c t : Nat} (h : walkOk g a c t = true) : WalkCount_v g a c t = if 1000000000 < pwG g t a c then (0, false) else (pwG g t a c, true) := by
  simp [WalkCount_v, h]
theorem walkOk_of {g : List (List Int)} {x y t : Int} (h1 : graphB g = true) (h2 : inB x 0 ((g.length : Int) - 1) = true) (h3 : inB y 0 ((g.length : Int) - 1) = true) (h4 : inB t 0 12 = true) : walkOk g x y t = true := by simp [walkOk, h1, h2, h3, h4]
theorem inB_nat' {x : Int} {n : Nat} (h : inB x 0 n = true) : ∃ a : Nat, x = a ∧ a ≤ n := by
  have := inB_true.1 h
  exact ⟨x.toNat, by omega, by omega⟩

set_option maxHeartbeats 800000 in
theorem implWalkCount_any (v : Value) (g : List (List Int)) (x y t : Int) (w : World) (hv : RowsV w v g) (hm : szIntSS g ≤ 1099511627776) (_hx : I64 x) (_hy : I64 y) (_ht : I64 t) :
    Calls Try.prog 12 #[v, .int .i64 x, .int .i64 y, .int .i64 t] w (Ret (.tuple #[.int .i64 (WalkCount_v g x y t).1, .bool (WalkCount_v g x y t).2]) w) := by
  have c1 := isWalk_any v g t w hv hm
  have hl : g.length ≤ 1099511627776 := by unfold szIntSS at hm; omega
  have c2 := fun (z : Int) (w' : World) (hB : Below w.heap.size w w') => isState_any v g z w' (hv.below hB) hl
  have c1' := Lib.hid c1
  have c2' := Lib.hid c2
  clear c1 c2
  cases h : (graphB g && inB t 0 12)
  · rw [h] at c1'
    rw [WalkCount_no (by
      have := h
      unfold walkOk
      cases h1 : graphB g
      · simp
      · rw [h1, Bool.true_and] at this
        rw [this, Bool.and_false])]
    clear h hv hl
    go_enter Try.func12, Try.ntmps12
    go_wp2_with fail
    refine (c1'.out).mono ?_
    rintro e w1 ⟨rfl, hB⟩
    go_wp2
    go_ret2
    exact ⟨rfl, hB⟩
  rw [h] at c1'
  simp only [Bool.and_eq_true] at h
  obtain ⟨h, ht⟩ := h
  cases hx : inB x 0 ((g.length : Int) - 1)
  · rw [WalkCount_no (by simp [walkOk, hx])]
    have hx' := Lib.hid hx
    clear hx
    clear h hv hl ht
    go_enter Try.func12, Try.ntmps12
    go_wp2_with fail
    refine (c1'.out).mono ?_
    rintro e w1 ⟨rfl, hB⟩
    go_wp2_with fail
    refine (c2'.out x _ hB).mono ?_
    rintro e w_ ⟨rfl, rfl⟩
    rw [hx'.out]
    go_wp2
    go_ret2
    exact ⟨rfl, hB⟩
  cases hy : inB y 0 ((g.length : Int) - 1)
  · rw [WalkCount_no (by simp [walkOk, hy])]
    have hx' := Lib.hid hx
    have hy' := Lib.hid hy
    clear hx hy
    clear h hv hl ht
    go_enter Try.func12, Try.ntmps12
    go_wp2_with fail
    refine (c1'.out).mono ?_
    rintro e w1 ⟨rfl, hB⟩
    go_wp2_with fail
    refine (c2'.out x _ hB).mono ?_
    rintro e w_ ⟨rfl, rfl⟩
    rw [hx'.out]
    go_wp2_with fail
    refine (c2'.out y _ hB).mono ?_
    rintro e w_ ⟨rfl, rfl⟩
    rw [hy'.out]
    go_wp2
    go_ret2
    exact ⟨rfl, hB⟩
  have hok := walkOk_of h hx hy ht
  obtain ⟨a, rfl, ha⟩ := inB_nat hx
  obtain ⟨c, rfl, hc⟩ := inB_nat hy
  obtain ⟨t, rfl, ht2⟩ := inB_nat' (n := 12) ht
  clear ht
  rw [WalkCount_yes hok]
  have hbd := pwG_bd h t a c ha hc
  obtain ⟨n, hn⟩ : ∃ n, g.length = n := ⟨_, rfl⟩
  have cc := power_g v g n t
  rw [hn] at hx hy ha hc
  obtain ⟨e, he⟩ : ∃ e, pwG g t a c = e := ⟨_, rfl⟩
  rw [he] at hbd ⊢
  have he' := Lib.hid he
  have hv' := Lib.hid hv
  have h' := Lib.hid h
  have hn' := Lib.hid hn
  have hx' := Lib.hid hx
  have hy' := Lib.hid hy
  clear he hv h hn hx hy
  clear hok hl
  by_cases hbig : 1000000000 < e
  all_goals
    first | rw [if_pos hbig] | rw [if_neg hbig]
    go_enter Try.func12, Try.ntmps12
    go_wp2_with fail
    refine (c1'.out).mono ?_
    rintro e w1 ⟨rfl, hB⟩
    go_wp2_with fail
    refine (c2'.out a _ hB).mono ?_
    rintro e w_ ⟨rfl, rfl⟩
    rw [hn'.out, hx'.out]
    go_wp2_with fail
    refine (c2'.out c _ hB).mono ?_
    rintro e w_ ⟨rfl, rfl⟩
    rw [hn'.out, hy'.out]
    go_wp2_with fail
    refine (cc w1 (hv'.out.below hB) h'.out hn'.out ht2).mono ?_
    rintro e w2 ⟨gg, cap, rb, rc, rfl, hM, hB2⟩
    have q1 := hM.ptr ha
    have q2 := hM.cell ha hc
    rw [he'.out] at q2
    have hB3 := hB.trans (hB2.mono hB.size)
    clear hM hB2
    go_wp2
    go_ret2
    exact ⟨rfl, hB3⟩

set_option maxHeartbeats 800000 in
theorem specWalkCount_any (v : Value) (g : List (List Int)) (x y t : Int) (w : World) (hv : RowsV w v g) (hm : szIntSS g ≤ 1099511627776) (_hx : I64 x) (_hy : I64 y) (_ht : I64 t) :
    Calls Try.prog 13 #[v, .int .i64 x, .int .i64 y, .int .i64 t] w (Ret (.tuple #[.int .i64 (WalkCount_v g x y t).1, .bool (WalkCount_v g x y t).2]) w) := by
  have hB : Below w.heap.size w (w.alloc (.cells #[.int .i64 x, .int .i64 y] 3)) := (Below.refl _ _).alloc (Nat.le_refl _) _
  have c1 := grHas_any v _ g [x, y] _ (hv.below hB) (IntsV.two w x y) hm (by simp)
  have c1' := Lib.hid c1
  clear c1
  cases hh : hasB g [x, y]
  · rw [hh] at c1'
    rw [WalkCount_no (by
      cases h1 : graphB g
      · simp [walkOk, h1]
      · have : (inB x 0 ((g.length : Int) - 1) && inB y 0 ((g.length : Int) - 1)) = false := by simpa [hasB, h1, allB] using hh
        unfold walkOk
        rw [Bool.and_assoc (graphB g), this, Bool.and_false, Bool.false_and])]
    clear hh hv
    go_enter Try.func13, Try.ntmps13
    go_wp2_with fail
    refine (c1'.out).mono ?_
    rintro e w1 ⟨rfl, rfl⟩
    go_wp2
    go_ret2
    exact ⟨rfl, hB⟩
  rw [hh] at c1'
  have h0 : graphB g = true ∧ inB x 0 ((g.length : Int) - 1) = true ∧ inB y 0 ((g.length : Int) - 1) = true := by simpa [hasB, allB] using hh
  clear hh
  obtain ⟨h, hx, hy⟩ := h0
  cases ht : inB t 0 12
  · rw [WalkCount_no (by simp [walkOk, ht])]
    have ht' := Lib.hid ht
    clear ht
    clear h hx hy hv
    go_enter Try.func13, Try.ntmps13
    go_wp2_with fail
    refine (c1'.out).mono ?_
    rintro e w1 ⟨rfl, rfl⟩
    go_wp2_with fail
    refine (grSteps_any _ _).mono ?_
    rintro e w1 ⟨rfl, rfl⟩
    rw [ht'.out]
    go_wp2
    go_ret2
    exact ⟨rfl, hB⟩
  have hok := walkOk_of h hx hy ht
  obtain ⟨a, rfl, ha⟩ := inB_nat hx
  obtain ⟨c, rfl, hc⟩ := inB_nat hy
  obtain ⟨t, rfl, ht2⟩ := inB_nat' (n := 12) ht
  rw [WalkCount_yes hok]
  have hbd := pwG_bd h t a c ha hc
  obtain ⟨n, hn⟩ : ∃ n, g.length = n := ⟨_, rfl⟩
  have cc := grPower_g v g n t
  rw [hn] at ha hc
  obtain ⟨e, he⟩ : ∃ e, pwG g t a c = e := ⟨_, rfl⟩
  rw [he] at hbd ⊢
  have he' := Lib.hid he
  have hv' := Lib.hid hv
  have h' := Lib.hid h
  have hn' := Lib.hid hn
  have ht' := Lib.hid ht
  clear he hv h hn ht
  clear hok hx hy
  by_cases hbig : 1000000000 < e
  all_goals
    first | rw [if_pos hbig] | rw [if_neg hbig]
    go_enter Try.func13, Try.ntmps13
    go_wp2_with fail
    refine (c1'.out).mono ?_
    rintro e w1 ⟨rfl, rfl⟩
    go_wp2_with fail
    refine (grSteps_any _ _).mono ?_
    rintro e w1 ⟨rfl, rfl⟩
    rw [ht'.out]
    go_wp2_with fail
    refine (cc _ (hv'.out.below hB) h'.out hn'.out ht2).mono ?_
    rintro e w2 ⟨gg, cap, rb, rc, rfl, hM, hB2⟩
    have q1 := hM.ptr ha
    have q2 := hM.cell ha hc
    rw [he'.out] at q2
    have hB3 := hB.trans (hB2.mono hB.size)
    clear hM hB2
    go_wp2
    go_ret2
    exact ⟨rfl, hB3⟩

/-! Closed walks. -/
/-- The sum of the first entries on the diagonal. -/
def clS (f : Nat → Nat → Int) : Nat → Int
  | 0 => 0
  | k + 1 => clS f k + f k k
theorem clS_succ (f : Nat → Nat → Int) (k : Nat) : clS f (k + 1) = clS f k + f k k := rfl
theorem clS_bd {f : Nat → Nat → Int} {n : Nat} {b : Int} (h : ∀ k, k < n → 0 ≤ f k k ∧ f k k ≤ b) : ∀ k, k ≤ n → 0 ≤ clS f k ∧ clS f k ≤ k * b := by
  intro k
  induction k with
  | zero => intro _; exact ⟨Int.le_refl _, by simp [clS]⟩
  | succ k ih =>
    intro hk
    have h1 := ih (by omega)
    have h2 := h k (by omega)
    rw [clS_succ]
    have : ((k + 1 : Nat) : Int) * b = k * b + b := by rw [Int.natCast_add, Int.add_mul]; simp
    omega
/-- The same sum, never more than 1000000001. -/
def clC (f : Nat → Nat → Int) : Nat → Int
  | 0 => 0
  | k + 1 => if 1000000001 < clC f k + f k k then 1000000001 else clC f k + f k k
theorem clC_succ (f : Nat → Nat → Int) (k : Nat) : clC f (k + 1) = if 1000000001 < clC f k + f k k then 1000000001 else clC f k + f k k := rfl
theorem clC_eq {f : Nat → Nat → Int} {n : Nat} {b : Int} (h : ∀ k, k < n → 0 ≤ f k k ∧ f k k ≤ b) : ∀ k, k ≤ n → clC f k = min (clS f k) 1000000001 := by
  intro k
  induction k with
  | zero => intro _; show (0 : Int) = min 0 1000000001; omega
  | succ k ih =>
    intro hk
    have h1 := ih (by omega)
    have h2 := h k (by omega)
    have h3 := (clS_bd h k (by omega)).1
    rw [clC_succ, clS_succ, h1]
    split <;> omega
/-- The number of closed walks, if it is not too great. -/
def clR (f : Nat → Nat → Int) (n : Nat) : Int × Bool := if 1000000000 < clS f n then (0, false) else (clS f n, true)
def clOk (g : List (List Int)) (t : Int) : Bool := graphB g && inB t 0 12
/-- What both ClosedWalks functions return. -/
def ClosedWalks_v (g : List (List Int)) (t : Int) : Int × Bool := if clOk g t = true then clR (pwG g t.toNat) g.length else (0, false)

set_option maxHeartbeats 800000 in
theorem closedWalks_any (v : Value) (g : List (List Int)) (t : Nat) (w : World) (hv : RowsV w v g) (hg : graphB g = true) (ht : t ≤ 12) :
    Calls Try.prog 70 #[v, .int .i64 t] w (Ret (.tuple #[.int .i64 (clR (pwG g t) g.length).1, .bool (clR (pwG g t) g.length).2]) w) := by
  obtain ⟨n, hn⟩ : ∃ n, g.length = n := ⟨_, rfl⟩
  obtain ⟨n1, n8, -, -⟩ := graphB_true hg
  have c1 := power_g v g n t w hv hg hn ht
  have hbd := pwG_bd hg t
  rw [hn] at hbd n1 n8 ⊢
  obtain ⟨E, hE⟩ : ∃ E, pwG g t = E := ⟨_, rfl⟩
  rw [hE] at c1 hbd ⊢
  have hcl := clS_bd (fun k hk => hbd k k hk hk)
  obtain ⟨S, hS⟩ : ∃ S, clS E n = S := ⟨_, rfl⟩
  have hR : clR E n = if 1000000000 < S then (0, false) else (S, true) := by unfold clR; rw [hS]
  rw [hR]
  have c1' := Lib.hid c1
  have hn' := Lib.hid hn
  have hg' := Lib.hid hg
  have hv' := Lib.hid hv
  have hbd' := Lib.hid hbd
  have hcl' := Lib.hid hcl
  have hE' := Lib.hid hE
  have hS' := Lib.hid hS
  clear c1 hn hg hv hbd hcl hE hS
  clear hR
  by_cases hbig : 1000000000 < S
  all_goals
   first | rw [if_pos hbig] | rw [if_neg hbig]
   go_enter Try.func70, Try.ntmps70
   go_wp2_with fail
   refine (c1'.out).mono ?_
   rintro e w2 ⟨gg, cap, rb, rc, rfl, hM, hB⟩
   have hM' := Lib.hid hM
   clear hM
   go_wp2
   go_loop [6, 13] (fun s i => ∃ k : Nat, k ≤ n ∧ i = .int .i64 k ∧ s = .int .i64 (clS E k)) (fun _ i => n - (intOf i).toNat)
   case atStart => exact ⟨0, Nat.zero_le _, rfl, rfl⟩
   case round =>
     obtain ⟨k, hk, rfl, rfl⟩ := hrel
     by_cases hlt : k < n
     · have p1 := hM'.out.ptr hlt
       have p2 := hM'.out.cell hlt hlt
       have b1 := hbd'.out k k hlt hlt
       have b2 := hcl'.out k hk
       have b3 : (k : Int) * 1000000001 ≤ 8 * 1000000001 := by omega
       have hs := clS_succ E k
       have hs' := Lib.hid hs
       clear hs
       go_wp2
       go_round
       case rel => exact ⟨k + 1, by omega, by go_num, by rw [hs'.out]⟩
       case measure => simp [intOf]; omega
     · obtain rfl : n = k := by omega
       rw [hS'.out]
       go_wp2
       go_ret2
       exact ⟨rfl, hB⟩

end Go.Proofs.Ytblippeklbhepaa

/- The graph of some states: the reference's walk and the program's. -/
import Derived.Test.YtblippeklbhepaaArrows
import Derived.Test.YtblippeklbhepaaPower
import Derived.Deep.QuietTactic
import Derived.BigQuiet
namespace Go.Proofs.Ytblippeklbhepaa
open Go.RowKit

/-- Number k of a list lies within the bounds and is greater than the one before. -/
def risAt (xs : List Int) (lo hi : Int) (k : Nat) : Bool := inB (nth xs k) lo hi && (decide (k = 0) || decide (nth xs (k - 1) < nth xs k))
/-- The numbers lie within the bounds and rise. -/
def risB (xs : List Int) (lo hi : Int) : Bool := (List.range xs.length).all (risAt xs lo hi)
theorem risB_true {xs : List Int} {lo hi : Int} : risB xs lo hi = true ↔ ∀ k, k < xs.length → risAt xs lo hi k = true := by simp [risB]
theorem risB_no {xs : List Int} {lo hi : Int} {k : Nat} (hk : k < xs.length) (h : risAt xs lo hi k = false) : risB xs lo hi = false := by
  rw [Bool.eq_false_iff]; intro q; rw [risB_true] at q; rw [q k hk] at h; cases h
theorem risAt_out {xs : List Int} {lo hi : Int} {k : Nat} (h : inB (nth xs k) lo hi = false) : risAt xs lo hi k = false := by simp [risAt, h]
theorem risAt_zero {xs : List Int} {lo hi : Int} (h : inB (nth xs 0) lo hi = true) : risAt xs lo hi 0 = true := by simp [risAt, h]
theorem risAt_up {xs : List Int} {lo hi : Int} {k : Nat} (h : inB (nth xs k) lo hi = true) (hu : nth xs (k - 1) < nth xs k) : risAt xs lo hi k = true := by simp [risAt, h, hu]
theorem risAt_down {xs : List Int} {lo hi : Int} {k : Nat} (hk : 0 < k) (hu : nth xs k ≤ nth xs (k - 1)) : risAt xs lo hi k = false := by
  have : ¬ k = 0 := by omega
  simp [risAt, this]; omega
theorem risB_ge {xs : List Int} {hi : Int} (h : risB xs 0 hi = true) : ∀ k, k < xs.length → (k : Int) ≤ nth xs k := by
  rw [risB_true] at h
  intro k
  induction k with
  | zero => intro hk; have := h 0 hk; simp only [risAt, Bool.and_eq_true, inB_true] at this; omega
  | succ k ih =>
    intro hk
    have h1 := h (k + 1) hk
    have h2 := ih (by omega)
    simp only [risAt, Bool.and_eq_true, Bool.or_eq_true, decide_eq_true_eq, Nat.add_sub_cancel] at h1
    omega

set_option maxHeartbeats 400000 in
theorem l1Rising_any (v : Value) (xs : List Int) (lo hi : Int) (w : World) (hv : IntsV w v xs) (hm : xs.length ≤ 1099511627776) :
    Calls Try.prog 116 #[v, .int .i64 lo, .int .i64 hi] w (Same (.bool (risB xs lo hi)) w) := by
  obtain ⟨ao, cap, rfl, _, _, H⟩ := hv
  obtain ⟨n, hn⟩ : ∃ n, xs.length = n := ⟨_, rfl⟩
  have hno := fun k hk q => @risB_no xs lo hi k hk q
  have hyes := (@risB_true xs lo hi).2
  rw [hn] at hm H hno hyes ⊢
  have hn' := Lib.hid hn
  have hno' := Lib.hid hno
  have hyes' := Lib.hid hyes
  have H' := Lib.hid H
  clear hn hno hyes H
  go_enter Try.func116, Try.ntmps116
  go_wp2
  go_loop [11] (fun i => ∃ k : Nat, k ≤ n ∧ i = .int .i64 k ∧ Hid (∀ j, j < k → risAt xs lo hi j = true)) (fun i => n - (intOf i).toNat)
  case atStart => exact ⟨0, Nat.zero_le _, rfl, Lib.hid (fun j hj => absurd hj (Nat.not_lt_zero j))⟩
  case round =>
    obtain ⟨k, hk, rfl, hI⟩ := hrel
    by_cases hlt : k < n
    · obtain ⟨b, off, rfl, hc⟩ := H'.out k hlt
      have hnext : risAt xs lo hi k = true → ∀ j, j < k + 1 → risAt xs lo hi j = true := fun q j hj => by
        by_cases e : j = k
        · rw [e]; exact q
        · exact hI.out j (by omega)
      cases hb : inB (nth xs k) lo hi
      · have hf := hno'.out k hlt (risAt_out hb)
        have hb' := Lib.hid hb
        have hf' := Lib.hid hf
        clear hb hf
        clear hnext
        go_wp2_with fail
        refine (l1In_any _ _ _ _).mono ?_
        rintro e w' ⟨rfl, rfl⟩
        rw [hb'.out]
        go_wp2
        go_ret
        rw [hf'.out]
        exact ⟨rfl, rfl⟩
      · by_cases hk0 : k = 0
        · subst hk0
          rw [Nat.add_zero] at hc
          have hI2 := hnext (risAt_zero hb)
          have hb' := Lib.hid hb
          have hI2' := Lib.hid hI2
          clear hb hI2
          clear hnext
          go_wp2_with fail
          refine (l1In_any _ _ _ _).mono ?_
          rintro e w' ⟨rfl, rfl⟩
          rw [hb'.out]
          go_wp2
          go_round
          case rel => exact ⟨1, by omega, by go_num, hI2'⟩
          case measure => simp [intOf]; omega
        · obtain ⟨b', off', e, hc2⟩ := H'.out (k - 1) (by omega)
          cases e
          have i1 : ((k : Int) - 1).toNat = k - 1 := by omega
          have i2 : (0 : Int) ≤ (k : Int) - 1 := by omega
          have i3 : 0 < k := by omega
          by_cases hu : nth xs (k - 1) < nth xs k
          · have hI2 := hnext (risAt_up hb hu)
            have hb' := Lib.hid hb
            have hI2' := Lib.hid hI2
            clear hb hI2
            clear hnext hk0
            go_wp2_with fail
            refine (l1In_any _ _ _ _).mono ?_
            rintro e w' ⟨rfl, rfl⟩
            rw [hb'.out]
            go_wp2
            go_round
            case rel => exact ⟨k + 1, by omega, by go_num, hI2'⟩
            case measure => simp [intOf]; omega
          · have hf := hno'.out k hlt (risAt_down i3 (by omega))
            have hu2 : nth xs k ≤ nth xs (k - 1) := by omega
            have hb' := Lib.hid hb
            have hf' := Lib.hid hf
            clear hb hf
            clear hnext hk0 hu
            go_wp2_with fail
            refine (l1In_any _ _ _ _).mono ?_
            rintro e w' ⟨rfl, rfl⟩
            rw [hb'.out]
            go_wp2
            go_ret
            rw [hf'.out]
            exact ⟨rfl, rfl⟩
    · obtain rfl : n = k := by omega
      have hy := hyes'.out hI.out
      have hy' := Lib.hid hy
      clear hy
      go_wp2
      go_ret
      rw [hy'.out]
      exact ⟨rfl, rfl⟩

def subOk (g : List (List Int)) (xs : List Int) : Bool := graphB g && !decide (xs.length = 0) && risB xs 0 ((g.length : Int) - 1)
/-- What both SubGraph functions return. -/
def SubGraph_v (g : List (List Int)) (xs : List Int) : List (List Int) × Bool :=
  if subOk g xs = true then (tab xs.length xs.length (fun i j => ent g (nth xs i).toNat (nth xs j).toNat), true) else ([], false)
theorem SubGraph_no {g : List (List Int)} {xs : List Int} (h : subOk g xs = false) : SubGraph_v g xs = ([], false) := by simp [SubGraph_v, h]
theorem SubGraph_yes {g : List (List Int)} {xs : List Int} (h : subOk g xs = true) : SubGraph_v g xs = (tab xs.length xs.length (fun i j => ent g (nth xs i).toNat (nth xs j).toNat), true) := by simp [SubGraph_v, h]
theorem subOk_len {g : List (List Int)} {xs : List Int} (h : subOk g xs = true) : 1 ≤ xs.length ∧ xs.length ≤ 8 ∧ ∀ i, i < xs.length → nth xs i = ((nth xs i).toNat : Int) ∧ (nth xs i).toNat < g.length := by
  simp only [subOk, Bool.and_eq_true, Bool.not_eq_true', decide_eq_false_iff_not] at h
  obtain ⟨⟨hg, h1⟩, h2⟩ := h
  have h3 := risB_ge h2
  have h4 := risB_true.1 h2
  have h5 := (graphB_sz hg).2
  have hin : ∀ i, i < xs.length → 0 ≤ nth xs i ∧ nth xs i ≤ (g.length : Int) - 1 := fun i hi => by
    have := h4 i hi
    simp only [risAt, Bool.and_eq_true, inB_true] at this
    exact this.1
  refine ⟨by omega, ?_, fun i hi => ⟨?_, ?_⟩⟩
  · have := h3 (xs.length - 1) (by omega)
    have := hin (xs.length - 1) (by omega)
    omega
  · have := hin i hi; omega
  · have := hin i hi; omega
theorem SubGraph_len (g : List (List Int)) (xs : List Int) : szIntSS (SubGraph_v g xs).1 ≤ 1099511627776 := by
  cases h : subOk g xs
  · rw [SubGraph_no h]; exact Nat.zero_le _
  · rw [SubGraph_yes h, sz_tab]
    have h2 := (subOk_len h).2.1
    have : xs.length * xs.length ≤ 8 * 8 := Nat.mul_le_mul h2 h2
    omega

/-- States that came in, as places. -/
def StR (w : World) (b off m : Nat) (S : Nat → Nat) : Prop := ∀ i, i < m → w.cell? ⟨b, off + i, none⟩ = some (.int .i64 ((S i : Nat) : Int))
theorem StR.below {w w' : World} {b off m : Nat} {S : Nat → Nat} (h : StR w b off m S) (hB : Below w.heap.size w w') : StR w' b off m S := fun i hi => by
  rw [hB.cell (World.block_lt_of_cell? w _ (h i hi))]; exact h i hi
theorem IntsV.states {w : World} {v : Value} {g : List (List Int)} {xs : List Int} {m : Nat} (h : IntsV w v xs) (hok : subOk g xs = true) (hm : xs.length = m) :
    ∃ b off cap, v = .slice (some ⟨b, off, none⟩) m cap ∧ StR w b off m (fun i => (nth xs i).toNat) := by
  subst hm
  obtain ⟨h1, _, hS⟩ := subOk_len hok
  obtain ⟨ao, cap, rfl, _, _, H⟩ := h
  obtain ⟨b, off, rfl, _⟩ := H 0 h1
  refine ⟨b, off, cap, rfl, fun i hi => ?_⟩
  obtain ⟨b', off', e, hc⟩ := H i hi
  cases e
  show _ = some (Value.int .i64 (((nth xs i).toNat : Nat) : Int))
  rw [← (hS i hi).1]; exact hc

set_option maxHeartbeats 1000000 in
theorem specSubGraph_yes (v u : Value) (g : List (List Int)) (xs : List Int) (w : World) (hv : RowsV w v g) (hm : szIntSS g ≤ 1099511627776) (hu : IntsV w u xs) (hm2 : szIntS xs ≤ 1099511627776) (hok : subOk g xs = true) :
    Calls Try.prog 57 #[v, u] w (RetOB OwnSS (SubGraph_v g xs) w) := by
  replace hm2 : xs.length ≤ 1099511627776 := hm2
  rw [SubGraph_yes hok]
  have h0 := hok
  simp only [subOk, Bool.and_eq_true, Bool.not_eq_true', decide_eq_false_iff_not] at h0
  obtain ⟨⟨hg, -⟩, hr⟩ := h0
  have c1 := grGood_any v g w hv hm
  have c2 := l1Rising_any u xs 0 ((g.length : Int) - 1) w hu hm2
  rw [hg] at c1
  rw [hr] at c2
  obtain ⟨n, hn⟩ : ∃ n, g.length = n := ⟨_, rfl⟩
  obtain ⟨m, hmm⟩ : ∃ m, xs.length = m := ⟨_, rfl⟩
  obtain ⟨m1, m8, hS⟩ := subOk_len hok
  obtain ⟨b, off, gcap, ro, rof, rcc, rfl, H⟩ := hv.graph hg hn
  obtain ⟨sb, soff, scap, rfl, K⟩ := hu.states hok hmm
  obtain ⟨n1, n8, -, -⟩ := graphB_true hg
  rw [hn] at c2 hS n1 n8
  rw [hmm] at m1 m8 hS ⊢
  obtain ⟨S, hSS⟩ : ∃ S : Nat → Nat, (fun i => (nth xs i).toNat) = S := ⟨_, rfl⟩
  have hlt : ∀ i, i < m → S i < n := fun i hi => by rw [← hSS]; exact (hS i hi).2
  rw [hSS] at K
  rw [show (fun i j => ent g (nth xs i).toNat (nth xs j).toNat) = (fun i j => ent g (S i) (S j)) by rw [← hSS]]
  clear hS hok hg hr hv hu hm hm2
  generalize ent g = E at *
  have c1' := Lib.hid c1
  have c2' := Lib.hid c2
  have H' := Lib.hid H
  have K' := Lib.hid K
  have hlt' := Lib.hid hlt
  have hn' := Lib.hid hn
  have hmm' := Lib.hid hmm
  have hSS' := Lib.hid hSS
  clear c1 c2 H K hlt hn hmm hSS
  have h1 : ((m : Int) == 0) = false := by rw [beq_eq_false_iff_ne]; omega
  go_enter Try.func57, Try.ntmps57
  go_wp2_with fail
  refine (c1'.out).mono ?_
  rintro e w_ ⟨rfl, rfl⟩
  go_wp2_with fail
  refine (c2'.out).mono ?_
  rintro e w_ ⟨rfl, rfl⟩
  go_wp2
  go_loopw [6, 30] (fun o i wr => ∃ (k : Nat) (rb rc : Nat → Nat), k ≤ m ∧ i = .int .i64 k ∧ GrowT wr w.heap.size wr.heap.size o k m rb rc (fun i j => E (S i) (S j)) ∧ Below w.heap.size w wr) (fun _ i _ => m - (intOf i).toNat)
  case atStart => exact ⟨0, fun _ => 0, fun _ => 0, Nat.zero_le _, rfl, GrowT.nil _ _ _ _ _ _ _, Below.refl _ _⟩
  case round =>
    obtain ⟨k, rb, rc, hk, rfl, hp, hB⟩ := hrel
    obtain ⟨wo, rfl⟩ : ∃ wo : World, wo = wr := ⟨_, rfl⟩
    by_cases hlt1 : k < m
    · have s1 := (K'.out.below hB) k hlt1
      have hp' := Lib.hid hp
      clear hp
      go_wp2
      go_loopw [9, 36] (fun o i wr => ∃ (j : Nat), j ≤ m ∧ i = .int .i64 j ∧ Grow wr wo.heap.size o (lst j fun c => E (S k) (S c)) ∧ Below wo.heap.size wo wr) (fun _ i _ => m - (intOf i).toNat)
      case atStart => exact ⟨0, Nat.zero_le _, rfl, Grow.nil _ _, Below.refl _ _⟩
      case round =>
        obtain ⟨j, hj, rfl, hr, hB2⟩ := hrel
        obtain ⟨wi, rfl⟩ : ∃ wi : World, wi = wr := ⟨_, rfl⟩
        have hB3 := hB.trans (hB2.mono hB.size)
        by_cases hlt2 : j < m
        · have s2 := (K'.out.below hB3) j hlt2
          have q1 := hlt'.out k hlt1
          have q2 := hlt'.out j hlt2
          obtain ⟨h1, -, h3⟩ := H'.out.below hB3 (S k) q1
          have h4 := h3 (S j) q2
          have hsz := hB2.size
          clear h3 s1
          go_wp2_with (at_builtin; refine wpList_append_int rfl _ _ rfl wo.heap.size u9 (lst j fun c => E (S k) (S c)) (E (S k) (S j)) _ rfl rfl hr (by rw [lst_len]; omega) hsz ?_)
          intro v' w' hg' hgrow
          have e2 := lst_succ j (fun c => E (S k) (S c))
          rw [← e2] at hg'
          have hB4 := hr.belowB hB2 (Nat.le_refl _) hsz hgrow
          clear hr e2
          go_wp2
          go_roundw
          case rel => exact ⟨j + 1, by omega, by go_num, hg', hB4⟩
          case measure => simp [intOf]; omega
        · obtain rfl : m = j := by omega
          obtain ⟨r, c, rfl, hr1⟩ := hr.form (by rw [lst_len]; omega)
          rw [lst_len] at hr1 ⊢
          have hr2 := hr1.mono hB.size
          have hr3 := hr1.lt.1
          have hp2 := hp'.out.kept hB2
          have hs3 := hB3.size
          clear hr hr1 s1
          go_wp2_with (at_builtin; refine wpList_append_row rfl _ _ rfl w.heap.size _ _ k m r c _ _ _ _ _ rfl rfl hp2 hr2 hr3 (by omega) hs3 ?_)
          intro v' w3 hp3 hg3
          have hB4 : Below w.heap.size w w3 := hB3.grown hg3 hs3 (fun j hj => by have := (World.ownsRow.lt hp2.outer j hj).1; omega)
          have hp3' := Lib.hid hp3
          have hB4' := Lib.hid hB4
          clear hp3 hB4
          clear hg3 hp2 hr2 hB3
          go_wp2
          go_roundw
          case rel => exact ⟨k + 1, _, _, by omega, by go_num, (hp3'.out).congr (fun i j _ _ => by split <;> (try subst_vars) <;> rfl), hB4'.out⟩
          case measure => simp [intOf]; omega
    · obtain rfl : m = k := by omega
      obtain ⟨gg, cap, rfl, hall⟩ := hp.form m1
      clear hp
      have hall' := Lib.hid hall
      clear hall
      go_wp2
      go_ret2
      exact RetM.ob hall'.out hB rfl

set_option maxHeartbeats 400000 in
theorem specSubGraph_any (v : Value) (g : List (List Int)) (u : Value) (xs : List Int) (w : World) (hv : RowsV w v g) (hm : szIntSS g ≤ 1099511627776) (hu : IntsV w u xs) (hm2 : szIntS xs ≤ 1099511627776) :
    Calls Try.prog 57 #[v, u] w (RetOB OwnSS (SubGraph_v g xs) w) := by
  cases hok : subOk g xs
  rotate_left
  · exact specSubGraph_yes v u g xs w hv hm hu hm2 hok
  replace hm2 : xs.length ≤ 1099511627776 := hm2
  rw [SubGraph_no hok]
  have c1 := grGood_any v g w hv hm
  have c2 := l1Rising_any u xs 0 ((g.length : Int) - 1) w hu hm2
  obtain ⟨ao, acap, rfl, -, -, -⟩ := hv
  obtain ⟨bo, bcap, rfl, -, -, -⟩ := hu
  unfold subOk at hok
  have hgl : g.length ≤ 1099511627776 := by unfold szIntSS at hm; omega
  generalize g.length = n at *
  generalize xs.length = m at *
  have c1' := Lib.hid c1
  have c2' := Lib.hid c2
  clear c1 c2
  cases h : graphB g
  · rw [h] at c1'
    clear hok h
    go_enter Try.func57, Try.ntmps57
    go_wp2_with fail
    refine (c1'.out).mono ?_
    rintro e w_ ⟨rfl, rfl⟩
    go_wp2
    go_ret2
    exact ⟨_, rfl, OwnSS.nil _ _ _, Below.refl _ _⟩
  rw [h] at c1'
  by_cases h0 : m = 0
  · subst h0
    clear hok h
    go_enter Try.func57, Try.ntmps57
    go_wp2_with fail
    refine (c1'.out).mono ?_
    rintro e w_ ⟨rfl, rfl⟩
    go_wp2
    go_ret2
    exact ⟨_, rfl, OwnSS.nil _ _ _, Below.refl _ _⟩
  · have hr : risB xs 0 ((n : Int) - 1) = false := by simpa [h, h0] using hok
    rw [hr] at c2'
    have h1 : ((m : Int) == 0) = false := by rw [beq_eq_false_iff_ne]; omega
    clear hok h hr
    go_enter Try.func57, Try.ntmps57
    go_wp2_with fail
    refine (c1'.out).mono ?_
    rintro e w_ ⟨rfl, rfl⟩
    go_wp2_with fail
    refine (c2'.out).mono ?_
    rintro e w_ ⟨rfl, rfl⟩
    go_wp2
    go_ret2
    exact ⟨_, rfl, OwnSS.nil _ _ _, Below.refl _ _⟩

set_option maxHeartbeats 1000000 in
theorem implSubGraph_any (v : Value) (g : List (List Int)) (u : Value) (xs : List Int) (w : World) (hv : RowsV w v g) (hm : szIntSS g ≤ 1099511627776) (hu : IntsV w u xs) (hm2 : szIntS xs ≤ 1099511627776) :
    Calls Try.prog 56 #[v, u] w (RetOB OwnSS (SubGraph_v g xs) w) := by
  replace hm2 : xs.length ≤ 1099511627776 := hm2
  have c1 := isGraph_any v g w hv hm
  have hgl : g.length ≤ 1099511627776 := by unfold szIntSS at hm; omega
  have c2 := fun (z : Int) (w' : World) (hB : Below w.heap.size w w') => isState_any v g z w' (hv.below hB) hgl
  have c1' := Lib.hid c1
  have c2' := Lib.hid c2
  clear c1 c2
  cases h : graphB g
  · rw [h] at c1'
    rw [SubGraph_no (by simp [subOk, h])]
    obtain ⟨bo, bcap, rfl, -, -, -⟩ := hu
    clear hgl h hv
    go_enter Try.func56, Try.ntmps56
    go_wp2_with fail
    refine (c1'.out).mono ?_
    rintro e w1 ⟨rfl, hB⟩
    go_wp2
    go_ret2
    exact ⟨_, rfl, OwnSS.nil _ _ _, hB⟩
  rw [h] at c1'
  by_cases h0 : xs.length = 0
  · rw [SubGraph_no (by simp [subOk, h0])]
    obtain ⟨bo, bcap, rfl, -, -, -⟩ := hu
    rw [h0]
    clear hgl h hv h0
    go_enter Try.func56, Try.ntmps56
    go_wp2_with fail
    refine (c1'.out).mono ?_
    rintro e w1 ⟨rfl, hB⟩
    go_wp2
    go_ret2
    exact ⟨_, rfl, OwnSS.nil _ _ _, hB⟩
  have hno : ∀ k, k < xs.length → risAt xs 0 ((g.length : Int) - 1) k = false → SubGraph_v g xs = ([], false) := fun k hk q => SubGraph_no (by unfold subOk; rw [risB_no hk q, Bool.and_false])
  have hyes : (∀ k, k < xs.length → risAt xs 0 ((g.length : Int) - 1) k = true) → subOk g xs = true := fun q => by unfold subOk; rw [h, risB_true.2 q]; simp [h0]
  have hu0 := hu
  obtain ⟨ao, cap, rfl, _, _, K⟩ := hu
  obtain ⟨m, hmm⟩ : ∃ m, xs.length = m := ⟨_, rfl⟩
  obtain ⟨n, hn⟩ : ∃ n, g.length = n := ⟨_, rfl⟩
  obtain ⟨b, off, gcap, ro, rof, rcc, rfl, H⟩ := hv.graph h hn
  rw [hn] at hno hyes c2'
  rw [hmm] at hno hyes K hm2 h0 hu0 ⊢
  have m1 : 1 ≤ m := by omega
  have h1 : ((m : Int) == 0) = false := by rw [beq_eq_false_iff_ne]; omega
  obtain ⟨R, hR⟩ : ∃ R, SubGraph_v g xs = R := ⟨_, rfl⟩
  rw [hR] at hno ⊢
  have hu1 := hu0
  obtain ⟨ao', cap', e, _, _, K1⟩ := hu0
  have K2 : ∀ w', Below w.heap.size w w' → ∀ i, i < m → ∃ b off, ao = some ⟨b, off, none⟩ ∧ w'.cell? ⟨b, off + i, none⟩ = some (.int .i64 (nth xs i)) := fun w' hB i hi => by
    obtain ⟨b, off, e, hc⟩ := K i hi
    exact ⟨b, off, e, by rw [hB.cell (World.block_lt_of_cell? w _ hc)]; exact hc⟩
  have hno' := Lib.hid hno
  have hyes' := Lib.hid hyes
  have K2' := Lib.hid K2
  have H' := Lib.hid H
  have hn' := Lib.hid hn
  have hmm' := Lib.hid hmm
  have hR' := Lib.hid hR
  have h' := Lib.hid h
  have hu1' := Lib.hid hu1
  have c2'' := Lib.hid c2'
  clear hno hyes K2 H hn hmm hR h hu1 c2'
  clear K K1 e h0 hgl hv hm
  go_enter Try.func56, Try.ntmps56
  go_wp2_with fail
  refine (c1'.out).mono ?_
  rintro e w1 ⟨rfl, hB⟩
  have c3 := fun z => c2''.out z w1 hB
  have c3' := Lib.hid c3
  clear c3
  go_wp2
  go_loop [23] (fun i => ∃ k : Nat, k ≤ m ∧ i = .int .i64 k ∧ Hid (∀ j, j < k → risAt xs 0 ((n : Int) - 1) j = true)) (fun i => m - (intOf i).toNat)
  case atStart => exact ⟨0, Nat.zero_le _, rfl, Lib.hid (fun j hj => absurd hj (Nat.not_lt_zero j))⟩
  case round =>
    obtain ⟨k, hk, rfl, hI⟩ := hrel
    by_cases hlt : k < m
    · obtain ⟨sb, soff, rfl, hc⟩ := K2'.out w1 hB k hlt
      have hnext : risAt xs 0 ((n : Int) - 1) k = true → ∀ j, j < k + 1 → risAt xs 0 ((n : Int) - 1) j = true := fun q j hj => by
        by_cases e : j = k
        · rw [e]; exact q
        · exact hI.out j (by omega)
      cases hb : inB (nth xs k) 0 ((n : Int) - 1)
      · have hf := hno'.out k hlt (risAt_out hb)
        have hb' := Lib.hid hb
        have hf' := Lib.hid hf
        clear hb hf
        clear hnext
        go_wp2_with fail
        refine (c3'.out _).mono ?_
        rintro e w' ⟨rfl, rfl⟩
        rw [hb'.out]
        go_wp2
        go_ret2
        rw [hf'.out]
        exact ⟨_, rfl, OwnSS.nil _ _ _, hB⟩
      · by_cases hk0 : k = 0
        · subst hk0
          rw [Nat.add_zero] at hc
          have hI2 := hnext (risAt_zero hb)
          have hb' := Lib.hid hb
          have hI2' := Lib.hid hI2
          clear hb hI2
          clear hnext
          go_wp2_with fail
          refine (c3'.out _).mono ?_
          rintro e w' ⟨rfl, rfl⟩
          rw [hb'.out]
          go_wp2
          go_round
          case rel => exact ⟨1, by omega, by go_num, hI2'⟩
          case measure => simp [intOf]; omega
        · obtain ⟨b', off', e, hc2⟩ := K2'.out w1 hB (k - 1) (by omega)
          cases e
          have i1 : ((k : Int) - 1).toNat = k - 1 := by omega
          have i2 : (0 : Int) ≤ (k : Int) - 1 := by omega
          have i3 : 0 < k := by omega
          by_cases hu : nth xs (k - 1) < nth xs k
          · have hI2 := hnext (risAt_up hb hu)
            have hb' := Lib.hid hb
            have hI2' := Lib.hid hI2
            clear hb hI2
            clear hnext hk0
            go_wp2_with fail
            refine (c3'.out _).mono ?_
            rintro e w' ⟨rfl, rfl⟩
            rw [hb'.out]
            go_wp2
            go_round
            case rel => exact ⟨k + 1, by omega, by go_num, hI2'⟩
            case measure => simp [intOf]; omega
          · have hf := hno'.out k hlt (risAt_down i3 (by omega))
            have hu2 : nth xs k ≤ nth xs (k - 1) := by omega
            have hb' := Lib.hid hb
            have hf' := Lib.hid hf
            clear hb hf
            clear hnext hk0 hu
            go_wp2_with fail
            refine (c3'.out _).mono ?_
            rintro e w' ⟨rfl, rfl⟩
            rw [hb'.out]
            go_wp2
            go_ret2
            rw [hf'.out]
            exact ⟨_, rfl, OwnSS.nil _ _ _, hB⟩
    · obtain rfl : m = k := by omega
      have hok := hyes'.out hI.out
      obtain ⟨-, m8, hS⟩ := subOk_len hok
      have hRR := SubGraph_yes hok
      obtain ⟨sb, soff, scap, e, KS⟩ := hu1'.out.states hok hmm'.out
      obtain ⟨rfl, _, rfl⟩ := Value.slice.inj e
      rw [hmm'.out] at m8 hS hRR
      rw [hn'.out] at hS
      obtain ⟨S, hSS⟩ : ∃ S : Nat → Nat, (fun i => (nth xs i).toNat) = S := ⟨_, rfl⟩
      have hlt2 : ∀ i, i < m → S i < n := fun i hi => by rw [← hSS]; exact (hS i hi).2
      rw [hSS] at KS
      rw [show (fun i j => ent g (nth xs i).toNat (nth xs j).toNat) = (fun i j => ent g (S i) (S j)) by rw [← hSS]] at hRR
      rw [hR'.out] at hRR
      obtain ⟨E, hE⟩ : ∃ E, ent g = E := ⟨_, rfl⟩
      rw [hE] at H' hRR
      clear hok hS hI e
      have hRR' := Lib.hid hRR
      have KS' := Lib.hid KS
      have hlt2' := Lib.hid hlt2
      have hSS' := Lib.hid hSS
      have hE' := Lib.hid hE
      clear hRR KS hlt2 hSS hE
      go_wp2_with fail
      refine (emptyGraph_any m _ (by omega) m1).mono ?_
      rintro e w2 ⟨gg, cap, rb, rc, rfl, hM, hB2⟩
      replace hM := hM.mono hB.size (Nat.le_refl _)
      have hB3 := hB.trans (hB2.mono hB.size)
      have hM' := Lib.hid hM
      clear hM
      clear hB2
      go_wp2
      go_loopw [51] (fun i wr => ∃ k : Nat, k ≤ m ∧ i = .int .i64 k ∧ MatT wr w.heap.size w2.heap.size gg m cap m rb rc (fun a c => if a < k then E (S a) (S c) else 0) ∧ Turned w.heap.size w2.heap.size w2 wr) (fun i _ => m - (intOf i).toNat)
      case atStart => exact ⟨0, Nat.zero_le _, rfl, hM'.out.congr (fun i j _ _ => by rw [if_neg (Nat.not_lt_zero _)]), Turned.refl _ _ _⟩
      case round =>
        obtain ⟨k, hk, rfl, hM2, ht⟩ := hrel
        clear hM'
        by_cases hltk : k < m
        · have s1 := (KS'.out.below (hB3.trans ht.below)) k hltk
          have hM2' := Lib.hid hM2
          clear hM2
          go_wp2
          go_loopw [58] (fun i wr => ∃ j : Nat, j ≤ m ∧ i = .int .i64 j ∧ MatT wr w.heap.size w2.heap.size gg m cap m rb rc (fun a c => if a < k ∨ (a = k ∧ c < j) then E (S a) (S c) else 0) ∧ Turned w.heap.size w2.heap.size w2 wr) (fun i _ => m - (intOf i).toNat)
          case atStart => exact ⟨0, Nat.zero_le _, rfl, hM2'.out.congr (fun i j _ _ => by simp), ht⟩
          case round =>
            obtain ⟨j, hj, rfl, hM3, ht3⟩ := hrel
            clear hM2'
            by_cases hltj : j < m
            · have hBr := hB3.trans ht3.below
              have s2 := (KS'.out.below hBr) j hltj
              have q1 := hlt2'.out k hltk
              have q2 := hlt2'.out j hltj
              obtain ⟨h1a, -, h3a⟩ := H'.out.below hBr (S k) q1
              have h4 := h3a (S j) q2
              have h5 := hM3.ptr hltk
              have h7 := hM3.frozen hltk j
              have h6 := hM3.cell hltk hltj
              have hst := hM3.stored hltk j (E (S k) (S j))
              have ht4 := hM3.turn hltk j (E (S k) (S j)) ht3
              have hst' := Lib.hid hst
              have ht4' := Lib.hid ht4
              clear hst ht4
              clear hM3 h3a s1 hBr
              go_wp2_with fail
              go_region
              all_goals go_wp2
              go_roundw
              case rel => exact ⟨j + 1, by omega, by go_num, (hst'.out.congr (fun a c _ _ => by
                simp only [upd]
                by_cases e : a = k ∧ c = j
                · rw [if_pos e, if_pos (by omega), e.1, e.2]
                · rw [if_neg e]
                  by_cases e2 : a < k ∨ a = k ∧ c < j
                  · rw [if_pos e2, if_pos (by omega)]
                  · rw [if_neg e2, if_neg (by omega)])).drew, ht4'.out.drew⟩
              case measure => simp [intOf]; omega
            · obtain rfl : m = j := by omega
              go_wp2
              go_roundw
              case rel => exact ⟨k + 1, by omega, by go_num, hM3.congr (fun a c _ hc => by
                by_cases e : a < k + 1
                · rw [if_pos e, if_pos (by omega)]
                · rw [if_neg e, if_neg (by omega)]), ht3⟩
              case measure => simp [intOf]; omega
        · obtain rfl : m = k := by omega
          have hfin := hM2.congr (f' := fun i j => E (S i) (S j)) (fun a c ha _ => by rw [if_pos ha])
          have hsz := ht.size
          have hBr := hB3.trans ht.below
          have hfin' := Lib.hid hfin
          clear hfin
          clear hM2
          go_wp2
          go_ret2
          rw [hRR'.out]
          exact RetM.ob (hfin'.out.mono (Nat.le_refl _) (by omega)) hBr rfl

end Go.Proofs.Ytblippeklbhepaa

/- Division by a monic polynomial: the reference's walk and the program's compute the same lists (wrapping arithmetic). -/
import Derived.Test.YtblippeklbhepaaPolyOps
import Derived.Test.YtblippeklbhepaaSums
namespace Go.Proofs.Ytblippeklbhepaa
open Go.RowKit

/-- rest[i + k] -= n * q[k], for the first k. -/
def dvIn (rest q : List Int) (i : Nat) (n : Int) : Nat → List Int
  | 0 => rest
  | k + 1 => (dvIn rest q i n k).set (i + k) (wrap64 (nth (dvIn rest q i n k) (i + k) - wrap64 (n * nth q k)))
theorem dvIn_len (rest q : List Int) (i : Nat) (n : Int) (k : Nat) : (dvIn rest q i n k).length = rest.length := by
  induction k with
  | zero => rfl
  | succ k ih => rw [dvIn, List.length_set, ih]
/-- The rest and the quotient after j rounds, from the greatest degree m - 1 on. -/
def dvOut (p q : List Int) (m : Nat) : Nat → Option (List Int × List Int)
  | 0 => some (p, List.replicate m 0)
  | j + 1 => (dvOut p q m j).bind fun s =>
      if inB (nth s.1 (m - 1 - j + q.length - 1)) (-1000000) 1000000 = true then
        some (dvIn s.1 q (m - 1 - j) (nth s.1 (m - 1 - j + q.length - 1)) q.length, s.2.set (m - 1 - j) (nth s.1 (m - 1 - j + q.length - 1)))
      else none
theorem dvOut_len {p q : List Int} {m : Nat} : ∀ {j s}, dvOut p q m j = some s → s.1.length = p.length ∧ s.2.length = m
  | 0, s, h => by simp [dvOut] at h; subst h; simp
  | j + 1, s, h => by
    simp only [dvOut, Option.bind_eq_some_iff] at h
    obtain ⟨o, h1, h2⟩ := h
    split at h2
    · simp at h2; subst h2; have := dvOut_len h1; simp [dvIn_len, this.1, this.2]
    · simp at h2
theorem dvOut_none {p q : List Int} {m j : Nat} (h : dvOut p q m j = none) : ∀ i, dvOut p q m (j + i) = none
  | 0 => h
  | i + 1 => by rw [← Nat.add_assoc, dvOut, dvOut_none h i]; rfl
theorem dvOut_step {p q rest quo : List Int} {m j L : Nat} {n : Int} (h : dvOut p q m j = some (rest, quo)) (hL : q.length = L) (hn : nth rest (m - 1 - j + L - 1) = n) (hb : inB n (-1000000) 1000000 = true) :
    dvOut p q m (j + 1) = some (dvIn rest q (m - 1 - j) n L, quo.set (m - 1 - j) n) := by
  rw [dvOut, h]; simp only [Option.bind_some, hL, hn, hb, if_true]
theorem dvOut_stop {p q rest quo : List Int} {m j L N : Nat} {n : Int} (h : dvOut p q m j = some (rest, quo)) (hL : q.length = L) (hn : nth rest (m - 1 - j + L - 1) = n) (hb : inB n (-1000000) 1000000 = false) (hN : j < N) :
    dvOut p q m N = none := by
  have h1 : dvOut p q m (j + 1) = none := by rw [dvOut, h]; simp [hL, hn, hb]
  have := dvOut_none h1 (N - (j + 1))
  rwa [show j + 1 + (N - (j + 1)) = N by omega] at this

/-- The quotient's length. -/
def dvM (p q : List Int) : Nat := p.length + 1 - q.length
def dvOk (p q : List Int) : Bool := polyB p && polyB q && monicB q
/-- What both functions return. -/
def DivideByMonic_v (p q : List Int) : List Int × List Int × Bool :=
  if dvOk p q = true then
    match dvOut p q (dvM p q) (dvM p q) with
    | some (rest, quo) => if ((ifPoly quo).2 && (ifPoly rest).2) = true then ((ifPoly quo).1, (ifPoly rest).1, true) else ([], [], false)
    | none => ([], [], false)
  else ([], [], false)
theorem DivideByMonic_no {p q : List Int} (h : dvOk p q = false) : DivideByMonic_v p q = ([], [], false) := by simp [DivideByMonic_v, h]
theorem DivideByMonic_big {p q : List Int} (h : dvOk p q = true) (h2 : dvOut p q (dvM p q) (dvM p q) = none) : DivideByMonic_v p q = ([], [], false) := by simp [DivideByMonic_v, h, h2]
theorem DivideByMonic_bad {p q rest quo : List Int} (h : dvOk p q = true) (h2 : dvOut p q (dvM p q) (dvM p q) = some (rest, quo)) (h3 : ((ifPoly quo).2 && (ifPoly rest).2) = false) : DivideByMonic_v p q = ([], [], false) := by
  unfold DivideByMonic_v; rw [if_pos h, h2]; simp only [h3]; rfl
theorem DivideByMonic_yes {p q rest quo : List Int} (h : dvOk p q = true) (h2 : dvOut p q (dvM p q) (dvM p q) = some (rest, quo)) (h3 : ((ifPoly quo).2 && (ifPoly rest).2) = true) : DivideByMonic_v p q = ((ifPoly quo).1, (ifPoly rest).1, true) := by
  unfold DivideByMonic_v; rw [if_pos h, h2]; simp only [h3]; rfl
theorem DivideByMonic_len (p q : List Int) : szIntS (DivideByMonic_v p q).1 ≤ 1099511627776 ∧ szIntS (DivideByMonic_v p q).2.1 ≤ 1099511627776 := by
  unfold szIntS
  cases h : dvOk p q
  · rw [DivideByMonic_no h]; simp
  · cases h2 : dvOut p q (dvM p q) (dvM p q) with
    | none => rw [DivideByMonic_big h h2]; simp
    | some s =>
      obtain ⟨rest, quo⟩ := s
      cases h3 : ((ifPoly quo).2 && (ifPoly rest).2)
      · rw [DivideByMonic_bad h h2 h3]; simp
      · rw [DivideByMonic_yes h h2 h3]
        have := ifPoly_len quo
        have := ifPoly_len rest
        constructor <;> simp only [] <;> omega

/-- What poDivide returns: the quotient, the rest. -/
def poDivide_v (p q : List Int) : List Int × List Int × Bool :=
  match dvOut p q (dvM p q) (dvM p q) with
  | some (rest, quo) => (quo, rest, true)
  | none => ([], [], false)

/-- Own memory at the head of a block, wherever there are elements. -/
theorem Own.row_of {w : World} {B E : Nat} {v : Value} {xs : List Int} (h : Own w B E v xs) (h0 : 0 < xs.length) : ∃ g cap, v = .slice (some ⟨g, 0, none⟩) xs.length cap ∧ g < E ∧ RowAt w B g xs.length cap xs := by
  rcases h with ⟨rfl, _⟩ | ⟨g, cap, rfl, h1, h2, h3⟩
  · simp at h0
  · exact ⟨g, cap, rfl, h2, h3⟩

theorem RowAt.other {w : World} {B g n cap : Nat} {xs : List Int} (h : RowAt w B g n cap xs) {g' j : Nat} {u : Value} (hne : g ≠ g') : RowAt (w.setCell ⟨g', j, none⟩ u) B g n cap xs :=
  ownsRow_setCell_other h (by simpa [Value.ownBlock] using hne) u

/-- It returns two slices that read so, and a bool. -/
def RetR2B (r : List Int × List Int × Bool) (w : World) (e : Ending) (w' : World) : Prop :=
  ∃ v v', e = .returned (.tuple #[v, v', .bool r.2.2]) ∧ IntsV w' v r.1 ∧ IntsV w' v' r.2.1 ∧ Below w.heap.size w w'

set_option maxHeartbeats 2000000 in
theorem poDivide_ge (v u : Value) (p q : List Int) (w : World) (hv : IntsV w v p) (hu : IntsV w u q) (l1 : p.length ≤ 9) (hq0 : 0 < q.length) (hge : q.length ≤ p.length) :
    Calls Try.prog 98 #[v, u] w (RetR2B (poDivide_v p q) w) := by
  have hown := l1Own_any v p w hv (by omega)
  have hown' := Lib.hid hown
  have hu' := Lib.hid hu
  obtain ⟨ao, acap, rfl, -, -, -⟩ := id hv
  obtain ⟨bo, bcap, rfl, -, -, -⟩ := id hu
  clear hu hv hown
  obtain ⟨lp, hlp⟩ : ∃ lp, p.length = lp := ⟨_, rfl⟩
  obtain ⟨lq, hlq⟩ : ∃ lq, q.length = lq := ⟨_, rfl⟩
  obtain ⟨m, hm⟩ : ∃ m, dvM p q = m := ⟨_, rfl⟩
  have hmm : m = lp + 1 - lq := by rw [← hm, dvM, hlp, hlq]
  have hm1 : m + lq ≤ lp + 1 := by omega
  have hm2 : lp + 1 ≤ m + lq := by omega
  rw [hlp] at hown' l1 hge ⊢
  rw [hlq] at hu' hq0 hge ⊢
  have hlp' := Lib.hid hlp
  have hlq' := Lib.hid hlq
  have hmd' := Lib.hid hm
  clear hlp hlq hm hmm
  obtain ⟨i, hi, hz0, hz1, hz2⟩ := info_parts Try.infoInt
  go_enter Try.func98, Try.ntmps98
  go_wp2_with fail
  refine hown'.out.mono ?_
  rintro e w1 ⟨v1, rfl, ho1, hB1⟩
  have hs1 := hB1.size
  obtain ⟨g1, cap1, rfl, hg1E, hr0⟩ := ho1.row_of (by rw [hlp'.out]; omega)
  have hg1B := hr0.lt.1
  rw [hlp'.out] at hr0 ⊢
  clear hown' ho1
  go_wp2_with fail
  refine (l1Most_any _ _ (m : Int) _ (by omega)).mono ?_
  rintro e w_ ⟨rfl, rfl⟩
  go_wp2_with (at_make; refine wpList_make_full _ rfl _ _ 39 rfl w.heap.size 3 i _ 1 Try.underlying39 hi hz0 hz1 _ _ _ _ m rfl rfl rfl rfl (by rw [hz2]; omega) (by unfold maxLen; omega) hs1 ?_)
  intro w3 hownq hgrow
  have hB3 := below_made hB1 hs1 hgrow
  have ho := row_made hownq
  have hr1 := hr0.kept hgrow (by simp)
  obtain ⟨gq, hgqe⟩ : ∃ gq, w1.heap.size = gq := ⟨_, rfl⟩
  rw [hgqe] at ho hs1 hg1E ⊢
  have hgq : w.heap.size ≤ gq := hs1
  clear hownq hgrow hi hz0 hz1 hz2 hr0 hB1 hgqe
  go_wp2
  go_loopw [9] (fun i wr => ∃ (j : Nat) (rest quo : List Int), j ≤ m ∧ i = .int .i64 ((m : Int) - 1 - j) ∧ dvOut p q m j = some (rest, quo) ∧ RowAt wr w.heap.size g1 lp cap1 rest ∧ RowAt wr w.heap.size gq m m quo ∧ Below w.heap.size w wr) (fun i _ => (intOf i + 1).toNat)
  case atStart => exact ⟨0, p, List.replicate m 0, Nat.zero_le _, by simp, rfl, hr1, ho, hB3⟩
  case round =>
    obtain ⟨j, rest, quo, hj, rfl, hdv, hR, hQ, hB4⟩ := hrel
    have hdv' := Lib.hid hdv
    clear hr1 ho hB3 hdv
    obtain ⟨wo, rfl⟩ : ∃ wo : World, wo = wr := ⟨_, rfl⟩
    by_cases hlt : j < m
    · have i1 : ((m : Int) - 1 - j + lq - 1).toNat = m - 1 - j + lq - 1 := by omega
      have i2 : (0 : Int) ≤ (m : Int) - 1 - j + lq - 1 := by omega
      have i3 : ((m : Int) - 1 - j).toNat = m - 1 - j := by omega
      have i4 : (0 : Int) ≤ (m : Int) - 1 - j := by omega
      have d1 : decide ((0 : Int) ≤ (m : Int) - 1 - j) = true := decide_eq_true i4
      have hc1 := hR.cell (j := m - 1 - j + lq - 1) (by omega)
      obtain ⟨n, hn⟩ : ∃ n, nth rest (m - 1 - j + lq - 1) = n := ⟨_, rfl⟩
      rw [hn] at hc1
      have hn' := Lib.hid hn
      clear hn
      have hc2 := hQ.cell (j := m - 1 - j) (by omega)
      have hf2 := hQ.frozen (m - 1 - j)
      go_wp2_with fail
      refine (l1In_any _ _ _ _).mono ?_
      rintro e w_ ⟨rfl, rfl⟩
      cases hb : inB n (-1000000) 1000000
      · have ev := Lib.hid (dvOut_stop hdv'.out hlq'.out hn'.out hb hlt)
        clear hb
        go_wp2
        refine bodyPost_ret (results_tmp3 rfl _ _ _) rfl ?_
        have e : poDivide_v p q = ([], [], false) := by rw [poDivide_v, hmd'.out, ev.out]
        rw [e]
        exact ⟨_, _, rfl, (Own.nil wo 0 0).read, (Own.nil wo 0 0).read, hB4⟩
      · have ev := Lib.hid (dvOut_step hdv'.out hlq'.out hn'.out hb)
        have hQ2 := hQ.stored (m - 1 - j) n
        have hR2 := hR.other (g' := gq) (j := m - 1 - j) (u := .int .i64 n) (by omega)
        have hB5 := hB4.setCell (p := ⟨gq, m - 1 - j, none⟩) hgq (.int .i64 n)
        clear hb
        go_wp2
        go_loopw [47] (fun i wr => ∃ l : Nat, l ≤ lq ∧ i = .int .i64 l ∧ RowAt wr w.heap.size g1 lp cap1 (dvIn rest q (m - 1 - j) n l) ∧ RowAt wr w.heap.size gq m m (quo.set (m - 1 - j) n) ∧ Below w.heap.size w wr) (fun i _ => lq - (intOf i).toNat)
        case atStart => exact ⟨0, Nat.zero_le _, rfl, hR2, hQ2, hB5⟩
        case round =>
          obtain ⟨l, hl, rfl, hR3, hQ3, hB6⟩ := hrel
          clear hR hQ hB4 hR2 hQ2 hB5 hc1 hc2 hf2
          obtain ⟨wo2, rfl⟩ : ∃ wo : World, wo = wr := ⟨_, rfl⟩
          by_cases hlt2 : l < lq
          · obtain ⟨bo', cap', e, -, -, H⟩ := hu'.out.below hB6
            rw [hlq'.out] at e H
            obtain ⟨rfl, _, rfl⟩ := Value.slice.inj e
            obtain ⟨b, off, rfl, hcell⟩ := H l hlt2
            clear H e
            have k1 : ((m : Int) - 1 - j + l).toNat = m - 1 - j + l := by omega
            have k2 : (0 : Int) ≤ (m : Int) - 1 - j + l := by omega
            have hc := hR3.cell (j := m - 1 - j + l) (by omega)
            have hf := hR3.frozen (m - 1 - j + l)
            have hst := hR3.stored (m - 1 - j + l) (wrap64 (nth (dvIn rest q (m - 1 - j) n l) (m - 1 - j + l) - wrap64 (n * nth q l)))
            have hQ4 := hQ3.other (g' := g1) (j := m - 1 - j + l) (u := .int .i64 (wrap64 (nth (dvIn rest q (m - 1 - j) n l) (m - 1 - j + l) - wrap64 (n * nth q l)))) (by omega)
            have hB7 := hB6.setCell (p := ⟨g1, m - 1 - j + l, none⟩) hg1B (.int .i64 (wrap64 (nth (dvIn rest q (m - 1 - j) n l) (m - 1 - j + l) - wrap64 (n * nth q l))))
            go_wp2
            go_roundw
            case rel => exact ⟨l + 1, by omega, by go_num, hst, hQ4, hB7⟩
            case measure => simp [intOf]; omega
          · have el : l = lq := by omega
            have hR4 : RowAt wo2 w.heap.size g1 lp cap1 (dvIn rest q (m - 1 - j) n lq) := el ▸ hR3
            clear hR3
            go_wp2
            go_roundw
            case rel => exact ⟨j + 1, _, _, by omega, by go_num, ev.out, hR4, hQ3, hB6⟩
            case measure => simp [intOf]; omega
    · have ej : j = m := by omega
      subst ej
      go_wp2
      refine bodyPost_ret (results_tmp3 rfl _ _ _) rfl ?_
      have e : poDivide_v p q = (quo, rest, true) := by rw [poDivide_v, hmd'.out, hdv'.out]
      rw [e]
      exact ⟨_, _, rfl, hQ.ints, hR.ints, hB4⟩

set_option maxHeartbeats 1000000 in
theorem poDivide_lt (v u : Value) (p q : List Int) (w : World) (hv : IntsV w v p) (_hu : IntsV w u q) (l1 : p.length ≤ 9) (l2 : q.length ≤ 9) (hlt : p.length < q.length) :
    Calls Try.prog 98 #[v, u] w (RetR2B (poDivide_v p q) w) := by
  have hown := l1Own_any v p w hv (by omega)
  have hown' := Lib.hid hown
  have hm : dvM p q = 0 := by unfold dvM; omega
  have e : poDivide_v p q = ([], p, true) := by rw [poDivide_v, hm]; rfl
  rw [e]
  obtain ⟨ao, acap, rfl, -, -, -⟩ := id hv
  obtain ⟨bo, bcap, rfl, -, -, -⟩ := id _hu
  clear _hu hv hown hm e
  generalize p.length = lp at hown' l1 hlt ⊢
  generalize q.length = lq at l2 hlt ⊢
  obtain ⟨i, hi, hz0, hz1, hz2⟩ := info_parts Try.infoInt
  go_enter Try.func98, Try.ntmps98
  go_wp2_with fail
  refine hown'.out.mono ?_
  rintro e w1 ⟨v1, rfl, ho1, hB1⟩
  have hs1 := hB1.size
  go_wp2_with fail
  refine (l1Most_any _ _ 0 _ (by omega)).mono ?_
  rintro e w_ ⟨rfl, rfl⟩
  go_wp2_with (at_make; refine wpList_make_full _ rfl _ _ 39 rfl w.heap.size 3 i _ 1 Try.underlying39 hi hz0 hz1 _ _ _ _ 0 rfl rfl rfl rfl (by rw [hz2]; omega) (by unfold maxLen; omega) hs1 ?_)
  intro w3 hownq hgrow
  have hB3 := below_made hB1 hs1 hgrow
  have ho := row_made hownq
  have ho2 := ho1.kept hgrow (fun g e => by cases e)
  clear hownq hgrow hi hz0 hz1 hz2
  go_wp2
  refine wp_loop_rounds 1 ?_
  rw [rounds_succ]
  go_wp2
  refine bodyPost_ret (results_tmp3 rfl _ _ _) rfl ?_
  exact ⟨_, _, rfl, ho.ints, ho2.read, hB3⟩

theorem poDivide_any (v u : Value) (p q : List Int) (w : World) (hv : IntsV w v p) (hu : IntsV w u q) (l1 : p.length ≤ 9) (l2 : q.length ≤ 9) (hq0 : 0 < q.length) :
    Calls Try.prog 98 #[v, u] w (RetR2B (poDivide_v p q) w) := by
  rcases Nat.lt_or_ge p.length q.length with h | h
  · exact poDivide_lt v u p q w hv hu l1 l2 h
  · exact poDivide_ge v u p q w hv hu l1 hq0 h

theorem dvOk_parts {p q : List Int} (h : dvOk p q = true) : polyB p = true ∧ polyB q = true ∧ monicB q = true ∧ 0 < q.length ∧ p.length ≤ 9 ∧ q.length ≤ 9 := by
  simp only [dvOk, Bool.and_eq_true] at h
  refine ⟨h.1.1, h.1.2, h.2, ?_, polyB_le9 h.1.1, polyB_le9 h.1.2⟩
  have := h.2
  rcases Nat.eq_zero_or_pos q.length with h0 | h0
  · rw [monicB_nil (by omega)] at this; cases this
  · exact h0


set_option maxHeartbeats 400000 in
theorem specDivide_no (v u : Value) (p q : List Int) (w : World) (hv : IntsV w v p) (hm : p.length ≤ 1099511627776) (hu : IntsV w u q) (hm2 : q.length ≤ 1099511627776) (hno : dvOk p q = false) :
    Calls Try.prog 28 #[v, u] w (RetO2B Own Own ([], [], false) w) := by
  have c1 := poGood_ret v p w hv hm
  have c2 := fun w' hB => poGood_ret u q w' (hu.below hB) hm2
  have c3 := fun w' hB => poMonic_any u q w' (hu.below hB) hm2
  cases h1 : polyB p
  · rw [h1] at c1
    have c1' := Lib.hid c1
    clear c1 c2 c3 h1 hno
    go_enter Try.func28, Try.ntmps28
    go_wp2_with fail
    refine c1'.out.mono ?_
    rintro e w1 ⟨rfl, hB1⟩
    go_wp2
    refine bodyPost_ret (results_tmp3 rfl _ _ _) rfl ?_
    exact ⟨_, _, _, rfl, Own.nil _ _ _, Own.nil _ _ _, Nat.le_refl _, hB1.size, hB1⟩
  · cases h2 : polyB q
    · rw [h1] at c1
      rw [h2] at c2
      have c1' := Lib.hid c1
      have c2' := Lib.hid c2
      clear c1 c2 c3 h1 h2 hno
      go_enter Try.func28, Try.ntmps28
      go_wp2_with fail
      refine c1'.out.mono ?_
      rintro e w1 ⟨rfl, hB1⟩
      go_wp2_with fail
      refine (c2'.out _ hB1).mono ?_
      rintro e w2 ⟨rfl, hB2⟩
      have hB3 := hB1.trans (hB2.mono hB1.size)
      go_wp2
      refine bodyPost_ret (results_tmp3 rfl _ _ _) rfl ?_
      exact ⟨_, _, _, rfl, Own.nil _ _ _, Own.nil _ _ _, Nat.le_refl _, hB3.size, hB3⟩
    · have h3 : monicB q = false := by simpa [dvOk, h1, h2] using hno
      rw [h1] at c1
      rw [h2] at c2
      rw [h3] at c3
      have c1' := Lib.hid c1
      have c2' := Lib.hid c2
      have c3' := Lib.hid c3
      clear c1 c2 c3 h1 h2 h3 hno
      go_enter Try.func28, Try.ntmps28
      go_wp2_with fail
      refine c1'.out.mono ?_
      rintro e w1 ⟨rfl, hB1⟩
      go_wp2_with fail
      refine (c2'.out _ hB1).mono ?_
      rintro e w2 ⟨rfl, hB2⟩
      have hB3 := hB1.trans (hB2.mono hB1.size)
      go_wp2_with fail
      refine (c3'.out _ hB3).mono ?_
      rintro e wc ⟨rfl, rfl⟩
      go_wp2
      refine bodyPost_ret (results_tmp3 rfl _ _ _) rfl ?_
      exact ⟨_, _, _, rfl, Own.nil _ _ _, Own.nil _ _ _, Nat.le_refl _, hB3.size, hB3⟩
set_option maxHeartbeats 400000 in
theorem implDivide_no (v u : Value) (p q : List Int) (w : World) (hv : IntsV w v p) (hm : p.length ≤ 1099511627776) (hu : IntsV w u q) (hm2 : q.length ≤ 1099511627776) (hno : dvOk p q = false) :
    Calls Try.prog 27 #[v, u] w (RetO2B Own Own ([], [], false) w) := by
  have c1 := isPolynomial_ret v p w hv hm
  have c2 := fun w' hB => isPolynomial_ret u q w' (hu.below hB) hm2
  have c3 := fun w' hB => isMonic_any u q w' (hu.below hB) hm2
  cases h1 : polyB p
  · rw [h1] at c1
    have c1' := Lib.hid c1
    clear c1 c2 c3 h1 hno
    go_enter Try.func27, Try.ntmps27
    go_wp2_with fail
    refine c1'.out.mono ?_
    rintro e w1 ⟨rfl, hB1⟩
    go_wp2
    refine bodyPost_ret (results_tmp3 rfl _ _ _) rfl ?_
    exact ⟨_, _, _, rfl, Own.nil _ _ _, Own.nil _ _ _, Nat.le_refl _, hB1.size, hB1⟩
  · cases h2 : polyB q
    · rw [h1] at c1
      rw [h2] at c2
      have c1' := Lib.hid c1
      have c2' := Lib.hid c2
      clear c1 c2 c3 h1 h2 hno
      go_enter Try.func27, Try.ntmps27
      go_wp2_with fail
      refine c1'.out.mono ?_
      rintro e w1 ⟨rfl, hB1⟩
      go_wp2_with fail
      refine (c2'.out _ hB1).mono ?_
      rintro e w2 ⟨rfl, hB2⟩
      have hB3 := hB1.trans (hB2.mono hB1.size)
      go_wp2
      refine bodyPost_ret (results_tmp3 rfl _ _ _) rfl ?_
      exact ⟨_, _, _, rfl, Own.nil _ _ _, Own.nil _ _ _, Nat.le_refl _, hB3.size, hB3⟩
    · have h3 : monicB q = false := by simpa [dvOk, h1, h2] using hno
      rw [h1] at c1
      rw [h2] at c2
      rw [h3] at c3
      have c1' := Lib.hid c1
      have c2' := Lib.hid c2
      have c3' := Lib.hid c3
      clear c1 c2 c3 h1 h2 h3 hno
      go_enter Try.func27, Try.ntmps27
      go_wp2_with fail
      refine c1'.out.mono ?_
      rintro e w1 ⟨rfl, hB1⟩
      go_wp2_with fail
      refine (c2'.out _ hB1).mono ?_
      rintro e w2 ⟨rfl, hB2⟩
      have hB3 := hB1.trans (hB2.mono hB1.size)
      go_wp2_with fail
      refine (c3'.out _ hB3).mono ?_
      rintro e wc ⟨rfl, rfl⟩
      go_wp2
      refine bodyPost_ret (results_tmp3 rfl _ _ _) rfl ?_
      exact ⟨_, _, _, rfl, Own.nil _ _ _, Own.nil _ _ _, Nat.le_refl _, hB3.size, hB3⟩

set_option maxHeartbeats 1000000 in
theorem specDivide_yes (v u : Value) (p q : List Int) (w : World) (hv : IntsV w v p) (hu : IntsV w u q) (hok : dvOk p q = true) :
    Calls Try.prog 28 #[v, u] w (RetO2B Own Own (DivideByMonic_v p q) w) := by
  obtain ⟨k1, k2, k3, hq0, l1, l2⟩ := dvOk_parts hok
  have c1 := poGood_ret v p w hv (by omega)
  have c2 := fun w' hB => poGood_ret u q w' (hu.below hB) (by omega)
  have c3 := fun w' hB => poMonic_any u q w' (hu.below hB) (by omega)
  have c4 := fun w' hB => poDivide_any v u p q w' (hv.below hB) (hu.below hB) l1 l2 hq0
  rw [k1] at c1
  rw [k2] at c2
  rw [k3] at c3
  have c1' := Lib.hid c1
  have c2' := Lib.hid c2
  have c3' := Lib.hid c3
  have c4' := Lib.hid c4
  have hok' := Lib.hid hok
  clear c1 c2 c3 c4 k1 k2 k3 hok
  go_enter Try.func28, Try.ntmps28
  go_wp2_with fail
  refine c1'.out.mono ?_
  rintro e wa ⟨rfl, hBa⟩
  go_wp2_with fail
  refine (c2'.out _ hBa).mono ?_
  rintro e wb ⟨rfl, hBb⟩
  have hB0 := hBa.trans (hBb.mono hBa.size)
  go_wp2_with fail
  refine (c3'.out _ hB0).mono ?_
  rintro e wc ⟨rfl, rfl⟩
  have hs0 := hB0.size
  clear c1' c2' c3' hBa hBb
  have hcase : (∃ rest quo, dvOut p q (dvM p q) (dvM p q) = some (rest, quo)) ∨ dvOut p q (dvM p q) (dvM p q) = none := by
    cases h : dvOut p q (dvM p q) (dvM p q) with
    | none => exact .inr rfl
    | some s => exact .inl ⟨s.1, s.2, rfl⟩
  rcases hcase with ⟨rest, quo, hd⟩ | hd
  · have e4 : poDivide_v p q = (quo, rest, true) := by rw [poDivide_v, hd]
    have hdv' := Lib.hid hd
    have e4' := Lib.hid e4
    have hlen : rest.length = p.length ∧ quo.length = dvM p q := dvOut_len hd
    have hlr : rest.length ≤ 9 := by omega
    have hlm : dvM p q ≤ 10 := by unfold dvM; omega
    have hlq : quo.length ≤ 10 := by omega
    clear hd e4 hlen
    go_wp2_with fail
    refine (c4'.out _ hB0).mono ?_
    rw [e4'.out]
    rintro e w4 ⟨qv, rv, rfl, hQ, hR, hBd⟩
    have hB4 := hB0.trans (hBd.mono hs0)
    have hmd' := Lib.hid (rfl : dvM p q = dvM p q)
    have hpq := poIf_any _ quo _ hQ (by omega)
    have hpr := fun w' hB => poIf_any _ rest w' (hR.below hB) (by omega)
    clear hBd hB0 c4'
    have hpq' := Lib.hid hpq
    have hpr' := Lib.hid hpr
    clear hpq hpr
    go_wp2_with fail
    refine hpq'.out.mono ?_
    rintro e w5 ⟨v5, rfl, ho5, hB5⟩
    go_wp2_with fail
    refine (hpr'.out _ hB5).mono ?_
    rintro e w6 ⟨v6, rfl, ho6, hB6⟩
    have hs4 := hB4.size
    have hs5 := hB5.size
    have hs6 := hB6.size
    have ho5' := (ho5.below hB6 (Nat.le_refl _)).mono hs4 (Nat.le_refl _)
    have hB9 := (hB4.trans (hB5.mono hs4)).trans (hB6.mono (Nat.le_trans hs4 hs5))
    cases hf1 : (ifPoly quo).2
    · have ev := Lib.hid (DivideByMonic_bad hok'.out hdv'.out (by rw [hf1]; rfl))
      clear hf1
      go_wp2
      refine bodyPost_ret (results_tmp3 rfl _ _ _) rfl ?_
      rw [ev.out]
      exact ⟨_, _, _, rfl, Own.nil _ _ _, Own.nil _ _ _, Nat.le_refl _, hB9.size, hB9⟩
    · cases hf2 : (ifPoly rest).2
      · have ev := Lib.hid (DivideByMonic_bad hok'.out hdv'.out (by rw [hf1, hf2]; rfl))
        clear hf1 hf2
        go_wp2
        refine bodyPost_ret (results_tmp3 rfl _ _ _) rfl ?_
        rw [ev.out]
        exact ⟨_, _, _, rfl, Own.nil _ _ _, Own.nil _ _ _, Nat.le_refl _, hB9.size, hB9⟩
      · have ev := Lib.hid (DivideByMonic_yes hok'.out hdv'.out (by rw [hf1, hf2]; rfl))
        clear hf1 hf2
        go_wp2
        refine bodyPost_ret (results_tmp3 rfl _ _ _) rfl ?_
        rw [ev.out]
        exact ⟨_, _, _, rfl, ho5', ho6, by omega, hs6, hB9⟩
  · have e4 : poDivide_v p q = ([], [], false) := by rw [poDivide_v, hd]
    have hdv' := Lib.hid hd
    have e4' := Lib.hid e4
    clear hd e4
    go_wp2_with fail
    refine (c4'.out _ hB0).mono ?_
    rw [e4'.out]
    rintro e w4 ⟨qv, rv, rfl, hQ, hR, hBd⟩
    have hB4 := hB0.trans (hBd.mono hs0)
    go_wp2
    refine bodyPost_ret (results_tmp3 rfl _ _ _) rfl ?_
    rw [DivideByMonic_big hok'.out hdv'.out]
    exact ⟨_, _, _, rfl, Own.nil _ _ _, Own.nil _ _ _, Nat.le_refl _, hB4.size, hB4⟩

theorem specDivideByMonic_any (v : Value) (p : List Int) (u : Value) (q : List Int) (w : World) (hv : IntsV w v p) (hm : szIntS p ≤ 1099511627776) (hu : IntsV w u q) (hm2 : szIntS q ≤ 1099511627776) :
    Calls Try.prog 28 #[v, u] w (RetO2B Own Own (DivideByMonic_v p q) w) := by
  cases h : dvOk p q
  · rw [DivideByMonic_no h]; exact specDivide_no v u p q w hv hm hu hm2 h
  · exact specDivide_yes v u p q w hv hu h

set_option maxHeartbeats 2000000 in
theorem implDivide_ge (v u : Value) (p q : List Int) (w : World) (hv : IntsV w v p) (hu : IntsV w u q) (hok : dvOk p q = true) (hge : q.length ≤ p.length) :
    Calls Try.prog 27 #[v, u] w (RetO2B Own Own (DivideByMonic_v p q) w) := by
  obtain ⟨k1, k2, k3, hq0, l1, _⟩ := dvOk_parts hok
  have c1 := isPolynomial_any v p w hv (by omega)
  have c2 := fun w' hB => isPolynomial_any u q w' (hu.below hB) (by omega)
  have c3 := fun w' hB => isMonic_any u q w' (hu.below hB) (by omega)
  rw [k1] at c1
  rw [k2] at c2
  rw [k3] at c3
  have c1' := Lib.hid c1
  have c2' := Lib.hid c2
  have c3' := Lib.hid c3
  have hok' := Lib.hid hok
  have hown := fun w' hB => clone_any v p w' (hv.below hB) (by omega)
  clear c1 c2 c3 k1 k2 k3 hok
  have hown' := Lib.hid hown
  have hu' := Lib.hid hu
  obtain ⟨ao, acap, rfl, -, -, -⟩ := id hv
  obtain ⟨bo, bcap, rfl, -, -, -⟩ := id hu
  clear hu hv hown
  obtain ⟨lp, hlp⟩ : ∃ lp, p.length = lp := ⟨_, rfl⟩
  obtain ⟨lq, hlq⟩ : ∃ lq, q.length = lq := ⟨_, rfl⟩
  obtain ⟨m, hm⟩ : ∃ m, dvM p q = m := ⟨_, rfl⟩
  have hmm : m = lp + 1 - lq := by rw [← hm, dvM, hlp, hlq]
  have hm1 : m + lq ≤ lp + 1 := by omega
  have hm2 : lp + 1 ≤ m + lq := by omega
  rw [hlp] at c1' hown' l1 hge ⊢
  rw [hlq] at c2' c3' hu' hq0 hge ⊢
  have hlp' := Lib.hid hlp
  have hlq' := Lib.hid hlq
  have hmd' := Lib.hid hm
  clear hlp hlq hm hmm
  obtain ⟨i, hi, hz0, hz1, hz2⟩ := info_parts Try.infoInt
  go_enter Try.func27, Try.ntmps27
  go_wp2_with fail
  refine c1'.out.mono ?_
  rintro e wa ⟨rfl, hBa⟩
  go_wp2_with fail
  refine (c2'.out _ hBa).mono ?_
  rintro e wb ⟨rfl, hBb⟩
  have hB0 := hBa.trans (hBb.mono hBa.size)
  go_wp2_with fail
  refine (c3'.out _ hB0).mono ?_
  rintro e wc ⟨rfl, rfl⟩
  have hs0 := hB0.size
  clear c1' c2' c3' hBa hBb
  go_wp2_with fail
  refine (hown'.out _ hB0).mono ?_
  rintro e w1 ⟨v1, rfl, ho1, hB1⟩
  replace ho1 := ho1.mono hs0 (Nat.le_refl _)
  replace hB1 := hB0.trans (hB1.mono hs0)
  have hs1 := hB1.size
  obtain ⟨g1, cap1, rfl, hg1E, hr0⟩ := ho1.row_of (by rw [hlp'.out]; omega)
  have hg1B := hr0.lt.1
  rw [hlp'.out] at hr0 ⊢
  clear hown' ho1 hs0 hB0
  go_wp2_with (at_make; refine wpList_make_full _ rfl _ _ 39 rfl w.heap.size 3 i _ 1 Try.underlying39 hi hz0 hz1 _ _ _ _ m rfl rfl (by omega) (by omega) (by rw [hz2]; omega) (by unfold maxLen; omega) hs1 ?_)
  intro w3 hownq hgrow
  have hB3 := below_made hB1 hs1 hgrow
  have ho := row_made hownq
  have hr1 := hr0.kept hgrow (by simp)
  obtain ⟨gq, hgqe⟩ : ∃ gq, w1.heap.size = gq := ⟨_, rfl⟩
  rw [hgqe] at ho hs1 hg1E ⊢
  have hgq : w.heap.size ≤ gq := hs1
  clear hownq hgrow hi hz0 hz1 hz2 hr0 hB1 hgqe
  go_wp2
  go_loopw [9] (fun i wr => ∃ (j : Nat) (rest quo : List Int), j ≤ m ∧ i = .int .i64 ((m : Int) - 1 - j) ∧ dvOut p q m j = some (rest, quo) ∧ RowAt wr w.heap.size g1 lp cap1 rest ∧ RowAt wr w.heap.size gq m m quo ∧ Below w.heap.size w wr) (fun i _ => (intOf i + 1).toNat)
  case atStart => exact ⟨0, p, List.replicate m 0, Nat.zero_le _, by simp, rfl, hr1, ho, hB3⟩
  case round =>
    obtain ⟨j, rest, quo, hj, rfl, hdv, hR, hQ, hB4⟩ := hrel
    have hdv' := Lib.hid hdv
    clear hr1 ho hB3 hdv
    obtain ⟨wo, rfl⟩ : ∃ wo : World, wo = wr := ⟨_, rfl⟩
    by_cases hlt : j < m
    · have i1 : ((m : Int) - 1 - j + lq - 1).toNat = m - 1 - j + lq - 1 := by omega
      have i2 : (0 : Int) ≤ (m : Int) - 1 - j + lq - 1 := by omega
      have i3 : ((m : Int) - 1 - j).toNat = m - 1 - j := by omega
      have i4 : (0 : Int) ≤ (m : Int) - 1 - j := by omega
      have d1 : decide ((0 : Int) ≤ (m : Int) - 1 - j) = true := decide_eq_true i4
      have hc1 := hR.cell (j := m - 1 - j + lq - 1) (by omega)
      obtain ⟨n, hn⟩ : ∃ n, nth rest (m - 1 - j + lq - 1) = n := ⟨_, rfl⟩
      rw [hn] at hc1
      have hn' := Lib.hid hn
      clear hn
      have hc2 := hQ.cell (j := m - 1 - j) (by omega)
      have hf2 := hQ.frozen (m - 1 - j)
      go_wp2_with fail
      refine (within_any _ _ _ _).mono ?_
      rintro e w_ ⟨rfl, rfl⟩
      cases hb : inB n (-1000000) 1000000
      · have ev := Lib.hid (dvOut_stop hdv'.out hlq'.out hn'.out hb hlt)
        clear hb
        go_wp2
        refine bodyPost_ret (results_tmp3 rfl _ _ _) rfl ?_
        rw [DivideByMonic_big hok'.out (by rw [hmd'.out]; exact ev.out)]
        exact ⟨_, _, _, rfl, Own.nil _ _ _, Own.nil _ _ _, Nat.le_refl _, hB4.size, hB4⟩
      · have ev := Lib.hid (dvOut_step hdv'.out hlq'.out hn'.out hb)
        have hQ2 := hQ.stored (m - 1 - j) n
        have hR2 := hR.other (g' := gq) (j := m - 1 - j) (u := .int .i64 n) (by omega)
        have hB5 := hB4.setCell (p := ⟨gq, m - 1 - j, none⟩) hgq (.int .i64 n)
        clear hb
        go_wp2
        go_loopw [64] (fun i wr => ∃ l : Nat, l ≤ lq ∧ i = .int .i64 l ∧ RowAt wr w.heap.size g1 lp cap1 (dvIn rest q (m - 1 - j) n l) ∧ RowAt wr w.heap.size gq m m (quo.set (m - 1 - j) n) ∧ Below w.heap.size w wr) (fun i _ => lq - (intOf i).toNat)
        case atStart => exact ⟨0, Nat.zero_le _, rfl, hR2, hQ2, hB5⟩
        case round =>
          obtain ⟨l, hl, rfl, hR3, hQ3, hB6⟩ := hrel
          clear hR hQ hB4 hR2 hQ2 hB5 hc1 hc2 hf2
          obtain ⟨wo2, rfl⟩ : ∃ wo : World, wo = wr := ⟨_, rfl⟩
          by_cases hlt2 : l < lq
          · obtain ⟨bo', cap', e, -, -, H⟩ := hu'.out.below hB6
            rw [hlq'.out] at e H
            obtain ⟨rfl, _, rfl⟩ := Value.slice.inj e
            obtain ⟨b, off, rfl, hcell⟩ := H l hlt2
            clear H e
            have k1 : ((m : Int) - 1 - j + l).toNat = m - 1 - j + l := by omega
            have k2 : (0 : Int) ≤ (m : Int) - 1 - j + l := by omega
            have hc := hR3.cell (j := m - 1 - j + l) (by omega)
            have hf := hR3.frozen (m - 1 - j + l)
            have hst := hR3.stored (m - 1 - j + l) (wrap64 (nth (dvIn rest q (m - 1 - j) n l) (m - 1 - j + l) - wrap64 (n * nth q l)))
            have hQ4 := hQ3.other (g' := g1) (j := m - 1 - j + l) (u := .int .i64 (wrap64 (nth (dvIn rest q (m - 1 - j) n l) (m - 1 - j + l) - wrap64 (n * nth q l)))) (by omega)
            have hB7 := hB6.setCell (p := ⟨g1, m - 1 - j + l, none⟩) hg1B (.int .i64 (wrap64 (nth (dvIn rest q (m - 1 - j) n l) (m - 1 - j + l) - wrap64 (n * nth q l))))
            go_wp2
            go_roundw
            case rel => exact ⟨l + 1, by omega, by go_num, hst, hQ4, hB7⟩
            case measure => simp [intOf]; omega
          · have el : l = lq := by omega
            have hR4 : RowAt wo2 w.heap.size g1 lp cap1 (dvIn rest q (m - 1 - j) n lq) := el ▸ hR3
            clear hR3
            go_wp2
            go_roundw
            case rel => exact ⟨j + 1, _, _, by omega, by go_num, ev.out, hR4, hQ3, hB6⟩
            case measure => simp [intOf]; omega
    · have ej : j = m := by omega
      subst ej
      have hpq := polynomial_any _ _ wo hQ.ints (by rw [hQ.len]; omega)
      have hpr := fun w' hB => polynomial_any _ _ w' (hR.ints.below hB) (by rw [hR.len]; omega)
      have hpq' := Lib.hid hpq
      have hpr' := Lib.hid hpr
      clear hpq hpr
      go_wp2_with fail
      refine hpq'.out.mono ?_
      rintro e w5 ⟨v5, rfl, ho5, hB5⟩
      go_wp2_with fail
      refine (hpr'.out _ hB5).mono ?_
      rintro e w6 ⟨v6, rfl, ho6, hB6⟩
      have hs4 := hB4.size
      have hs5 := hB5.size
      have hs6 := hB6.size
      have ho5' := (ho5.below hB6 (Nat.le_refl _)).mono hs4 (Nat.le_refl _)
      have hB9 := (hB4.trans (hB5.mono hs4)).trans (hB6.mono (Nat.le_trans hs4 hs5))
      cases hf1 : (ifPoly quo).2
      · have ev := Lib.hid (DivideByMonic_bad hok'.out (by rw [hmd'.out]; exact hdv'.out) (by rw [hf1]; rfl))
        clear hf1
        go_wp2
        refine bodyPost_ret (results_tmp3 rfl _ _ _) rfl ?_
        rw [ev.out]
        exact ⟨_, _, _, rfl, Own.nil _ _ _, Own.nil _ _ _, Nat.le_refl _, hB9.size, hB9⟩
      · cases hf2 : (ifPoly rest).2
        · have ev := Lib.hid (DivideByMonic_bad hok'.out (by rw [hmd'.out]; exact hdv'.out) (by rw [hf1, hf2]; rfl))
          clear hf1 hf2
          go_wp2
          refine bodyPost_ret (results_tmp3 rfl _ _ _) rfl ?_
          rw [ev.out]
          exact ⟨_, _, _, rfl, Own.nil _ _ _, Own.nil _ _ _, Nat.le_refl _, hB9.size, hB9⟩
        · have ev := Lib.hid (DivideByMonic_yes hok'.out (by rw [hmd'.out]; exact hdv'.out) (by rw [hf1, hf2]; rfl))
          clear hf1 hf2
          go_wp2
          refine bodyPost_ret (results_tmp3 rfl _ _ _) rfl ?_
          rw [ev.out]
          exact ⟨_, _, _, rfl, ho5', ho6, by omega, hs6, hB9⟩

set_option maxHeartbeats 1000000 in
theorem implDivide_lt (v u : Value) (p q : List Int) (w : World) (hv : IntsV w v p) (hu : IntsV w u q) (hok : dvOk p q = true) (hlt : p.length < q.length) :
    Calls Try.prog 27 #[v, u] w (RetO2B Own Own (DivideByMonic_v p q) w) := by
  obtain ⟨k1, k2, k3, -, l1, l2⟩ := dvOk_parts hok
  have c1 := isPolynomial_any v p w hv (by omega)
  have c2 := fun w' hB => isPolynomial_any u q w' (hu.below hB) (by omega)
  have c3 := fun w' hB => isMonic_any u q w' (hu.below hB) (by omega)
  rw [k1] at c1
  rw [k2] at c2
  rw [k3] at c3
  have c1' := Lib.hid c1
  have c2' := Lib.hid c2
  have c3' := Lib.hid c3
  have hok' := Lib.hid hok
  have hown := fun w' hB => clone_any v p w' (hv.below hB) (by omega)
  clear c1 c2 c3 k1 k2 k3 hok
  have hown' := Lib.hid hown
  have hm : dvM p q = 0 := by unfold dvM; omega
  have hdv : dvOut p q 0 0 = some (p, []) := rfl
  have hdv' := Lib.hid hdv
  have hmd' := Lib.hid hm
  obtain ⟨ao, acap, rfl, -, -, -⟩ := id hv
  obtain ⟨bo, bcap, rfl, -, -, -⟩ := id hu
  clear hu hv hown hm hdv
  obtain ⟨lp, hlp⟩ : ∃ lp, p.length = lp := ⟨_, rfl⟩
  obtain ⟨lq, hlq⟩ : ∃ lq, q.length = lq := ⟨_, rfl⟩
  have hlp' := Lib.hid hlp
  rw [hlp] at c1' hown' l1 hlt ⊢
  rw [hlq] at c2' c3' l2 hlt ⊢
  clear hlp hlq
  obtain ⟨i, hi, hz0, hz1, hz2⟩ := info_parts Try.infoInt
  rcases Nat.lt_or_ge (lp + 1) lq with hx | hx
  all_goals
    go_enter Try.func27, Try.ntmps27
    go_wp2_with fail
    refine c1'.out.mono ?_
    rintro e wa ⟨rfl, hBa⟩
    go_wp2_with fail
    refine (c2'.out _ hBa).mono ?_
    rintro e wb ⟨rfl, hBb⟩
    have hB0 := hBa.trans (hBb.mono hBa.size)
    go_wp2_with fail
    refine (c3'.out _ hB0).mono ?_
    rintro e wc ⟨rfl, rfl⟩
    have hs0 := hB0.size
    clear c1' c2' c3' hBa hBb
    go_wp2_with fail
    refine (hown'.out _ hB0).mono ?_
    rintro e w1 ⟨v1, rfl, ho1, hB1⟩
    replace ho1 := ho1.mono hs0 (Nat.le_refl _)
    replace hB1 := hB0.trans (hB1.mono hs0)
    have hs1 := hB1.size
    clear hown' hs0 hB0
    go_wp2_with (at_make; refine wpList_make_full _ rfl _ _ 39 rfl w.heap.size 3 i _ 1 Try.underlying39 hi hz0 hz1 _ _ _ _ 0 rfl rfl (by omega) (by omega) (by rw [hz2]; omega) (by unfold maxLen; omega) hs1 ?_)
    intro w3 hownq hgrow
    have hB3 := below_made hB1 hs1 hgrow
    have ho := row_made hownq
    have ho2 := ho1.kept hgrow (fun g e => by cases e)
    clear hownq hgrow hi hz0 hz1 hz2
    go_wp2
    refine wp_loop_rounds 1 ?_
    rw [rounds_succ]
    have hB4 := hB3
    have hpq := polynomial_any _ _ w3 ho.ints (by simp)
    have hpr := fun w' hB => polynomial_any _ _ w' (ho2.read.below hB) (by rw [hlp'.out]; omega)
    have hpq' := Lib.hid hpq
    have hpr' := Lib.hid hpr
    clear hpq hpr
    go_wp2_with fail
    refine hpq'.out.mono ?_
    rintro e w5 ⟨v5, rfl, ho5, hB5⟩
    go_wp2_with fail
    refine (hpr'.out _ hB5).mono ?_
    rintro e w6 ⟨v6, rfl, ho6, hB6⟩
    have hs4 := hB4.size
    have hs5 := hB5.size
    have hs6 := hB6.size
    have ho5' := (ho5.below hB6 (Nat.le_refl _)).mono hs4 (Nat.le_refl _)
    have hB9 := (hB4.trans (hB5.mono hs4)).trans (hB6.mono (Nat.le_trans hs4 hs5))
    cases hf1 : (ifPoly []).2
    · have ev := Lib.hid (DivideByMonic_bad hok'.out (by rw [hmd'.out]; exact hdv'.out) (by rw [hf1]; rfl))
      clear hf1
      go_wp2
      refine bodyPost_ret (results_tmp3 rfl _ _ _) rfl ?_
      rw [ev.out]
      exact ⟨_, _, _, rfl, Own.nil _ _ _, Own.nil _ _ _, Nat.le_refl _, hB9.size, hB9⟩
    · cases hf2 : (ifPoly p).2
      · have ev := Lib.hid (DivideByMonic_bad hok'.out (by rw [hmd'.out]; exact hdv'.out) (by rw [hf1, hf2]; rfl))
        clear hf1 hf2
        go_wp2
        refine bodyPost_ret (results_tmp3 rfl _ _ _) rfl ?_
        rw [ev.out]
        exact ⟨_, _, _, rfl, Own.nil _ _ _, Own.nil _ _ _, Nat.le_refl _, hB9.size, hB9⟩
      · have ev := Lib.hid (DivideByMonic_yes hok'.out (by rw [hmd'.out]; exact hdv'.out) (by rw [hf1, hf2]; rfl))
        clear hf1 hf2
        go_wp2
        refine bodyPost_ret (results_tmp3 rfl _ _ _) rfl ?_
        rw [ev.out]
        exact ⟨_, _, _, rfl, ho5', ho6, by omega, hs6, hB9⟩

theorem implDivideByMonic_any (v : Value) (p : List Int) (u : Value) (q : List Int) (w : World) (hv : IntsV w v p) (hm : szIntS p ≤ 1099511627776) (hu : IntsV w u q) (hm2 : szIntS q ≤ 1099511627776) :
    Calls Try.prog 27 #[v, u] w (RetO2B Own Own (DivideByMonic_v p q) w) := by
  cases h : dvOk p q
  · rw [DivideByMonic_no h]; exact implDivide_no v u p q w hv hm hu hm2 h
  · rcases Nat.lt_or_ge p.length q.length with h' | h'
    · exact implDivide_lt v u p q w hv hu h h'
    · exact implDivide_ge v u p q w hv hu h h'

end Go.Proofs.Ytblippeklbhepaa

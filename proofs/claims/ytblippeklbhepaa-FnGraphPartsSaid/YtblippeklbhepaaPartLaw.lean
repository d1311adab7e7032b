/- Plain laws on parts, shortest walks, periods. No conditions but those stated. -/
import Derived.Test.YtblippeklbhepaaShortest
import Derived.Test.YtblippeklbhepaaGraphPeriod
import Derived.Test.YtblippeklbhepaaParts
import Derived.Test.YtblippeklbhepaaPowers
import Derived.Test.YtblippeklbhepaaSub
namespace Go.Proofs.Ytblippeklbhepaa
open Go.RowKit

/-! Parts. -/
theorem mutB_symm {g : List (List Int)} {i j : Nat} (h : mutB g i j = true) : mutB g j i = true := by
  simp only [mutB, Bool.and_eq_true] at h ⊢; exact ⟨h.2, h.1⟩
theorem mutB_trans {g : List (List Int)} {i j k : Nat} (hj : j < g.length) (h : mutB g i j = true) (h' : mutB g j k = true) : mutB g i k = true := by
  simp only [mutB, Bool.and_eq_true] at h h' ⊢; exact ⟨rcB_trans hj h.1 h'.1, rcB_trans hj h'.2 h.2⟩
theorem partN_cases (g : List (List Int)) (i : Nat) : (partN g i = i ∧ ∀ j, j < g.length → mutB g i j = false) ∨ (mutB g i (partN g i) = true ∧ partN g i < g.length ∧ ∀ j, j < g.length → mutB g i j = true → partN g i ≤ j) := by
  rcases dnP_spec (mutB g i) i g.length g.length (Nat.le_refl _) with ⟨h1, h2⟩ | ⟨h1, h2, h3⟩
  · exact .inl ⟨h1, fun j hj => h2 j (by omega) hj⟩
  · exact .inr ⟨h1, h2, fun j hj => h3 j (by omega) hj⟩
theorem partN_le {g : List (List Int)} {i : Nat} (hi : i < g.length) : partN g i ≤ i := by
  rcases partN_cases g i with ⟨h1, _⟩ | ⟨h1, h2, h3⟩
  · omega
  · exact h3 i hi (mutB_trans h2 h1 (mutB_symm h1))
theorem partN_idem {g : List (List Int)} {i : Nat} (hi : i < g.length) : partN g (partN g i) = partN g i := by
  rcases partN_cases g i with ⟨h1, _⟩ | ⟨h1, h2, h3⟩
  · rw [h1, h1]
  · have hR := mutB_trans hi (mutB_symm h1) h1
    rcases partN_cases g (partN g i) with ⟨k1, k2⟩ | ⟨k1, k2, k3⟩
    · exact k1
    · have a := k3 _ h2 hR
      have b := h3 _ k2 (mutB_trans h2 h1 k1)
      omega
theorem partN_trans {g : List (List Int)} {i : Nat} (hi : i < g.length) (hT : transB g = true) : partN g i = 0 := by
  have hm : mutB g i 0 = true := by
    simp only [mutB, Bool.and_eq_true]
    exact ⟨transB_true.1 hT i 0 hi (by omega), transB_true.1 hT 0 i (by omega) hi⟩
  rcases partN_cases g i with ⟨_, h2⟩ | ⟨_, _, h3⟩
  · rw [h2 0 (by omega)] at hm; cases hm
  · have := h3 0 (by omega) hm; omega
/-- What the parts are. -/
theorem parts_are {g : List (List Int)} {p : List Int} (h : StrongParts_v g = (p, true)) : p.length = g.length ∧ ∀ i, i < g.length → nth p i = (partN g i : Nat) ∧ partN g i ≤ i ∧ partN g i < g.length ∧ nth p (partN g i) = (partN g i : Nat) ∧ (transB g = true → partN g i = 0) := by
  cases hg : graphB g
  · rw [StrongParts_no hg] at h; simp at h
  rw [StrongParts_yes hg] at h
  simp only [Prod.mk.injEq, and_true] at h
  subst h
  refine ⟨lst_len _ _, fun i hi => ?_⟩
  have hle := partN_le hi
  exact ⟨nth_lst hi, hle, by omega, by rw [nth_lst (by omega), partN_idem hi], fun hT => partN_trans hi hT⟩

/-! Shortest walks. -/
def pAt (l : List Nat) (k : Nat) : Nat := l[k]?.getD 0
theorem gp_chain {g : List (List Int)} (hg : graphB g = true) {b : Nat} (hb : b < g.length) : ∀ r x, x < g.length → ((r = 0 ∧ x = b) ∨ wkMin (ent g) g.length b r x) →
    (∀ k, k < r → 0 < ent g (pAt (x :: gpath g b r x) k) (pAt (x :: gpath g b r x) (k + 1))) ∧ (∀ k, k ≤ r → pAt (x :: gpath g b r x) k < g.length) ∧ pAt (x :: gpath g b r x) r = b := by
  intro r
  induction r with
  | zero =>
    intro x hx h
    rcases h with ⟨_, rfl⟩ | h
    · exact ⟨fun k hk => by omega, fun k hk => by obtain rfl : k = 0 := by omega
                                                  exact hx, rfl⟩
    · exact absurd h.1 (by omega)
  | succ r ih =>
    intro x hx h
    have hm : wkMin (ent g) g.length b (r + 1) x := by
      rcases h with ⟨h, _⟩ | h
      · omega
      · exact h
    obtain ⟨h1, h2, _⟩ := nxt_spec hg hb hm
    obtain ⟨h4, h5⟩ := (due_iff hg (x := x) hb h1).1 h2
    obtain ⟨a1, a2, a3⟩ := ih _ h1 h5
    have e : gpath g b (r + 1) x = nxt g b r x :: gpath g b r (nxt g b r x) := rfl
    rw [e]
    refine ⟨fun k hk => ?_, fun k hk => ?_, a3⟩
    · cases k with
      | zero => exact h4
      | succ k => exact a1 k (by omega)
    · cases k with
      | zero => exact hx
      | succ k => exact a2 k (by omega)
/-- What a told walk is. -/
theorem walk_is {h : List (List Int)} {x y : Int} {l : List Int} (hw : ShortestWalk_v h x y = (l, true)) :
    ∃ (a b d : Nat) (P : Nat → Nat), x = a ∧ y = b ∧ graphB h = true ∧ 1 ≤ d ∧ d ≤ h.length ∧ l.length = d + 1 ∧ (∀ k, k ≤ d → nth l k = (P k : Nat) ∧ P k < h.length) ∧ P 0 = a ∧ P d = b ∧ (∀ k, k < d → 0 < ent h (P k) (P (k + 1))) := by
  unfold ShortestWalk_v at hw
  split at hw
  · rename_i hok
    obtain ⟨hok, hd⟩ := hok
    simp only [walkAsked, Bool.and_eq_true] at hok
    obtain ⟨⟨hg, hx⟩, hy⟩ := hok
    obtain ⟨a, rfl, ha⟩ := inB_nat hx
    obtain ⟨b, rfl, hb⟩ := inB_nat hy
    simp only [Int.toNat_natCast] at hw hd
    simp only [Prod.mk.injEq, and_true] at hw
    subst hw
    rcases dTo_min hg hb ha with ⟨h0, _⟩ | ⟨hle, hmin⟩
    · omega
    · obtain ⟨c1, c2, c3⟩ := gp_chain hg hb (dTo h b a) a ha (.inr hmin)
      have hlen : (natL (a :: gpath h b (dTo h b a) a)).length = dTo h b a + 1 := by rw [natL_len, List.length_cons, gpath_len]
      refine ⟨a, b, dTo h b a, pAt (a :: gpath h b (dTo h b a) a), rfl, rfl, hg, hd, hle, hlen, fun k hk => ⟨?_, c2 k hk⟩, rfl, c3, c1⟩
      have hk' : k < (a :: gpath h b (dTo h b a) a).length := by rw [List.length_cons, gpath_len]; omega
      unfold natL nth pAt
      rw [List.getElem?_map, List.getElem?_eq_getElem hk']; rfl
  · simp at hw
/-- A state is reached if there is a shortest walk to it. -/
theorem reach_walk {h : List (List Int)} {x y : Int} (hg : graphB h = true) (hr : (ReachOf_v h x).2 = true) (h0 : 0 ≤ y) (h1 : y < h.length) : hasI (ReachOf_v h x).1 y = (ShortestWalk_v h x y).2 := by
  cases hok : reachOk h x
  · rw [ReachOf_no hok] at hr; cases hr
  have hok' := hok
  simp only [reachOk, Bool.and_eq_true] at hok'
  obtain ⟨a, rfl, ha⟩ := inB_nat hok'.2
  obtain ⟨b, rfl⟩ : ∃ b : Nat, y = b := ⟨y.toNat, by omega⟩
  have hb : b < h.length := by omega
  rw [ReachOf_yes hok]
  show hasI (setL h.length (rcB h a)) b = _
  rw [setL_has hb]
  have hwa : walkAsked h a b = true := by simp only [walkAsked, Bool.and_eq_true]; exact ⟨hok', by rw [inB_true]; omega⟩
  rcases dTo_min hg hb ha with ⟨h0, hno⟩ | ⟨_, hmin⟩
  · rw [ShortestWalk_none h0]
    cases hc : rcB h a b
    · rfl
    · obtain ⟨t, ht⟩ := rcB_wk ha hb hc
      exact absurd ht (hno _ (by omega))
  · rw [ShortestWalk_some hwa hmin.1]
    obtain ⟨t, ht⟩ : ∃ t, dTo h b a = t + 1 := ⟨dTo h b a - 1, by have := hmin.1; omega⟩
    have hm2 := hmin.2.1
    rw [ht] at hm2
    exact wk_rcB hm2

/-! Periods. -/
theorem period_divides {g : List (List Int)} {c : Int} {k : Nat} {q : Nat} (hp : GraphPeriod_v g = ((q : Int), true)) (hc : ClosedWalks_v g k = (c, true)) (h0 : 0 < c) : (k : Int) % (q : Int) = 0 := by
  unfold GraphPeriod_v at hp
  split at hp
  · rename_i hgt
    obtain ⟨hg, hT⟩ := hgt
    simp only [Prod.mk.injEq, and_true] at hp
    have hq : perG g = q := by omega
    unfold ClosedWalks_v at hc
    split at hc
    · simp only [Int.toNat_natCast] at hc
      unfold clR at hc
      split at hc
      · simp at hc
      · simp only [Prod.mk.injEq, and_true] at hc
        have hex : ∃ i, i < g.length ∧ 0 < pwG g k i i := by
          have key : ∀ m, m ≤ g.length → 0 < clS (pwG g k) m → ∃ i, i < m ∧ 0 < pwG g k i i := by
            intro m
            induction m with
            | zero => intro _ h; simp [clS] at h
            | succ m ih =>
              intro hm h
              rw [clS_succ] at h
              by_cases hpos : 0 < pwG g k m m
              · exact ⟨m, by omega, hpos⟩
              · obtain ⟨i, hi, hh⟩ := ih (by omega) (by omega)
                exact ⟨i, by omega, hh⟩
          exact key _ (Nat.le_refl _) (by omega)
        obtain ⟨i, hi, hpos⟩ := hex
        have hw := (pwG_pos hg hi hi).1 hpos
        have hd := wk_tele (D := (perT (ent g) g.length (fun i => dst g i) : Nat)) (fun i k hi hk h => perT_dvd (p := fun i => (dst g i : Int)) hi hk h) hi k i hi hw
        have e : (dst g i : Int) + (k : Nat) - dst g i = k := by omega
        rw [e] at hd
        rw [← hq]
        exact Int.emod_eq_zero_of_dvd hd
    · simp at hc
  · simp at hp
theorem period_nat {g : List (List Int)} {n : Int} (hp : GraphPeriod_v g = (n, true)) : ∃ q : Nat, n = q ∧ graphB g = true ∧ transB g = true ∧ perG g = q := by
  unfold GraphPeriod_v at hp
  split at hp
  · rename_i h
    simp only [Prod.mk.injEq, and_true] at hp
    exact ⟨perG g, hp.symm, h.1, h.2, rfl⟩
  · simp at hp
/-- What the answers have to do with each other. -/
theorem answers {g : List (List Int)} {p : List Int} {t n i : _} {ok one three five : Bool} (h1 : StrongParts_v g = (p, ok)) (h2 : IsTransitive_v g = (t, one)) (h3 : GraphPeriod_v g = (n, three)) (h4 : IsPrimitive_v g = (i, five)) :
    one = ok ∧ five = ok ∧ three = (one && t) ∧ (ok = true → i = (three && decide (n = 1))) ∧ (ok = true → transB g = t) := by
  cases hg : graphB g
  · rw [StrongParts_no hg] at h1
    rw [IsTransitive_no hg] at h2
    rw [GraphPeriod_no1 hg] at h3
    rw [IsPrimitive_no hg] at h4
    simp only [Prod.mk.injEq] at h1 h2 h3 h4
    obtain ⟨-, rfl⟩ := h1
    obtain ⟨rfl, rfl⟩ := h2
    obtain ⟨rfl, rfl⟩ := h3
    obtain ⟨rfl, rfl⟩ := h4
    exact ⟨rfl, rfl, rfl, fun h => (by cases h), fun h => (by cases h)⟩
  · rw [StrongParts_yes hg] at h1
    rw [IsTransitive_yes hg] at h2
    rw [IsPrimitive_yes hg] at h4
    simp only [Prod.mk.injEq] at h1 h2 h4
    obtain ⟨-, rfl⟩ := h1
    obtain ⟨rfl, rfl⟩ := h2
    obtain ⟨rfl, rfl⟩ := h4
    cases hT : transB g
    · rw [GraphPeriod_no2 hT] at h3
      simp only [Prod.mk.injEq] at h3
      obtain ⟨rfl, rfl⟩ := h3
      exact ⟨rfl, rfl, rfl, fun _ => rfl, fun _ => rfl⟩
    · rw [GraphPeriod_yes hg hT] at h3
      simp only [Prod.mk.injEq] at h3
      obtain ⟨rfl, rfl⟩ := h3
      refine ⟨rfl, rfl, rfl, fun _ => ?_, fun _ => rfl⟩
      simp only [Bool.true_and]
      congr 1
      exact propext ⟨fun h => by rw [h]; rfl, fun h => by omega⟩

theorem qHas_any (v : Value) (xs : List Int) (x : Int) (w : World) (hv : IntsV w v xs) (hm : xs.length ≤ 1099511627776) :
    Calls Try.prog 58 #[v, .int .i64 x] w (Same (.bool (hasI xs x)) w) := by
  obtain ⟨ao, cap, rfl, _, _, H⟩ := hv
  obtain ⟨n, hn⟩ : ∃ n, xs.length = n := ⟨_, rfl⟩
  have hyes : ∀ k, k < xs.length → nth xs k = x → hasI xs x = true := fun k hk e => by
    unfold hasI; rw [List.any_eq_true]; exact ⟨nth xs k, nth_mem hk, by rw [e]; simp⟩
  have hno : (∀ k, k < xs.length → nth xs k ≠ x) → hasI xs x = false := fun h => by
    unfold hasI; rw [List.any_eq_false]; intro y hy
    obtain ⟨j, hj, rfl⟩ := List.getElem_of_mem hy
    have := h j hj
    rw [nth_eq hj] at this; simpa using this
  rw [hn] at hm H hno hyes ⊢
  have hn' := Lib.hid hn
  have hno' := Lib.hid hno
  have hyes' := Lib.hid hyes
  have H' := Lib.hid H
  clear hn hno hyes H
  go_enter Try.func58, Try.ntmps58
  go_wp2
  go_loop [9] (fun i => ∃ k : Nat, k ≤ n ∧ i = .int .i64 k ∧ Hid (∀ j, j < k → nth xs j ≠ x)) (fun i => n - (intOf i).toNat)
  case atStart => exact ⟨0, Nat.zero_le _, rfl, Lib.hid (fun j hj => absurd hj (Nat.not_lt_zero j))⟩
  case round =>
    obtain ⟨k, hk, rfl, hI⟩ := hrel
    by_cases hlt : k < n
    · obtain ⟨b, off, rfl, hc⟩ := H'.out k hlt
      by_cases e : nth xs k = x
      · have hy := hyes'.out k hlt e
        have e1 : (nth xs k == x) = true := by rw [beq_iff_eq]; exact e
        have hy' := Lib.hid hy
        clear hy
        clear e
        go_wp2
        go_ret
        rw [hy'.out]
        exact ⟨rfl, rfl⟩
      · have hI2 : ∀ j, j < k + 1 → nth xs j ≠ x := fun j hj => by
          by_cases e2 : j = k
          · rw [e2]; exact e
          · exact hI.out j (by omega)
        have e1 : (nth xs k == x) = false := by rw [beq_eq_false_iff_ne]; exact e
        have hI2' := Lib.hid hI2
        clear hI2
        clear e
        go_wp2
        go_round
        case rel => exact ⟨k + 1, by omega, by go_num, hI2'⟩
        case measure => simp [intOf]; omega
    · obtain rfl : n = k := by omega
      have hy := hno'.out hI.out
      have hy' := Lib.hid hy
      clear hy
      go_wp2
      go_ret
      rw [hy'.out]
      exact ⟨rfl, rfl⟩

end Go.Proofs.Ytblippeklbhepaa

/- The graph of a monic polynomial: the reference's walk and the program's. -/
import Derived.Test.YtnmcmepkfggfnaaArrows
import Derived.Test.YtnmcmepkfggfnaaPower
import Derived.Test.YtnmcmepkfggfnaaSums
namespace Go.Proofs.Ytnmcmepkfggfnaa
open Go.RowKit

def compOk (p : List Int) : Bool := polyB p && monicB p && decide (2 ≤ p.length) && allB (p.take (p.length - 1)) (-9) 0
def compE (p : List Int) (d i j : Nat) : Int := if i + 1 = d then - nth p j else if j = i + 1 then 1 else 0
/-- What both CompanionGraph functions return. -/
def CompanionGraph_v (p : List Int) : List (List Int) × Bool := if compOk p = true then (tab (p.length - 1) (p.length - 1) (compE p (p.length - 1)), true) else ([], false)
theorem CompanionGraph_no {p : List Int} (h : compOk p = false) : CompanionGraph_v p = ([], false) := by simp [CompanionGraph_v, h]
theorem CompanionGraph_yes {p : List Int} (h : compOk p = true) : CompanionGraph_v p = (tab (p.length - 1) (p.length - 1) (compE p (p.length - 1)), true) := by simp [CompanionGraph_v, h]
theorem compOk_parts {p : List Int} {d : Nat} (h : compOk p = true) (hd : p.length = d + 1) : polyB p = true ∧ monicB p = true ∧ 1 ≤ d ∧ d ≤ 8 ∧ allB (p.take d) (-9) 0 = true ∧ ∀ i, i < d → -9 ≤ nth p i ∧ nth p i ≤ 0 := by
  simp only [compOk, Bool.and_eq_true, decide_eq_true_eq, hd, Nat.add_sub_cancel] at h
  obtain ⟨⟨⟨h1, h2⟩, h3⟩, h4⟩ := h
  have h5 := polyB_le9 h1
  refine ⟨h1, h2, by omega, by omega, h4, fun i hi => ?_⟩
  simp only [allB, List.all_eq_true, inB_true] at h4
  have hl : i < (p.take d).length := by rw [List.length_take]; omega
  have := h4 _ (List.getElem_mem hl)
  rw [List.getElem_take] at this
  rw [nth_eq (by omega)]; exact this
theorem compOk_pos {p : List Int} (h : compOk p = true) : ∃ d, p.length = d + 1 := by
  simp only [compOk, Bool.and_eq_true, decide_eq_true_eq] at h
  exact ⟨p.length - 1, by omega⟩
theorem CompanionGraph_len (p : List Int) : szIntSS (CompanionGraph_v p).1 ≤ 1099511627776 := by
  cases h : compOk p
  · rw [CompanionGraph_no h]; exact Nat.zero_le _
  · obtain ⟨d, hd⟩ := compOk_pos h
    rw [CompanionGraph_yes h, sz_tab, hd, Nat.add_sub_cancel]
    have h2 := (compOk_parts h hd).2.2.2.1
    have : d * d ≤ 8 * 8 := Nat.mul_le_mul h2 h2
    omega

theorem emptyGraph_is (x : Int) (n : Nat) (w : World) (hx : x = n) (hn : n ≤ 1048576) (h0 : 0 < n) :
    Calls Try.prog 60 #[.int .i64 x] w (RetM n n (fun _ _ => 0) w) := by
  subst hx; exact emptyGraph_any n w hn h0

theorem comp1_says (w : World) : Says 58 #[] (fun n => !inB n (-9) 0) w := by
  intro x w' _
  go_enter Try.func58, Try.ntmps58
  go_wp2_with fail
  refine (within_any _ _ _ _).mono ?_
  rintro e w_ ⟨rfl, rfl⟩
  go_wp2
  go_ret
  exact ⟨rfl, Below.refl _ _⟩

set_option maxHeartbeats 1000000 in
theorem implCompanionGraph_yes (v : Value) (p : List Int) (w : World) (hv : IntsV w v p) (hok : compOk p = true) :
    Calls Try.prog 22 #[v] w (RetOB OwnSS (CompanionGraph_v p) w) := by
  rw [CompanionGraph_yes hok]
  obtain ⟨d, hd⟩ := compOk_pos hok
  obtain ⟨hp, hm, d1, d8, ha, hbd⟩ := compOk_parts hok hd
  have c1 := isPolynomial_ret v p w hv (by omega)
  rw [hp] at c1
  have c2 := fun w' hB => isMonic_any v p w' (hv.below hB) (by omega)
  rw [hm] at c2
  obtain ⟨ao, cap, rfl, hcc, _, K⟩ := id hv
  have hcap : d ≤ cap := by omega
  clear hcc
  rw [hd] at hv K c1 c2 ⊢
  have ht := hv.take (k := d) (by omega)
  have c3 := fun w' (hB : Below w.heap.size w w') => containsFunc_any _ _ 58 #[] _ w' (enters_of Try.func58 (by kernel_rfl) rfl) (comp1_says w') (ht.below hB) (by rw [List.length_take]; omega)
  rw [show ((p.take d).any fun n => !inB n (-9) 0) = false by
    have : ((p.take d).any fun n => !inB n (-9) 0) = !allB (p.take d) (-9) 0 := by simp [allB, List.not_all_eq_any_not]
    rw [this, ha]; rfl] at c3
  obtain ⟨b, off, rfl, _⟩ := K 0 (by omega)
  have K2 : ∀ w', Below w.heap.size w w' → ∀ i, i < d → w'.cell? ⟨b, off + i, none⟩ = some (.int .i64 (nth p i)) := fun w' hB i hi => by
    obtain ⟨b', off', e, hc⟩ := K i (by omega)
    cases e
    rw [hB.cell (World.block_lt_of_cell? w _ hc)]; exact hc
  rw [Nat.add_sub_cancel]
  clear ht K hv hp hm ha hok
  have hdd : decide ((d : Int) < 1) = false := decide_eq_false (by omega)
  have c1' := Lib.hid c1
  have c2' := Lib.hid c2
  have c3' := Lib.hid c3
  have K2' := Lib.hid K2
  have hd' := Lib.hid hd
  have hbd' := Lib.hid hbd
  clear c1 c2 c3 K2 hd hbd
  go_enter Try.func22, Try.ntmps22
  go_wp2_with fail
  refine (c1'.out).mono ?_
  rintro e w1 ⟨rfl, hB1⟩
  go_wp2_with fail
  refine (c2'.out _ hB1).mono ?_
  rintro e w_ ⟨rfl, rfl⟩
  go_wp2_with fail
  refine (c3'.out _ hB1).mono ?_
  rintro e w2 ⟨rfl, hB2⟩
  have hB3 := hB1.trans (hB2.mono hB1.size)
  go_wp2_with fail
  refine (emptyGraph_is _ d _ (by omega) (by omega) d1).mono ?_
  rintro e w3 ⟨gg, cp, rb, rc, rfl, hM, hB4⟩
  have hB := hB3.trans (hB4.mono hB3.size)
  replace hM := hM.mono hB3.size (Nat.le_refl _)
  clear hB1 hB2 hB3 hB4 c1' c2' c3'
  have hM' := Lib.hid hM
  clear hM
  go_wp2
  go_loopw [33] (fun i wr => ∃ k : Nat, k + 1 ≤ d ∧ i = .int .i64 k ∧ MatT wr w.heap.size w3.heap.size gg d cp d rb rc (fun a c => if a < k ∧ c = a + 1 then 1 else 0) ∧ Turned w.heap.size w3.heap.size w3 wr) (fun i _ => d - (intOf i).toNat)
  case atStart => exact ⟨0, d1, rfl, hM'.out.congr (fun i j _ _ => by rw [if_neg (by omega)]), Turned.refl _ _ _⟩
  case round =>
    obtain ⟨k, hk, rfl, hM2, ht⟩ := hrel
    clear hM'
    by_cases hlt : k + 1 < d
    · have hl1 : (k : Int) < (d : Int) - 1 := by omega
      have hl2 : k < d := by omega
      have h5 := hM2.ptr hl2
      have h6 := hM2.cell hl2 hlt
      have h7 := hM2.frozen hl2 (k + 1)
      have hst := hM2.stored hl2 (k + 1) 1
      have ht4 := hM2.turn hl2 (k + 1) 1 ht
      have hst' := Lib.hid hst
      have ht4' := Lib.hid ht4
      clear hst ht4
      clear hM2
      go_wp2
      go_roundw
      case rel => exact ⟨k + 1, by omega, by go_num, hst'.out.congr (fun a c _ _ => by
        simp only [upd]
        by_cases e : a = k ∧ c = k + 1
        · rw [if_pos e, if_pos (by omega)]
        · rw [if_neg e]
          by_cases e2 : a < k ∧ c = a + 1
          · rw [if_pos e2, if_pos (by omega)]
          · rw [if_neg e2, if_neg (by omega)]), ht4'.out⟩
      case measure => simp [intOf]; omega
    · have hk2 : k = d - 1 := by omega
      have hl1 : ¬ (k : Int) < (d : Int) - 1 := by omega
      have hM3 := hM2.congr (f' := fun a c => if a + 1 = d then (if c < 0 then - nth p c else 0) else if c = a + 1 then 1 else 0) (fun a c ha hc => by
        rw [if_neg (Nat.not_lt_zero _)]
        by_cases e : a + 1 = d
        · rw [if_pos e, if_neg (by omega)]
        · rw [if_neg e]
          by_cases e2 : c = a + 1
          · rw [if_pos e2, if_pos (by omega)]
          · rw [if_neg e2, if_neg (by omega)])
      clear hM2 hk2
      have hM3' := Lib.hid hM3
      clear hM3
      go_wp2
      go_loopw [45] (fun i wr => ∃ k : Nat, k ≤ d ∧ i = .int .i64 k ∧ MatT wr w.heap.size w3.heap.size gg d cp d rb rc (fun a c => if a + 1 = d then (if c < k then - nth p c else 0) else if c = a + 1 then 1 else 0) ∧ Turned w.heap.size w3.heap.size w3 wr) (fun i _ => d - (intOf i).toNat)
      case atStart => exact ⟨0, Nat.zero_le _, rfl, hM3'.out, ht⟩
      case round =>
        obtain ⟨j, hj, rfl, hM4, ht4⟩ := hrel
        clear hM3'
        by_cases hltj : j < d
        · have q0 : d - 1 < d := by omega
          have q1 := hM4.ptr q0
          have q2 := hM4.cell q0 hltj
          have q3 := hM4.frozen q0 j
          have q4 := K2'.out _ (hB.trans ht4.below) j hltj
          have q5 := hbd'.out j hltj
          have hst := hM4.stored q0 j (- nth p j)
          have ht5 := hM4.turn q0 j (- nth p j) ht4
          have i1 : ((d : Int) - 1).toNat = d - 1 := by omega
          have i2 : (0 : Int) ≤ (d : Int) - 1 := by omega
          have i3 : (d : Int) - 1 < d := by omega
          have hst' := Lib.hid hst
          have ht5' := Lib.hid ht5
          clear hst ht5
          clear hM4
          go_wp2_with fail
          go_region
          all_goals go_wp2
          go_roundw
          case rel => exact ⟨j + 1, by omega, by go_num, (hst'.out.congr (fun a c _ _ => by
            simp only [upd]
            by_cases e : a = d - 1 ∧ c = j
            · rw [if_pos e, if_pos (by omega), if_pos (by omega), e.2]
            · rw [if_neg e]
              by_cases e2 : a + 1 = d
              · rw [if_pos e2, if_pos e2]
                by_cases e3 : c < j
                · rw [if_pos e3, if_pos (by omega)]
                · rw [if_neg e3, if_neg (by omega)]
              · rw [if_neg e2, if_neg e2])).drew, ht5'.out.drew⟩
          case measure => simp [intOf]; omega
        · obtain rfl : d = j := by omega
          have hfin := hM4.congr (f' := compE p d) (fun a c _ hc => by unfold compE; rw [if_pos hc])
          have hsz := ht4.size
          have hBr := hB.trans ht4.below
          have hfin' := Lib.hid hfin
          clear hfin
          clear hM4
          go_wp2
          go_ret2
          exact RetM.ob (hfin'.out.mono (Nat.le_refl _) (by omega)) hBr rfl

set_option maxHeartbeats 400000 in
theorem implCompanionGraph_any (v : Value) (p : List Int) (w : World) (hv : IntsV w v p) (hmm : szIntS p ≤ 1099511627776) :
    Calls Try.prog 22 #[v] w (RetOB OwnSS (CompanionGraph_v p) w) := by
  cases hok : compOk p
  rotate_left
  · exact implCompanionGraph_yes v p w hv hok
  replace hmm : p.length ≤ 1099511627776 := hmm
  rw [CompanionGraph_no hok]
  have c1 := isPolynomial_ret v p w hv hmm
  cases hp : polyB p
  · rw [hp] at c1
    obtain ⟨ao, cap, rfl, -, -, -⟩ := hv
    generalize p.length = n at *
    have c1' := Lib.hid c1
    clear c1
    clear hok hp
    go_enter Try.func22, Try.ntmps22
    go_wp2_with fail
    refine (c1'.out).mono ?_
    rintro e w1 ⟨rfl, hB1⟩
    go_wp2
    go_ret2
    exact ⟨_, rfl, OwnSS.nil _ _ _, hB1⟩
  rw [hp] at c1
  have c2 := fun w' hB => isMonic_any v p w' (hv.below hB) hmm
  cases hm : monicB p
  · rw [hm] at c2
    obtain ⟨ao, cap, rfl, -, -, -⟩ := hv
    generalize p.length = n at *
    have c1' := Lib.hid c1
    have c2' := Lib.hid c2
    clear c1 c2
    clear hok hp hm
    go_enter Try.func22, Try.ntmps22
    go_wp2_with fail
    refine (c1'.out).mono ?_
    rintro e w1 ⟨rfl, hB1⟩
    go_wp2_with fail
    refine (c2'.out _ hB1).mono ?_
    rintro e w_ ⟨rfl, rfl⟩
    go_wp2
    go_ret2
    exact ⟨_, rfl, OwnSS.nil _ _ _, hB1⟩
  rw [hm] at c2
  obtain ⟨d, hd⟩ : ∃ d, p.length = d + 1 := ⟨p.length - 1, by
    have : 0 < p.length := by
      apply Decidable.byContradiction
      intro q
      rw [monicB_nil q] at hm; cases hm
    omega⟩
  by_cases hd1 : d < 1
  · obtain rfl : d = 0 := by omega
    obtain ⟨ao, cap, rfl, -, -, -⟩ := hv
    rw [hd] at c1 c2 ⊢
    have c1' := Lib.hid c1
    have c2' := Lib.hid c2
    have hd' := Lib.hid hd
    clear c1 c2 hd
    clear hok hp hm hd1
    go_enter Try.func22, Try.ntmps22
    go_wp2_with fail
    refine (c1'.out).mono ?_
    rintro e w1 ⟨rfl, hB1⟩
    go_wp2_with fail
    refine (c2'.out _ hB1).mono ?_
    rintro e w_ ⟨rfl, rfl⟩
    go_wp2
    go_ret2
    exact ⟨_, rfl, OwnSS.nil _ _ _, hB1⟩
  have ha : allB (p.take d) (-9) 0 = false := by
    have h2 : decide (2 ≤ d + 1) = true := decide_eq_true (by omega)
    have := hok
    simp only [compOk, hp, hm, h2, Bool.true_and, hd, Nat.add_sub_cancel] at this
    exact this
  obtain ⟨ao, cap, rfl, _, _, _⟩ := id hv
  rw [hd] at hv c1 c2 hmm ⊢
  have ht := hv.take (k := d) (by omega)
  have c3 := fun w' (hB : Below w.heap.size w w') => containsFunc_any _ _ 58 #[] _ w' (enters_of Try.func58 (by kernel_rfl) rfl) (comp1_says w') (ht.below hB) (by rw [List.length_take]; omega)
  rw [show ((p.take d).any fun n => !inB n (-9) 0) = true by
    have : ((p.take d).any fun n => !inB n (-9) 0) = !allB (p.take d) (-9) 0 := by simp [allB, List.not_all_eq_any_not]
    rw [this, ha]; rfl] at c3
  have hdd : decide ((d : Int) < 1) = false := decide_eq_false (by omega)
  have hcap : d ≤ cap := by obtain ⟨_, _, e, h, _⟩ := hv; obtain ⟨_, _, rfl⟩ := Value.slice.inj e; omega
  have c1' := Lib.hid c1
  have c2' := Lib.hid c2
  have c3' := Lib.hid c3
  have hd' := Lib.hid hd
  clear c1 c2 c3 hd
  clear hok hp hm ht hv ha
  go_enter Try.func22, Try.ntmps22
  go_wp2_with fail
  refine (c1'.out).mono ?_
  rintro e w1 ⟨rfl, hB1⟩
  go_wp2_with fail
  refine (c2'.out _ hB1).mono ?_
  rintro e w_ ⟨rfl, rfl⟩
  go_wp2_with fail
  refine (c3'.out _ hB1).mono ?_
  rintro e w2 ⟨rfl, hB2⟩
  have hB3 := hB1.trans (hB2.mono hB1.size)
  go_wp2
  go_ret2
  exact ⟨_, rfl, OwnSS.nil _ _ _, hB3⟩

theorem wpList_append_rowN {ops : Array Oper} {rest : List Oper} {o : Oper} {a : Act} {w : World} {Q : Exit → Act → World → Prop} (hgd : o.guard = none) (s x : Operand)
    (ho : o.op = .call { callee := .builtin .append, args := #[s, x], argTypes := #[22, 22] }) (N : Nat) (hN : w.heap.size = N) (B E : Nat) (v : Value) (k m r c cc : Nat) (rb rc : Nat → Nat) (f : Nat → Nat → Int) (h' : Nat → Int) (hs : a.eval s = v)
    (hx : a.eval x = .slice (some ⟨N, 0, none⟩) 1 cc) (hown : GrowT w B E v k m rb rc f) (hr : RowAt w B r m c (lst m h')) (hE : E ≤ r) (hl : k ≤ 1099511627776) (hB : B ≤ w.heap.size)
    (h : ∀ v' w', GrowT w' B w'.heap.size v' (k + 1) m (fun i => if i = k then r else rb i) (fun i => if i = k then c else rc i) (fun i => if i = k then h' else f i) → w.grownBy w' v.ownBlock → wpList Try.prog ops Q rest (a.put o.dst v') w') :
    wpList Try.prog ops Q (o :: rest) a (w.alloc (.cells #[.slice (some ⟨r, 0, none⟩) m c] 27)) := by
  subst hN
  exact wpList_append_row hgd s x ho B E v k m r c cc rb rc f h' hs hx hown hr hE hl hB h
theorem size_setCell (w : World) (p : Addr) (u : Value) : (w.setCell p u).heap.size = w.heap.size := by simp [World.setCell]

set_option maxHeartbeats 1000000 in
theorem specCompanionGraph_yes (v : Value) (p : List Int) (w : World) (hv : IntsV w v p) (hok : compOk p = true) :
    Calls Try.prog 20 #[v] w (RetOB OwnSS (CompanionGraph_v p) w) := by
  rw [CompanionGraph_yes hok]
  obtain ⟨d, hd⟩ := compOk_pos hok
  obtain ⟨hp, hm, d1, d8, ha, hbd⟩ := compOk_parts hok hd
  have c1 := poGood_any v p w hv (by omega)
  rw [hp] at c1
  have c2 := poMonic_any v p w hv (by omega)
  rw [hm] at c2
  obtain ⟨ao, cap, rfl, hcc, _, K⟩ := id hv
  have hcap : d ≤ cap := by omega
  clear hcc
  rw [hd] at hv K c1 c2 ⊢
  have c3 := l1All_any _ _ (-9) 0 w (hv.take (k := d) (by omega)) (by rw [List.length_take]; omega)
  rw [ha] at c3
  obtain ⟨b, off, rfl, _⟩ := K 0 (by omega)
  have K2 : ∀ w', Below w.heap.size w w' → ∀ i, i < d → w'.cell? ⟨b, off + i, none⟩ = some (.int .i64 (nth p i)) := fun w' hB i hi => by
    obtain ⟨b', off', e, hc⟩ := K i (by omega)
    cases e
    rw [hB.cell (World.block_lt_of_cell? w _ hc)]; exact hc
  rw [Nat.add_sub_cancel]
  clear K hv hp hm ha hok
  have hdd : decide ((d : Int) + 1 < 2) = false := decide_eq_false (by omega)
  obtain ⟨i2, hi2, hy0, hy1, hy2⟩ := info_parts Try.infoInt
  have c1' := Lib.hid c1
  have c2' := Lib.hid c2
  have c3' := Lib.hid c3
  have K2' := Lib.hid K2
  have hd' := Lib.hid hd
  have hbd' := Lib.hid hbd
  clear c1 c2 c3 K2 hd hbd
  go_enter Try.func20, Try.ntmps20
  go_wp2_with fail
  refine (c1'.out).mono ?_
  rintro e w_ ⟨rfl, rfl⟩
  go_wp2_with fail
  refine (c2'.out).mono ?_
  rintro e w_ ⟨rfl, rfl⟩
  go_wp2_with fail
  refine (c3'.out).mono ?_
  rintro e w_ ⟨rfl, rfl⟩
  clear c1' c2' c3'
  go_wp2
  go_loopw [5, 6] (fun o i wr => ∃ (k : Nat) (rb rc : Nat → Nat), k ≤ d ∧ i = .int .i64 k ∧ GrowT wr w.heap.size wr.heap.size o k d rb rc (fun a c => if c = a + 1 then 1 else 0) ∧ Below w.heap.size w wr) (fun _ i _ => d - (intOf i).toNat)
  case atStart => exact ⟨0, fun _ => 0, fun _ => 0, Nat.zero_le _, rfl, GrowT.nil _ _ _ _ _ _ _, Below.refl _ _⟩
  case round =>
    obtain ⟨k, rb, rc, hk, rfl, hp, hB⟩ := hrel
    obtain ⟨wo, rfl⟩ : ∃ wo : World, wo = wr := ⟨_, rfl⟩
    have hs := hB.size
    by_cases hlt : k < d
    · have hp' := Lib.hid hp
      clear hp
      go_wp2_with (at_make; refine wpList_make_full _ rfl _ _ 27 rfl w.heap.size 3 i2 _ 1 Try.underlying27 hi2 hy0 hy1 _ _ _ _ d rfl rfl rfl rfl (by rw [hy2]; omega) (by unfold maxLen; omega) hs ?_)
      intro w2 hown hgrow
      have hB2 : Below wo.heap.size wo w2 := below_made (Below.refl _ _) (Nat.le_refl _) hgrow
      have hr := row_made hown
      rw [lst_zero] at hr
      have hB3 := hB.trans (hB2.mono hB.size)
      clear hown hgrow
      by_cases hk1 : k + 1 < d
      · have q2 := hr.cell hk1
        have q3 := hr.frozen (k + 1)
        rw [nth_lst hk1] at q2
        have hst := hr.stored (k + 1) 1
        rw [lst_set, lst_congr (g := fun c => if c = k + 1 then 1 else 0) (fun c _ => rfl)] at hst
        have ht : Turned wo.heap.size (wo.heap.size + 1) w2 (w2.setCell ⟨wo.heap.size, k + 1, none⟩ (.int .i64 1)) := hr.turnedT (k + 1) 1 (Turned.refl _ _ _)
        have hp2 := hp'.out.kept (hB2.trans ht.below)
        have hB4 := hB3.trans (ht.below.mono hs)
        have hs4 := hB4.size
        have hl1 : (k : Int) + 1 < d := by omega
        clear hr hp' hB3 hB2
        go_wp2_with (at_builtin; refine wpList_append_rowN rfl _ _ rfl _ (size_setCell _ _ _) w.heap.size _ _ k d wo.heap.size d _ _ _ _ _ rfl rfl hp2 hst (Nat.le_refl _) (by omega) hs4 ?_)
        intro v' w3 hp3 hg3
        have hB5 : Below w.heap.size w w3 := hB4.grown hg3 hs4 (fun j hj => by have := (World.ownsRow.lt hp2.outer j hj).1; omega)
        have hp3' := Lib.hid hp3
        have hB5' := Lib.hid hB5
        clear hp3 hB5
        clear hg3 hp2 hst hB4 ht
        go_wp2
        go_roundw
        case rel => exact ⟨k + 1, _, _, by omega, by go_num, (hp3'.out).congr (fun i j _ _ => by
          by_cases e : i = k
          · rw [if_pos e, e]
          · rw [if_neg e]), hB5'.out⟩
        case measure => simp [intOf]; omega
      · have hp2 := hp'.out.kept hB2
        have hs4 := hB3.size
        have hl1 : ¬ (k : Int) + 1 < d := by omega
        rw [lst_congr (g := fun c => if c = k + 1 then 1 else 0) (fun c hc => by rw [if_neg (by omega)])] at hr
        clear hp' hB2
        go_wp2_with (at_builtin; refine wpList_append_row rfl _ _ rfl w.heap.size _ _ k d wo.heap.size d _ _ _ _ _ rfl rfl hp2 hr (Nat.le_refl _) (by omega) hs4 ?_)
        intro v' w3 hp3 hg3
        have hB5 : Below w.heap.size w w3 := hB3.grown hg3 hs4 (fun j hj => by have := (World.ownsRow.lt hp2.outer j hj).1; omega)
        have hp3' := Lib.hid hp3
        have hB5' := Lib.hid hB5
        clear hp3 hB5
        clear hg3 hp2 hr hB3
        go_wp2
        go_roundw
        case rel => exact ⟨k + 1, _, _, by omega, by go_num, (hp3'.out).congr (fun i j _ _ => by
          by_cases e : i = k
          · rw [if_pos e, e]
          · rw [if_neg e]), hB5'.out⟩
        case measure => simp [intOf]; omega
    · obtain rfl : d = k := by omega
      obtain ⟨gg, cp, rfl, hM2⟩ := hp.form d1
      have hM3 := hM2.congr (f' := fun a c => if a + 1 = d then (if c < 0 then - nth p c else 0) else if c = a + 1 then 1 else 0) (fun a c ha hc => by
        rw [if_neg (Nat.not_lt_zero _)]
        by_cases e : a + 1 = d
        · rw [if_pos e, if_neg (by omega)]
        · rw [if_neg e])
      clear hM2 hp
      have hM3' := Lib.hid hM3
      clear hM3
      go_wp2
      go_loopw [55] (fun i wr => ∃ k : Nat, k ≤ d ∧ i = .int .i64 k ∧ MatT wr w.heap.size wo.heap.size gg d cp d rb rc (fun a c => if a + 1 = d then (if c < k then - nth p c else 0) else if c = a + 1 then 1 else 0) ∧ Turned w.heap.size wo.heap.size wo wr) (fun i _ => d - (intOf i).toNat)
      case atStart => exact ⟨0, Nat.zero_le _, rfl, hM3'.out, Turned.refl _ _ _⟩
      case round =>
        obtain ⟨j, hj, rfl, hM4, ht4⟩ := hrel
        clear hM3'
        by_cases hltj : j < d
        · have q0 : d - 1 < d := by omega
          have q1 := hM4.ptr q0
          have q2 := hM4.cell q0 hltj
          have q3 := hM4.frozen q0 j
          have q4 := K2'.out _ (hB.trans ht4.below) j hltj
          have q5 := hbd'.out j hltj
          have hst := hM4.stored q0 j (- nth p j)
          have ht5 := hM4.turn q0 j (- nth p j) ht4
          have i1 : ((d : Int) - 1).toNat = d - 1 := by omega
          have i2 : (0 : Int) ≤ (d : Int) - 1 := by omega
          have i3 : (d : Int) - 1 < d := by omega
          have hst' := Lib.hid hst
          have ht5' := Lib.hid ht5
          clear hst ht5
          clear hM4
          go_wp2_with fail
          go_region
          all_goals go_wp2
          go_roundw
          case rel => exact ⟨j + 1, by omega, by go_num, (hst'.out.congr (fun a c _ _ => by
            simp only [upd]
            by_cases e : a = d - 1 ∧ c = j
            · rw [if_pos e, if_pos (by omega), if_pos (by omega), e.2]
            · rw [if_neg e]
              by_cases e2 : a + 1 = d
              · rw [if_pos e2, if_pos e2]
                by_cases e3 : c < j
                · rw [if_pos e3, if_pos (by omega)]
                · rw [if_neg e3, if_neg (by omega)]
              · rw [if_neg e2, if_neg e2])).drew, ht5'.out.drew⟩
          case measure => simp [intOf]; omega
        · obtain rfl : d = j := by omega
          have hfin := hM4.congr (f' := compE p d) (fun a c _ hc => by unfold compE; rw [if_pos hc])
          have hsz := ht4.size
          have hBr := hB.trans ht4.below
          have hfin' := Lib.hid hfin
          clear hfin
          clear hM4
          go_wp2
          go_ret2
          exact RetM.ob (hfin'.out.mono (Nat.le_refl _) (by omega)) hBr rfl

set_option maxHeartbeats 400000 in
theorem specCompanionGraph_any (v : Value) (p : List Int) (w : World) (hv : IntsV w v p) (hmm : szIntS p ≤ 1099511627776) :
    Calls Try.prog 20 #[v] w (RetOB OwnSS (CompanionGraph_v p) w) := by
  cases hok : compOk p
  rotate_left
  · exact specCompanionGraph_yes v p w hv hok
  replace hmm : p.length ≤ 1099511627776 := hmm
  rw [CompanionGraph_no hok]
  have c1 := poGood_any v p w hv hmm
  cases hp : polyB p
  · rw [hp] at c1
    obtain ⟨ao, cap, rfl, -, -, -⟩ := hv
    generalize p.length = n at *
    have c1' := Lib.hid c1
    clear c1
    clear hok hp
    go_enter Try.func20, Try.ntmps20
    go_wp2_with fail
    refine (c1'.out).mono ?_
    rintro e w_ ⟨rfl, rfl⟩
    go_wp2
    go_ret2
    exact ⟨_, rfl, OwnSS.nil _ _ _, Below.refl _ _⟩
  rw [hp] at c1
  have c2 := poMonic_any v p w hv hmm
  cases hm : monicB p
  · rw [hm] at c2
    obtain ⟨ao, cap, rfl, -, -, -⟩ := hv
    generalize p.length = n at *
    have c1' := Lib.hid c1
    have c2' := Lib.hid c2
    clear c1 c2
    clear hok hp hm
    go_enter Try.func20, Try.ntmps20
    go_wp2_with fail
    refine (c1'.out).mono ?_
    rintro e w_ ⟨rfl, rfl⟩
    go_wp2_with fail
    refine (c2'.out).mono ?_
    rintro e w_ ⟨rfl, rfl⟩
    go_wp2
    go_ret2
    exact ⟨_, rfl, OwnSS.nil _ _ _, Below.refl _ _⟩
  rw [hm] at c2
  obtain ⟨d, hd⟩ : ∃ d, p.length = d + 1 := ⟨p.length - 1, by
    have : 0 < p.length := by
      apply Decidable.byContradiction
      intro q
      rw [monicB_nil q] at hm; cases hm
    omega⟩
  by_cases hd1 : d < 1
  · obtain rfl : d = 0 := by omega
    obtain ⟨ao, cap, rfl, -, -, -⟩ := hv
    rw [hd] at c1 c2 ⊢
    have c1' := Lib.hid c1
    have c2' := Lib.hid c2
    have hd' := Lib.hid hd
    clear c1 c2 hd
    clear hok hp hm hd1
    go_enter Try.func20, Try.ntmps20
    go_wp2_with fail
    refine (c1'.out).mono ?_
    rintro e w_ ⟨rfl, rfl⟩
    go_wp2_with fail
    refine (c2'.out).mono ?_
    rintro e w_ ⟨rfl, rfl⟩
    go_wp2
    go_ret2
    exact ⟨_, rfl, OwnSS.nil _ _ _, Below.refl _ _⟩
  have ha : allB (p.take d) (-9) 0 = false := by
    have h2 : decide (2 ≤ d + 1) = true := decide_eq_true (by omega)
    have := hok
    simp only [compOk, hp, hm, h2, Bool.true_and, hd, Nat.add_sub_cancel] at this
    exact this
  obtain ⟨ao, cap, rfl, hcc, _, _⟩ := id hv
  have hcap : d ≤ cap := by omega
  rw [hd] at hv c1 c2 hmm ⊢
  have c3 := l1All_any _ _ (-9) 0 w (hv.take (k := d) (by omega)) (by rw [List.length_take]; omega)
  rw [ha] at c3
  have hdd : decide ((d : Int) + 1 < 2) = false := decide_eq_false (by omega)
  have c1' := Lib.hid c1
  have c2' := Lib.hid c2
  have c3' := Lib.hid c3
  have hd' := Lib.hid hd
  clear c1 c2 c3 hd
  clear hok hp hm hv ha hcc
  go_enter Try.func20, Try.ntmps20
  go_wp2_with fail
  refine (c1'.out).mono ?_
  rintro e w_ ⟨rfl, rfl⟩
  go_wp2_with fail
  refine (c2'.out).mono ?_
  rintro e w_ ⟨rfl, rfl⟩
  go_wp2_with fail
  refine (c3'.out).mono ?_
  rintro e w_ ⟨rfl, rfl⟩
  go_wp2
  go_ret2
  exact ⟨_, rfl, OwnSS.nil _ _ _, Below.refl _ _⟩

end Go.Proofs.Ytnmcmepkfggfnaa

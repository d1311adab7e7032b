/- Which tables are graphs: the reference's walk and the program's. -/
import Derived.Test.YtblippeklbhepaaFuncs
import Derived.Test.YtblippeklbhepaaMat
namespace Go.Proofs.Ytblippeklbhepaa
open Go.RowKit

/-- A row of a graph of n states. -/
def rowB (n : Nat) (r : List Int) : Bool := decide (r.length = n) && allB r 0 9
/-- The table is a graph. -/
def graphB (g : List (List Int)) : Bool := inB g.length 1 8 && g.all (rowB g.length)
theorem graphB_no1 {g : List (List Int)} (h : inB g.length 1 8 = false) : graphB g = false := by simp [graphB, h]
theorem graphB_row {g : List (List Int)} (i : Nat) (hi : i < g.length) (h : rowB g.length (row g i) = false) : graphB g = false := by
  unfold graphB
  rw [show g.all (rowB g.length) = false by
    rw [List.all_eq_false]; exact ⟨row g i, by rw [row_eq hi]; exact List.getElem_mem hi, by rw [h]; decide⟩]
  rw [Bool.and_false]
theorem graphB_yes {g : List (List Int)} (h1 : inB g.length 1 8 = true) (h : ∀ i, i < g.length → rowB g.length (row g i) = true) : graphB g = true := by
  unfold graphB
  rw [h1, Bool.true_and, List.all_eq_true]
  intro r hr
  obtain ⟨i, hi, rfl⟩ := List.getElem_of_mem hr
  rw [← row_eq hi]; exact h i hi

set_option maxHeartbeats 400000 in
theorem grGood_any (v : Value) (g : List (List Int)) (w : World) (hv : RowsV w v g) (hm : szIntSS g ≤ 1099511627776) :
    Calls Try.prog 66 #[v] w (Same (.bool (graphB g)) w) := by
  have hc : ∀ i, i < g.length → (row g i).length ≤ 1099511627776 := fun i hi => by
    have := row_len_le hi; unfold szIntSS at hm; unfold cntIntSS at this; omega
  clear hm
  have hv' := Lib.hid hv
  obtain ⟨ao, cap, rfl, -, -, -⟩ := id hv
  obtain ⟨n, hn⟩ : ∃ n, g.length = n := ⟨_, rfl⟩
  have hno := @graphB_no1 g
  have hrow := @graphB_row g
  have hyes := @graphB_yes g
  rw [hn] at hv' hc hno hrow hyes ⊢
  have hn' := Lib.hid hn
  have hc' := Lib.hid hc
  have hrow' := Lib.hid hrow
  have hyes' := Lib.hid hyes
  clear hn hc hv hrow hyes
  cases h1 : inB n 1 8
  · rw [hno h1]
    have h1' := Lib.hid h1
    clear hno h1
    go_enter Try.func66, Try.ntmps66
    go_wp2_with fail
    refine (l1In_any _ _ _ _).mono ?_
    rintro e w_ ⟨rfl, rfl⟩
    rw [h1'.out]
    go_wp2
    go_ret
    exact ⟨rfl, rfl⟩
  · have hn8 := (inB_true.1 h1).2
    have h1' := Lib.hid h1
    clear hno h1
    go_enter Try.func66, Try.ntmps66
    go_wp2_with fail
    refine (l1In_any _ _ _ _).mono ?_
    rintro e w_ ⟨rfl, rfl⟩
    rw [h1'.out]
    go_wp2
    go_loop [4, 11] (fun _ i => ∃ k : Nat, k ≤ n ∧ i = .int .i64 k ∧ Hid (∀ j, j < k → rowB n (row g j) = true)) (fun _ i => n - (intOf i).toNat)
    case atStart => exact ⟨0, Nat.zero_le _, rfl, Lib.hid (fun j hj => absurd hj (Nat.not_lt_zero j))⟩
    case round =>
      obtain ⟨k, hk, rfl, hI⟩ := hrel
      by_cases hlt : k < n
      · obtain ⟨ao', cap', e, -, -, H⟩ := hv'.out
        rw [hn'.out] at e H
        obtain ⟨rfl, _, rfl⟩ := Value.slice.inj e
        obtain ⟨b, off, u, rfl, hcell, hu⟩ := H k hlt
        have hu' := Lib.hid hu
        obtain ⟨ro, rcap, rfl, -, -, -⟩ := id hu
        clear H e hu
        obtain ⟨r, hr⟩ : ∃ r, row g k = r := ⟨_, rfl⟩
        have hnor := hrow'.out k hlt
        have hcl := hc'.out k hlt
        rw [hr] at hnor hcl hu' hcell
        have hr' := Lib.hid hr
        obtain ⟨rl, hrl⟩ : ∃ rl, r.length = rl := ⟨_, rfl⟩
        rw [hrl] at hcl hu' hcell
        by_cases hln : rl = n
        · subst hln
          have hall := l1All_any _ r 0 9 w hu'.out (by rw [hrl]; exact hcl)
          have hall' := Lib.hid hall
          cases ha : allB r 0 9
          · have hno := hnor (by simp [rowB, ha])
            have hno' := Lib.hid hno
            rw [ha] at hall'
            clear hall hnor hno ha hr hrl
            go_wp2_with fail
            refine hall'.out.mono ?_
            rintro e w_ ⟨rfl, rfl⟩
            go_wp2
            go_ret
            rw [hno'.out]
            exact ⟨rfl, rfl⟩
          · have hst : ∀ j, j < k + 1 → rowB rl (row g j) = true := fun j hj => by
              by_cases e : j = k
              · rw [e, hr'.out]; simp [rowB, ha, hrl]
              · exact hI.out j (by omega)
            have hst' := Lib.hid hst
            rw [ha] at hall'
            clear hall hnor hst ha hr hrl
            go_wp2_with fail
            refine hall'.out.mono ?_
            rintro e w_ ⟨rfl, rfl⟩
            go_wp2
            go_round
            case rel => exact ⟨k + 1, by omega, by go_num, hst'⟩
            case measure => simp [intOf]; omega
        · have hno := hnor (by simp [rowB, hrl, hln])
          have hno' := Lib.hid hno
          have hne : ((rl : Int) == (n : Int)) = false := by rw [beq_eq_false_iff_ne]; omega
          clear hnor hno hr hrl
          go_wp2
          go_ret
          rw [hno'.out]
          exact ⟨rfl, rfl⟩
      · obtain rfl : k = n := by omega
        have hy := hyes'.out h1'.out hI.out
        have hy' := Lib.hid hy
        clear hy
        go_wp2
        go_ret
        rw [hy'.out]
        exact ⟨rfl, rfl⟩

/-- The first row at which p holds, or -1. -/
def idxR (p : List Int → Bool) (xss : List (List Int)) : Int := match xss.findIdx? p with | some k => (k : Int) | none => -1
theorem idxR_hit {p : List Int → Bool} {xss : List (List Int)} {k : Nat} (hk : k < xss.length) (hno : ∀ j, j < k → p (row xss j) = false) (hy : p (row xss k) = true) : idxR p xss = k := by
  have : xss.findIdx? p = some k := by
    rw [List.findIdx?_eq_some_iff_getElem]
    refine ⟨hk, by rw [← row_eq hk]; exact hy, fun j hj => ?_⟩
    rw [← row_eq (by omega)]; simp [hno j hj]
  simp [idxR, this]
theorem idxR_none {p : List Int → Bool} {xss : List (List Int)} (hno : ∀ j, j < xss.length → p (row xss j) = false) : idxR p xss = -1 := by
  have : xss.findIdx? p = none := by
    rw [List.findIdx?_eq_none_iff]
    intro x hx
    obtain ⟨j, hj, rfl⟩ := List.getElem_of_mem hx
    rw [← row_eq hj]; exact hno j hj
  simp [idxR, this]
theorem idxR_geq (p : List Int → Bool) (xss : List (List Int)) : decide (idxR p xss ≥ 0) = xss.any p := by
  unfold idxR
  cases h : xss.findIdx? p with
  | none =>
    rw [List.findIdx?_eq_none_iff] at h
    have : xss.any p = false := by rw [List.any_eq_false]; intro x hx; rw [h x hx]; simp
    rw [this]; rfl
  | some k =>
    rw [List.findIdx?_eq_some_iff_getElem] at h
    obtain ⟨hk, hp, _⟩ := h
    have : xss.any p = true := by rw [List.any_eq_true]; exact ⟨_, List.getElem_mem hk, hp⟩
    rw [this]; simp
/-- A function value of rows that says p of every row of xss, whatever has been laid since w. -/
def SaysR (g : FuncId) (cb : Array Value) (p : List Int → Bool) (xss : List (List Int)) (w : World) : Prop :=
  ∀ u i w', i < xss.length → Below w.heap.size w w' → IntsV w' u (row xss i) → Calls Try.prog g (#[u] ++ cb) w' (Ret (.bool (p (row xss i))) w')

theorem indexFuncR_any (v : Value) (xss : List (List Int)) (g : FuncId) (cb : Array Value) (p : List Int → Bool) (w : World) (eg : Enters Try.prog g) (hp : SaysR g cb p xss w) (hv : RowsV w v xss) (hm : xss.length ≤ 1099511627776) :
    Calls Try.prog 119 #[v, .func (.func g) #[] cb] w (Ret (.int .i64 (idxR p xss)) w) := by
  have heg : ∀ args w, (callFunc g args).run Try.prog w = .ok (.enter g args) w := eg
  obtain ⟨ao, cap, rfl, h1, h2, H0⟩ := hv
  have hv : RowsV w (.slice ao xss.length cap) xss := ⟨ao, cap, rfl, h1, h2, H0⟩
  clear H0 h1 h2
  go_enter Try.func119, Try.ntmps119
  go_wp2
  go_loopw [8] (fun i wr => ∃ k : Nat, k ≤ xss.length ∧ i = .int .i64 k ∧ (∀ j, j < k → p (row xss j) = false) ∧ Below w.heap.size w wr) (fun i _ => xss.length - (intOf i).toNat)
  case atStart => exact ⟨0, Nat.zero_le _, rfl, fun j hj => absurd hj (Nat.not_lt_zero j), Below.refl _ _⟩
  case round =>
    obtain ⟨k, hk, rfl, hno, hB⟩ := hrel
    have hno' := Lib.hid hno
    clear hno
    by_cases hlt : k < xss.length
    · obtain ⟨ao', cap', e, _, _, H⟩ := hv.below hB
      obtain ⟨rfl, _, rfl⟩ := Value.slice.inj e
      obtain ⟨b, off, u, rfl, hc, hu⟩ := H k hlt
      have hcall := hp u k wr hlt hB hu
      have hcall' := Lib.hid hcall
      clear H e hcall hu
      cases hb : p (row xss k)
      · have hb' := Lib.hid hb
        clear hb
        go_wp2_with fail
        refine (hcall'.out).mono ?_
        rintro e w' ⟨rfl, hB'⟩
        rw [hb'.out]
        go_wp2
        go_roundw
        case rel => exact ⟨k + 1, by omega, by go_num, fun j hj => by
          rcases Nat.lt_succ_iff_lt_or_eq.1 hj with h | rfl
          · exact hno'.out j h
          · exact hb'.out, hB.trans (hB'.mono hB.size)⟩
        case measure => simp [intOf]; omega
      · have hb' := Lib.hid hb
        clear hb
        go_wp2_with fail
        refine (hcall'.out).mono ?_
        rintro e w' ⟨rfl, hB'⟩
        rw [hb'.out]
        go_wp2
        go_ret
        exact ⟨by rw [idxR_hit hlt hno'.out hb'.out]; rfl, hB.trans (hB'.mono hB.size)⟩
    · obtain rfl : k = xss.length := by omega
      go_wp2
      go_ret
      exact ⟨by rw [idxR_none hno'.out]; rfl, hB⟩

theorem containsFuncR_any (v : Value) (xss : List (List Int)) (g : FuncId) (cb : Array Value) (p : List Int → Bool) (w : World) (eg : Enters Try.prog g) (hp : SaysR g cb p xss w) (hv : RowsV w v xss) (hm : xss.length ≤ 1099511627776) :
    Calls Try.prog 63 #[v, .func (.func g) #[] cb] w (Ret (.bool (xss.any p)) w) := by
  go_enter Try.func63, Try.ntmps63
  go_wp2_with fail
  refine (indexFuncR_any v xss g cb p _ eg hp hv hm).mono ?_
  rintro e w' ⟨rfl, hB⟩
  go_wp2
  go_ret
  refine ⟨?_, hB⟩
  rw [← idxR_geq]; rfl

theorem isGraph11_says (w : World) : Says 123 #[] (fun n => !inB n 0 9) w := by
  intro x w' _
  go_enter Try.func123, Try.ntmps123
  go_wp2_with fail
  refine (within_any _ _ _ _).mono ?_
  rintro e w' ⟨rfl, rfl⟩
  go_wp2
  go_ret
  exact ⟨rfl, Below.refl _ _⟩
theorem isGraph1_any (u : Value) (r : List Int) (n : Nat) (go : Option Addr) (gc : Nat) (b : Nat) (w : World) (hu : IntsV w u r) (hm : r.length ≤ 1099511627776) (hb : w.cell? ⟨b, 0, none⟩ = some (.slice go n gc)) :
    Calls Try.prog 121 #[u, .pointer (some ⟨b, 0, none⟩)] w (Ret (.bool (!rowB n r)) w) := by
  have hall := containsFunc_any u r 123 #[] _ w (enters_of Try.func123 (by kernel_rfl) rfl) (isGraph11_says w) hu hm
  rw [show (r.any fun n => !inB n 0 9) = !allB r 0 9 by simp [allB, List.not_all_eq_any_not]] at hall
  have hall' := Lib.hid hall
  clear hall
  obtain ⟨ao, cap, rfl, -, -, -⟩ := id hu
  by_cases hl : r.length = n
  · have e : (!rowB n r) = !allB r 0 9 := by simp [rowB, hl]
    rw [e]
    clear e hu
    rw [hl] at hall' ⊢
    clear hl
    go_enter Try.func121, Try.ntmps121
    go_wp2_with fail
    refine hall'.out.mono ?_
    rintro e w' ⟨rfl, hB⟩
    go_wp2
    go_ret
    exact ⟨rfl, hB⟩
  · have e : (!rowB n r) = true := by simp [rowB, hl]
    rw [e]
    clear e hu
    generalize r.length = m at *
    have hne : ((m : Int) == (n : Int)) = false := by rw [beq_eq_false_iff_ne]; omega
    go_enter Try.func121, Try.ntmps121
    go_wp2
    go_ret
    exact ⟨rfl, Below.refl _ _⟩

theorem any_not_rowB (g : List (List Int)) (n : Nat) : (g.any fun r => !rowB n r) = !g.all (rowB n) := by
  simp [List.not_all_eq_any_not]
set_option maxHeartbeats 400000 in
theorem isGraph_any (v : Value) (g : List (List Int)) (w : World) (hv : RowsV w v g) (hm : szIntSS g ≤ 1099511627776) :
    Calls Try.prog 75 #[v] w (Ret (.bool (graphB g)) w) := by
  have hc : ∀ i, i < g.length → (row g i).length ≤ 1099511627776 := fun i hi => by
    have := row_len_le hi; unfold szIntSS at hm; unfold cntIntSS at this; omega
  have hl : g.length ≤ 1099511627776 := by unfold szIntSS at hm; omega
  clear hm
  obtain ⟨ao, cap, rfl, -, -, -⟩ := id hv
  have hB0 : Below w.heap.size w (w.alloc (.cells #[.slice ao g.length cap] 23)) := (Below.refl _ _).alloc (Nat.le_refl _) _
  have hx0 : (w.alloc (.cells #[.slice ao g.length cap] 23)).cell? ⟨w.heap.size, 0, none⟩ = some (.slice ao g.length cap) := by rw [World.cell?_alloc_at _ _ _ _ rfl]; rfl
  have hsz : (w.alloc (.cells #[.slice ao g.length cap] 23)).heap.size = w.heap.size + 1 := by simp
  have hall := containsFuncR_any (.slice ao g.length cap) g 121 #[.pointer (some ⟨w.heap.size, 0, none⟩)] (fun r => !rowB g.length r) (w.alloc (.cells #[.slice ao g.length cap] 23)) (enters_of Try.func121 (by kernel_rfl) rfl)
    (fun u i w' hi hB hu => isGraph1_any u (row g i) g.length ao cap w.heap.size w' hu (hc i hi) ((hB.cell (p := ⟨w.heap.size, 0, none⟩) (by rw [hsz]; exact Nat.lt_succ_self _)).trans hx0)) (hv.below hB0) hl
  rw [any_not_rowB] at hall
  have hall' := Lib.hid hall
  have hg : graphB g = (inB g.length 1 8 && g.all (rowB g.length)) := rfl
  clear hall hv hc
  cases h1 : inB g.length 1 8
  · rw [hg, h1, Bool.false_and]
    have h1' := Lib.hid h1
    clear h1 hg hall'
    generalize g.length = n at *
    go_enter Try.func75, Try.ntmps75
    go_wp2_with fail
    refine (within_any _ _ _ _).mono ?_
    rintro e w_ ⟨rfl, rfl⟩
    rw [h1'.out]
    go_wp2
    go_ret
    exact ⟨rfl, hB0⟩
  · rw [hg, h1, Bool.true_and]
    have h1' := Lib.hid h1
    clear h1 hg
    generalize g.all (rowB g.length) = z at *
    generalize g.length = n at *
    go_enter Try.func75, Try.ntmps75
    go_wp2_with fail
    refine (within_any _ _ _ _).mono ?_
    rintro e w_ ⟨rfl, rfl⟩
    rw [h1'.out]
    go_wp2_with fail
    refine hall'.out.mono ?_
    rintro e w2 ⟨rfl, hB2⟩
    go_wp2
    go_ret
    exact ⟨by cases z <;> rfl, hB0.trans (hB2.mono (by rw [hsz]; exact Nat.le_succ _))⟩

/-- What both IsGraph functions return. -/
def IsGraph_v (g : List (List Int)) : Bool := graphB g

theorem implIsGraph_any (v : Value) (g : List (List Int)) (w : World) (hv : RowsV w v g) (hm : szIntSS g ≤ 1099511627776) :
    Calls Try.prog 20 #[v] w (Ret (.bool (IsGraph_v g)) w) := by
  go_enter Try.func20, Try.ntmps20
  go_wp2_with fail
  refine (isGraph_any v g w hv hm).mono ?_
  rintro e w' ⟨rfl, hB⟩
  go_wp2
  go_ret
  exact ⟨rfl, hB⟩

end Go.Proofs.Ytblippeklbhepaa

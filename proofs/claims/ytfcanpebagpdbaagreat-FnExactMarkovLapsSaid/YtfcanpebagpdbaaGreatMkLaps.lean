/- MarkovLaps: the program's and the reference's. No conditions. -/
import Derived.Test.YtfcanpebagpdbaaGreatMkGraph
import Derived.Test.YtfcanpebagpdbaaGreatPowers
namespace Go.Proofs.YtfcanpebagpdbaaGreat
open Go.RowKit

/-- The sum of the first c entries of row i; of the first k rows of m entries. -/
def sumR (E : Nat → Nat → Int) (i : Nat) : Nat → Int
  | 0 => 0
  | c + 1 => sumR E i c + E i c
def sumT (E : Nat → Nat → Int) (m : Nat) : Nat → Int
  | 0 => 0
  | k + 1 => sumT E m k + sumR E k m
theorem sumR_bd {E : Nat → Nat → Int} {i m : Nat} (h : ∀ c, c < m → 0 ≤ E i c ∧ E i c ≤ 1000000001) : ∀ c, c ≤ m → 0 ≤ sumR E i c ∧ sumR E i c ≤ (c : Int) * 1000000001 := by
  intro c
  induction c with
  | zero => intro _; exact ⟨Int.le_refl _, by simp [sumR]⟩
  | succ c ih =>
    intro hc
    have := ih (by omega)
    have := h c (by omega)
    show 0 ≤ sumR E i c + E i c ∧ sumR E i c + E i c ≤ _
    omega
theorem sumT_bd {E : Nat → Nat → Int} {m : Nat} (hm : m ≤ 8) (h : ∀ i c, i < m → c < m → 0 ≤ E i c ∧ E i c ≤ 1000000001) : ∀ k, k ≤ m → 0 ≤ sumT E m k ∧ sumT E m k ≤ (k : Int) * 8000000008 := by
  intro k
  induction k with
  | zero => intro _; exact ⟨Int.le_refl _, by simp [sumT]⟩
  | succ k ih =>
    intro hk
    have := ih (by omega)
    have := sumR_bd (E := E) (i := k) (m := m) (fun c hc => h k c (by omega) hc) m (Nat.le_refl _)
    show 0 ≤ sumT E m k + sumR E k m ∧ sumT E m k + sumR E k m ≤ _
    omega
def mlE (f : List Quad) (xs : List (Int × Int)) (n : Int) : Nat → Nat → Int := pwG (tab (xs.length - 1) (xs.length - 1) (mgN f xs)) n.toNat
def mlC (f : List Quad) (xs : List (Int × Int)) (n : Int) : Prop := (mapB f = true ∧ partB xs = true) ∧ ml_v f xs = (true, true) ∧ powOk (tab (xs.length - 1) (xs.length - 1) (mgN f xs)) n = true ∧ sumT (mlE f xs n) (xs.length - 1) (xs.length - 1) ≤ 1000000000
open Classical in
noncomputable def MarkovLaps_v (f : List Quad) (xs : List (Int × Int)) (n : Int) : Int × Bool := if mlC f xs n then (sumT (mlE f xs n) (xs.length - 1) (xs.length - 1), true) else (0, false)
theorem MarkovLaps_yes {f : List Quad} {xs : List (Int × Int)} {n : Int} (h : mlC f xs n) : MarkovLaps_v f xs n = (sumT (mlE f xs n) (xs.length - 1) (xs.length - 1), true) := by unfold MarkovLaps_v; rw [if_pos h]
theorem MarkovLaps_no {f : List Quad} {xs : List (Int × Int)} {n : Int} (h : ¬ mlC f xs n) : MarkovLaps_v f xs n = (0, false) := by unfold MarkovLaps_v; rw [if_neg h]
theorem ml_mm {f : List Quad} {xs : List (Int × Int)} (h : ml_v f xs = (true, true)) : mm_v f xs false = (true, true) := by
  unfold ml_v at h
  split at h
  · rename_i h2
    have h3 := (Prod.mk.inj h).1
    rw [Bool.and_eq_true] at h3
    generalize mm_v f xs false = M at *
    obtain ⟨a, b⟩ := M
    simp only at h2 h3
    rw [h2, h3.1]
  · cases h
/-- The graph of a Markov partition is one. -/
theorem mg_graph {f : List Quad} {xs : List (Int × Int)} (hp : partB xs = true) : graphB (tab (xs.length - 1) (xs.length - 1) (mgN f xs)) = true := by
  have hl := partB_len hp
  unfold graphB
  rw [tab_len]
  simp only [Bool.and_eq_true, inB_true, List.all_eq_true]
  refine ⟨by omega, fun r hr => ?_⟩
  unfold tab at hr
  obtain ⟨i, _, rfl⟩ := List.mem_map.1 hr
  unfold rowB
  rw [Bool.and_eq_true, decide_eq_true_iff, lst_len]
  refine ⟨rfl, ?_⟩
  unfold allB
  rw [List.all_eq_true]
  intro x hx
  unfold lst at hx
  obtain ⟨j, _, rfl⟩ := List.mem_map.1 hx
  rw [inB_true]
  unfold mgN
  split <;> omega

set_option linter.unusedSimpArgs false in
set_option maxRecDepth 10000 in
set_option maxHeartbeats 4000000 in
theorem implMarkovLaps_any (v : Value) (f : List Quad) (u : Value) (xs : List (Int × Int)) (n : Int) (w : World) (hv : QuadV w v f) (hm : szPointS f ≤ 1099511627776) (hu : RatsV w u xs) (hn : szRatS xs ≤ 1099511627776) (hi : I64 n) :
    Calls Tryz.prog 19 #[v, u, .int .i64 n] w (Ret (.tuple #[.int .i64 (MarkovLaps_v f xs n).1, .bool (MarkovLaps_v f xs n).2]) w) := by
  have c1 := implIsLinearMarkov_any v f u xs w hv hm hu hn
  by_cases hlin : IsLinearMarkov_v f xs = (true, true)
  · have hask : mapB f = true ∧ partB xs = true := Classical.byContradiction fun q => by rw [IsLinear_no q] at hlin; cases hlin
    have hml : ml_v f xs = (true, true) := by rw [← IsLinear_yes hask]; exact hlin
    have hmm := ml_mm hml
    have c2 := fun w' (hB : Below w.heap.size w w') => implMarkovGraph_any v f u xs w' (hv.below hB) hm (hu.below hB) hn
    have hG : MarkovGraph_v f xs = (tab (xs.length - 1) (xs.length - 1) (mgN f xs), true) := by unfold MarkovGraph_v; rw [if_pos ⟨hask.1, hask.2, hmm⟩]
    have hgr := mg_graph (f := f) hask.2
    have hxl := partB_len hask.2
    have hsz : szIntSS (tab (xs.length - 1) (xs.length - 1) (mgN f xs)) ≤ 1099511627776 := by have := (graphB_sz hgr).1; omega
    have c3 := fun t w' (ht : RowsV w' t (tab (xs.length - 1) (xs.length - 1) (mgN f xs))) => implPowerOf_any t _ n w' ht hsz hi
    have hbd := pwG_bd hgr n.toNat
    rw [tab_len] at hbd
    have hno := @PowerOf_no (tab (xs.length - 1) (xs.length - 1) (mgN f xs)) n
    have hE : mlE f xs n = pwG (tab (xs.length - 1) (xs.length - 1) (mgN f xs)) n.toNat := rfl
    have hPv : powOk (tab (xs.length - 1) (xs.length - 1) (mgN f xs)) n = true → PowerOf_v (tab (xs.length - 1) (xs.length - 1) (mgN f xs)) n = (tab (xs.length - 1) (xs.length - 1) (mlE f xs n), true) := fun q => by
      unfold PowerOf_v; rw [if_pos q, tab_len]; rfl
    have hyes := fun (q : powOk (tab (xs.length - 1) (xs.length - 1) (mgN f xs)) n = true) (q2 : sumT (mlE f xs n) (xs.length - 1) (xs.length - 1) ≤ 1000000000) => MarkovLaps_yes (f := f) (xs := xs) (n := n) ⟨hask, hml, q, q2⟩
    have hnov := fun (q : ¬ (powOk (tab (xs.length - 1) (xs.length - 1) (mgN f xs)) n = true ∧ sumT (mlE f xs n) (xs.length - 1) (xs.length - 1) ≤ 1000000000)) => MarkovLaps_no (f := f) (xs := xs) (n := n) (fun h => q h.2.2)
    rw [hlin] at c1
    rw [hG] at c2
    rw [← hE] at hbd
    obtain ⟨m, hmN⟩ : ∃ m, xs.length - 1 = m := ⟨_, rfl⟩
    have hm8 : 1 ≤ m ∧ m ≤ 8 := by omega
    rw [hmN] at c2 c3 hbd hno hPv hyes hnov
    generalize MarkovLaps_v f xs n = V at *
    generalize mlE f xs n = E at *
    generalize tab m m (mgN f xs) = G at *
    have hsT := sumT_bd hm8.2 hbd
    have hsR := fun i (h : i < m) => sumR_bd (fun c hc => hbd i c h hc)
    clear hv hu hask hml hmm hG hgr hsz hE hlin
    cases hpo : powOk G n
    · rw [hnov (fun q => by rw [hpo] at q; cases q.1)]
      have c4 := fun t w' ht => c3 t w' ht
      rw [hno hpo] at c4
      clear hPv hyes hnov hno c3
      have c1' := Lib.hid c1
      have c2' := Lib.hid c2
      have c4' := Lib.hid c4
      have hpo' := Lib.hid hpo
      have hbd' := Lib.hid hbd
      have hsT' := Lib.hid hsT
      have hsR' := Lib.hid hsR
      clear c1 c2 c4 hpo hbd hsT hsR
      go_enter Tryz.func19, Tryz.ntmps19
      go_wp2_with fail
      refine (c1'.out).mono ?_
      rintro e w1 ⟨rfl, hB1⟩
      go_wp2_with fail
      refine (c2'.out _ hB1).mono ?_
      rintro e w2 ⟨t, rfl, ht, hB2⟩
      have hb2 := hB1.trans (hB2.mono hB1.size)
      have c5 := c4'.out t w2 ht.read
      clear ht hB1 hB2
      have c5' := Lib.hid c5
      clear c5
      go_wp2_with fail
      refine (c5'.out).mono ?_
      rintro e w3 ⟨s, rfl, hs, hB3⟩
      have hb3 := hb2.trans (hB3.mono hb2.size)
      obtain ⟨so, scap, rfl, _⟩ := hs.read
      clear hs hB3 hb2
      have hb3' := Lib.hid hb3
      clear hb3
      go_wp2
      go_loopw [13, 46] (fun o i wr => i = .int .i64 0 ∧ o = .int .i64 0 ∧ wr = w3) (fun _ _ _ => 0)
      case atStart => exact ⟨rfl, rfl, by trivial⟩
      case round =>
        obtain ⟨rfl, rfl, rfl⟩ := hrel
        go_wp2
        go_ret2
        exact ⟨rfl, hb3'.out⟩
    · have c4 := fun t w' ht => c3 t w' ht
      rw [hPv hpo] at c4
      clear c3 hno hPv
      have hR0 : ∀ i, sumR E i 0 = 0 := fun i => rfl
      have hRs : ∀ i c, sumR E i (c + 1) = sumR E i c + E i c := fun i c => rfl
      have hT0 : sumT E m 0 = 0 := rfl
      have hTs : ∀ k, sumT E m (k + 1) = sumT E m k + sumR E k m := fun k => rfl
      have hyes1 := hyes hpo
      have hno1 := fun (q : ¬ sumT E m m ≤ 1000000000) => hnov (fun h => q h.2)
      clear hyes hnov
      generalize sumR E = SR at *
      generalize sumT E m = ST at *
      have c1' := Lib.hid c1
      have c2' := Lib.hid c2
      have c4' := Lib.hid c4
      have hpo' := Lib.hid hpo
      have hbd' := Lib.hid hbd
      have hsT' := Lib.hid hsT
      have hsR' := Lib.hid hsR
      have hR0' := Lib.hid hR0
      have hRs' := Lib.hid hRs
      have hT0' := Lib.hid hT0
      have hTs' := Lib.hid hTs
      have hyes1' := Lib.hid hyes1
      have hno1' := Lib.hid hno1
      have hmN' := Lib.hid hmN
      clear c1 c2 c4 hpo hbd hsT hsR hR0 hRs hT0 hTs hyes1 hno1 hmN
      go_enter Tryz.func19, Tryz.ntmps19
      go_wp2_with fail
      refine (c1'.out).mono ?_
      rintro e w1 ⟨rfl, hB1⟩
      go_wp2_with fail
      refine (c2'.out _ hB1).mono ?_
      rintro e w2 ⟨t, rfl, ht, hB2⟩
      have hb2 := hB1.trans (hB2.mono hB1.size)
      have c5 := c4'.out t w2 ht.read
      clear ht hB1 hB2
      have c5' := Lib.hid c5
      clear c5
      go_wp2_with fail
      refine (c5'.out).mono ?_
      rintro e w3 ⟨s, rfl, hs, hB3⟩
      have hb3 := hb2.trans (hB3.mono hb2.size)
      obtain ⟨tb, toff, tcap, ro, rof, rc, rfl, _, _, TG⟩ := RowsV.gr (n := m) (m := m) hs.read (tab_len _ _ _) (by omega) (by omega) (fun i hi => by rw [tab_row hi, lst_len])
      clear hs hB3 hb2
      have hb3' := Lib.hid hb3
      have TG' := Lib.hid TG
      clear hb3 TG
      go_wp2
      go_loopw [13, 46] (fun o i wr => ∃ k : Nat, k ≤ m ∧ i = .int .i64 k ∧ o = .int .i64 (ST k) ∧ wr = w3) (fun _ i _ => m - (intOf i).toNat)
      case atStart => exact ⟨0, Nat.zero_le _, rfl, by rw [hT0'.out], by trivial⟩
      case round =>
        obtain ⟨k, hk, rfl, rfl, rfl⟩ := hrel
        have hstk := hsT'.out k hk
        by_cases hlt : k < m
        · obtain ⟨r0, _, r1⟩ := TG'.out k hlt
          have hTs1 := hTs'.out k
          have hRb := hsR'.out k hlt
          have hRk := hRs'.out k
          have hRz := hR0'.out k
          have hEb := hbd'.out k
          have r2 : ∀ c, c < m → wr.cell? ⟨ro k, rof k + c, none⟩ = some (.int .i64 (E k c)) := fun c hc => by
            have := r1 c hc
            rw [ent_tab hlt hc] at this; exact this
          clear r1
          generalize SR k = RK at *
          generalize ST k = S0 at *
          generalize ro k = rk at *
          generalize rof k = rfk at *
          generalize rc k = rck at *
          have r2' := Lib.hid r2
          have hTs1' := Lib.hid hTs1
          have hRb' := Lib.hid hRb
          have hRk' := Lib.hid hRk
          have hRz' := Lib.hid hRz
          have hEb' := Lib.hid hEb
          clear r2 hTs1 hRb hRk hRz hEb
          go_wp2
          go_loopw [13, 52] (fun o i wr' => ∃ c : Nat, c ≤ m ∧ i = .int .i64 c ∧ o = .int .i64 (S0 + RK c) ∧ wr' = wr) (fun _ i _ => m - (intOf i).toNat)
          case atStart => exact ⟨0, Nat.zero_le _, rfl, by rw [hRz'.out, Int.add_zero], by trivial⟩
          case round =>
            obtain ⟨c, hc, rfl, rfl, e⟩ := hrel
            subst e
            have hRc := hRb'.out c hc
            by_cases hlt2 : c < m
            · have p0 := r2'.out c hlt2
              have hRk1 := hRk'.out c
              have hEc := hEb'.out c hlt hlt2
              generalize E k c = e0 at *
              generalize RK c = r0c at *
              have hgw : IntKind.i64.wrap (S0 + r0c + e0) = S0 + r0c + e0 := by rw [IntKind.wrap_i64]; omega
              have hRk1' := Lib.hid hRk1
              clear hRk1
              go_wp2
              go_roundw
              case rel => exact ⟨c + 1, by omega, by go_num, by rw [hRk1'.out, Int.add_assoc], by trivial⟩
              case measure => simp [intOf]; omega
            · obtain rfl : c = m := by omega
              go_wp2
              go_roundw
              case rel => exact ⟨k + 1, by omega, by go_num, by rw [hTs1'.out], by trivial⟩
              case measure => simp [intOf]; omega
        · obtain rfl : k = m := by omega
          by_cases hle : ST k ≤ 1000000000
          · have hV := hyes1'.out hle
            subst hV
            generalize ST k = S0 at *
            have hgt : ¬ 1000000000 < S0 := by omega
            go_wp2
            go_ret2
            exact ⟨rfl, hb3'.out⟩
          · have hV := hno1'.out (by omega)
            subst hV
            generalize ST k = S0 at *
            have hgt : 1000000000 < S0 := by omega
            go_wp2
            go_ret2
            exact ⟨rfl, hb3'.out⟩
  · have e : MarkovLaps_v f xs n = (0, false) := MarkovLaps_no (fun h => hlin (by rw [IsLinear_yes h.1]; exact h.2.1))
    rw [e]
    generalize IsLinearMarkov_v f xs = M at *
    obtain ⟨m1, m2⟩ := M
    simp only at c1
    clear hv hu e
    have c1' := Lib.hid c1
    have hlin' := Lib.hid hlin
    clear c1 hlin
    cases m2
    · go_enter Tryz.func19, Tryz.ntmps19
      go_wp2_with fail
      refine (c1'.out).mono ?_
      rintro e w1 ⟨rfl, hB1⟩
      go_wp2
      go_ret2
      exact ⟨rfl, hB1⟩
    · cases m1
      · go_enter Tryz.func19, Tryz.ntmps19
        go_wp2_with fail
        refine (c1'.out).mono ?_
        rintro e w1 ⟨rfl, hB1⟩
        go_wp2
        go_ret2
        exact ⟨rfl, hB1⟩
      · exact absurd rfl hlin'.out
theorem pow_iff {G : List (List Int)} {t : Nat} {m : Nat} (hg : graphB G = true) (hn : G.length = m) (ht : t ≤ 12) : powOk G t = true ↔ ∀ i c, i < m → c < m → pwG G t i c ≤ 1000000000 := by
  have hok : clOk G t = true := by
    unfold clOk
    rw [hg, Bool.true_and]
    exact inB_true.2 (by omega)
  have hb := pwG_bd hg t
  rw [hn] at hb
  have hP : powOk G t = (tab m m (pwG G t)).all fun r => allB r 0 1000000000 := by unfold powOk; rw [hok, Bool.true_and, hn]; rfl
  rw [hP, List.all_eq_true]
  constructor
  · intro h i c hi hc
    have h1 := h (lst m (pwG G t i)) (List.mem_map.2 ⟨i, List.mem_range.2 hi, rfl⟩)
    unfold allB at h1
    rw [List.all_eq_true] at h1
    have h2 := h1 (pwG G t i c) (List.mem_map.2 ⟨c, List.mem_range.2 hc, rfl⟩)
    exact (inB_true.1 h2).2
  · intro h r hr
    obtain ⟨i, hi, rfl⟩ := List.mem_map.1 hr
    rw [List.mem_range] at hi
    unfold allB
    rw [List.all_eq_true]
    intro x hx
    obtain ⟨c, hc, rfl⟩ := List.mem_map.1 hx
    rw [List.mem_range] at hc
    exact inB_true.2 ⟨(hb i c hi hc).1, h i c hi hc⟩

set_option linter.unusedSimpArgs false in
set_option maxRecDepth 10000 in
set_option maxHeartbeats 4000000 in
theorem specLaps_in (v u : Value) (f : List Quad) (xs : List (Int × Int)) (t : Nat) (V : Int × Bool) (w : World) (hv : QuadV w v f) (hu : RatsV w u xs) (hf : MapP f) (hp : partB xs = true) (hml : ml_v f xs = (true, true)) (ht : t ≤ 12)
    (c0 : Calls Tryz.prog 20 #[v, u] w (Ret (.bool true) w))
    (hyes : (∀ i c, i < xs.length - 1 → c < xs.length - 1 → mlE f xs t i c ≤ 1000000000) → sumT (mlE f xs t) (xs.length - 1) (xs.length - 1) ≤ 1000000000 → V = (sumT (mlE f xs t) (xs.length - 1) (xs.length - 1), true))
    (hno1 : ∀ i c, i < xs.length - 1 → c < xs.length - 1 → 1000000000 < mlE f xs t i c → V = (0, false))
    (hno2 : 1000000000 < sumT (mlE f xs t) (xs.length - 1) (xs.length - 1) → V = (0, false)) :
    Calls Tryz.prog 18 #[v, u, .int .i64 t] w (Ret (.tuple #[.int .i64 V.1, .bool V.2]) w) := by
  have hxl := partB_len hp
  have c1 := fun w' (hB : Below w.heap.size w w') => mkLinear_any v u f xs w' (hv.below hB) (hu.below hB) hf hp
  rw [hml] at c1
  have c2 := fun w' (hB : Below w.heap.size w w') => mkGraph_any v u f xs w' (hv.below hB) (hu.below hB) hf hp
  have hG : mg_v f xs = (tab (xs.length - 1) (xs.length - 1) (mgN f xs), true) := by unfold mg_v; rw [if_pos (ml_mm hml)]
  rw [hG] at c2
  have hgr := mg_graph (f := f) hp
  have hbd := pwG_bd hgr t
  rw [tab_len] at hbd
  have c3 := fun s w' (hs : RowsV w' s (tab (xs.length - 1) (xs.length - 1) (mgN f xs))) => grPower_g s _ (xs.length - 1) t w' hs hgr (tab_len _ _ _) ht
  have hE : pwG (tab (xs.length - 1) (xs.length - 1) (mgN f xs)) t = mlE f xs t := by unfold mlE; rw [Int.toNat_natCast]
  have hst : inB (t : Int) 0 12 = true := inB_true.2 (by omega)
  have cst := fun w' => grSteps_any (t : Int) w'
  rw [hst] at cst
  rw [hE] at hbd c3
  obtain ⟨m, hmN⟩ : ∃ m, xs.length - 1 = m := ⟨_, rfl⟩
  have hm8 : 1 ≤ m ∧ m ≤ 8 := by omega
  rw [hmN] at c2 c3 hbd hyes hno1 hno2
  generalize mlE f xs t = E at *
  generalize tab m m (mgN f xs) = G at *
  have hsT := sumT_bd hm8.2 hbd
  have hsR := fun i (h : i < m) => sumR_bd (fun c hc => hbd i c h hc)
  have hR0 : ∀ i, sumR E i 0 = 0 := fun i => rfl
  have hRs : ∀ i c, sumR E i (c + 1) = sumR E i c + E i c := fun i c => rfl
  have hT0 : sumT E m 0 = 0 := rfl
  have hTs : ∀ k, sumT E m (k + 1) = sumT E m k + sumR E k m := fun k => rfl
  generalize sumR E = SR at *
  generalize sumT E m = ST at *
  clear hv hu hf hp hml hG hgr hE hst
  have c0' := Lib.hid c0
  have c1' := Lib.hid c1
  have c2' := Lib.hid c2
  have c3' := Lib.hid c3
  have cst' := Lib.hid cst
  have hbd' := Lib.hid hbd
  have hsT' := Lib.hid hsT
  have hsR' := Lib.hid hsR
  have hR0' := Lib.hid hR0
  have hRs' := Lib.hid hRs
  have hT0' := Lib.hid hT0
  have hTs' := Lib.hid hTs
  have hyes' := Lib.hid hyes
  have hno1' := Lib.hid hno1
  have hno2' := Lib.hid hno2
  have hmN' := Lib.hid hmN
  clear c0 c1 c2 c3 cst hbd hsT hsR hR0 hRs hT0 hTs hyes hno1 hno2 hmN
  go_enter Tryz.func18, Tryz.ntmps18
  go_wp2_with fail
  refine (c0'.out).mono ?_
  rintro e w1 ⟨rfl, hB1⟩
  go_wp2_with fail
  refine (cst'.out _).mono ?_
  rintro e w_ ⟨rfl, rfl⟩
  go_wp2_with fail
  refine (c1'.out _ hB1).mono ?_
  rintro e w2 ⟨rfl, hB2⟩
  have hb2 := hB1.trans (hB2.mono hB1.size)
  go_wp2_with fail
  refine (c2'.out _ hb2).mono ?_
  rintro e w3 ⟨s, rfl, hs, hB3⟩
  have hb3 := hb2.trans (hB3.mono hb2.size)
  have c5 := c3'.out s w3 hs.read
  clear hs hB1 hB2 hB3 hb2
  have c5' := Lib.hid c5
  clear c5
  go_wp2_with fail
  refine (c5'.out).mono ?_
  rintro e w4 ⟨gg, gcap, rb, rc, rfl, hM, hB4⟩
  have hb4 := hb3.trans (hB4.mono hb3.size)
  clear hB4 hb3
  have hM' := Lib.hid hM
  have hb4' := Lib.hid hb4
  clear hM hb4
  go_wp2
  go_loopw [12, 48] (fun o i wr => ∃ k : Nat, k ≤ m ∧ i = .int .i64 k ∧ o = .int .i64 (ST k) ∧ (∀ i c, i < k → c < m → E i c ≤ 1000000000) ∧ wr = w4) (fun _ i _ => m - (intOf i).toNat)
  case atStart => exact ⟨0, Nat.zero_le _, rfl, by rw [hT0'.out], fun i c h => absurd h (Nat.not_lt_zero i), by trivial⟩
  case round =>
    obtain ⟨k, hk, rfl, rfl, hall, rfl⟩ := hrel
    have hstk := hsT'.out k hk
    by_cases hlt : k < m
    · have r0 := hM'.out.ptr hlt
      have hTs1 := hTs'.out k
      have hRb := hsR'.out k hlt
      have hRk := hRs'.out k
      have hRz := hR0'.out k
      have hEb := hbd'.out k
      have r2 : ∀ c, c < m → wr.cell? ⟨rb k, c, none⟩ = some (.int .i64 (E k c)) := fun c hc => hM'.out.cell hlt hc
      generalize SR k = RK at *
      generalize ST k = S0 at *
      generalize rb k = rk at *
      generalize rc k = rck at *
      have r2' := Lib.hid r2
      have hTs1' := Lib.hid hTs1
      have hRb' := Lib.hid hRb
      have hRk' := Lib.hid hRk
      have hRz' := Lib.hid hRz
      have hEb' := Lib.hid hEb
      have hall' := Lib.hid hall
      clear r2 hTs1 hRb hRk hRz hEb hall
      go_wp2
      go_loopw [12, 54] (fun o i wr' => ∃ c : Nat, c ≤ m ∧ i = .int .i64 c ∧ o = .int .i64 (S0 + RK c) ∧ (∀ d, d < c → E k d ≤ 1000000000) ∧ wr' = wr) (fun _ i _ => m - (intOf i).toNat)
      case atStart => exact ⟨0, Nat.zero_le _, rfl, by rw [hRz'.out, Int.add_zero], fun d h => absurd h (Nat.not_lt_zero d), by trivial⟩
      case round =>
        obtain ⟨c, hc, rfl, rfl, hrow, e⟩ := hrel
        subst e
        have hRc := hRb'.out c hc
        by_cases hlt2 : c < m
        · have p0 := r2'.out c hlt2
          have hRk1 := hRk'.out c
          have hEc := hEb'.out c hlt hlt2
          have hn1 := hno1'.out k c hlt hlt2
          obtain ⟨e0, he0⟩ : ∃ e0, E k c = e0 := ⟨_, rfl⟩
          rw [he0] at p0 hRk1 hEc hn1
          generalize RK c = r0c at *
          by_cases hgt : 1000000000 < e0
          · have hV := hn1 hgt
            subst hV
            clear hn1
            have hRk1' := Lib.hid hRk1
            have hrow' := Lib.hid hrow
            have he0' := Lib.hid he0
            clear hRk1 hrow he0
            go_wp2
            go_ret2
            exact ⟨rfl, hb4'.out⟩
          · have hrow2 : ∀ d, d < c + 1 → E k d ≤ 1000000000 := fun d hd => by
              rcases Nat.lt_succ_iff_lt_or_eq.1 hd with h | rfl
              · exact hrow d h
              · rw [he0]; omega
            have hgw : IntKind.i64.wrap (S0 + r0c + e0) = S0 + r0c + e0 := by rw [IntKind.wrap_i64]; omega
            clear hn1 hrow
            have hRk1' := Lib.hid hRk1
            have hrow2' := Lib.hid hrow2
            have he0' := Lib.hid he0
            clear hRk1 hrow2 he0
            go_wp2
            go_roundw
            case rel => exact ⟨c + 1, by omega, by go_num, by rw [hRk1'.out, Int.add_assoc], hrow2'.out, by trivial⟩
            case measure => simp [intOf]; omega
        · obtain rfl : c = m := by omega
          have hall2 : ∀ i d, i < k + 1 → d < c → E i d ≤ 1000000000 := fun i d hi hd => by
            rcases Nat.lt_succ_iff_lt_or_eq.1 hi with h | rfl
            · exact hall'.out i d h hd
            · exact hrow d hd
          clear hrow
          have hall2' := Lib.hid hall2
          clear hall2
          go_wp2
          go_roundw
          case rel => exact ⟨k + 1, by omega, by go_num, by rw [hTs1'.out], hall2'.out, by trivial⟩
          case measure => simp [intOf]; omega
    · obtain rfl : k = m := by omega
      by_cases hle : ST k ≤ 1000000000
      · have hV := hyes'.out hall hle
        subst hV
        clear hall
        generalize ST k = S0 at *
        have hgt : ¬ 1000000000 < S0 := by omega
        go_wp2
        go_ret2
        exact ⟨rfl, hb4'.out⟩
      · have hV := hno2'.out (by omega)
        subst hV
        clear hall
        generalize ST k = S0 at *
        have hgt : 1000000000 < S0 := by omega
        go_wp2
        go_ret2
        exact ⟨rfl, hb4'.out⟩
theorem specMarkovLaps_any (v : Value) (f : List Quad) (u : Value) (xs : List (Int × Int)) (n : Int) (w : World) (hv : QuadV w v f) (hm : szPointS f ≤ 1099511627776) (hu : RatsV w u xs) (hn : szRatS xs ≤ 1099511627776) (_hi : I64 n) :
    Calls Tryz.prog 18 #[v, u, .int .i64 n] w (Ret (.tuple #[.int .i64 (MarkovLaps_v f xs n).1, .bool (MarkovLaps_v f xs n).2]) w) := by
  have c0 := mkAsked_any v u f xs w hv hu hm hn
  by_cases hask : mapB f = true ∧ partB xs = true
  · rw [hask.1, hask.2] at c0
    cases hst : inB n 0 12
    · have e : MarkovLaps_v f xs n = (0, false) := MarkovLaps_no (fun h => by
        have h1 := h.2.2.1
        unfold powOk clOk at h1
        rw [hst] at h1
        simp at h1)
      rw [e]
      have cst := fun w' => grSteps_any n w'
      rw [hst] at cst
      clear hv hu e
      have c0' := Lib.hid c0
      have cst' := Lib.hid cst
      have hst' := Lib.hid hst
      clear c0 cst hst
      go_enter Tryz.func18, Tryz.ntmps18
      go_wp2_with fail
      refine (c0'.out).mono ?_
      rintro e w1 ⟨rfl, hB1⟩
      go_wp2_with fail
      refine (cst'.out _).mono ?_
      rintro e w_ ⟨rfl, rfl⟩
      go_wp2
      go_ret2
      exact ⟨rfl, hB1⟩
    · obtain ⟨t, rfl, ht⟩ := inB_nat' (n := 12) hst
      by_cases hml : ml_v f xs = (true, true)
      · have hgr := mg_graph (f := f) hask.2
        have hpi := pow_iff hgr (tab_len _ _ _) ht
        have hE : pwG (tab (xs.length - 1) (xs.length - 1) (mgN f xs)) t = mlE f xs t := by unfold mlE; rw [Int.toNat_natCast]
        rw [hE] at hpi
        refine specLaps_in v u f xs t _ w hv hu (mapB_true hask.1) hask.2 hml ht c0 ?_ ?_ ?_
        · intro h1 h2
          exact MarkovLaps_yes ⟨hask, hml, hpi.2 h1, h2⟩
        · intro i c hi hc h1
          exact MarkovLaps_no (fun h => by have := hpi.1 h.2.2.1 i c hi hc; omega)
        · intro h1
          exact MarkovLaps_no (fun h => by have := h.2.2.2; omega)
      · have e : MarkovLaps_v f xs t = (0, false) := MarkovLaps_no (fun h => hml h.2.1)
        rw [e]
        have cst := fun w' => grSteps_any (t : Int) w'
        rw [hst] at cst
        have c1 := fun w' (hB : Below w.heap.size w w') => mkLinear_any v u f xs w' (hv.below hB) (hu.below hB) (mapB_true hask.1) hask.2
        generalize ml_v f xs = M at *
        obtain ⟨m1, m2⟩ := M
        simp only at c1
        clear hv hu e
        have c0' := Lib.hid c0
        have cst' := Lib.hid cst
        have hst' := Lib.hid hst
        have c1' := Lib.hid c1
        have hml' := Lib.hid hml
        clear c0 cst hst c1 hml
        cases m1
        · go_enter Tryz.func18, Tryz.ntmps18
          go_wp2_with fail
          refine (c0'.out).mono ?_
          rintro e w1 ⟨rfl, hB1⟩
          go_wp2_with fail
          refine (cst'.out _).mono ?_
          rintro e w_ ⟨rfl, rfl⟩
          go_wp2_with fail
          refine (c1'.out _ hB1).mono ?_
          rintro e w2 ⟨rfl, hB2⟩
          have hb2 := hB1.trans (hB2.mono hB1.size)
          go_wp2
          go_ret2
          exact ⟨rfl, hb2⟩
        · cases m2
          · go_enter Tryz.func18, Tryz.ntmps18
            go_wp2_with fail
            refine (c0'.out).mono ?_
            rintro e w1 ⟨rfl, hB1⟩
            go_wp2_with fail
            refine (cst'.out _).mono ?_
            rintro e w_ ⟨rfl, rfl⟩
            go_wp2_with fail
            refine (c1'.out _ hB1).mono ?_
            rintro e w2 ⟨rfl, hB2⟩
            have hb2 := hB1.trans (hB2.mono hB1.size)
            go_wp2
            go_ret2
            exact ⟨rfl, hb2⟩
          · exact absurd rfl hml'.out
  · rw [MarkovLaps_no (fun h => hask h.1)]
    rw [asked_no hask] at c0
    clear hv hu hask
    have c0' := Lib.hid c0
    clear c0
    go_enter Tryz.func18, Tryz.ntmps18
    go_wp2_with fail
    refine (c0'.out).mono ?_
    rintro e w1 ⟨rfl, hB1⟩
    go_wp2
    go_ret2
    exact ⟨rfl, hB1⟩

end Go.Proofs.YtfcanpebagpdbaaGreat

/- How the graphs' functions lay new tables: empty ones, copies. No conditions but small sizes. -/
import Derived.Test.YtblippeklbhepaaTab
import Derived.Test.YtblippeklbhepaaTrim
import Derived.Test.YtblippeklbhepaaGraph
namespace Go.Proofs.Ytblippeklbhepaa
open Go.RowKit

/-- What a graph is, entry by entry. -/
theorem graphB_true {g : List (List Int)} (h : graphB g = true) : 1 ≤ g.length ∧ g.length ≤ 8 ∧ (∀ i, i < g.length → (row g i).length = g.length) ∧ ∀ i j, i < g.length → j < g.length → 0 ≤ ent g i j ∧ ent g i j ≤ 9 := by
  simp only [graphB, Bool.and_eq_true, inB_true, List.all_eq_true] at h
  obtain ⟨⟨h1, h2⟩, h3⟩ := h
  have hr : ∀ i, i < g.length → rowB g.length (row g i) = true := fun i hi => h3 _ (by rw [row_eq hi]; exact List.getElem_mem hi)
  have hl : ∀ i, i < g.length → (row g i).length = g.length := fun i hi => by
    have := hr i hi
    simp only [rowB, Bool.and_eq_true, decide_eq_true_eq] at this
    exact this.1
  refine ⟨by omega, by omega, hl, fun i j hi hj => ?_⟩
  have := hr i hi
  simp only [rowB, Bool.and_eq_true, decide_eq_true_eq, allB, List.all_eq_true, inB_true] at this
  have hj' : j < (row g i).length := by rw [hl i hi]; exact hj
  exact this.2 _ (nth_mem hj')
theorem graphB_sz {g : List (List Int)} (h : graphB g = true) : szIntSS g ≤ 72 ∧ g.length ≤ 8 := by
  obtain ⟨h1, h2, h3, _⟩ := graphB_true h
  rw [eq_tab rfl h3, sz_tab, tab_len]
  have : g.length * g.length ≤ 8 * 8 := Nat.mul_le_mul h2 h2
  omega
theorem RowsV.graph {w : World} {v : Value} {g : List (List Int)} {n : Nat} (h : RowsV w v g) (hg : graphB g = true) (hn : g.length = n) :
    ∃ b off cap ro rof rc, v = .slice (some ⟨b, off, none⟩) n cap ∧ GR w b off n n ro rof rc (ent g) := by
  subst hn
  obtain ⟨h1, _, h3, _⟩ := graphB_true hg
  obtain ⟨b, off, cap, ro, rof, rc, e, _, _, h⟩ := h.gr rfl h1 h1 h3
  exact ⟨b, off, cap, ro, rof, rc, e, h⟩

/-- A state is a place. -/
theorem inB_nat {x : Int} {n : Nat} (h : inB x 0 ((n : Int) - 1) = true) : ∃ a : Nat, x = a ∧ a < n := by
  have := inB_true.1 h
  exact ⟨x.toNat, by omega, by omega⟩

/-- A slice literal of two ints. -/
theorem IntsV.two (w : World) (x y : Int) : IntsV (w.alloc (.cells #[.int .i64 x, .int .i64 y] 3)) (.slice (some ⟨w.heap.size, 0, none⟩) 2 2) [x, y] := by
  refine ⟨_, 2, rfl, ⟨Nat.le_refl _, fun e => by cases e⟩, by simp [maxLen], fun i hi => ⟨_, _, rfl, ?_⟩⟩
  have : i = 0 ∨ i = 1 := by simp at hi; omega
  rw [World.cell?_alloc_at _ _ _ _ rfl]
  rcases this with rfl | rfl <;> simp [nth]

set_option maxHeartbeats 400000 in
theorem emptyGraph_any (n : Nat) (w : World) (hn : n ≤ 1048576) (h0 : 0 < n) :
    Calls Try.prog 76 #[.int .i64 n] w (RetM n n (fun _ _ => 0) w) := by
  obtain ⟨i, hi, hz0, hz1, hz2⟩ := info_parts Try.infoInts
  obtain ⟨i2, hi2, hy0, hy1, hy2⟩ := info_parts Try.infoInt
  go_enter Try.func76, Try.ntmps76
  go_wp2_with (at_make; refine wpList_make_full _ rfl _ _ 23 rfl w.heap.size 39 i _ 1 Try.underlying23 hi hz0 hz1 _ _ _ _ n rfl rfl rfl rfl (by rw [hz2]; omega) (by unfold maxLen; omega) (Nat.le_refl _) ?_)
  intro w1 hown hgrow
  have hB1 : Below w.heap.size w w1 := below_made (Below.refl _ _) (Nat.le_refl _) hgrow
  have hp : MatP w1 w.heap.size w1.heap.size w.heap.size n n 0 n (fun _ => 0) (fun _ => 0) (fun _ _ => 0) := MatP.zero (rows_made hown) _ _ _
  clear hown hgrow hi hz0 hz1 hz2
  go_wp2
  go_loopw [9] (fun i wr => ∃ (k : Nat) (rb rc : Nat → Nat), k ≤ n ∧ i = .int .i64 k ∧ MatP wr w.heap.size wr.heap.size w.heap.size n n k n rb rc (fun _ _ => 0) ∧ Below w.heap.size w wr) (fun i _ => n - (intOf i).toNat)
  case atStart => exact ⟨0, _, _, Nat.zero_le _, rfl, hp, hB1⟩
  case round =>
    obtain ⟨k, rb, rc, hk, rfl, hp', hB⟩ := hrel
    clear hp hB1
    obtain ⟨wo, rfl⟩ : ∃ wo : World, wo = wr := ⟨_, rfl⟩
    by_cases hlt : k < n
    · have hs := hB.size
      go_wp2_with (at_make; refine wpList_make_full _ rfl _ _ 39 rfl w.heap.size 3 i2 _ 1 Try.underlying39 hi2 hy0 hy1 _ _ _ _ n rfl rfl rfl rfl (by rw [hy2]; omega) (by unfold maxLen; omega) hs ?_)
      intro w2 hown hgrow
      have hB2 : Below wo.heap.size wo w2 := below_made (Below.refl _ _) (Nat.le_refl _) hgrow
      have ho := row_made hown
      rw [lst_zero] at ho
      have hp2 := hp'.below hB2 (Nat.le_refl _)
      have hc := hp2.cell hlt
      have hf := hp2.frozen k
      have hput := hp2.put hlt ho (Nat.le_refl _) ho.lt.2
      have hB3 := (hB.trans (hB2.mono hB.size)).setCell (p := ⟨w.heap.size, k, none⟩) (Nat.le_refl _) (.slice (some ⟨wo.heap.size, 0, none⟩) n n)
      have hput' := Lib.hid hput
      have hB3' := Lib.hid hB3
      clear hput hB3
      clear hown hgrow hp' hp2 ho hB2 hB
      go_wp2
      go_roundw
      case rel => exact ⟨k + 1, _, _, by omega, by go_num, by simpa [World.setCell] using (hput'.out).congr (fun i j _ _ => by split <;> rfl), hB3'.out⟩
      case measure => simp [intOf]; omega
    · obtain rfl : k = n := by omega
      have hall := hp'.all
      clear hp'
      go_wp2
      go_ret
      exact ⟨_, _, _, _, rfl, hall, hB⟩

set_option maxHeartbeats 400000 in
theorem copyGraph_any (v : Value) (g : List (List Int)) (n : Nat) (w : World) (hv : RowsV w v g) (hg : graphB g = true) (hn : g.length = n) :
    Calls Try.prog 78 #[v] w (RetM n n (ent g) w) := by
  obtain ⟨b, off, gcap, ro, rof, rcc, rfl, H⟩ := hv.graph hg hn
  obtain ⟨n1, n8, -, -⟩ := graphB_true hg
  rw [hn] at n1 n8
  obtain ⟨i, hi, hz0, hz1, hz2⟩ := info_parts Try.infoInts
  have H' := Lib.hid H
  have hn' := Lib.hid hn
  have hg' := Lib.hid hg
  clear H hn hg
  clear hv
  go_enter Try.func78, Try.ntmps78
  go_wp2_with (at_make; refine wpList_make_full _ rfl _ _ 23 rfl w.heap.size 39 i _ 1 Try.underlying23 hi hz0 hz1 _ _ _ _ n rfl rfl rfl rfl (by rw [hz2]; omega) (by unfold maxLen; omega) (Nat.le_refl _) ?_)
  intro w1 hown hgrow
  have hB1 : Below w.heap.size w w1 := below_made (Below.refl _ _) (Nat.le_refl _) hgrow
  have hp : MatP w1 w.heap.size w1.heap.size w.heap.size n n 0 n (fun _ => 0) (fun _ => 0) (ent g) := MatP.zero (rows_made hown) _ _ _
  clear hown hgrow hi hz0 hz1 hz2
  go_wp2
  go_loopw [10] (fun i wr => ∃ (k : Nat) (rb rc : Nat → Nat), k ≤ n ∧ i = .int .i64 k ∧ MatP wr w.heap.size wr.heap.size w.heap.size n n k n rb rc (ent g) ∧ Below w.heap.size w wr) (fun i _ => n - (intOf i).toNat)
  case atStart => exact ⟨0, _, _, Nat.zero_le _, rfl, hp, hB1⟩
  case round =>
    obtain ⟨k, rb, rc, hk, rfl, hp', hB⟩ := hrel
    clear hp hB1
    obtain ⟨wo, rfl⟩ : ∃ wo : World, wo = wr := ⟨_, rfl⟩
    by_cases hlt : k < n
    · have Hk := (H'.out.below hB)
      obtain ⟨h1, -, -⟩ := Hk k hlt
      have hcall := clone_any _ _ wo (Hk.ints hlt) (by rw [lst_len]; omega)
      have hcall' := Lib.hid hcall
      have Hk' := Lib.hid Hk
      clear hcall Hk
      go_wp2_with fail
      refine hcall'.out.mono ?_
      rintro e w2 ⟨u, rfl, ho, hB2⟩
      obtain ⟨r, c, rfl, hr1, hr2, hr⟩ := ho.at (lst_len _ _) n1
      have hp2 := hp'.below hB2 (Nat.le_refl _)
      have hc := hp2.cell hlt
      have hf := hp2.frozen k
      have hput := hp2.put hlt (hr.mono hB.size) hr1 hr2
      have hB3 := (hB.trans (hB2.mono hB.size)).setCell (p := ⟨w.heap.size, k, none⟩) (Nat.le_refl _) (.slice (some ⟨r, 0, none⟩) n c)
      have hput' := Lib.hid hput
      have hB3' := Lib.hid hB3
      clear hput hB3
      clear hp' hp2 ho hr hB2 hB h1
      go_wp2
      go_roundw
      case rel => exact ⟨k + 1, _, _, by omega, by go_num, by simpa [World.setCell] using (hput'.out).congr (fun i j _ _ => by split <;> (try subst_vars) <;> rfl), hB3'.out⟩
      case measure => simp [intOf]; omega
    · obtain rfl : k = n := by omega
      have hall := hp'.all
      clear hp'
      go_wp2
      go_ret
      exact ⟨_, _, _, _, rfl, hall, hB⟩

set_option maxHeartbeats 400000 in
theorem grOwn_any (v : Value) (g : List (List Int)) (n : Nat) (w : World) (hv : RowsV w v g) (hg : graphB g = true) (hn : g.length = n) :
    Calls Try.prog 79 #[v] w (RetM n n (ent g) w) := by
  obtain ⟨b, off, gcap, ro, rof, rcc, rfl, H⟩ := hv.graph hg hn
  obtain ⟨n1, n8, -, -⟩ := graphB_true hg
  rw [hn] at n1 n8
  have H' := Lib.hid H
  have hn' := Lib.hid hn
  have hg' := Lib.hid hg
  clear H hn hg
  clear hv
  go_enter Try.func79, Try.ntmps79
  go_wp2
  go_loopw [3, 8] (fun o i wr => ∃ (k : Nat) (rb rc : Nat → Nat), k ≤ n ∧ i = .int .i64 k ∧ GrowT wr w.heap.size wr.heap.size o k n rb rc (ent g) ∧ Below w.heap.size w wr) (fun _ i _ => n - (intOf i).toNat)
  case atStart => exact ⟨0, fun _ => 0, fun _ => 0, Nat.zero_le _, rfl, GrowT.nil _ _ _ _ _ _ _, Below.refl _ _⟩
  case round =>
    obtain ⟨k, rb, rc, hk, rfl, hp, hB⟩ := hrel
    obtain ⟨wo, rfl⟩ : ∃ wo : World, wo = wr := ⟨_, rfl⟩
    by_cases hlt : k < n
    · have Hk := (H'.out.below hB)
      obtain ⟨h1, -, -⟩ := Hk k hlt
      have hcall := l1Own_any _ _ wo (Hk.ints hlt) (by rw [lst_len]; omega)
      have hcall' := Lib.hid hcall
      have Hk' := Lib.hid Hk
      clear hcall Hk
      go_wp2_with fail
      refine hcall'.out.mono ?_
      rintro e w2 ⟨u, rfl, ho, hB2⟩
      obtain ⟨r, c, rfl, hr1, hr2, hr⟩ := ho.at (lst_len _ _) n1
      have hp2 := hp.kept hB2
      have hrr := hr.mono hB.size
      have hB3 := hB.trans (hB2.mono hB.size)
      have hs3 := hB3.size
      clear hp ho hr hB2 hB h1
      go_wp2_with (at_builtin; refine wpList_append_row rfl _ _ rfl w.heap.size _ _ k n r c _ _ _ _ _ rfl rfl hp2 hrr hr1 (by omega) hs3 ?_)
      intro v' w3 hp3 hg3
      have hB4 : Below w.heap.size w w3 := hB3.grown hg3 hs3 (fun j hj => by have := (World.ownsRow.lt hp2.outer j hj).1; omega)
      have hp3' := Lib.hid hp3
      have hB4' := Lib.hid hB4
      clear hp3 hB4
      clear hg3 hp2 hrr hB3
      go_wp2
      go_roundw
      case rel => exact ⟨k + 1, _, _, by omega, by go_num, (hp3'.out).congr (fun i j _ _ => by split <;> (try subst_vars) <;> rfl), hB4'.out⟩
      case measure => simp [intOf]; omega
    · obtain rfl : k = n := by omega
      obtain ⟨gg, cap, rfl, hall⟩ := hp.form n1
      clear hp
      go_wp2
      go_ret
      exact ⟨_, _, _, _, rfl, hall, hB⟩

theorem isState_any (v : Value) (g : List (List Int)) (k : Int) (w : World) (hv : RowsV w v g) (hm : g.length ≤ 1099511627776) :
    Calls Try.prog 73 #[v, .int .i64 k] w (Same (.bool (inB k 0 ((g.length : Int) - 1))) w) := by
  obtain ⟨ao, cap, rfl, -, -, -⟩ := hv
  generalize g.length = n at *
  go_enter Try.func73, Try.ntmps73
  go_wp2_with fail
  refine (within_any _ _ _ _).mono ?_
  rintro e w_ ⟨rfl, rfl⟩
  go_wp2
  go_ret
  exact ⟨rfl, rfl⟩

/-- A graph, and states of it. -/
def hasB (g : List (List Int)) (xs : List Int) : Bool := graphB g && allB xs 0 ((g.length : Int) - 1)
theorem grHas_any (v u : Value) (g : List (List Int)) (xs : List Int) (w : World) (hv : RowsV w v g) (hu : IntsV w u xs) (hm : szIntSS g ≤ 1099511627776) (hm2 : xs.length ≤ 1099511627776) :
    Calls Try.prog 74 #[v, u] w (Same (.bool (hasB g xs)) w) := by
  have c1 := grGood_any v g w hv hm
  have hl : g.length ≤ 1099511627776 := by unfold szIntSS at hm; omega
  have c2 := l1All_any u xs 0 ((g.length : Int) - 1) w hu hm2
  obtain ⟨ao, cap, rfl, -, -, -⟩ := hv
  clear hm hm2 hu
  unfold hasB
  have c1' := Lib.hid c1
  have c2' := Lib.hid c2
  clear c1 c2
  cases h : graphB g
  · rw [h] at c1'
    generalize g.length = n at *
    clear c2' h
    go_enter Try.func74, Try.ntmps74
    go_wp2_with fail
    refine (c1'.out).mono ?_
    rintro e w_ ⟨rfl, rfl⟩
    go_wp2
    go_ret
    exact ⟨rfl, rfl⟩
  · rw [h] at c1'
    rw [Bool.true_and]
    generalize g.length = n at *
    clear h
    go_enter Try.func74, Try.ntmps74
    go_wp2_with fail
    refine (c1'.out).mono ?_
    rintro e w_ ⟨rfl, rfl⟩
    go_wp2_with fail
    refine (c2'.out).mono ?_
    rintro e w_ ⟨rfl, rfl⟩
    go_wp2
    go_ret
    exact ⟨rfl, rfl⟩

theorem grSteps_any (n : Int) (w : World) : Calls Try.prog 67 #[.int .i64 n] w (Same (.bool (inB n 0 12)) w) := by
  go_enter Try.func67, Try.ntmps67
  go_wp2_with fail
  refine (l1In_any _ _ _ _).mono ?_
  rintro e w_ ⟨rfl, rfl⟩
  go_wp2
  go_ret
  exact ⟨rfl, rfl⟩
theorem isWalk_any (v : Value) (g : List (List Int)) (k : Int) (w : World) (hv : RowsV w v g) (hm : szIntSS g ≤ 1099511627776) :
    Calls Try.prog 61 #[v, .int .i64 k] w (Ret (.bool (graphB g && inB k 0 12)) w) := by
  have c1 := isGraph_any v g w hv hm
  have c1' := Lib.hid c1
  clear c1
  clear hv hm
  cases h : graphB g
  · rw [h] at c1'
    clear h
    go_enter Try.func61, Try.ntmps61
    go_wp2_with fail
    refine (c1'.out).mono ?_
    rintro e w1 ⟨rfl, hB⟩
    go_wp2
    go_ret
    exact ⟨rfl, hB⟩
  · rw [h] at c1'
    rw [Bool.true_and]
    clear h
    go_enter Try.func61, Try.ntmps61
    go_wp2_with fail
    refine (c1'.out).mono ?_
    rintro e w1 ⟨rfl, hB⟩
    go_wp2_with fail
    refine (within_any _ _ _ _).mono ?_
    rintro e w_ ⟨rfl, rfl⟩
    go_wp2
    go_ret
    exact ⟨rfl, hB⟩

end Go.Proofs.Ytblippeklbhepaa

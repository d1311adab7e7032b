/- Which states reach which: the program's table. No conditions but small sizes. -/
import Derived.Test.YtblippeklbhepaaTabs
import Derived.Test.YtblippeklbhepaaBool
namespace Go.Proofs.Ytblippeklbhepaa
open Go.RowKit

/-- There is a way from i to j whose states between are less than k. -/
def fw (e : Nat → Nat → Bool) : Nat → Nat → Nat → Bool
  | 0 => e
  | k + 1 => fun i j => fw e k i j || (fw e k i k && fw e k k j)
theorem fw_succ (e : Nat → Nat → Bool) (k i j : Nat) : fw e (k + 1) i j = (fw e k i j || (fw e k i k && fw e k k j)) := rfl
theorem fw_col (e : Nat → Nat → Bool) (k i : Nat) : fw e (k + 1) i k = fw e k i k := by
  rw [fw_succ]; cases fw e k i k <;> simp
theorem fw_row (e : Nat → Nat → Bool) (k j : Nat) : fw e (k + 1) k j = fw e k k j := by
  rw [fw_succ]; cases fw e k k k <;> cases fw e k k j <;> rfl
/-- There is an arrow. -/
def edge (g : Nat → Nat → Int) (i j : Nat) : Bool := decide (0 < g i j)
/-- The states that reach each other. -/
def rcB (g : List (List Int)) : Nat → Nat → Bool := fw (edge (ent g)) g.length

theorem fw_trans (e : Nat → Nat → Bool) : ∀ k i m j, m < k → fw e k i m = true → fw e k m j = true → fw e k i j = true := by
  intro k
  induction k with
  | zero => intro i m j hm; exact absurd hm (Nat.not_lt_zero m)
  | succ k ih =>
    intro i m j hm h1 h2
    by_cases hk : m = k
    · subst hk
      rw [fw_col] at h1
      rw [fw_row] at h2
      rw [fw_succ, h1, h2]; simp
    · have hm' : m < k := by omega
      rw [fw_succ, Bool.or_eq_true, Bool.and_eq_true] at h1 h2 ⊢
      rcases h1 with h1 | ⟨h1, h1'⟩
      · rcases h2 with h2 | ⟨h2, h2'⟩
        · exact .inl (ih i m j hm' h1 h2)
        · exact .inr ⟨ih i m k hm' h1 h2, h2'⟩
      · rcases h2 with h2 | ⟨h2, h2'⟩
        · exact .inr ⟨h1, ih k m j hm' h1' h2⟩
        · exact .inr ⟨h1, h2'⟩
theorem fw_edge (e : Nat → Nat → Bool) : ∀ k i j, e i j = true → fw e k i j = true := by
  intro k
  induction k with
  | zero => intro i j h; exact h
  | succ k ih => intro i j h; rw [fw_succ, ih i j h]; rfl
theorem fw_min (e : Nat → Nat → Bool) (P : Nat → Nat → Prop) (n : Nat) (h1 : ∀ i j, i < n → j < n → e i j = true → P i j) (h2 : ∀ i m j, i < n → m < n → j < n → P i m → P m j → P i j) :
    ∀ k, k ≤ n → ∀ i j, i < n → j < n → fw e k i j = true → P i j := by
  intro k
  induction k with
  | zero => intro _ i j hi hj h; exact h1 i j hi hj h
  | succ k ih =>
    intro hk i j hi hj h
    rw [fw_succ, Bool.or_eq_true, Bool.and_eq_true] at h
    rcases h with h | ⟨h, h'⟩
    · exact ih (by omega) i j hi hj h
    · exact h2 i k j hi (by omega) hj (ih (by omega) i k hi (by omega) h) (ih (by omega) k j (by omega) hj h')
theorem rcB_edge {g : List (List Int)} {i j : Nat} (h : 0 < ent g i j) : rcB g i j = true := fw_edge _ _ _ _ (decide_eq_true h)
theorem rcB_trans {g : List (List Int)} {i m j : Nat} (hm : m < g.length) (h1 : rcB g i m = true) (h2 : rcB g m j = true) : rcB g i j = true := fw_trans _ _ _ _ _ hm h1 h2
theorem rcB_min {g : List (List Int)} (P : Nat → Nat → Prop) (h1 : ∀ i j, i < g.length → j < g.length → 0 < ent g i j → P i j) (h2 : ∀ i m j, i < g.length → m < g.length → j < g.length → P i m → P m j → P i j) {i j : Nat} (hi : i < g.length) (hj : j < g.length) (h : rcB g i j = true) : P i j :=
  fw_min _ P g.length (fun i j hi hj h => h1 i j hi hj (of_decide_eq_true h)) h2 _ (Nat.le_refl _) i j hi hj h

/-- A table of bools of which the first k rows have been laid; row k is v; the other ones are nil. -/
structure MatQ (w : World) (B E g n k m : Nat) (rb rc : Nat → Nat) (f : Nat → Nat → Bool) (v : Value) : Prop where
  outer : RowsAtB w B g n n (rowsOf rb rc k m ++ v :: List.replicate (n - (k + 1)) (.slice none 0 0))
  rows : ∀ i, i < k → RowAtB w B (rb i) m (rc i) (lstB m (f i))
  inj : ∀ i j, i < k → j < k → rb i = rb j → i = j
  top : g < E ∧ ∀ i, i < k → rb i < E
theorem MatPB.toQ {w : World} {B E g n k m : Nat} {rb rc : Nat → Nat} {f : Nat → Nat → Bool} (h : MatPB w B E g n n k m rb rc f) (hk : k < n) : MatQ w B E g n k m rb rc f (.slice none 0 0) :=
  ⟨by have := h.outer; rw [show n - k = (n - (k + 1)) + 1 by omega, List.replicate_succ] at this; exact this, h.rows, h.inj, h.top⟩
theorem MatQ.cell {w : World} {B E g n k m : Nat} {rb rc : Nat → Nat} {f : Nat → Nat → Bool} {v : Value} (h : MatQ w B E g n k m rb rc f v) : w.cell? ⟨g, k, none⟩ = some v :=
  h.outer.cell (by rw [List.getElem?_append_right (by rw [rowsOf_len]; exact Nat.le_refl _), rowsOf_len, Nat.sub_self]; rfl)
theorem MatQ.frozen {w : World} {B E g n k m : Nat} {rb rc : Nat → Nat} {f : Nat → Nat → Bool} {v : Value} (h : MatQ w B E g n k m rb rc f v) (j : Nat) : w.frozen? ⟨g, j, none⟩ = false := h.outer.frozen j
theorem MatQ.grown {w w' : World} {B E g n k m : Nat} {rb rc : Nat → Nat} {f : Nat → Nat → Bool} {v : Value} {r : Option Nat} (h : MatQ w B E g n k m rb rc f v) (hg : w.grownBy w' r) (hr : ∀ b, r = some b → E ≤ b) : MatQ w' B E g n k m rb rc f v :=
  ⟨World.ownsRow.kept h.outer hg (.inr (by
      simp only [Value.ownBlock]
      intro e
      have := hr g e.symm
      have := h.top.1
      omega)),
    fun i hi => (h.rows i hi).kept hg (fun e => by have := hr _ e; have := h.top.2 i hi; omega), h.inj, h.top⟩
theorem MatQ.set {w : World} {B E g n k m : Nat} {rb rc : Nat → Nat} {f : Nat → Nat → Bool} {v : Value} (h : MatQ w B E g n k m rb rc f v) (v' : Value) : MatQ (w.setCell ⟨g, k, none⟩ v') B E g n k m rb rc f v' := by
  have ht : Turned g (g + 1) w (w.setCell ⟨g, k, none⟩ v') := (Turned.refl _ _ w).setCell (p := ⟨g, k, none⟩) (Nat.le_refl _) (Nat.lt_succ_self _) _
  refine ⟨?_, fun i hi => (h.rows i hi).turned ht (by have := typesApartB h.outer (h.rows i hi); omega), h.inj, h.top⟩
  have := h.outer.stored k v'
  rw [List.set_append_right _ _ (by rw [rowsOf_len]; exact Nat.le_refl _), rowsOf_len, Nat.sub_self, List.set_cons_zero] at this
  exact this
theorem MatQ.toP {w : World} {B E E' g n k m r c : Nat} {rb rc : Nat → Nat} {f : Nat → Nat → Bool} {h' : Nat → Bool} (h : MatQ w B E g n k m rb rc f (.slice (some ⟨r, 0, none⟩) m c)) (hr : RowAtB w B r m c (lstB m h')) (h1 : E ≤ r) (h2 : r < E') :
    MatPB w B E' g n n (k + 1) m (fun i => if i = k then r else rb i) (fun i => if i = k then c else rc i) (fun i => if i = k then h' else f i) := by
  have hgr := h.top.1
  refine ⟨?_, fun j hj => ?_, fun i j hi hj e => ?_, by omega, fun i hi => ?_⟩
  · have := h.outer
    rw [show rowsOf rb rc k m ++ Value.slice (some ⟨r, 0, none⟩) m c :: List.replicate (n - (k + 1)) (Value.slice none 0 0) = rowsOf (fun i => if i = k then r else rb i) (fun i => if i = k then c else rc i) (k + 1) m ++ List.replicate (n - (k + 1)) (Value.slice none 0 0) by
      rw [rowsOf_succ, show rowsOf (fun i => if i = k then r else rb i) (fun i => if i = k then c else rc i) k m = rowsOf rb rc k m from rowsOf_congr fun j hj => by rw [if_neg (by omega), if_neg (by omega)]; exact ⟨rfl, rfl⟩]
      rw [List.append_assoc]
      simp] at this
    exact this
  · by_cases e : j = k
    · subst e
      simp only [if_true]
      exact hr
    · simp only [if_neg e]
      exact h.rows j (by omega)
  · have hlt : ∀ i, i < k + 1 → i ≠ k → rb i ≠ r := fun i hi he => by have := h.top.2 i (by omega); omega
    by_cases ei : i = k
    · by_cases ej : j = k
      · omega
      · rw [if_pos ei, if_neg ej] at e
        exact absurd e.symm (hlt j hj ej)
    · by_cases ej : j = k
      · rw [if_neg ei, if_pos ej] at e
        exact absurd e (hlt i hi ei)
      · rw [if_neg ei, if_neg ej] at e
        exact h.inj i j (by omega) (by omega) e
  · by_cases e : i = k
    · rw [if_pos e]; exact h2
    · rw [if_neg e]; have := h.top.2 i (by omega); omega

/-- It returns a new table of n rows of n bools. -/
def RetMB (n : Nat) (f : Nat → Nat → Bool) (w : World) (e : Ending) (w' : World) : Prop :=
  ∃ g rb rc, e = .returned (.slice (some ⟨g, 0, none⟩) n n) ∧ MatTB w' w.heap.size w'.heap.size g n n n rb rc f ∧ Below w.heap.size w w'
theorem MatTB.drew {w : World} {B E g n cap m : Nat} {rb rc : Nat → Nat} {f : Nat → Nat → Bool} (h : MatTB w B E g n cap m rb rc f) : MatTB w.drew B E g n cap m rb rc f := ⟨h.outer, h.rows, h.inj, h.top⟩
theorem Turned.drewN' {B E : Nat} {w w' : World} (h : Turned B E w w') : Turned B E w w'.drew := ⟨h.os, h.tape, h.output, h.size, h.block⟩

/-- The table while round K runs. -/
def fwF (e : Nat → Nat → Bool) (K I J a c : Nat) : Bool := if a < I ∨ (a = I ∧ c < J) then fw e (K + 1) a c else fw e K a c
theorem fwF_at (e : Nat → Nat → Bool) (K I J : Nat) : fwF e K I J I J = fw e K I J := by unfold fwF; rw [if_neg (by omega)]
theorem fwF_col (e : Nat → Nat → Bool) (K I J : Nat) : fwF e K I J I K = fw e K I K := by
  unfold fwF; split
  · exact fw_col _ _ _
  · rfl
theorem fwF_row (e : Nat → Nat → Bool) (K I J : Nat) : fwF e K I J K J = fw e K K J := by
  unfold fwF; split
  · exact fw_row _ _ _
  · rfl
theorem fwF_step (e : Nat → Nat → Bool) (K I J a c : Nat) : updB (fwF e K I J) I J (fw e (K + 1) I J) a c = fwF e K I (J + 1) a c := by
  simp only [updB, fwF]
  by_cases h : a = I ∧ c = J
  · rw [if_pos h, if_pos (by omega), h.1, h.2]
  · rw [if_neg h]
    by_cases h2 : a < I ∨ a = I ∧ c < J
    · rw [if_pos h2, if_pos (by omega)]
    · rw [if_neg h2, if_neg (by omega)]

set_option maxRecDepth 100000 in
set_option maxHeartbeats 4000000 in
theorem reach_any (v : Value) (g : List (List Int)) (n : Nat) (w : World) (hv : RowsV w v g) (hg : graphB g = true) (hn : g.length = n) :
    Calls Try.prog 103 #[v] w (RetMB n (rcB g) w) := by
  have hrc : rcB g = fw (edge (ent g)) n := by unfold rcB; rw [hn]
  rw [hrc]
  obtain ⟨b, off, gcap, ro, rof, rcc, rfl, H⟩ := hv.graph hg hn
  obtain ⟨n1, n8, -, -⟩ := graphB_true hg
  rw [hn] at n1 n8
  obtain ⟨e, he⟩ : ∃ e, edge (ent g) = e := ⟨_, rfl⟩
  have hed : ∀ i j, decide (0 < ent g i j) = e i j := fun i j => by rw [← he]; rfl
  rw [he]
  obtain ⟨i, hi, hz0, hz1, hz2⟩ := info_parts Try.infoBools
  have H' := Lib.hid H
  have hn' := Lib.hid hn
  have hg' := Lib.hid hg
  have he' := Lib.hid he
  have hrc' := Lib.hid hrc
  have hed' := Lib.hid hed
  clear H hn hg he hrc hed
  clear hv
  go_enter Try.func103, Try.ntmps103
  go_wp2_with (at_make; refine wpList_make_full _ rfl _ _ 92 rfl w.heap.size 94 i _ 1 Try.underlying92 hi hz0 hz1 _ _ _ _ n rfl rfl rfl rfl (by rw [hz2]; omega) (by unfold maxLen; omega) (Nat.le_refl _) ?_)
  intro w1 hown hgrow
  have hB1 : Below w.heap.size w w1 := below_made (Below.refl _ _) (Nat.le_refl _) hgrow
  have hp : MatPB w1 w.heap.size w1.heap.size w.heap.size n n 0 n (fun _ => 0) (fun _ => 0) (fw e 0) := MatPB.zero (rows_madeB hown) _ _ _
  clear hown hgrow hi hz0 hz1 hz2
  go_wp2
  go_loopw [16] (fun i wr => ∃ (k : Nat) (rb rc : Nat → Nat), k ≤ n ∧ i = .int .i64 k ∧ MatPB wr w.heap.size wr.heap.size w.heap.size n n k n rb rc (fw e 0) ∧ Below w.heap.size w wr) (fun i _ => n - (intOf i).toNat)
  case atStart => exact ⟨0, _, _, Nat.zero_le _, rfl, hp, hB1⟩
  case round =>
    obtain ⟨k, rb, rc, hk, rfl, hp', hB⟩ := hrel
    clear hp hB1
    obtain ⟨wo, rfl⟩ : ∃ wo : World, wo = wr := ⟨_, rfl⟩
    by_cases hlt : k < n
    · have hq := hp'.toQ hlt
      have h1 := (H'.out.below hB k hlt).1
      clear hp'
      have hq' := Lib.hid hq
      clear hq
      go_wp2
      go_loopw [23] (fun i wr => ∃ (j : Nat) (v : Value), j ≤ n ∧ i = .int .i64 j ∧ MatQ wr w.heap.size wo.heap.size w.heap.size n k n rb rc (fw e 0) v ∧ GrowB wr wo.heap.size v (lstB j (fw e 0 k)) ∧ Below w.heap.size w wr ∧ wo.heap.size ≤ wr.heap.size) (fun i _ => n - (intOf i).toNat)
      case atStart => exact ⟨0, _, Nat.zero_le _, rfl, hq'.out, GrowB.nil _ _, hB, Nat.le_refl _⟩
      case round =>
        obtain ⟨j, v, hj, rfl, hq, hr, hB2, hsz⟩ := hrel
        clear hq'
        obtain ⟨wi, rfl⟩ : ∃ wi : World, wi = wr := ⟨_, rfl⟩
        by_cases hlt2 : j < n
        · have h4 := (H'.out.below hB2 k hlt).2.2 j hlt2
          have q1 := hq.cell
          have q2 := hq.frozen k
          have hx := hed'.out k j
          clear h1
          have hx' := Lib.hid hx
          clear hx
          go_wp2_with (at_builtin; refine wpList_append_intB rfl _ _ rfl wo.heap.size v (lstB j (fw e 0 k)) _ _ rfl rfl hr (by rw [lst_lenB]; omega) hsz ?_)
          intro v' w' hg' hgrow
          rw [hx'.out, show e k j = fw e 0 k j from rfl, ← lst_succB] at hg'
          have hq2 := hq.grown hgrow (fun b hb => (World.ownsRow.lt hr b hb).1)
          have hB4 := hr.belowB hB2 hB.size (by have := hB2.size; omega) hgrow
          have q3 := hq2.cell
          have q4 := hq2.frozen k
          have hex : ∃ r' c', v' = .slice (some ⟨r', 0, none⟩) (j + 1) c' := by
            obtain ⟨r', c', e, -⟩ := hg'.form (by rw [lst_lenB]; omega)
            rw [lst_lenB] at e
            exact ⟨r', c', e⟩
          obtain ⟨r', c', rfl⟩ := hex
          have hq3 := hq2.set (.slice (some ⟨r', 0, none⟩) (j + 1) c')
          have hs2 := hgrow.size
          have hg2 : GrowB (w'.setCell ⟨w.heap.size, k, none⟩ (.slice (some ⟨r', 0, none⟩) (j + 1) c')) wo.heap.size (.slice (some ⟨r', 0, none⟩) (j + 1) c') (lstB (j + 1) (fw e 0 k)) := by
            refine World.ownsRow.kept hg' (row := some w.heap.size) ?_ (.inr ?_)
            · exact ⟨rfl, rfl, rfl, by simp [World.setCell], fun b _ hb => Below.heap_setCell _ _ _ _ (by intro q; exact hb (by rw [q]))⟩
            · intro q
              have := (World.ownsRow.lt hg' w.heap.size q).1
              have := hq.top.1
              omega
          have hB5 := hB4.setCell (p := ⟨w.heap.size, k, none⟩) (Nat.le_refl _) (.slice (some ⟨r', 0, none⟩) (j + 1) c')
          have hq3' := Lib.hid hq3
          have hg2' := Lib.hid hg2
          have hB5' := Lib.hid hB5
          clear hq3 hg2 hB5
          clear hq hr hg' hq2 hB4 q1 q2 hgrow
          go_wp2
          go_roundw
          case rel => exact ⟨j + 1, _, by omega, by go_num, hq3'.out, hg2'.out, hB5'.out, by simp [World.setCell]; omega⟩
          case measure => simp [intOf]; omega
        · obtain rfl : n = j := by omega
          obtain ⟨r, c, rfl, hr1⟩ := hr.form (by rw [lst_lenB]; omega)
          rw [lst_lenB] at hr1 hq
          have hP := hq.toP (hr1.mono hB.size) hr1.lt.1 hr1.lt.2
          clear hq hr hr1
          have hP' := Lib.hid hP
          clear hP
          go_wp2
          go_roundw
          case rel => exact ⟨k + 1, _, _, by omega, by go_num, (hP'.out).congr (fun i j _ _ => by split <;> (try subst_vars) <;> rfl), hB2⟩
          case measure => simp [intOf]; omega
    · obtain rfl : n = k := by omega
      have hM := hp'.all
      clear hp'
      have hM' := Lib.hid hM
      clear hM
      go_wp2
      go_loopw [42] (fun i wr => ∃ K : Nat, K ≤ n ∧ i = .int .i64 K ∧ MatTB wr w.heap.size wo.heap.size w.heap.size n n n rb rc (fw e K) ∧ Turned w.heap.size wo.heap.size wo wr) (fun i _ => n - (intOf i).toNat)
      case atStart => exact ⟨0, Nat.zero_le _, rfl, hM'.out, Turned.refl _ _ _⟩
      case round =>
        obtain ⟨K, hK, rfl, hM2, ht⟩ := hrel
        clear hM'
        by_cases hltK : K < n
        · have hM2' := Lib.hid hM2
          clear hM2
          go_wp2
          go_loopw [47] (fun i wr => ∃ I : Nat, I ≤ n ∧ i = .int .i64 I ∧ MatTB wr w.heap.size wo.heap.size w.heap.size n n n rb rc (fwF e K I 0) ∧ Turned w.heap.size wo.heap.size wo wr) (fun i _ => n - (intOf i).toNat)
          case atStart => exact ⟨0, Nat.zero_le _, rfl, hM2'.out.congr (fun a c _ _ => by unfold fwF; rw [if_neg (by omega)]), ht⟩
          case round =>
            obtain ⟨I, hI, rfl, hM3, ht3⟩ := hrel
            clear hM2'
            by_cases hltI : I < n
            · have hM3' := Lib.hid hM3
              clear hM3
              go_wp2
              go_loopw [52] (fun i wr => ∃ J : Nat, J ≤ n ∧ i = .int .i64 J ∧ MatTB wr w.heap.size wo.heap.size w.heap.size n n n rb rc (fwF e K I J) ∧ Turned w.heap.size wo.heap.size wo wr) (fun i _ => n - (intOf i).toNat)
              case atStart => exact ⟨0, Nat.zero_le _, rfl, hM3'.out, ht3⟩
              case round =>
                obtain ⟨J, hJ, rfl, hM4, ht4⟩ := hrel
                clear hM3'
                by_cases hltJ : J < n
                · have p1 := hM4.ptr hltI
                  have p2 := hM4.cell hltI hltJ
                  have p3 := hM4.cell hltI hltK
                  have p4 := hM4.ptr hltK
                  have p5 := hM4.cell hltK hltJ
                  have p6 := hM4.frozen hltI J
                  rw [fwF_at] at p2
                  rw [fwF_col] at p3
                  rw [fwF_row] at p5
                  have hst := hM4.stored hltI J (fw e (K + 1) I J)
                  have ht5 := hM4.turn hltI J (fw e (K + 1) I J) ht4
                  have hsc := fw_succ e K I J
                  have hst2 := fwF_step e K I J
                  cases hx : fw e K I J
                  · cases hy : fw e K I K
                    · rw [hx, hy] at hsc
                      simp only [Bool.false_or, Bool.false_and] at hsc
                      rw [hsc] at hst ht5 hst2
                      rw [hx] at p2
                      rw [hy] at p3
                      have hst' := Lib.hid hst
                      have ht5' := Lib.hid ht5
                      have hst2' := Lib.hid hst2
                      clear hst ht5 hst2
                      clear hM4 hx hy hsc
                      go_wp2_with fail
                      go_region
                      all_goals go_wp2
                      go_roundw
                      case rel => exact ⟨J + 1, by omega, by go_num, (hst'.out.congr (fun a c _ _ => hst2'.out a c)).drew, ht5'.out.drewN'⟩
                      case measure => simp [intOf]; omega
                    · rw [hx, hy] at hsc
                      simp only [Bool.false_or, Bool.true_and] at hsc
                      rw [hsc] at hst ht5 hst2
                      rw [hx] at p2
                      rw [hy] at p3
                      have hst' := Lib.hid hst
                      have ht5' := Lib.hid ht5
                      have hst2' := Lib.hid hst2
                      clear hst ht5 hst2
                      clear hM4 hx hy hsc
                      go_wp2_with fail
                      go_region
                      all_goals go_wp2
                      go_roundw
                      case rel => exact ⟨J + 1, by omega, by go_num, (hst'.out.congr (fun a c _ _ => hst2'.out a c)).drew, ht5'.out.drewN'⟩
                      case measure => simp [intOf]; omega
                  · rw [hx] at hsc
                    simp only [Bool.true_or] at hsc
                    rw [hsc] at hst ht5 hst2
                    rw [hx] at p2
                    have hst' := Lib.hid hst
                    have ht5' := Lib.hid ht5
                    have hst2' := Lib.hid hst2
                    clear hst ht5 hst2
                    clear hM4 hx hsc
                    go_wp2_with fail
                    go_region
                    all_goals go_wp2
                    go_roundw
                    case rel => exact ⟨J + 1, by omega, by go_num, (hst'.out.congr (fun a c _ _ => hst2'.out a c)).drew, ht5'.out.drewN'⟩
                    case measure => simp [intOf]; omega
                · obtain rfl : n = J := by omega
                  go_wp2
                  go_roundw
                  case rel => exact ⟨I + 1, by omega, by go_num, hM4.congr (fun a c _ hc => by
                    unfold fwF
                    by_cases h2 : a < I + 1
                    · rw [if_pos (by omega), if_pos (by omega)]
                    · rw [if_neg (by omega), if_neg (by omega)]), ht4⟩
                  case measure => simp [intOf]; omega
            · obtain rfl : n = I := by omega
              go_wp2
              go_roundw
              case rel => exact ⟨K + 1, by omega, by go_num, hM3.congr (fun a c ha _ => by unfold fwF; rw [if_pos (by omega)]), ht3⟩
              case measure => simp [intOf]; omega
        · obtain rfl : n = K := by omega
          have hsz := ht.size
          have hfin := hM2.mono (Nat.le_refl _) (Nat.le_of_eq hsz.symm)
          have hBr := hB.trans ht.below
          have hfin' := Lib.hid hfin
          clear hfin
          clear hM2
          go_wp2
          go_ret
          exact ⟨_, _, _, rfl, hfin'.out, hBr⟩

end Go.Proofs.Ytblippeklbhepaa

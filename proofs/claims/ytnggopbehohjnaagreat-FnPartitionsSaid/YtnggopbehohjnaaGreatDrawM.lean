/- Drawn maps with cuts, drawn partitions, told loosely. No conditions but small sizes. -/
import Derived.Test.YtnggopbehohjnaaGreatDrawS
import Derived.Test.YtnggopbehohjnaaGreatRefI
namespace Go.Proofs.YtnggopbehohjnaaGreat
open Go.RowKit

theorem EndX.unit {f : List Quad} {lin : Bool} {r : List (Int × Int) × Bool} (hf : MapP f) (h : EndX f lin r) (hr : r.2 = true) : 0 < r.1.length ∧ r.1.length ≤ 9 ∧ ∀ x, x ∈ r.1 → unitR x.1 x.2 = true := by
  rcases h with ⟨rfl, _⟩ | ⟨_, h⟩
  · cases hr
  · refine ⟨List.length_pos_of_mem (h.1.2.1 (0, 1) (List.mem_cons_self ..)), h.2.1, fun x hx => ?_⟩
    have hc : ClosedD (atOk f) (atZ f) (refS f lin) (r.1.filter fun y => unitR y.1 y.2) := by
      refine ⟨fun y hy => List.mem_filter.2 ⟨h.1.2.1 y hy, refS_unit hf lin y hy⟩, fun y hy => ?_⟩
      obtain ⟨h1, h2⟩ := List.mem_filter.1 hy
      obtain ⟨h3, h4⟩ := h.2.2 y h1
      exact ⟨h3, List.mem_filter.2 ⟨h4, at_unit hf h2 h3⟩⟩
    exact (List.mem_filter.1 (h.1.2.2 _ hc x hx)).2
/-- It returns some map and some cuts that do not lie in the cursor's block. -/
def PicksM (c N : Nat) (w : World) (e : Ending) (w' : World) : Prop := ∃ v f u xs, e = .returned (.tuple #[v, u]) ∧ (QuadV w' v f ∧ Off c v ∧ f.length ≤ 13 ∧ AllI f) ∧ (RatsV w' u xs ∧ Off c u ∧ xs.length ≤ 12 ∧ ∀ x, x ∈ xs → I64R x) ∧ CurAt w' c N ∧ w.grownBy w' (some c)

set_option maxHeartbeats 1600000 in
theorem markov_any (c N : Nat) (w : World) (h : CurAt w c N) (hN : N ≤ 549755400000) :
    Calls Tryz.prog 201 #[.pointer (some ⟨c, 0, none⟩)] w (PicksM c (N + 1400) w) := by
  have hlt := h.lt
  have c1 := strictMap_any c N w h (by omega)
  clear h
  have c1' := Lib.hid c1
  clear c1
  go_enter Tryz.func201, Tryz.ntmps201
  go_wp2_with fail
  refine (c1'.out).mono ?_
  rintro e w1 ⟨v, f, rfl, hq, ho, hl, hI, hc1, hg1⟩
  have cg := imGood_any v f w1 hq (by omega)
  have cp := fun lin w' (hB : QuadV w' v f) (hm : mapB f = true) => mkPartition_any v f lin w' hB hm
  have hun := fun (hm : mapB f = true) lin r (hE : EndX f lin r) (h2 : r.2 = true) => hE.unit (mapB_true hm) h2
  generalize mapB f = M at *
  obtain ⟨ao, cap, rfl, -⟩ := hq.form
  obtain ⟨n, hn⟩ : ∃ n, f.length = n := ⟨_, rfl⟩
  rw [hn] at hq ho hl cg cp ⊢
  have cg' := Lib.hid cg
  have cp' := Lib.hid cp
  have hun' := Lib.hid hun
  have hq' := Lib.hid hq
  have ho' := Lib.hid ho
  have hI' := Lib.hid hI
  have hn' := Lib.hid hn
  clear cg cp hun hq ho hI hn
  go_wp2_with fail
  refine (cg'.out).mono ?_
  rintro e w2 ⟨rfl, hB2⟩
  have hq2 := hq'.out.below hB2
  have hc2 := hc1.below hB2 hc1.lt
  have hg2 := hg1.trans (bgrow hB2 (some c))
  clear hc1 hg1 hB2 hq'
  have hq2' := Lib.hid hq2
  have hg2' := Lib.hid hg2
  clear hq2 hg2
  cases M
  · go_wp2_with fail
    refine (cuts_any c _ w2 hc2 (by omega)).mono ?_
    rintro e w3 ⟨u, xs, rfl, hr, ⟨hou, -⟩, hrl, hri, hc3, hg3⟩
    have hq3 := hq2'.out.cellOff ho'.out hg3
    have hg4 := hg2'.out.trans hg3
    obtain ⟨ao3, cap3, rfl, -⟩ := hr.form
    clear hg3 hc2
    have hr' := Lib.hid hr
    have hou' := Lib.hid hou
    have hri' := Lib.hid hri
    have hq3' := Lib.hid hq3
    have hg4' := Lib.hid hg4
    have hc3' := Lib.hid hc3
    clear hr hou hri hq3 hg4 hc3
    go_wp2
    go_ret2
    exact ⟨_, f, _, xs, rfl, ⟨hq3'.out, ho'.out, by rw [hn'.out]; exact hl, hI'.out⟩, ⟨hr'.out, hou'.out, hrl, hri'.out⟩, hc3'.out.mono (by omega), hg4'.out⟩
  · go_wp2_with fail
    refine (one_any c _ 4 w2 hc2 (by omega) (by omega) (by omega)).mono ?_
    rintro e w3 ⟨v3, rfl, ⟨b, rfl⟩, hc3, hg3⟩
    have hq3 := hq2'.out.cellOff ho'.out hg3
    have hg4 := hg2'.out.trans hg3
    clear hg3 hc2 hq2' hg2'
    have hq3' := Lib.hid hq3
    have hg4' := Lib.hid hg4
    clear hq3 hg4
    cases b
    · go_wp2_with fail
      refine (one_any c _ 2 w3 hc3 (by omega) (by omega) (by omega)).mono ?_
      rintro e w4 ⟨v4, rfl, ⟨lin, rfl⟩, hc4, hg5⟩
      have hq4 := hq3'.out.cellOff ho'.out hg5
      have hg6 := hg4'.out.trans hg5
      have cm := cp'.out lin w4 hq4 (by first | rfl | trivial)
      clear hc3 hg5 hq3' hg4'
      have cm' := Lib.hid cm
      have hq4' := Lib.hid hq4
      have hg6' := Lib.hid hg6
      clear cm hq4 hg6
      go_wp2_with fail
      refine (cm'.out).mono ?_
      rintro e w5 ⟨u5, r, rfl, hE, hr5, hB5⟩
      have hq5 := hq4'.out.below hB5
      have hc5 := hc4.below hB5 hc4.lt
      have hg7 := hg6'.out.trans (bgrow hB5 (some c))
      have hun5 := hun'.out (by first | rfl | trivial) lin r hE
      have hs4 := hc4.lt
      obtain ⟨ao5, cap5, rfl, -⟩ := hr5.read.form
      obtain ⟨xs, ok⟩ := r
      simp only at hun5 hr5
      clear hB5 hc4 hE
      cases ok
      · clear hun5 hr5
        have hq5' := Lib.hid hq5
        have hg7' := Lib.hid hg7
        clear hq5 hg7
        go_wp2_with fail
        refine (cuts_any c _ w5 hc5 (by omega)).mono ?_
        rintro e w6 ⟨u, xs6, rfl, hr, ⟨hou, -⟩, hrl, hri, hc6, hg8⟩
        have hq6 := hq5'.out.cellOff ho'.out hg8
        have hg9 := hg7'.out.trans hg8
        obtain ⟨ao6, cap6, rfl, -⟩ := hr.form
        clear hg8 hc5
        have hr' := Lib.hid hr
        have hou' := Lib.hid hou
        have hri' := Lib.hid hri
        have hq6' := Lib.hid hq6
        have hg9' := Lib.hid hg9
        have hc6' := Lib.hid hc6
        clear hr hou hri hq6 hg9 hc6
        go_wp2
        go_ret2
        exact ⟨_, f, _, xs6, rfl, ⟨hq6'.out, ho'.out, by rw [hn'.out]; exact hl, hI'.out⟩, ⟨hr'.out, hou'.out, hrl, hri'.out⟩, hc6'.out.mono (by omega), hg9'.out⟩
      · obtain ⟨hx0, hx9, hxu⟩ := hun5 rfl
        have hou := (GrowR.ofOwn hr5 hx0).off hs4
        have hr := hr5.read
        have hri : ∀ x, x ∈ xs → I64R x := fun x hx => good_i64 (unitR_good (hxu x hx))
        clear hun5 hr5 hxu
        have hr' := Lib.hid hr
        have hou' := Lib.hid hou
        have hri' := Lib.hid hri
        have hq5' := Lib.hid hq5
        have hg7' := Lib.hid hg7
        have hc5' := Lib.hid hc5
        clear hr hou hri hq5 hg7 hc5
        go_wp2
        go_ret2
        exact ⟨_, f, _, xs, rfl, ⟨hq5'.out, ho'.out, by rw [hn'.out]; exact hl, hI'.out⟩, ⟨hr'.out, hou'.out, by omega, hri'.out⟩, hc5'.out.mono (by omega), hg7'.out⟩
    · go_wp2_with fail
      refine (cuts_any c _ w3 hc3 (by omega)).mono ?_
      rintro e w6 ⟨u, xs6, rfl, hr, ⟨hou, -⟩, hrl, hri, hc6, hg8⟩
      have hq6 := hq3'.out.cellOff ho'.out hg8
      have hg9 := hg4'.out.trans hg8
      obtain ⟨ao6, cap6, rfl, -⟩ := hr.form
      clear hg8 hc3
      have hr' := Lib.hid hr
      have hou' := Lib.hid hou
      have hri' := Lib.hid hri
      have hq6' := Lib.hid hq6
      have hg9' := Lib.hid hg9
      have hc6' := Lib.hid hc6
      clear hr hou hri hq6 hg9 hc6
      go_wp2
      go_ret2
      exact ⟨_, f, _, xs6, rfl, ⟨hq6'.out, ho'.out, by rw [hn'.out]; exact hl, hI'.out⟩, ⟨hr'.out, hou'.out, hrl, hri'.out⟩, hc6'.out.mono (by omega), hg9'.out⟩

/-- It returns some map and some cuts; all that was there is as it was. -/
def DrawFR (w : World) (e : Ending) (w' : World) : Prop := ∃ v f u xs, e = .returned (.tuple #[v, u]) ∧ (QuadV w' v f ∧ f.length ≤ 13 ∧ AllI f) ∧ (RatsV w' u xs ∧ xs.length ≤ 12 ∧ ∀ x, x ∈ xs → I64R x) ∧ Below w.heap.size w w'
theorem DrawIsMarkov_any (v : Value) (n : Nat) (w : World) (h : CodeV w v n) : Calls Tryz.prog 121 #[v] w (DrawFR w) := by
  have c1 := markov_any w.heap.size 0 _ (CurAt.start h) (by omega)
  obtain ⟨ao, cap, rfl, -, -⟩ := h
  have c1' := Lib.hid c1
  clear c1
  go_enter Tryz.func121, Tryz.ntmps121
  go_wp2_with fail
  refine (c1'.out).mono ?_
  rintro e w1 ⟨v, f, u, xs, rfl, ⟨hq, -, hl, hI⟩, ⟨hr, -, hrl, hri⟩, -, hg⟩
  have hB := start_below hg
  obtain ⟨_, _, rfl, -⟩ := hq.form
  obtain ⟨_, _, rfl, -⟩ := hr.form
  clear hg
  have hq' := Lib.hid hq
  have hr' := Lib.hid hr
  have hI' := Lib.hid hI
  have hri' := Lib.hid hri
  have hB' := Lib.hid hB
  clear hq hr hI hri hB
  go_wp2
  go_ret2
  exact ⟨_, f, _, xs, rfl, ⟨hq'.out, hl, hI'.out⟩, ⟨hr'.out, hrl, hri'.out⟩, hB'.out⟩
theorem DrawIsLinearMarkov_any (v : Value) (n : Nat) (w : World) (h : CodeV w v n) : Calls Tryz.prog 42 #[v] w (DrawFR w) := by
  have c1 := DrawIsMarkov_any v n w h
  obtain ⟨ao, cap, rfl, -, -⟩ := h
  have c1' := Lib.hid c1
  clear c1
  go_enter Tryz.func42, Tryz.ntmps42
  go_wp2_with fail
  refine (c1'.out).mono ?_
  rintro e w1 ⟨v, f, u, xs, rfl, ⟨hq, hl, hI⟩, ⟨hr, hrl, hri⟩, hB⟩
  obtain ⟨_, _, rfl, -⟩ := hq.form
  obtain ⟨_, _, rfl, -⟩ := hr.form
  have hq' := Lib.hid hq
  have hr' := Lib.hid hr
  have hI' := Lib.hid hI
  have hri' := Lib.hid hri
  have hB' := Lib.hid hB
  clear hq hr hI hri hB
  go_wp2
  go_ret2
  exact ⟨_, f, _, xs, rfl, ⟨hq'.out, hl, hI'.out⟩, ⟨hr'.out, hrl, hri'.out⟩, hB'.out⟩
/-- It returns two lists of fractions. -/
def DrawRR (w : World) (e : Ending) (w' : World) : Prop := ∃ v xs u ys, e = .returned (.tuple #[v, u]) ∧ (RatsV w' v xs ∧ xs.length ≤ 12 ∧ ∀ x, x ∈ xs → I64R x) ∧ (RatsV w' u ys ∧ ys.length ≤ 12 ∧ ∀ x, x ∈ ys → I64R x) ∧ Below w.heap.size w w'
theorem DrawMergePartitions_any (v : Value) (n : Nat) (w : World) (h : CodeV w v n) : Calls Tryz.prog 34 #[v] w (DrawRR w) := by
  have c1 := cuts_any w.heap.size 0 _ (CurAt.start h) (by omega)
  obtain ⟨ao, cap, rfl, -, -⟩ := h
  have c1' := Lib.hid c1
  clear c1
  go_enter Tryz.func34, Tryz.ntmps34
  go_wp2_with fail
  refine (c1'.out).mono ?_
  rintro e w1 ⟨v, xs, rfl, hr, ⟨ho, -⟩, hl, hI, hc1, hg⟩
  go_wp2_with fail
  refine (cuts_any w.heap.size _ w1 hc1 (by omega)).mono ?_
  rintro e w2 ⟨u, ys, rfl, hr2, ho2, hl2, hI2, hc2, hg2⟩
  have hr1 := hr.cellOff ho hg2
  have hB := start_below (hg.trans hg2)
  obtain ⟨_, _, rfl, -⟩ := hr1.form
  obtain ⟨_, _, rfl, -⟩ := hr2.form
  clear hg hg2 hc1 hc2 hr ho ho2
  have hr1' := Lib.hid hr1
  have hr2' := Lib.hid hr2
  have hI' := Lib.hid hI
  have hI2' := Lib.hid hI2
  have hB' := Lib.hid hB
  clear hr1 hr2 hI hI2 hB
  go_wp2
  go_ret2
  exact ⟨_, xs, _, ys, rfl, ⟨hr1'.out, hl, hI'.out⟩, ⟨hr2'.out, hl2, hI2'.out⟩, hB'.out⟩
/-- It returns a list of fractions. -/
def DrawRs (w : World) (e : Ending) (w' : World) : Prop := ∃ v xs, e = .returned v ∧ (RatsV w' v xs ∧ xs.length ≤ 12 ∧ ∀ x, x ∈ xs → I64R x) ∧ Below w.heap.size w w'
theorem rats4 (w : World) (p q r s : Int × Int) : RatsV (w.alloc (.cells #[.int .i64 p.1, .int .i64 p.2, .int .i64 q.1, .int .i64 q.2, .int .i64 r.1, .int .i64 r.2, .int .i64 s.1, .int .i64 s.2] 50)) (.slice (some ⟨w.heap.size, 0, none⟩) 4 4) [p, q, r, s] := by
  refine RatsV.mk (xs := [p, q, r, s]) ⟨Nat.le_refl _, fun e => by cases e⟩ (by simp [maxLen]) fun i hi => ?_
  have hi4 : i < 4 := hi
  obtain rfl | rfl | rfl | rfl : i = 0 ∨ i = 1 ∨ i = 2 ∨ i = 3 := by omega
  all_goals refine ⟨w.heap.size, 0, rfl, ?_, ?_⟩ <;> simp [go_sem, nthR]
set_option maxHeartbeats 800000 in
theorem DrawWidthsOf_any (v : Value) (n : Nat) (w : World) (h : CodeV w v n) : Calls Tryz.prog 28 #[v] w (DrawRs w) := by
  have c1 := one_any w.heap.size 0 12 _ (CurAt.start h) (by omega) (by omega) (by omega)
  obtain ⟨ao, cap, rfl, -, -⟩ := h
  have c1' := Lib.hid c1
  clear c1
  go_enter Tryz.func28, Tryz.ntmps28
  go_wp2_with fail
  refine (c1'.out).mono ?_
  rintro e w1 ⟨v, rfl, ⟨b, rfl⟩, hc1, hg⟩
  cases b
  · go_wp2_with fail
    refine (cuts_any w.heap.size _ w1 hc1 (by omega)).mono ?_
    rintro e w2 ⟨u, ys, rfl, hr2, ho2, hl2, hI2, hc2, hg2⟩
    have hB := start_below (hg.trans hg2)
    obtain ⟨_, _, rfl, -⟩ := hr2.form
    clear hg hg2 hc1 hc2 ho2
    have hr2' := Lib.hid hr2
    have hI2' := Lib.hid hI2
    have hB' := Lib.hid hB
    clear hr2 hI2 hB
    go_wp2
    go_ret
    exact ⟨_, ys, rfl, ⟨hr2'.out, hl2, hI2'.out⟩, hB'.out⟩
  · have hB1 := start_below hg
    clear hg hc1
    have hB1' := Lib.hid hB1
    clear hB1
    go_wp2_with fail
    refine (raInt_any 0 _).mono ?_
    rintro e w2 ⟨rfl, hB2⟩
    go_wp2_with fail
    refine (raInt_any 1 _).mono ?_
    rintro e w3 ⟨rfl, hB3⟩
    have hB := hB1'.out.trans ((hB2.mono hB1'.out.size).trans (hB3.mono (Nat.le_trans hB1'.out.size hB2.size)))
    have hr := rats4 w3 (0, 1) (1, 1000000000) (1, 99999) (1, 1)
    have hI : ∀ x, x ∈ [((0 : Int), (1 : Int)), (1, 1000000000), (1, 99999), (1, 1)] → I64R x := fun x hx => by
      have : goodR x.1 x.2 = true := by
        simp only [List.mem_cons, List.not_mem_nil, or_false] at hx
        rcases hx with rfl | rfl | rfl | rfl <;> decide
      exact good_i64 this
    have hBF := hB.alloc hB.size (.cells #[.int .i64 0, .int .i64 1, .int .i64 1, .int .i64 1000000000, .int .i64 1, .int .i64 99999, .int .i64 1, .int .i64 1] 50)
    clear hB2 hB3 hB
    have hr' := Lib.hid hr
    have hI' := Lib.hid hI
    have hBF' := Lib.hid hBF
    clear hr hI hBF
    go_wp2
    go_ret
    exact ⟨_, _, rfl, ⟨hr'.out, (show 4 ≤ 12 by decide), hI'.out⟩, hBF'.out⟩
end Go.Proofs.YtnggopbehohjnaaGreat

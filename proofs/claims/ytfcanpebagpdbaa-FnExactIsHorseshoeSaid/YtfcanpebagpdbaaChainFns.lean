/- ChainFaults, IsChain, IsLoopOf: the program's and the reference's. No conditions. -/
import Derived.Test.YtfcanpebagpdbaaChFaults
import Derived.Test.YtfcanpebagpdbaaRunsThrough
namespace Go.Proofs.Ytfcanpebagpdbaa
open Go.RowKit

theorem chain_no {f l : List Quad} (h : ¬ (mapB f = true ∧ ivsB l = true)) : (mapB f && ivsB l) = false := by
  rw [← Bool.not_eq_true, Bool.and_eq_true]; exact h
theorem ChainFaults_yes {f l : List Quad} (h : mapB f = true ∧ ivsB l = true) : ChainFaults_v f l = cf_v f l := by unfold ChainFaults_v; rw [if_pos h]
theorem ChainFaults_no {f l : List Quad} (h : ¬ (mapB f = true ∧ ivsB l = true)) : ChainFaults_v f l = ([], false) := by unfold ChainFaults_v; rw [if_neg h]

/-- No fault but the last one's. -/
def chB (r : List Int × Bool) (n : Nat) : Bool × Bool := if r.2 = true then (decide (r.1.length = 0) || decide (nth r.1 0 = (n : Int) - 1), true) else (false, false)
def lpB (r : List Int × Bool) : Bool × Bool := if r.2 = true then (decide (r.1.length = 0), true) else (false, false)
def IsChain_v (f l : List Quad) : Bool × Bool := chB (ChainFaults_v f l) l.length
def IsLoopOf_v (f l : List Quad) : Bool × Bool := lpB (ChainFaults_v f l)

theorem chainFaults_any (v : Value) (f : List Quad) (u : Value) (l : List Quad) (w : World) (hv : QuadV w v f) (hm : szPointS f ≤ 1099511627776) (hu : QuadV w u l) (hn : szIntervalS l ≤ 1099511627776) :
    Calls Try.prog 78 #[v, u] w (RetOB Own (ChainFaults_v f l) w) := by
  have c1 := asked_isMap_any v u f l w hv hu hm hn
  by_cases h : mapB f = true ∧ ivsB l = true
  · rw [ChainFaults_yes h]
    rw [h.1, h.2] at c1
    exact chainFaults_in v u f l w hv hu (mapB_true h.1) h.2 c1
  · rw [ChainFaults_no h]
    rw [chain_no h] at c1
    clear hv hu h
    have c1' := Lib.hid c1
    clear c1
    go_enter Try.func78, Try.ntmps78
    go_wp2_with fail
    refine (c1'.out).mono ?_
    rintro e w1 ⟨rfl, hB1⟩
    go_wp2
    go_ret2
    exact ⟨_, rfl, Own.nil _ _ _, hB1⟩
theorem implChainFaults_any (v : Value) (f : List Quad) (u : Value) (l : List Quad) (w : World) (hv : QuadV w v f) (hm : szPointS f ≤ 1099511627776) (hu : QuadV w u l) (hn : szIntervalS l ≤ 1099511627776) :
    Calls Try.prog 46 #[v, u] w (RetOB Own (ChainFaults_v f l) w) := by
  have c1 := chainFaults_any v f u l w hv hm hu hn
  generalize ChainFaults_v f l = R at *
  obtain ⟨L, B⟩ := R
  clear hv hu
  have c1' := Lib.hid c1
  clear c1
  go_enter Try.func46, Try.ntmps46
  go_wp2_with fail
  refine (c1'.out).mono ?_
  rintro e w1 ⟨s, rfl, hs, hB1⟩
  have hs' := Lib.hid hs
  clear hs
  go_wp2
  go_ret2
  exact ⟨_, rfl, hs'.out, hB1⟩
theorem specChainFaults_any (v : Value) (f : List Quad) (u : Value) (l : List Quad) (w : World) (hv : QuadV w v f) (hm : szPointS f ≤ 1099511627776) (hu : QuadV w u l) (hn : szIntervalS l ≤ 1099511627776) :
    Calls Try.prog 45 #[v, u] w (RetOB Own (ChainFaults_v f l) w) := by
  have c1 := asked_imGood_any v u f l w hv hu hm hn
  by_cases h : mapB f = true ∧ ivsB l = true
  · rw [ChainFaults_yes h]
    rw [h.1, h.2] at c1
    have c2 := fun w' (hB : Below w.heap.size w w') => chFaults_any v u f l w' (hv.below hB) (hu.below hB) (mapB_true h.1) h.2
    generalize cf_v f l = R at *
    obtain ⟨L, B⟩ := R
    clear hv hu h
    have c1' := Lib.hid c1
    have c2' := Lib.hid c2
    clear c1 c2
    go_enter Try.func45, Try.ntmps45
    go_wp2_with fail
    refine (c1'.out).mono ?_
    rintro e w1 ⟨rfl, hB1⟩
    have hs1 := hB1.size
    go_wp2_with fail
    refine (c2'.out _ hB1).mono ?_
    rintro e w2 ⟨s, rfl, hs, hB2⟩
    have hb2 := hB1.trans (hB2.mono hs1)
    have hs' := Lib.hid hs
    clear hs
    go_wp2
    go_ret2
    exact ⟨_, rfl, hs'.out.mono hs1 (Nat.le_refl _), hb2⟩
  · rw [ChainFaults_no h]
    rw [chain_no h] at c1
    clear hv hu h
    have c1' := Lib.hid c1
    clear c1
    go_enter Try.func45, Try.ntmps45
    go_wp2_with fail
    refine (c1'.out).mono ?_
    rintro e w1 ⟨rfl, hB1⟩
    go_wp2
    go_ret2
    exact ⟨_, rfl, Own.nil _ _ _, hB1⟩
/-- The first cell of a list that is not empty; its length. -/
theorem IntsV.head {w : World} {v : Value} {xs : List Int} (h : IntsV w v xs) : ∃ ao cap, v = .slice ao xs.length cap ∧ (0 < xs.length → ∃ b off, ao = some ⟨b, off, none⟩ ∧ w.cell? ⟨b, off, none⟩ = some (.int .i64 (nth xs 0))) := by
  obtain ⟨ao, cap, rfl, _, _, H⟩ := h
  exact ⟨ao, cap, rfl, fun h0 => H 0 h0⟩

set_option maxHeartbeats 800000 in
theorem implIsChain_any (v : Value) (f : List Quad) (u : Value) (l : List Quad) (w : World) (hv : QuadV w v f) (hm : szPointS f ≤ 1099511627776) (hu : QuadV w u l) (hn : szIntervalS l ≤ 1099511627776) :
    Calls Try.prog 36 #[v, u] w (Ret (.tuple #[.bool (IsChain_v f l).1, .bool (IsChain_v f l).2]) w) := by
  have c1 := chainFaults_any v f u l w hv hm hu hn
  unfold IsChain_v
  have hlen := ChainFaults_len f l
  replace hn : l.length ≤ 1099511627776 := hn
  obtain ⟨ao, cap, rfl, _, _, _⟩ := hu.form
  generalize ChainFaults_v f l = R at *
  generalize l.length = n at *
  obtain ⟨L, B⟩ := R
  simp only at hlen
  clear hv hu
  have hwi : IntKind.i64.wrap ((n : Int) - 1) = (n : Int) - 1 := by rw [IntKind.wrap_i64]; omega
  have c1' := Lib.hid c1
  clear c1
  cases B
  · have hR : chB (L, false) n = (false, false) := rfl
    rw [hR]
    go_enter Try.func36, Try.ntmps36
    go_wp2_with fail
    refine (c1'.out).mono ?_
    rintro e w1 ⟨s, rfl, hs, hB1⟩
    clear hs
    go_wp2
    go_ret2
    exact ⟨rfl, hB1⟩
  · have hR : chB (L, true) n = (decide (L.length = 0) || decide (nth L 0 = (n : Int) - 1), true) := rfl
    rw [hR]
    clear hR
    generalize hz : nth L 0 = z at *
    by_cases h0 : L.length = 0
    · rw [decide_eq_true h0, Bool.true_or]
      go_enter Try.func36, Try.ntmps36
      go_wp2_with fail
      refine (c1'.out).mono ?_
      rintro e w1 ⟨s, rfl, hs, hB1⟩
      obtain ⟨so, scap, rfl, _⟩ := IntsV.head hs.read
      rw [h0]
      clear hs h0
      go_wp2
      go_ret2
      exact ⟨rfl, hB1⟩
    · rw [decide_eq_false h0, Bool.false_or]
      obtain ⟨m, hm0⟩ : ∃ m, L.length = m + 1 := ⟨L.length - 1, by omega⟩
      by_cases h1 : z = (n : Int) - 1
      · rw [decide_eq_true h1]
        have hd0 : decide ((m + 1 : Nat) = 0) = false := rfl
        have h0' := Lib.hid h0
        have hd0' := Lib.hid hd0
        clear h0 hd0
        go_enter Try.func36, Try.ntmps36
        go_wp2_with fail
        refine (c1'.out).mono ?_
        rintro e w1 ⟨s, rfl, hs, hB1⟩
        obtain ⟨so, scap, rfl, hh⟩ := IntsV.head hs.read
        obtain ⟨b, off, rfl, hc⟩ := hh (by rw [hm0]; omega)
        rw [hz] at hc
        rw [hm0]
        clear hs hh
        have hm0' := Lib.hid hm0
        have hz' := Lib.hid hz
        clear hm0 hz
        go_wp2
        go_ret2
        exact ⟨by first | (simp; done) | (simp; omega), hB1⟩
      · rw [decide_eq_false h1]
        have h0' := Lib.hid h0
        clear h0
        go_enter Try.func36, Try.ntmps36
        go_wp2_with fail
        refine (c1'.out).mono ?_
        rintro e w1 ⟨s, rfl, hs, hB1⟩
        obtain ⟨so, scap, rfl, hh⟩ := IntsV.head hs.read
        obtain ⟨b, off, rfl, hc⟩ := hh (by rw [hm0]; omega)
        rw [hz] at hc
        rw [hm0]
        clear hs hh
        have hm0' := Lib.hid hm0
        have hz' := Lib.hid hz
        clear hm0 hz
        go_wp2
        go_ret2
        exact ⟨by first | (simp; done) | (simp; omega), hB1⟩
set_option maxHeartbeats 800000 in
theorem specIsChain_any (v : Value) (f : List Quad) (u : Value) (l : List Quad) (w : World) (hv : QuadV w v f) (hm : szPointS f ≤ 1099511627776) (hu : QuadV w u l) (hn : szIntervalS l ≤ 1099511627776) :
    Calls Try.prog 35 #[v, u] w (Ret (.tuple #[.bool (IsChain_v f l).1, .bool (IsChain_v f l).2]) w) := by
  have c0 := asked_imGood_any v u f l w hv hu hm hn
  unfold IsChain_v
  by_cases h : mapB f = true ∧ ivsB l = true
  · have hlen := ChainFaults_len f l
    rw [ChainFaults_yes h] at hlen ⊢
    rw [h.1, h.2] at c0
    have c1 := fun w' (hB : Below w.heap.size w w') => chFaults_any v u f l w' (hv.below hB) (hu.below hB) (mapB_true h.1) h.2
    replace hn : l.length ≤ 1099511627776 := hn
    obtain ⟨ao, cap, rfl, _, _, _⟩ := hu.form
    generalize cf_v f l = R at *
    generalize l.length = n at *
    obtain ⟨L, B⟩ := R
    simp only at hlen
    clear hv hu h
    have hwi : IntKind.i64.wrap ((n : Int) - 1) = (n : Int) - 1 := by rw [IntKind.wrap_i64]; omega
    have c0' := Lib.hid c0
    have c1' := Lib.hid c1
    clear c0 c1
    cases B
    · have hR : chB (L, false) n = (false, false) := rfl
      rw [hR]
      go_enter Try.func35, Try.ntmps35
      go_wp2_with fail
      refine (c0'.out).mono ?_
      rintro e w0 ⟨rfl, hB0⟩
      have hs0 := hB0.size
      go_wp2_with fail
      refine (c1'.out _ hB0).mono ?_
      rintro e w1 ⟨s, rfl, hs, hB1⟩
      have hb1 := hB0.trans (hB1.mono hs0)
      clear hs
      go_wp2
      go_ret2
      exact ⟨rfl, hb1⟩
    · have hR : chB (L, true) n = (decide (L.length = 0) || decide (nth L 0 = (n : Int) - 1), true) := rfl
      rw [hR]
      clear hR
      generalize hz : nth L 0 = z at *
      by_cases h0 : L.length = 0
      · rw [decide_eq_true h0, Bool.true_or]
        go_enter Try.func35, Try.ntmps35
        go_wp2_with fail
        refine (c0'.out).mono ?_
        rintro e w0 ⟨rfl, hB0⟩
        have hs0 := hB0.size
        go_wp2_with fail
        refine (c1'.out _ hB0).mono ?_
        rintro e w1 ⟨s, rfl, hs, hB1⟩
        have hb1 := hB0.trans (hB1.mono hs0)
        obtain ⟨so, scap, rfl, _⟩ := IntsV.head hs.read
        rw [h0]
        clear hs h0
        go_wp2
        go_ret2
        exact ⟨rfl, hb1⟩
      · rw [decide_eq_false h0, Bool.false_or]
        obtain ⟨m, hm0⟩ : ∃ m, L.length = m + 1 := ⟨L.length - 1, by omega⟩
        by_cases h1 : z = (n : Int) - 1
        · rw [decide_eq_true h1]
          have h0' := Lib.hid h0
          clear h0
          go_enter Try.func35, Try.ntmps35
          go_wp2_with fail
          refine (c0'.out).mono ?_
          rintro e w0 ⟨rfl, hB0⟩
          have hs0 := hB0.size
          go_wp2_with fail
          refine (c1'.out _ hB0).mono ?_
          rintro e w1 ⟨s, rfl, hs, hB1⟩
          have hb1 := hB0.trans (hB1.mono hs0)
          obtain ⟨so, scap, rfl, hh⟩ := IntsV.head hs.read
          obtain ⟨b, off, rfl, hc⟩ := hh (by rw [hm0]; omega)
          rw [hz] at hc
          rw [hm0]
          clear hs hh
          have hm0' := Lib.hid hm0
          have hz' := Lib.hid hz
          clear hm0 hz
          go_wp2
          go_ret2
          exact ⟨by first | (simp; done) | (simp; omega), hb1⟩
        · rw [decide_eq_false h1]
          have h0' := Lib.hid h0
          clear h0
          go_enter Try.func35, Try.ntmps35
          go_wp2_with fail
          refine (c0'.out).mono ?_
          rintro e w0 ⟨rfl, hB0⟩
          have hs0 := hB0.size
          go_wp2_with fail
          refine (c1'.out _ hB0).mono ?_
          rintro e w1 ⟨s, rfl, hs, hB1⟩
          have hb1 := hB0.trans (hB1.mono hs0)
          obtain ⟨so, scap, rfl, hh⟩ := IntsV.head hs.read
          obtain ⟨b, off, rfl, hc⟩ := hh (by rw [hm0]; omega)
          rw [hz] at hc
          rw [hm0]
          clear hs hh
          have hm0' := Lib.hid hm0
          have hz' := Lib.hid hz
          clear hm0 hz
          go_wp2
          go_ret2
          exact ⟨by first | (simp; done) | (simp; omega), hb1⟩
  · have hR : chB ([], false) l.length = (false, false) := rfl
    rw [ChainFaults_no h, hR]
    rw [chain_no h] at c0
    clear hv hu h hR
    have c0' := Lib.hid c0
    clear c0
    go_enter Try.func35, Try.ntmps35
    go_wp2_with fail
    refine (c0'.out).mono ?_
    rintro e w1 ⟨rfl, hB1⟩
    go_wp2
    go_ret2
    exact ⟨rfl, hB1⟩
set_option maxHeartbeats 800000 in
theorem implIsLoopOf_of (v u : Value) (R : List Int × Bool) (w : World) (hlen : R.1.length ≤ 1099511627776)
    (c1 : Calls Try.prog 78 #[v, u] w (RetOB Own R w)) :
    Calls Try.prog 38 #[v, u] w (Ret (.tuple #[.bool (lpB R).1, .bool (lpB R).2]) w) := by
  obtain ⟨L, B⟩ := R
  simp only at hlen
  have c1' := Lib.hid c1
  clear c1
  cases B
  · have hR : lpB (L, false) = (false, false) := rfl
    rw [hR]
    go_enter Try.func38, Try.ntmps38
    go_wp2_with fail
    refine (c1'.out).mono ?_
    rintro e w1 ⟨s, rfl, hs, hB1⟩
    clear hs
    go_wp2
    go_ret2
    exact ⟨rfl, hB1⟩
  · have hR : lpB (L, true) = (decide (L.length = 0), true) := rfl
    rw [hR]
    clear hR
    go_enter Try.func38, Try.ntmps38
    go_wp2_with fail
    refine (c1'.out).mono ?_
    rintro e w1 ⟨s, rfl, hs, hB1⟩
    obtain ⟨so, scap, rfl, _⟩ := IntsV.head hs.read
    clear hs
    generalize L.length = m at *
    by_cases h0 : m = 0
    · subst h0
      go_wp2
      go_ret2
      exact ⟨rfl, hB1⟩
    · have h1 : decide ((m : Int) = 0) = false := decide_eq_false (by omega)
      go_wp2
      go_ret2
      exact ⟨by first | rfl | (simp [h0]; done), hB1⟩
set_option maxHeartbeats 800000 in
theorem chLoop_of (v u : Value) (R : List Int × Bool) (w : World) (hlen : R.1.length ≤ 1099511627776)
    (c1 : Calls Try.prog 77 #[v, u] w (RetOB Own R w)) :
    Calls Try.prog 79 #[v, u] w (Ret (.tuple #[.bool (lpB R).1, .bool (lpB R).2]) w) := by
  obtain ⟨L, B⟩ := R
  simp only at hlen
  have c1' := Lib.hid c1
  clear c1
  cases B
  · have hR : lpB (L, false) = (false, false) := rfl
    rw [hR]
    go_enter Try.func79, Try.ntmps79
    go_wp2_with fail
    refine (c1'.out).mono ?_
    rintro e w1 ⟨s, rfl, hs, hB1⟩
    clear hs
    go_wp2
    go_ret2
    exact ⟨rfl, hB1⟩
  · have hR : lpB (L, true) = (decide (L.length = 0), true) := rfl
    rw [hR]
    clear hR
    go_enter Try.func79, Try.ntmps79
    go_wp2_with fail
    refine (c1'.out).mono ?_
    rintro e w1 ⟨s, rfl, hs, hB1⟩
    obtain ⟨so, scap, rfl, _⟩ := IntsV.head hs.read
    clear hs
    generalize L.length = m at *
    by_cases h0 : m = 0
    · subst h0
      go_wp2
      go_ret2
      exact ⟨rfl, hB1⟩
    · have h1 : decide ((m : Int) = 0) = false := decide_eq_false (by omega)
      go_wp2
      go_ret2
      exact ⟨by first | rfl | (simp [h0]; done), hB1⟩
theorem implIsLoopOf_any (v : Value) (f : List Quad) (u : Value) (l : List Quad) (w : World) (hv : QuadV w v f) (hm : szPointS f ≤ 1099511627776) (hu : QuadV w u l) (hn : szIntervalS l ≤ 1099511627776) :
    Calls Try.prog 38 #[v, u] w (Ret (.tuple #[.bool (IsLoopOf_v f l).1, .bool (IsLoopOf_v f l).2]) w) :=
  implIsLoopOf_of v u _ w (ChainFaults_len f l) (chainFaults_any v f u l w hv hm hu hn)
theorem chLoop_any (v : Value) (f : List Quad) (u : Value) (l : List Quad) (w : World) (hv : QuadV w v f) (hu : QuadV w u l) (hf : MapP f) (hl : ivsB l = true) :
    Calls Try.prog 79 #[v, u] w (Ret (.tuple #[.bool (lpB (cf_v f l)).1, .bool (lpB (cf_v f l)).2]) w) := by
  refine chLoop_of v u _ w ?_ (chFaults_any v u f l w hv hu hf hl)
  have := (ivsB_true hl).1
  unfold cf_v
  split
  · have := cfK_len f l l.length
    show (cfK f l l.length).length ≤ _
    omega
  · simp
theorem specIsLoopOf_any (v : Value) (f : List Quad) (u : Value) (l : List Quad) (w : World) (hv : QuadV w v f) (hm : szPointS f ≤ 1099511627776) (hu : QuadV w u l) (hn : szIntervalS l ≤ 1099511627776) :
    Calls Try.prog 37 #[v, u] w (Ret (.tuple #[.bool (IsLoopOf_v f l).1, .bool (IsLoopOf_v f l).2]) w) := by
  have c0 := asked_imGood_any v u f l w hv hu hm hn
  unfold IsLoopOf_v
  by_cases h : mapB f = true ∧ ivsB l = true
  · rw [ChainFaults_yes h]
    rw [h.1, h.2] at c0
    have c1 := fun w' (hB : Below w.heap.size w w') => chLoop_any v f u l w' (hv.below hB) (hu.below hB) (mapB_true h.1) h.2
    generalize lpB (cf_v f l) = R at *
    obtain ⟨r1, r2⟩ := R
    clear hv hu h
    have c0' := Lib.hid c0
    have c1' := Lib.hid c1
    clear c0 c1
    go_enter Try.func37, Try.ntmps37
    go_wp2_with fail
    refine (c0'.out).mono ?_
    rintro e w0 ⟨rfl, hB0⟩
    have hs0 := hB0.size
    go_wp2_with fail
    refine (c1'.out _ hB0).mono ?_
    rintro e w1 ⟨rfl, hB1⟩
    have hb1 := hB0.trans (hB1.mono hs0)
    go_wp2
    go_ret2
    exact ⟨rfl, hb1⟩
  · have hR : lpB ([], false) = (false, false) := rfl
    rw [ChainFaults_no h, hR]
    rw [chain_no h] at c0
    clear hv hu h hR
    have c0' := Lib.hid c0
    clear c0
    go_enter Try.func37, Try.ntmps37
    go_wp2_with fail
    refine (c0'.out).mono ?_
    rintro e w1 ⟨rfl, hB1⟩
    go_wp2
    go_ret2
    exact ⟨rfl, hB1⟩

end Go.Proofs.Ytfcanpebagpdbaa

/- RunsThrough: the program's and the reference's. No conditions. -/
import Derived.Test.YtfcanpebagpdbaaRuns
import Derived.Test.YtfcanpebagpdbaaChRuns
import Derived.Test.YtfcanpebagpdbaaPkH
namespace Go.Proofs.Ytfcanpebagpdbaa
open Go.RowKit

theorem asked_isMap_any (v u : Value) (f l : List Quad) (w : World) (hv : QuadV w v f) (hu : QuadV w u l) (hm : f.length ≤ 1099511627776) (hn : l.length ≤ 1099511627776) :
    Calls Try.prog 57 #[v, u] w (Ret (.bool (mapB f && ivsB l)) w) := by
  have c1 := isMap_any v f w hv hm
  have c2 := fun w' (hB : Below w.heap.size w w') => areIntervals_any u l w' (hu.below hB) hn
  generalize mapB f = M at *
  generalize ivsB l = I at *
  clear hv hu
  have c1' := Lib.hid c1
  have c2' := Lib.hid c2
  clear c1 c2
  go_enter Try.func57, Try.ntmps57
  go_wp2_with fail
  refine (c1'.out).mono ?_
  rintro e w1 ⟨rfl, hB1⟩
  cases M
  · go_wp2
    go_ret
    exact ⟨rfl, hB1⟩
  · have hs1 := hB1.size
    go_wp2_with fail
    refine (c2'.out _ hB1).mono ?_
    rintro e w2 ⟨rfl, hB2⟩
    have hb2 := hB1.trans (hB2.mono hs1)
    go_wp2
    go_ret
    exact ⟨rfl, hb2⟩
theorem asked_imGood_any (v u : Value) (f l : List Quad) (w : World) (hv : QuadV w v f) (hu : QuadV w u l) (hm : f.length ≤ 1099511627776) (hn : l.length ≤ 1099511627776) :
    Calls Try.prog 53 #[v, u] w (Ret (.bool (mapB f && ivsB l)) w) := by
  have c1 := imGood_any v f w hv hm
  have c2 := fun w' (hB : Below w.heap.size w w') => ivList_any u l w' (hu.below hB) hn
  generalize mapB f = M at *
  generalize ivsB l = I at *
  clear hv hu
  have c1' := Lib.hid c1
  have c2' := Lib.hid c2
  clear c1 c2
  go_enter Try.func53, Try.ntmps53
  go_wp2_with fail
  refine (c1'.out).mono ?_
  rintro e w1 ⟨rfl, hB1⟩
  cases M
  · go_wp2
    go_ret
    exact ⟨rfl, hB1⟩
  · have hs1 := hB1.size
    go_wp2_with fail
    refine (c2'.out _ hB1).mono ?_
    rintro e w2 ⟨rfl, hB2⟩
    have hb2 := hB1.trans (hB2.mono hs1)
    go_wp2
    go_ret
    exact ⟨rfl, hb2⟩

set_option maxHeartbeats 800000 in
theorem implRunsThrough_any (v : Value) (f : List Quad) (u : Value) (l : List Quad) (x : Int × Int) (w : World) (hv : QuadV w v f) (hm : szPointS f ≤ 1099511627776) (hu : QuadV w u l) (hn : szIntervalS l ≤ 1099511627776) (_hi : I64R x) :
    Calls Try.prog 19 #[v, u, .agg #[.int .i64 x.1, .int .i64 x.2]] w (Ret (.tuple #[.bool (RunsThrough_v f l x).1, .bool (RunsThrough_v f l x).2]) w) := by
  have c1 := fun w' (hB : Below w.heap.size w w') => asked_isMap_any v u f l w' (hv.below hB) (hu.below hB) hm hn
  have c2 := fun w' => isUnit_any x.1 x.2 w'
  have c3 := fun w' (hB : Below w.heap.size w w') (h1 : (mapB f && ivsB l) = true) (h2 : unitR x.1 x.2 = true) => runsThrough_any v u f l x w' (hv.below hB) (hu.below hB) (mapB_true (by rw [Bool.and_eq_true] at h1; exact h1.1)) (by rw [Bool.and_eq_true] at h1; exact h1.2) h2
  have e1 : (mapB f && ivsB l) = true → unitR x.1 x.2 = true → RunsThrough_v f l x = runs_v f l x := fun h1 h2 => by
    rw [Bool.and_eq_true] at h1
    unfold RunsThrough_v
    rw [if_pos ⟨h1.1, h1.2, h2⟩]
  have e2 : ¬ ((mapB f && ivsB l) = true ∧ unitR x.1 x.2 = true) → RunsThrough_v f l x = (false, false) := fun h => by
    unfold RunsThrough_v
    rw [if_neg (fun h' => h ⟨by rw [h'.1, h'.2.1]; rfl, h'.2.2⟩)]
  generalize RunsThrough_v f l x = R at *
  generalize runs_v f l x = L at *
  generalize (mapB f && ivsB l) = M at *
  generalize unitR x.1 x.2 = U at *
  clear hv hu
  obtain ⟨x0, x1⟩ := x
  simp only at c2 c3
  obtain ⟨w0, hw0⟩ : ∃ W, w.alloc (.cells #[.int .i64 x0, .int .i64 x1] 34) = W := ⟨_, rfl⟩
  have hB0 : Below w.heap.size w w0 := by rw [← hw0]; exact (Below.refl _ _).alloc (Nat.le_refl _) _
  have hx0 : w0.cell? ⟨w.heap.size, 0, none⟩ = some (.int .i64 x0) := by rw [← hw0]; simp [go_sem]
  have hx1 : w0.cell? ⟨w.heap.size, 1, none⟩ = some (.int .i64 x1) := by rw [← hw0]; simp [go_sem]
  have c1' := Lib.hid c1
  have c2' := Lib.hid c2
  have c3' := Lib.hid c3
  have e1' := Lib.hid e1
  have e2' := Lib.hid e2
  have hw0' := Lib.hid hw0
  clear c1 c2 c3 e1 e2 hw0
  show Calls _ _ #[_, _, .agg #[.int .i64 x0, .int .i64 x1]] w _
  cases M
  · have hR : R = (false, false) := e2'.out (by simp)
    subst hR
    clear e1' e2' c3' c2'
    go_enter Try.func19, Try.ntmps19
    go_wp2_with fail
    rw [hw0'.out]
    go_wp2_with fail
    refine (c1'.out _ hB0).mono ?_
    rintro e w1 ⟨rfl, hB1⟩
    have hb1 := hB0.trans (hB1.mono hB0.size)
    go_wp2
    go_ret2
    exact ⟨rfl, hb1⟩
  · cases U
    · have hR : R = (false, false) := e2'.out (by simp)
      subst hR
      clear e1' e2' c3'
      go_enter Try.func19, Try.ntmps19
      go_wp2_with fail
      rw [hw0'.out]
      go_wp2_with fail
      refine (c1'.out _ hB0).mono ?_
      rintro e w1 ⟨rfl, hB1⟩
      have hb1 := hB0.trans (hB1.mono hB0.size)
      replace hx0 := bkeep hB1 hx0
      replace hx1 := bkeep hB1 hx1
      clear hB1
      go_wp2_with fail
      refine (c2'.out _).mono ?_
      rintro e w2 ⟨rfl, hB2⟩
      have hb2 := hb1.trans (hB2.mono hb1.size)
      go_wp2
      go_ret2
      exact ⟨rfl, hb2⟩
    · have hR : R = L := e1'.out rfl rfl
      subst hR
      have c4 := fun w' h => c3'.out w' h rfl rfl
      clear e1' e2' c3'
      obtain ⟨r1, r2⟩ := R
      have c4' := Lib.hid c4
      clear c4
      go_enter Try.func19, Try.ntmps19
      go_wp2_with fail
      rw [hw0'.out]
      go_wp2_with fail
      refine (c1'.out _ hB0).mono ?_
      rintro e w1 ⟨rfl, hB1⟩
      have hb1 := hB0.trans (hB1.mono hB0.size)
      replace hx0 := bkeep hB1 hx0
      replace hx1 := bkeep hB1 hx1
      clear hB1
      go_wp2_with fail
      refine (c2'.out _).mono ?_
      rintro e w2 ⟨rfl, hB2⟩
      have hb2 := hb1.trans (hB2.mono hb1.size)
      replace hx0 := bkeep hB2 hx0
      replace hx1 := bkeep hB2 hx1
      clear hB2
      go_wp2_with fail
      refine (c4'.out _ hb2).mono ?_
      rintro e w3 ⟨rfl, hB3⟩
      have hb3 := hb2.trans (hB3.mono hb2.size)
      go_wp2
      go_ret2
      exact ⟨rfl, hb3⟩
set_option maxHeartbeats 800000 in
theorem specRunsThrough_any (v : Value) (f : List Quad) (u : Value) (l : List Quad) (x : Int × Int) (w : World) (hv : QuadV w v f) (hm : szPointS f ≤ 1099511627776) (hu : QuadV w u l) (hn : szIntervalS l ≤ 1099511627776) (_hi : I64R x) :
    Calls Try.prog 15 #[v, u, .agg #[.int .i64 x.1, .int .i64 x.2]] w (Ret (.tuple #[.bool (RunsThrough_v f l x).1, .bool (RunsThrough_v f l x).2]) w) := by
  have c1 := fun w' (hB : Below w.heap.size w w') => asked_imGood_any v u f l w' (hv.below hB) (hu.below hB) hm hn
  have c2 := fun w' => raUnit_any x.1 x.2 w'
  have c3 := fun w' (hB : Below w.heap.size w w') (h1 : (mapB f && ivsB l) = true) (h2 : unitR x.1 x.2 = true) => chRuns_any v u f l x w' (hv.below hB) (hu.below hB) (mapB_true (by rw [Bool.and_eq_true] at h1; exact h1.1)) (by rw [Bool.and_eq_true] at h1; exact h1.2) h2
  have e1 : (mapB f && ivsB l) = true → unitR x.1 x.2 = true → RunsThrough_v f l x = runs_v f l x := fun h1 h2 => by
    rw [Bool.and_eq_true] at h1
    unfold RunsThrough_v
    rw [if_pos ⟨h1.1, h1.2, h2⟩]
  have e2 : ¬ ((mapB f && ivsB l) = true ∧ unitR x.1 x.2 = true) → RunsThrough_v f l x = (false, false) := fun h => by
    unfold RunsThrough_v
    rw [if_neg (fun h' => h ⟨by rw [h'.1, h'.2.1]; rfl, h'.2.2⟩)]
  generalize RunsThrough_v f l x = R at *
  generalize runs_v f l x = L at *
  generalize (mapB f && ivsB l) = M at *
  generalize unitR x.1 x.2 = U at *
  clear hv hu
  obtain ⟨x0, x1⟩ := x
  simp only at c2 c3
  obtain ⟨w0, hw0⟩ : ∃ W, w.alloc (.cells #[.int .i64 x0, .int .i64 x1] 34) = W := ⟨_, rfl⟩
  have hB0 : Below w.heap.size w w0 := by rw [← hw0]; exact (Below.refl _ _).alloc (Nat.le_refl _) _
  have hx0 : w0.cell? ⟨w.heap.size, 0, none⟩ = some (.int .i64 x0) := by rw [← hw0]; simp [go_sem]
  have hx1 : w0.cell? ⟨w.heap.size, 1, none⟩ = some (.int .i64 x1) := by rw [← hw0]; simp [go_sem]
  have c1' := Lib.hid c1
  have c2' := Lib.hid c2
  have c3' := Lib.hid c3
  have e1' := Lib.hid e1
  have e2' := Lib.hid e2
  have hw0' := Lib.hid hw0
  clear c1 c2 c3 e1 e2 hw0
  show Calls _ _ #[_, _, .agg #[.int .i64 x0, .int .i64 x1]] w _
  cases M
  · have hR : R = (false, false) := e2'.out (by simp)
    subst hR
    clear e1' e2' c3' c2'
    go_enter Try.func15, Try.ntmps15
    go_wp2_with fail
    rw [hw0'.out]
    go_wp2_with fail
    refine (c1'.out _ hB0).mono ?_
    rintro e w1 ⟨rfl, hB1⟩
    have hb1 := hB0.trans (hB1.mono hB0.size)
    go_wp2
    go_ret2
    exact ⟨rfl, hb1⟩
  · cases U
    · have hR : R = (false, false) := e2'.out (by simp)
      subst hR
      clear e1' e2' c3'
      go_enter Try.func15, Try.ntmps15
      go_wp2_with fail
      rw [hw0'.out]
      go_wp2_with fail
      refine (c1'.out _ hB0).mono ?_
      rintro e w1 ⟨rfl, hB1⟩
      have hb1 := hB0.trans (hB1.mono hB0.size)
      replace hx0 := bkeep hB1 hx0
      replace hx1 := bkeep hB1 hx1
      clear hB1
      go_wp2_with fail
      refine (c2'.out _).mono ?_
      rintro e w2 ⟨rfl, hB2⟩
      have hb2 := hb1.trans (hB2.mono hb1.size)
      go_wp2
      go_ret2
      exact ⟨rfl, hb2⟩
    · have hR : R = L := e1'.out rfl rfl
      subst hR
      have c4 := fun w' h => c3'.out w' h rfl rfl
      clear e1' e2' c3'
      obtain ⟨r1, r2⟩ := R
      have c4' := Lib.hid c4
      clear c4
      go_enter Try.func15, Try.ntmps15
      go_wp2_with fail
      rw [hw0'.out]
      go_wp2_with fail
      refine (c1'.out _ hB0).mono ?_
      rintro e w1 ⟨rfl, hB1⟩
      have hb1 := hB0.trans (hB1.mono hB0.size)
      replace hx0 := bkeep hB1 hx0
      replace hx1 := bkeep hB1 hx1
      clear hB1
      go_wp2_with fail
      refine (c2'.out _).mono ?_
      rintro e w2 ⟨rfl, hB2⟩
      have hb2 := hb1.trans (hB2.mono hb1.size)
      replace hx0 := bkeep hB2 hx0
      replace hx1 := bkeep hB2 hx1
      clear hB2
      go_wp2_with fail
      refine (c4'.out _ hb2).mono ?_
      rintro e w3 ⟨rfl, hB3⟩
      have hb3 := hb2.trans (hB3.mono hb2.size)
      go_wp2
      go_ret2
      exact ⟨rfl, hb3⟩

end Go.Proofs.Ytfcanpebagpdbaa

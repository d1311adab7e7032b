/- Points and intervals that came in: by value, and slices of them. -/
import Derived.Test.YtfcanpebagpdbaaLiftR
import Derived.Test.YtfcanpebagpdbaaQuadS
import Derived.Deep.Slices
namespace Go.Proofs.Ytfcanpebagpdbaa
open Go.ChangeShapes Go.WideShapes Go.ChangeAt Go.RowKit

theorem Try.cellsLRatQ : Try.prog.cellsOf 25 = 2 := by kernel_rfl

set_option maxRecDepth 100000 in
theorem rat_of_trod {H : Type} {enc : TypeId × Value → H} {W : World} {spare : Nat → Bool} {held : Bool} {n : Nat} {v0 v1 : Value} {y : DataW H × List MemPlace}
    (h : DataW.trod enc Try.prog W 0 spare held n 25 [v0, v1] = some y) : ∃ r : Int × Int, v0 = .int .i64 r.1 ∧ v1 = .int .i64 r.2 ∧ I64R r := by
  obtain ⟨y0, y1, k, -, -, h0, h1⟩ := trod_struct2 Try.underlying25 h
  obtain ⟨a, rfl, ha⟩ := int_of_trod h0
  obtain ⟨b, e, hb⟩ := int_of_trod h1
  exact ⟨(a, b), rfl, e, ha, hb⟩

theorem Try.cellspts : Try.prog.cellsOf 76 = 4 := by kernel_rfl
set_option maxRecDepth 100000 in
theorem pts_of_trod {H : Type} {enc : TypeId × Value → H} {W : World} {spare : Nat → Bool} {held : Bool} {n : Nat} {cs : List Value} {y : DataW H × List MemPlace}
    (h : DataW.trod enc Try.prog W 0 spare held n 76 cs = some y) : ∃ r : Quad, cs = [.int .i64 r.1.1, .int .i64 r.1.2, .int .i64 r.2.1, .int .i64 r.2.2] ∧ I64I r := by
  obtain ⟨y0, y1, k, -, hl, h0, h1⟩ := trod_struct2 Try.underlying76 h
  rw [Try.cellspts] at hl
  match cs, hl with
  | [v0, v1, v2, v3], _ =>
    replace h0 : DataW.trod enc Try.prog W 0 spare held k 25 [v0, v1] = some y0 := h0
    replace h1 : DataW.trod enc Try.prog W 0 spare held k 25 [v2, v3] = some y1 := h1
    obtain ⟨r, rfl, rfl, hr⟩ := rat_of_trod h0
    obtain ⟨s, rfl, rfl, hs⟩ := rat_of_trod h1
    exact ⟨(r, s), rfl, hr, hs⟩
set_option maxRecDepth 100000 in
/-- A slice of these that came in. -/
theorem open_ptsV {H : Type} {enc : TypeId × Value → H} {W : World} {base : Nat} {v : Value} {d : DataW H} {p : List MemPlace}
    (hval : Value.okWide Try.prog W .any base 22 v) (h : DataW.Trod enc Try.prog W 0 (fun _ => true) true 22 v d p) : ∃ xs, QuadV W v xs := by
  obtain ⟨a0, len, cap, rfl⟩ := okWide_slice Try.underlying22 hval
  obtain ⟨fuel, hf⟩ := h
  rcases Go.Deep.open_slice Try.underlying22 hf with ⟨hcs, hx⟩ | ⟨a, len', cap', m, n, D, Pl, hcs, _, hl, hm, hmm, hx, hcell⟩
  · simp [Value.cells] at hcs
    obtain ⟨rfl, rfl, rfl⟩ := hcs
    exact ⟨[], QuadV.mk (xs := []) ⟨Nat.le_refl _, fun _ => rfl⟩ (by simp [maxLen]) (fun i hi => absurd hi (Nat.not_lt_zero i))⟩
  · simp [Value.cells] at hcs
    obtain ⟨rfl, rfl, rfl⟩ := hcs
    simp only [if_true] at hmm
    subst hmm
    rw [Try.cellspts] at hcell
    have each : ∀ i, i < len → ∃ r : Quad, W.cell? (a.add (i * 4)) = some (.int .i64 r.1.1) ∧ W.cell? (a.add (i * 4 + 1)) = some (.int .i64 r.1.2) ∧ W.cell? (a.add (i * 4 + 2)) = some (.int .i64 r.2.1) ∧ W.cell? (a.add (i * 4 + 3)) = some (.int .i64 r.2.2) := by
      intro i hi
      obtain ⟨cs', h1, h2⟩ := hcell i (by omega)
      obtain ⟨_, hlen, hc⟩ := World.cells?_some h1
      obtain ⟨r, rfl, _⟩ := pts_of_trod h2
      have e0 := hc 0 (by simp)
      have e1 := hc 1 (by simp)
      have e2 := hc 2 (by simp)
      have e3 := hc 3 (by simp)
      rw [Go.Deep.add_add] at e0 e1 e2 e3
      exact ⟨r, by simpa using e0, by simpa using e1, by simpa using e2, by simpa using e3⟩
    obtain ⟨f, hf'⟩ : ∃ f : Nat → Quad, ∀ i, i < len → W.cell? (a.add (i * 4)) = some (.int .i64 (f i).1.1) ∧ W.cell? (a.add (i * 4 + 1)) = some (.int .i64 (f i).1.2) ∧ W.cell? (a.add (i * 4 + 2)) = some (.int .i64 (f i).2.1) ∧ W.cell? (a.add (i * 4 + 3)) = some (.int .i64 (f i).2.2) := by
      refine ⟨fun i => if h : i < len then (each i h).choose else ((0, 0), (0, 0)), fun i hi => ?_⟩
      simp only [dif_pos hi]
      exact (each i hi).choose_spec
    have hlen : ((List.range len).map f).length = len := by simp
    refine ⟨(List.range len).map f, ?_⟩
    have key : ∀ n c, n = ((List.range len).map f).length → QuadV W (.slice (some a) ((List.range len).map f).length c) ((List.range len).map f) → QuadV W (.slice (some a) n c) ((List.range len).map f) := fun n c e h => by rw [e]; exact h
    refine key _ _ hlen.symm ?_
    refine QuadV.mk ⟨by omega, fun e => by cases e⟩ hm (fun i hi => ?_)
    rw [hlen] at hi
    obtain ⟨c0, c1, c2, c3⟩ := hf' i hi
    obtain ⟨b, off, spot⟩ := a
    have hspot : spot = none := by
      obtain ⟨c00, _⟩ := hf' 0 (by omega)
      simpa [Addr.add] using World.cell?_spot c00
    subst hspot
    have hn : nth4 ((List.range len).map f) i = f i := by rw [nth4_eq (by rw [hlen]; exact hi)]; simp
    rw [add_plain] at c0 c1 c2 c3
    rw [← Nat.add_assoc] at c1 c2 c3
    exact ⟨b, off, rfl, by rw [hn]; exact c0, by rw [hn]; exact c1, by rw [hn]; exact c2, by rw [hn]; exact c3⟩
theorem Try.cellsivs : Try.prog.cellsOf 40 = 4 := by kernel_rfl
set_option maxRecDepth 100000 in
theorem ivs_of_trod {H : Type} {enc : TypeId × Value → H} {W : World} {spare : Nat → Bool} {held : Bool} {n : Nat} {cs : List Value} {y : DataW H × List MemPlace}
    (h : DataW.trod enc Try.prog W 0 spare held n 40 cs = some y) : ∃ r : Quad, cs = [.int .i64 r.1.1, .int .i64 r.1.2, .int .i64 r.2.1, .int .i64 r.2.2] ∧ I64I r := by
  obtain ⟨y0, y1, k, -, hl, h0, h1⟩ := trod_struct2 Try.underlying40 h
  rw [Try.cellsivs] at hl
  match cs, hl with
  | [v0, v1, v2, v3], _ =>
    replace h0 : DataW.trod enc Try.prog W 0 spare held k 25 [v0, v1] = some y0 := h0
    replace h1 : DataW.trod enc Try.prog W 0 spare held k 25 [v2, v3] = some y1 := h1
    obtain ⟨r, rfl, rfl, hr⟩ := rat_of_trod h0
    obtain ⟨s, rfl, rfl, hs⟩ := rat_of_trod h1
    exact ⟨(r, s), rfl, hr, hs⟩
set_option maxRecDepth 100000 in
/-- A slice of these that came in. -/
theorem open_ivsV {H : Type} {enc : TypeId × Value → H} {W : World} {base : Nat} {v : Value} {d : DataW H} {p : List MemPlace}
    (hval : Value.okWide Try.prog W .any base 23 v) (h : DataW.Trod enc Try.prog W 0 (fun _ => true) true 23 v d p) : ∃ xs, QuadV W v xs := by
  obtain ⟨a0, len, cap, rfl⟩ := okWide_slice Try.underlying23 hval
  obtain ⟨fuel, hf⟩ := h
  rcases Go.Deep.open_slice Try.underlying23 hf with ⟨hcs, hx⟩ | ⟨a, len', cap', m, n, D, Pl, hcs, _, hl, hm, hmm, hx, hcell⟩
  · simp [Value.cells] at hcs
    obtain ⟨rfl, rfl, rfl⟩ := hcs
    exact ⟨[], QuadV.mk (xs := []) ⟨Nat.le_refl _, fun _ => rfl⟩ (by simp [maxLen]) (fun i hi => absurd hi (Nat.not_lt_zero i))⟩
  · simp [Value.cells] at hcs
    obtain ⟨rfl, rfl, rfl⟩ := hcs
    simp only [if_true] at hmm
    subst hmm
    rw [Try.cellsivs] at hcell
    have each : ∀ i, i < len → ∃ r : Quad, W.cell? (a.add (i * 4)) = some (.int .i64 r.1.1) ∧ W.cell? (a.add (i * 4 + 1)) = some (.int .i64 r.1.2) ∧ W.cell? (a.add (i * 4 + 2)) = some (.int .i64 r.2.1) ∧ W.cell? (a.add (i * 4 + 3)) = some (.int .i64 r.2.2) := by
      intro i hi
      obtain ⟨cs', h1, h2⟩ := hcell i (by omega)
      obtain ⟨_, hlen, hc⟩ := World.cells?_some h1
      obtain ⟨r, rfl, _⟩ := ivs_of_trod h2
      have e0 := hc 0 (by simp)
      have e1 := hc 1 (by simp)
      have e2 := hc 2 (by simp)
      have e3 := hc 3 (by simp)
      rw [Go.Deep.add_add] at e0 e1 e2 e3
      exact ⟨r, by simpa using e0, by simpa using e1, by simpa using e2, by simpa using e3⟩
    obtain ⟨f, hf'⟩ : ∃ f : Nat → Quad, ∀ i, i < len → W.cell? (a.add (i * 4)) = some (.int .i64 (f i).1.1) ∧ W.cell? (a.add (i * 4 + 1)) = some (.int .i64 (f i).1.2) ∧ W.cell? (a.add (i * 4 + 2)) = some (.int .i64 (f i).2.1) ∧ W.cell? (a.add (i * 4 + 3)) = some (.int .i64 (f i).2.2) := by
      refine ⟨fun i => if h : i < len then (each i h).choose else ((0, 0), (0, 0)), fun i hi => ?_⟩
      simp only [dif_pos hi]
      exact (each i hi).choose_spec
    have hlen : ((List.range len).map f).length = len := by simp
    refine ⟨(List.range len).map f, ?_⟩
    have key : ∀ n c, n = ((List.range len).map f).length → QuadV W (.slice (some a) ((List.range len).map f).length c) ((List.range len).map f) → QuadV W (.slice (some a) n c) ((List.range len).map f) := fun n c e h => by rw [e]; exact h
    refine key _ _ hlen.symm ?_
    refine QuadV.mk ⟨by omega, fun e => by cases e⟩ hm (fun i hi => ?_)
    rw [hlen] at hi
    obtain ⟨c0, c1, c2, c3⟩ := hf' i hi
    obtain ⟨b, off, spot⟩ := a
    have hspot : spot = none := by
      obtain ⟨c00, _⟩ := hf' 0 (by omega)
      simpa [Addr.add] using World.cell?_spot c00
    subst hspot
    have hn : nth4 ((List.range len).map f) i = f i := by rw [nth4_eq (by rw [hlen]; exact hi)]; simp
    rw [add_plain] at c0 c1 c2 c3
    rw [← Nat.add_assoc] at c1 c2 c3
    exact ⟨b, off, rfl, by rw [hn]; exact c0, by rw [hn]; exact c1, by rw [hn]; exact c2, by rw [hn]; exact c3⟩

set_option maxRecDepth 100000 in
/-- An interval that came in. -/
theorem open_ivX {H : Type} {enc : TypeId × Value → H} {W : World} {base : Nat} {v : Value} {d : DataW H} {p : List MemPlace}
    (hval : Value.okWide Try.prog W .any base 40 v) (h : DataW.Trod enc Try.prog W 0 (fun _ => true) true 40 v d p) :
    ∃ r : Quad, v = .agg #[.int .i64 r.1.1, .int .i64 r.1.2, .int .i64 r.2.1, .int .i64 r.2.2] ∧ I64I r := by
  obtain ⟨cs, rfl, hsz⟩ := okWide_struct Try.underlying40 hval
  obtain ⟨fuel, hf⟩ := h
  obtain ⟨r, e, hr⟩ := ivs_of_trod hf
  have e' : cs.toList = [.int .i64 r.1.1, .int .i64 r.1.2, .int .i64 r.2.1, .int .i64 r.2.2] := e
  refine ⟨r, ?_, hr⟩
  obtain ⟨l⟩ := cs
  simp only at e'
  rw [e']

end Go.Proofs.Ytfcanpebagpdbaa

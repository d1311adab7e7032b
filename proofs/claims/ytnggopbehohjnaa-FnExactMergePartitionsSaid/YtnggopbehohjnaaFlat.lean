/- Words on slices of structs whose cells are ints, K cells each (YtnggopbehohjnaaLib has them for ints). No conditions. -/
import Derived.Test.YtnggopbehohjnaaInts
namespace Go.Proofs.Ytnggopbehohjnaa
open Go.RowKit

/-- v reads as n elements of K cells; the cells hold ys, one behind the other. -/
def FlatV (K : Nat) (w : World) (v : Value) (n : Nat) (ys : List Int) : Prop :=
  ∃ ao cap, v = .slice ao n cap ∧ (n ≤ cap ∧ (ao = none → cap = 0)) ∧ cap ≤ maxLen ∧ ∀ j, j < n * K → ∃ b off, ao = some ⟨b, off, none⟩ ∧ w.cell? ⟨b, off + j, none⟩ = some (.int .i64 (nth ys j))

theorem FlatV.below {K : Nat} {w w' : World} {v : Value} {n : Nat} {ys : List Int} (h : FlatV K w v n ys) (hB : Below w.heap.size w w') : FlatV K w' v n ys := by
  obtain ⟨ao, cap, rfl, h1, h2, h⟩ := h
  refine ⟨ao, cap, rfl, h1, h2, fun i hi => ?_⟩
  obtain ⟨b, off, e, hc⟩ := h i hi
  exact ⟨b, off, e, by rw [hB.cell (World.block_lt_of_cell? w _ hc)]; exact hc⟩

/-- A slice of the call's own: its block lies in [B, E); or it has no elements. -/
def OwnF (T : TypeId) (K : Nat) (w : World) (B E : Nat) (v : Value) (n : Nat) (ys : List Int) : Prop :=
  (n = 0 ∧ ∃ ao cap, v = .slice ao 0 cap ∧ cap ≤ maxLen ∧ (ao = none → cap = 0)) ∨
  ∃ g cap, v = .slice (some ⟨g, 0, none⟩) n cap ∧ B ≤ g ∧ g < E ∧ w.ownsRow B T K v n (ys.map (Value.int .i64))

section
variable {T : TypeId} {K : Nat} {w w' : World} {B E B' E' : Nat} {v : Value} {n : Nat} {ys : List Int}

theorem OwnF.mono (h : OwnF T K w B E v n ys) (hB : B' ≤ B) (hE : E ≤ E') : OwnF T K w B' E' v n ys := by
  rcases h with h | ⟨g, cap, e, h1, h2, h3⟩
  · exact .inl h
  · exact .inr ⟨g, cap, e, by omega, by omega, h3.mono hB⟩

theorem OwnF.kept {row : Option Nat} (h : OwnF T K w B E v n ys) (hg : w.grownBy w' row) (hr : ∀ g, row = some g → g < B ∨ E ≤ g) : OwnF T K w' B E v n ys := by
  rcases h with h | ⟨g, cap, e, h1, h2, h3⟩
  · exact .inl h
  · refine .inr ⟨g, cap, e, h1, h2, h3.kept hg ?_⟩
    subst e
    right
    intro e
    have := hr g e.symm
    omega

theorem OwnF.below {E'' : Nat} (h : OwnF T K w B E v n ys) (hB : Below E'' w w') (hE : E ≤ E'') : OwnF T K w' B E v n ys := by
  rcases h with h | ⟨g, cap, e, h1, h2, h3⟩
  · exact .inl h
  · refine .inr ⟨g, cap, e, h1, h2, h3.1, ?_⟩
    rcases h3.2 with h3 | ⟨g', cap', cur, e', h4, h5, h6⟩
    · exact .inl h3
    · refine .inr ⟨g', cap', cur, e', h4, ?_, h6⟩
      subst e
      simp only [Value.slice.injEq, Option.some.injEq, Addr.mk.injEq, and_true, true_and] at e'
      rw [hB.block g' (by omega)]; exact h5

theorem OwnF.row (h : w.ownsRow B T K v n (ys.map (Value.int .i64))) : OwnF T K w B w.heap.size v n ys := by
  rcases h.2 with ⟨rfl, h0⟩ | ⟨g, cap, cur, rfl, h1, h2, h3, h4, h5, h6⟩
  · exact .inl ⟨h0, none, 0, rfl, by simp [maxLen], fun _ => rfl⟩
  · exact .inr ⟨g, cap, rfl, h1, (Array.getElem?_eq_some_iff.1 h2).1, h⟩

theorem OwnF.nil (T : TypeId) (K : Nat) (w : World) (B E : Nat) (ys : List Int) : OwnF T K w B E (.slice none 0 0) 0 ys := .inl ⟨rfl, none, 0, rfl, by simp [maxLen], fun _ => rfl⟩

theorem ownsRow_nthF {g cap : Nat} (h : w.ownsRow B T K (.slice (some ⟨g, 0, none⟩) n cap) n (ys.map (Value.int .i64))) {j : Nat} (hj : j < n * K) : w.cell? ⟨g, j, none⟩ = some (.int .i64 (nth ys j)) := by
  have hl : ys.length = n * K := by simpa using h.1
  rw [World.ownsRow.cellAt h j hj]
  have hj' : j < ys.length := by omega
  simp [nth, List.getElem?_eq_getElem hj']

theorem OwnF.read (h : OwnF T K w B E v n ys) : FlatV K w v n ys := by
  rcases h with ⟨rfl, ao, cap, rfl, hc, hz⟩ | ⟨g, cap, rfl, h1, h2, h3⟩
  · exact ⟨ao, cap, rfl, ⟨Nat.zero_le _, hz⟩, hc, fun i hi => by simp at hi⟩
  · have hcap : n ≤ cap ∧ cap ≤ maxLen := by
      rcases h3.2 with ⟨h4, _⟩ | ⟨g', cap', cur, e', h4, h5, h6, h7, _⟩
      · simp at h4
      · simp only [Value.slice.injEq, Option.some.injEq, Addr.mk.injEq, and_true, true_and] at e'
        omega
    refine ⟨some ⟨g, 0, none⟩, cap, rfl, ⟨hcap.1, fun e => by cases e⟩, hcap.2, fun i hi => ⟨g, 0, rfl, ?_⟩⟩
    rw [Nat.zero_add]
    exact ownsRow_nthF h3 hi

theorem OwnF.turned (h : OwnF T K w B E v n ys) (ht : Turned B' E' w w') (hd : E ≤ B' ∨ E' ≤ B) : OwnF T K w' B E v n ys := by
  rcases h with h | ⟨g, cap, e, h1, h2, h3⟩
  · exact .inl h
  · refine .inr ⟨g, cap, e, h1, h2, h3.1, ?_⟩
    rcases h3.2 with h3 | ⟨g', cap', cur, e', h4, h5, h6⟩
    · exact .inl h3
    · refine .inr ⟨g', cap', cur, e', h4, ?_, h6⟩
      subst e
      simp only [Value.slice.injEq, Option.some.injEq, Addr.mk.injEq, and_true, true_and] at e'
      rw [ht.block g' (by omega)]; exact h5
end

/-- A row at the head of block g. -/
def RowF (T : TypeId) (K : Nat) (w : World) (B g n cap : Nat) (ys : List Int) : Prop := w.ownsRow B T K (.slice (some ⟨g, 0, none⟩) n cap) n (ys.map (Value.int .i64))

section
variable {T : TypeId} {K : Nat} {w w' : World} {B g n cap : Nat} {ys : List Int}
theorem RowF.cell (h : RowF T K w B g n cap ys) {j : Nat} (hj : j < n * K) : w.cell? ⟨g, j, none⟩ = some (.int .i64 (nth ys j)) := ownsRow_nthF h hj
theorem RowF.frozen (h : RowF T K w B g n cap ys) (j : Nat) : w.frozen? ⟨g, j, none⟩ = false := World.ownsRow.frozenAt h j
theorem RowF.stored (h : RowF T K w B g n cap ys) (j : Nat) (x : Int) : RowF T K (w.setCell ⟨g, j, none⟩ (.int .i64 x)) B g n cap (ys.set j x) := by
  have := (World.ownsRow.stored h j (.int .i64 x)).1
  unfold RowF; rw [List.map_set]; exact this
theorem RowF.lt (h : RowF T K w B g n cap ys) : B ≤ g ∧ g < w.heap.size := World.ownsRow.lt h g rfl
theorem RowF.len (h : RowF T K w B g n cap ys) : ys.length = n * K := by simpa using h.1
theorem RowF.own (h : RowF T K w B g n cap ys) : OwnF T K w B w.heap.size (.slice (some ⟨g, 0, none⟩) n cap) n ys := OwnF.row h
theorem RowF.kept {row : Option Nat} (h : RowF T K w B g n cap ys) (hg : w.grownBy w' row) (hr : row ≠ some g) : RowF T K w' B g n cap ys :=
  World.ownsRow.kept h hg (.inr (by simpa [Value.ownBlock] using fun e => hr e.symm))
theorem RowF.below {E : Nat} (h : RowF T K w B g n cap ys) (hB : Below E w w') (hE : g < E) : RowF T K w' B g n cap ys := by
  refine ⟨h.1, ?_⟩
  rcases h.2 with h3 | ⟨g', cap', cur, e', h4, h5, h6⟩
  · exact .inl h3
  · refine .inr ⟨g', cap', cur, e', h4, ?_, h6⟩
    simp only [Value.slice.injEq, Option.some.injEq, Addr.mk.injEq, and_true, true_and] at e'
    rw [hB.block g' (by omega)]; exact h5
end

/-- K zeros made n times. -/
theorem rowF_made {T : TypeId} {K : Nat} {w w1 : World} {B n : Nat} {z : Array Value} (hz : z = (List.replicate K (Value.int .i64 0)).toArray) (hK : 0 < K)
    (h : w1.ownsRow B T K (.slice (some ⟨w.heap.size, 0, none⟩) n n) n (madeCells z (n * K)).toList) : RowF T K w1 B w.heap.size n n (List.replicate (n * K) 0) := by
  unfold RowF
  rw [List.map_replicate]
  have : (madeCells z (n * K)).toList = List.replicate (n * K) (Value.int .i64 0) := by
    subst hz
    apply List.ext_getElem?
    intro j
    by_cases hj : j < n * K
    · have := Nat.mod_lt j hK
      simp [madeCells, hj, this]
    · simp [madeCells, hj]
  rw [← this]; exact h

/-- A slice of the call's own that is appended to: nil, or a row from block B on. -/
def GrowF (T : TypeId) (K : Nat) (w : World) (B : Nat) (v : Value) (n : Nat) (ys : List Int) : Prop := w.ownsRow B T K v n (ys.map (Value.int .i64))

section
variable {T : TypeId} {K : Nat} {w w' : World} {B : Nat} {v : Value} {n : Nat} {ys : List Int}
theorem GrowF.nil (T : TypeId) (K : Nat) (w : World) (B : Nat) : GrowF T K w B (.slice none 0 0) 0 [] := World.ownsRow_nil w B T K
theorem GrowF.own (h : GrowF T K w B v n ys) : OwnF T K w B w.heap.size v n ys := OwnF.row h
theorem GrowF.drew (h : GrowF T K w B v n ys) : GrowF T K w.drew B v n ys := h
theorem GrowF.form (h : GrowF T K w B v n ys) (hn : 0 < n) : ∃ g cap, v = .slice (some ⟨g, 0, none⟩) n cap ∧ RowF T K w B g n cap ys := by
  rcases h.2 with ⟨rfl, h0⟩ | ⟨g, cap, cur, rfl, h1, h2, h3, h4, h5, h6⟩
  · omega
  · exact ⟨g, cap, rfl, h⟩
theorem GrowF.below (h : GrowF T K w B v n ys) (hB : Below w.heap.size w w') : GrowF T K w' B v n ys := by
  refine ⟨h.1, ?_⟩
  rcases h.2 with h3 | ⟨g', cap', cur, e', h4, h5, h6⟩
  · exact .inl h3
  · exact .inr ⟨g', cap', cur, e', h4, by rw [hB.block g' (Array.getElem?_eq_some_iff.1 h5).1]; exact h5, h6⟩
theorem GrowF.belowB {w0 : World} {b : Nat} (h : GrowF T K w B v n ys) (hb : Below b w0 w) (hB : b ≤ B) (hsz : b ≤ w.heap.size) (hg : w.grownBy w' v.ownBlock) : Below b w0 w' :=
  hb.grown hg hsz (fun k hk => by have := (World.ownsRow.lt h k hk).1; omega)
end

/-! Fractions. -/
/-- Element i of a list of fractions, 0/0 beyond its end. -/
def nthR (xs : List (Int × Int)) (i : Nat) : Int × Int := xs[i]?.getD (0, 0)
theorem nthR_eq {xs : List (Int × Int)} {i : Nat} (h : i < xs.length) : nthR xs i = xs[i] := by unfold nthR; rw [List.getElem?_eq_getElem h]; rfl
theorem take_nthR {xs : List (Int × Int)} {k : Nat} (h : k < xs.length) : xs.take (k + 1) = xs.take k ++ [nthR xs k] := by
  rw [List.take_add_one, List.getElem?_eq_getElem h, nthR_eq h]; rfl
def flR (xs : List (Int × Int)) : List Int := xs.flatMap fun x => [x.1, x.2]
theorem flR_len (xs : List (Int × Int)) : (flR xs).length = xs.length * 2 := by
  induction xs with
  | nil => rfl
  | cons x xs ih => simp only [flR, List.flatMap_cons, List.length_append, List.length_cons, List.length_nil] at ih ⊢; omega
theorem flR_append (xs ys : List (Int × Int)) : flR (xs ++ ys) = flR xs ++ flR ys := by simp [flR]
theorem flR_one (x : Int × Int) : flR [x] = [x.1, x.2] := rfl
theorem nth_flR {xs : List (Int × Int)} {i : Nat} (h : i < xs.length) : nth (flR xs) (i * 2) = (nthR xs i).1 ∧ nth (flR xs) (i * 2 + 1) = (nthR xs i).2 := by
  induction xs generalizing i with
  | nil => simp at h
  | cons x xs ih =>
    cases i with
    | zero => exact ⟨rfl, rfl⟩
    | succ i =>
      have h1 := ih (i := i) (by simpa using h)
      have e1 : (i + 1) * 2 = i * 2 + 2 := by omega
      have e2 : (i + 1) * 2 + 1 = (i * 2 + 1) + 2 := by omega
      rw [e1, show i * 2 + 2 + 1 = (i * 2 + 1) + 2 by omega]
      have hc : flR (x :: xs) = x.1 :: x.2 :: flR xs := rfl
      rw [hc]
      exact ⟨by simpa [nth, nthR] using h1.1, by simpa [nth, nthR] using h1.2⟩

abbrev szRatS (xs : List (Int × Int)) : Nat := xs.length
/-- How many numbers a mark writes. -/
def cntRatS (xs : List (Int × Int)) : Nat := 2 * xs.length
theorem cntRatS_le (xs : List (Int × Int)) : cntRatS xs ≤ 4 * szRatS xs := by unfold cntRatS szRatS; omega

def RatsV (w : World) (v : Value) (xs : List (Int × Int)) : Prop := FlatV 2 w v xs.length (flR xs)
theorem RatsV.below {w w' : World} {v : Value} {xs : List (Int × Int)} (h : RatsV w v xs) (hB : Below w.heap.size w w') : RatsV w' v xs := FlatV.below h hB
theorem RatsV.form {w : World} {v : Value} {xs : List (Int × Int)} (h : RatsV w v xs) : ∃ ao cap, v = .slice ao xs.length cap ∧ (xs.length ≤ cap ∧ (ao = none → cap = 0)) ∧ cap ≤ maxLen ∧
    ∀ i, i < xs.length → ∃ b off, ao = some ⟨b, off, none⟩ ∧ w.cell? ⟨b, off + i * 2, none⟩ = some (.int .i64 (nthR xs i).1) ∧ w.cell? ⟨b, off + i * 2 + 1, none⟩ = some (.int .i64 (nthR xs i).2) := by
  obtain ⟨ao, cap, e, h1, h2, H⟩ := h
  refine ⟨ao, cap, e, h1, h2, fun i hi => ?_⟩
  obtain ⟨b, off, rfl, c0⟩ := H (i * 2) (by omega)
  obtain ⟨_, _, e', c1⟩ := H (i * 2 + 1) (by omega)
  cases e'
  obtain ⟨n0, n1⟩ := nth_flR hi
  rw [n0] at c0; rw [n1] at c1
  exact ⟨b, off, rfl, c0, c1⟩
theorem RatsV.mk {w : World} {ao : Option Addr} {cap : Nat} {xs : List (Int × Int)} (h1 : xs.length ≤ cap ∧ (ao = none → cap = 0)) (h2 : cap ≤ maxLen)
    (H : ∀ i, i < xs.length → ∃ b off, ao = some ⟨b, off, none⟩ ∧ w.cell? ⟨b, off + i * 2, none⟩ = some (.int .i64 (nthR xs i).1) ∧ w.cell? ⟨b, off + i * 2 + 1, none⟩ = some (.int .i64 (nthR xs i).2)) : RatsV w (.slice ao xs.length cap) xs := by
  refine ⟨ao, cap, rfl, h1, h2, fun j hj => ?_⟩
  obtain ⟨b, off, e, c0, c1⟩ := H (j / 2) (by omega)
  obtain ⟨n0, n1⟩ := nth_flR (xs := xs) (i := j / 2) (by omega)
  rcases Nat.mod_two_eq_zero_or_one j with h0 | h0
  · have ej : j / 2 * 2 = j := by omega
    rw [ej] at c0 n0
    exact ⟨b, off, e, by rw [c0, n0]⟩
  · have ej : j / 2 * 2 + 1 = j := by omega
    rw [Nat.add_assoc, ej] at c1
    rw [ej] at n1
    exact ⟨b, off, e, by rw [c1, n1]⟩

def OwnR (w : World) (B E : Nat) (v : Value) (xs : List (Int × Int)) : Prop := OwnF 33 2 w B E v xs.length (flR xs)
section
variable {w w' : World} {B E B' E' : Nat} {v : Value} {xs : List (Int × Int)}
theorem OwnR.mono (h : OwnR w B E v xs) (hB : B' ≤ B) (hE : E ≤ E') : OwnR w B' E' v xs := OwnF.mono h hB hE
theorem OwnR.below {E'' : Nat} (h : OwnR w B E v xs) (hB : Below E'' w w') (hE : E ≤ E'') : OwnR w' B E v xs := OwnF.below h hB hE
theorem OwnR.kept {row : Option Nat} (h : OwnR w B E v xs) (hg : w.grownBy w' row) (hr : ∀ g, row = some g → g < B ∨ E ≤ g) : OwnR w' B E v xs := OwnF.kept h hg hr
theorem OwnR.turned (h : OwnR w B E v xs) (ht : Turned B' E' w w') (hd : E ≤ B' ∨ E' ≤ B) : OwnR w' B E v xs := OwnF.turned h ht hd
theorem OwnR.read (h : OwnR w B E v xs) : RatsV w v xs := OwnF.read h
theorem OwnR.nil (w : World) (B E : Nat) : OwnR w B E (.slice none 0 0) [] := OwnF.nil _ _ _ _ _ _
end
/-- A slice of fractions that is appended to. -/
def GrowR (w : World) (B : Nat) (v : Value) (xs : List (Int × Int)) : Prop := GrowF 33 2 w B v xs.length (flR xs)
theorem GrowR.nil (w : World) (B : Nat) : GrowR w B (.slice none 0 0) [] := GrowF.nil _ _ _ _
theorem GrowR.own {w : World} {B : Nat} {v : Value} {xs : List (Int × Int)} (h : GrowR w B v xs) : OwnR w B w.heap.size v xs := GrowF.own h
theorem GrowR.read {w : World} {B : Nat} {v : Value} {xs : List (Int × Int)} (h : GrowR w B v xs) : RatsV w v xs := h.own.read
theorem GrowR.below {w w' : World} {B : Nat} {v : Value} {xs : List (Int × Int)} (h : GrowR w B v xs) (hB : Below w.heap.size w w') : GrowR w' B v xs := GrowF.below h hB
theorem GrowR.belowB {w0 w w' : World} {B : Nat} {v : Value} {xs : List (Int × Int)} {b : Nat} (h : GrowR w B v xs) (hb : Below b w0 w) (hB : b ≤ B) (hsz : b ≤ w.heap.size) (hg : w.grownBy w' v.ownBlock) : Below b w0 w' := GrowF.belowB h hb hB hsz hg
theorem Try.infoRat : (Try.prog.info? 33).map (fun i => (i.zero, i.size, i.bytes)) = some (some (.agg #[.int .i64 0, .int .i64 0]), 2, 16) := by kernel_rfl

end Go.Proofs.Ytnggopbehohjnaa

/- Words on slices of points and of intervals (four ints an element); appends of fractions, points, intervals. No conditions. -/
import Derived.Test.YtgpabfbnbmbmeaaGreatDoorPkA
namespace Go.Proofs.YtgpabfbnbmbmeaaGreatDoor
open Go.RowKit

abbrev Quad := (Int × Int) × (Int × Int)
/-- Element i of a list of pairs of fractions. -/
def nth4 (xs : List Quad) (i : Nat) : Quad := xs[i]?.getD ((0, 0), (0, 0))
theorem nth4_eq {xs : List Quad} {i : Nat} (h : i < xs.length) : nth4 xs i = xs[i] := by unfold nth4; rw [List.getElem?_eq_getElem h]; rfl
theorem take_nth4 {xs : List Quad} {k : Nat} (h : k < xs.length) : xs.take (k + 1) = xs.take k ++ [nth4 xs k] := by
  rw [List.take_add_one, List.getElem?_eq_getElem h, nth4_eq h]; rfl
def fl4 (xs : List Quad) : List Int := xs.flatMap fun x => [x.1.1, x.1.2, x.2.1, x.2.2]
theorem fl4_len (xs : List Quad) : (fl4 xs).length = xs.length * 4 := by
  induction xs with
  | nil => rfl
  | cons x xs ih => simp only [fl4, List.flatMap_cons, List.length_append, List.length_cons, List.length_nil] at ih ⊢; omega
theorem fl4_append (xs ys : List Quad) : fl4 (xs ++ ys) = fl4 xs ++ fl4 ys := by simp [fl4]
theorem fl4_one (x : Quad) : fl4 [x] = [x.1.1, x.1.2, x.2.1, x.2.2] := rfl
theorem nth_fl4 {xs : List Quad} {i : Nat} (h : i < xs.length) :
    nth (fl4 xs) (i * 4) = (nth4 xs i).1.1 ∧ nth (fl4 xs) (i * 4 + 1) = (nth4 xs i).1.2 ∧ nth (fl4 xs) (i * 4 + 2) = (nth4 xs i).2.1 ∧ nth (fl4 xs) (i * 4 + 3) = (nth4 xs i).2.2 := by
  induction xs generalizing i with
  | nil => simp at h
  | cons x xs ih =>
    have hc : fl4 (x :: xs) = x.1.1 :: x.1.2 :: x.2.1 :: x.2.2 :: fl4 xs := rfl
    cases i with
    | zero => exact ⟨rfl, rfl, rfl, rfl⟩
    | succ i =>
      obtain ⟨a, b, c, d⟩ := ih (i := i) (by simpa using h)
      have e : ∀ j, nth (fl4 (x :: xs)) (j + 4) = nth (fl4 xs) j := fun j => by rw [hc]; rfl
      have e4 : nth4 (x :: xs) (i + 1) = nth4 xs i := rfl
      rw [e4, show (i + 1) * 4 = i * 4 + 4 by omega, show i * 4 + 4 + 1 = (i * 4 + 1) + 4 by omega, show i * 4 + 4 + 2 = (i * 4 + 2) + 4 by omega, show i * 4 + 4 + 3 = (i * 4 + 3) + 4 by omega, e, e, e, e]
      exact ⟨a, b, c, d⟩

/-- A slice value that reads as these. -/
def QuadV (w : World) (v : Value) (xs : List Quad) : Prop := FlatV 4 w v xs.length (fl4 xs)
theorem QuadV.below {w w' : World} {v : Value} {xs : List Quad} (h : QuadV w v xs) (hB : Below w.heap.size w w') : QuadV w' v xs := FlatV.below h hB
theorem QuadV.form {w : World} {v : Value} {xs : List Quad} (h : QuadV w v xs) : ∃ ao cap, v = .slice ao xs.length cap ∧ (xs.length ≤ cap ∧ (ao = none → cap = 0)) ∧ cap ≤ maxLen ∧
    ∀ i, i < xs.length → ∃ b off, ao = some ⟨b, off, none⟩ ∧ w.cell? ⟨b, off + i * 4, none⟩ = some (.int .i64 (nth4 xs i).1.1) ∧ w.cell? ⟨b, off + i * 4 + 1, none⟩ = some (.int .i64 (nth4 xs i).1.2) ∧
      w.cell? ⟨b, off + i * 4 + 2, none⟩ = some (.int .i64 (nth4 xs i).2.1) ∧ w.cell? ⟨b, off + i * 4 + 3, none⟩ = some (.int .i64 (nth4 xs i).2.2) := by
  obtain ⟨ao, cap, e, h1, h2, H⟩ := h
  refine ⟨ao, cap, e, h1, h2, fun i hi => ?_⟩
  obtain ⟨b, off, rfl, c0⟩ := H (i * 4) (by omega)
  obtain ⟨_, _, e', c1⟩ := H (i * 4 + 1) (by omega)
  cases e'
  obtain ⟨_, _, e', c2⟩ := H (i * 4 + 2) (by omega)
  cases e'
  obtain ⟨_, _, e', c3⟩ := H (i * 4 + 3) (by omega)
  cases e'
  obtain ⟨n0, n1, n2, n3⟩ := nth_fl4 hi
  rw [n0] at c0; rw [n1] at c1; rw [n2] at c2; rw [n3] at c3
  exact ⟨b, off, rfl, c0, c1, c2, c3⟩
theorem QuadV.mk {w : World} {ao : Option Addr} {cap : Nat} {xs : List Quad} (h1 : xs.length ≤ cap ∧ (ao = none → cap = 0)) (h2 : cap ≤ maxLen)
    (H : ∀ i, i < xs.length → ∃ b off, ao = some ⟨b, off, none⟩ ∧ w.cell? ⟨b, off + i * 4, none⟩ = some (.int .i64 (nth4 xs i).1.1) ∧ w.cell? ⟨b, off + i * 4 + 1, none⟩ = some (.int .i64 (nth4 xs i).1.2) ∧
      w.cell? ⟨b, off + i * 4 + 2, none⟩ = some (.int .i64 (nth4 xs i).2.1) ∧ w.cell? ⟨b, off + i * 4 + 3, none⟩ = some (.int .i64 (nth4 xs i).2.2)) : QuadV w (.slice ao xs.length cap) xs := by
  refine ⟨ao, cap, rfl, h1, h2, fun j hj => ?_⟩
  obtain ⟨b, off, e, c0, c1, c2, c3⟩ := H (j / 4) (by omega)
  obtain ⟨n0, n1, n2, n3⟩ := nth_fl4 (xs := xs) (i := j / 4) (by omega)
  have hj4 : j % 4 = 0 ∨ j % 4 = 1 ∨ j % 4 = 2 ∨ j % 4 = 3 := by omega
  rcases hj4 with h0 | h0 | h0 | h0
  · have ej : j / 4 * 4 = j := by omega
    rw [ej] at c0 n0
    exact ⟨b, off, e, by rw [c0, n0]⟩
  · have ej : j / 4 * 4 + 1 = j := by omega
    rw [Nat.add_assoc, ej] at c1
    rw [ej] at n1
    exact ⟨b, off, e, by rw [c1, n1]⟩
  · have ej : j / 4 * 4 + 2 = j := by omega
    rw [Nat.add_assoc, ej] at c2
    rw [ej] at n2
    exact ⟨b, off, e, by rw [c2, n2]⟩
  · have ej : j / 4 * 4 + 3 = j := by omega
    rw [Nat.add_assoc, ej] at c3
    rw [ej] at n3
    exact ⟨b, off, e, by rw [c3, n3]⟩

abbrev szIntervalS (xs : List Quad) : Nat := xs.length
abbrev szPointS (xs : List Quad) : Nat := xs.length
def cntIntervalS (xs : List Quad) : Nat := 4 * xs.length
def cntPointS (xs : List Quad) : Nat := 4 * xs.length
theorem cntIntervalS_le (xs : List Quad) : cntIntervalS xs ≤ 4 * szIntervalS xs := Nat.le_refl _
theorem cntPointS_le (xs : List Quad) : cntPointS xs ≤ 4 * szPointS xs := Nat.le_refl _

/-- One element appended to a slice of the call's own. -/
theorem wp_append_flat {T L : TypeId} {K : Nat} {i : TypeInfo} {z : Value} {bytes : Nat} {o : Oper} {a : Act} {w : World} {KK : Act → World → Prop} {Q : Exit → Act → World → Prop} (s x : Operand)
    (ho : o.op = .call { callee := .builtin .append, args := #[s, x], argTypes := #[L, L] }) (hL : Tryz.prog.underlying L = some (.slice T)) (hi : Tryz.prog.info? T = some i) (hz : i.zero = some z) (hk : i.size = K) (hby : i.bytes = bytes)
    (hzs : z.cells.size = K) (hK : 0 < K) (hb : bytes ≤ 64) (B : Nat) (v : Value) (n : Nat) (ys : List Int) (zs : List Int) (c : Nat) (hs : a.eval s = v) (hx : a.eval x = .slice (some ⟨w.heap.size, 0, none⟩) 1 c) (hzl : zs.length = K)
    (hown : GrowF T K w B v n ys) (hl : n ≤ 1099511627776) (hB : B ≤ w.heap.size)
    (h : ∀ v' w', GrowF T K w' B v' (n + 1) (ys ++ zs) → w.grownBy w' v.ownBlock → KK (a.put o.dst v') w') : o.wp Tryz.prog a (w.alloc (.cells (zs.map (Value.int .i64)).toArray T)) KK Q := by
  refine wp_append_own _ s x L ho B T i z K bytes hL hi hz hk hby hzs hK v n _ hs (World.ownsRow.alloc hown _) ⟨w.heap.size, 0, none⟩ 1 c (zs.map (Value.int .i64)) hx (by simp [hzl]) ?_ ?_ (by unfold maxLen; omega) ?_ (by simp; omega) ?_
  · intro j u hj
    have hj' : j < zs.length := by simpa using (List.getElem?_eq_some_iff.1 hj).1
    rw [Addr.add_lit, Nat.zero_add, World.cell?_alloc_at _ _ _ _ rfl]
    simpa using hj
  · intro u hu
    obtain ⟨_, _, rfl⟩ := List.mem_map.1 hu
    rfl
  · calc (n + 1) * bytes ≤ (n + 1) * 64 := Nat.mul_le_mul_left _ hb
      _ ≤ 140737488355328 := by omega
  · intro v' w' h1 h2 _
    exact h v' w' (by unfold GrowF; rw [List.map_append]; exact h1) ((World.grownBy_alloc _ _ _).trans h2)



end Go.Proofs.YtgpabfbnbmbmeaaGreatDoor

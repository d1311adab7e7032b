/- Several texts in one: Part LiftRs Quad Between States StatesOf. No conditions but those that each theorem states. -/
import Derived.Test.YtjkgilenhoomoaaGreatPkB

namespace Go.Proofs.YtjkgilenhoomoaaGreat
open Go.RowKit
set_option maxRecDepth 100000

/-- A partition: 2 to 9 fractions of 0..1, strictly rising from 0 to 1. -/
def partB (xs : List (Int × Int)) : Bool :=
  inB xs.length 2 9 && (unitsB xs && (riseK xs xs.length && (decide (nthR xs 0 = (0, 1)) && decide (nthR xs (xs.length - 1) = (1, 1)))))


theorem partB_unit {xs : List (Int × Int)} {k : Nat} (hk : k < xs.length) (h : unitR (nthR xs k).1 (nthR xs k).2 = false) : partB xs = false := by
  have : unitsB xs = false := by
    cases hu : unitsB xs
    · rfl
    · rw [unitsB_nth hu hk] at h; cases h
  simp [partB, this]
theorem partB_rise {xs : List (Int × Int)} (h : riseK xs xs.length = false) : partB xs = false := by simp [partB, h]
theorem unitsB_of {xs : List (Int × Int)} (h : ∀ j, j < xs.length → unitR (nthR xs j).1 (nthR xs j).2 = true) : unitsB xs = true := by
  unfold unitsB
  rw [Bool.not_eq_true', List.any_eq_false]
  intro x hx
  obtain ⟨j, hj, rfl⟩ := List.getElem_of_mem hx
  have := h j hj
  rw [nthR_eq hj] at this
  simp [this]


end Go.Proofs.YtjkgilenhoomoaaGreat

namespace Go.Proofs.YtjkgilenhoomoaaGreat
open Go.ChangeShapes Go.WideShapes Go.ChangeAt Go.RowKit


end Go.Proofs.YtjkgilenhoomoaaGreat

namespace Go.Proofs.YtjkgilenhoomoaaGreat
open Go.RowKit

abbrev Quad := (Int × Int) × (Int × Int)
/-- Element i of a list of pairs of fractions. -/
def nth4 (xs : List Quad) (i : Nat) : Quad := xs[i]?.getD ((0, 0), (0, 0))
theorem nth4_eq {xs : List Quad} {i : Nat} (h : i < xs.length) : nth4 xs i = xs[i] := by unfold nth4; rw [List.getElem?_eq_getElem h]; rfl
theorem take_nth4 {xs : List Quad} {k : Nat} (h : k < xs.length) : xs.take (k + 1) = xs.take k ++ [nth4 xs k] := by
  rw [List.take_add_one, List.getElem?_eq_getElem h, nth4_eq h]; rfl
def fl4 (xs : List Quad) : List Int := xs.flatMap fun x => [x.1.1, x.1.2, x.2.1, x.2.2]
theorem fl4_len (xs : List Quad) : (fl4 xs).length = xs.length * 4 := by
  induction xs with
  | nil => rfl
  | cons x xs ih => simp only [fl4, List.flatMap_cons, List.length_append, List.length_cons, List.length_nil] at ih ⊢; omega
theorem fl4_append (xs ys : List Quad) : fl4 (xs ++ ys) = fl4 xs ++ fl4 ys := by simp [fl4]
theorem fl4_one (x : Quad) : fl4 [x] = [x.1.1, x.1.2, x.2.1, x.2.2] := rfl
theorem nth_fl4 {xs : List Quad} {i : Nat} (h : i < xs.length) :
    nth (fl4 xs) (i * 4) = (nth4 xs i).1.1 ∧ nth (fl4 xs) (i * 4 + 1) = (nth4 xs i).1.2 ∧ nth (fl4 xs) (i * 4 + 2) = (nth4 xs i).2.1 ∧ nth (fl4 xs) (i * 4 + 3) = (nth4 xs i).2.2 := by
  induction xs generalizing i with
  | nil => simp at h
  | cons x xs ih =>
    have hc : fl4 (x :: xs) = x.1.1 :: x.1.2 :: x.2.1 :: x.2.2 :: fl4 xs := rfl
    cases i with
    | zero => exact ⟨rfl, rfl, rfl, rfl⟩
    | succ i =>
      obtain ⟨a, b, c, d⟩ := ih (i := i) (by simpa using h)
      have e : ∀ j, nth (fl4 (x :: xs)) (j + 4) = nth (fl4 xs) j := fun j => by rw [hc]; rfl
      have e4 : nth4 (x :: xs) (i + 1) = nth4 xs i := rfl
      rw [e4, show (i + 1) * 4 = i * 4 + 4 by omega, show i * 4 + 4 + 1 = (i * 4 + 1) + 4 by omega, show i * 4 + 4 + 2 = (i * 4 + 2) + 4 by omega, show i * 4 + 4 + 3 = (i * 4 + 3) + 4 by omega, e, e, e, e]
      exact ⟨a, b, c, d⟩

/-- A slice value that reads as these. -/
def QuadV (w : World) (v : Value) (xs : List Quad) : Prop := FlatV 4 w v xs.length (fl4 xs)
theorem QuadV.below {w w' : World} {v : Value} {xs : List Quad} (h : QuadV w v xs) (hB : Below w.heap.size w w') : QuadV w' v xs := FlatV.below h hB
theorem QuadV.form {w : World} {v : Value} {xs : List Quad} (h : QuadV w v xs) : ∃ ao cap, v = .slice ao xs.length cap ∧ (xs.length ≤ cap ∧ (ao = none → cap = 0)) ∧ cap ≤ maxLen ∧
    ∀ i, i < xs.length → ∃ b off, ao = some ⟨b, off, none⟩ ∧ w.cell? ⟨b, off + i * 4, none⟩ = some (.int .i64 (nth4 xs i).1.1) ∧ w.cell? ⟨b, off + i * 4 + 1, none⟩ = some (.int .i64 (nth4 xs i).1.2) ∧
      w.cell? ⟨b, off + i * 4 + 2, none⟩ = some (.int .i64 (nth4 xs i).2.1) ∧ w.cell? ⟨b, off + i * 4 + 3, none⟩ = some (.int .i64 (nth4 xs i).2.2) := by
  obtain ⟨ao, cap, e, h1, h2, H⟩ := h
  refine ⟨ao, cap, e, h1, h2, fun i hi => ?_⟩
  obtain ⟨b, off, rfl, c0⟩ := H (i * 4) (by omega)
  obtain ⟨_, _, e', c1⟩ := H (i * 4 + 1) (by omega)
  cases e'
  obtain ⟨_, _, e', c2⟩ := H (i * 4 + 2) (by omega)
  cases e'
  obtain ⟨_, _, e', c3⟩ := H (i * 4 + 3) (by omega)
  cases e'
  obtain ⟨n0, n1, n2, n3⟩ := nth_fl4 hi
  rw [n0] at c0; rw [n1] at c1; rw [n2] at c2; rw [n3] at c3
  exact ⟨b, off, rfl, c0, c1, c2, c3⟩
theorem QuadV.mk {w : World} {ao : Option Addr} {cap : Nat} {xs : List Quad} (h1 : xs.length ≤ cap ∧ (ao = none → cap = 0)) (h2 : cap ≤ maxLen)
    (H : ∀ i, i < xs.length → ∃ b off, ao = some ⟨b, off, none⟩ ∧ w.cell? ⟨b, off + i * 4, none⟩ = some (.int .i64 (nth4 xs i).1.1) ∧ w.cell? ⟨b, off + i * 4 + 1, none⟩ = some (.int .i64 (nth4 xs i).1.2) ∧
      w.cell? ⟨b, off + i * 4 + 2, none⟩ = some (.int .i64 (nth4 xs i).2.1) ∧ w.cell? ⟨b, off + i * 4 + 3, none⟩ = some (.int .i64 (nth4 xs i).2.2)) : QuadV w (.slice ao xs.length cap) xs := by
  refine ⟨ao, cap, rfl, h1, h2, fun j hj => ?_⟩
  obtain ⟨b, off, e, c0, c1, c2, c3⟩ := H (j / 4) (by omega)
  obtain ⟨n0, n1, n2, n3⟩ := nth_fl4 (xs := xs) (i := j / 4) (by omega)
  have hj4 : j % 4 = 0 ∨ j % 4 = 1 ∨ j % 4 = 2 ∨ j % 4 = 3 := by omega
  rcases hj4 with h0 | h0 | h0 | h0
  · have ej : j / 4 * 4 = j := by omega
    rw [ej] at c0 n0
    exact ⟨b, off, e, by rw [c0, n0]⟩
  · have ej : j / 4 * 4 + 1 = j := by omega
    rw [Nat.add_assoc, ej] at c1
    rw [ej] at n1
    exact ⟨b, off, e, by rw [c1, n1]⟩
  · have ej : j / 4 * 4 + 2 = j := by omega
    rw [Nat.add_assoc, ej] at c2
    rw [ej] at n2
    exact ⟨b, off, e, by rw [c2, n2]⟩
  · have ej : j / 4 * 4 + 3 = j := by omega
    rw [Nat.add_assoc, ej] at c3
    rw [ej] at n3
    exact ⟨b, off, e, by rw [c3, n3]⟩

abbrev szIntervalS (xs : List Quad) : Nat := xs.length
abbrev szPointS (xs : List Quad) : Nat := xs.length
def cntIntervalS (xs : List Quad) : Nat := 4 * xs.length
def cntPointS (xs : List Quad) : Nat := 4 * xs.length
theorem cntIntervalS_le (xs : List Quad) : cntIntervalS xs ≤ 4 * szIntervalS xs := Nat.le_refl _
theorem cntPointS_le (xs : List Quad) : cntPointS xs ≤ 4 * szPointS xs := Nat.le_refl _

/-- One element appended to a slice of the call's own. -/
theorem wp_append_flat {T L : TypeId} {K : Nat} {i : TypeInfo} {z : Value} {bytes : Nat} {o : Oper} {a : Act} {w : World} {KK : Act → World → Prop} {Q : Exit → Act → World → Prop} (s x : Operand)
    (ho : o.op = .call { callee := .builtin .append, args := #[s, x], argTypes := #[L, L] }) (hL : Tryz.prog.underlying L = some (.slice T)) (hi : Tryz.prog.info? T = some i) (hz : i.zero = some z) (hk : i.size = K) (hby : i.bytes = bytes)
    (hzs : z.cells.size = K) (hK : 0 < K) (hb : bytes ≤ 64) (B : Nat) (v : Value) (n : Nat) (ys : List Int) (zs : List Int) (c : Nat) (hs : a.eval s = v) (hx : a.eval x = .slice (some ⟨w.heap.size, 0, none⟩) 1 c) (hzl : zs.length = K)
    (hown : GrowF T K w B v n ys) (hl : n ≤ 1099511627776) (hB : B ≤ w.heap.size)
    (h : ∀ v' w', GrowF T K w' B v' (n + 1) (ys ++ zs) → w.grownBy w' v.ownBlock → KK (a.put o.dst v') w') : o.wp Tryz.prog a (w.alloc (.cells (zs.map (Value.int .i64)).toArray T)) KK Q := by
  refine wp_append_own _ s x L ho B T i z K bytes hL hi hz hk hby hzs hK v n _ hs (World.ownsRow.alloc hown _) ⟨w.heap.size, 0, none⟩ 1 c (zs.map (Value.int .i64)) hx (by simp [hzl]) ?_ ?_ (by unfold maxLen; omega) ?_ (by simp; omega) ?_
  · intro j u hj
    have hj' : j < zs.length := by simpa using (List.getElem?_eq_some_iff.1 hj).1
    rw [Addr.add_lit, Nat.zero_add, World.cell?_alloc_at _ _ _ _ rfl]
    simpa using hj
  · intro u hu
    obtain ⟨_, _, rfl⟩ := List.mem_map.1 hu
    rfl
  · calc (n + 1) * bytes ≤ (n + 1) * 64 := Nat.mul_le_mul_left _ hb
      _ ≤ 140737488355328 := by omega
  · intro v' w' h1 h2 _
    exact h v' w' (by unfold GrowF; rw [List.map_append]; exact h1) ((World.grownBy_alloc _ _ _).trans h2)

theorem wp_append_rat {o : Oper} {a : Act} {w : World} {KK : Act → World → Prop} {Q : Exit → Act → World → Prop} (s x : Operand)
    (ho : o.op = .call { callee := .builtin .append, args := #[s, x], argTypes := #[67, 67] }) (B : Nat) (v : Value) (xs : List (Int × Int)) (p q : Int) (c : Nat) (hs : a.eval s = v) (hx : a.eval x = .slice (some ⟨w.heap.size, 0, none⟩) 1 c)
    (hown : GrowR w B v xs) (hl : xs.length ≤ 1099511627776) (hB : B ≤ w.heap.size)
    (h : ∀ v' w', GrowR w' B v' (xs ++ [(p, q)]) → w.grownBy w' v.ownBlock → KK (a.put o.dst v') w') : o.wp Tryz.prog a (w.alloc (.cells #[.int .i64 p, .int .i64 q] 42)) KK Q := by
  obtain ⟨i, hi, hz0, hz1, hz2⟩ := info_parts Tryz.infoRat
  refine wp_append_flat s x ho Tryz.underlying67 hi hz0 hz1 hz2 rfl (by decide) (by decide) B v xs.length (flR xs) [p, q] c hs hx rfl hown hl hB (fun v' w' h1 h2 => h v' w' ?_ h2)
  unfold GrowR
  rw [flR_append, List.length_append]; exact h1

def OwnI (w : World) (B E : Nat) (v : Value) (xs : List Quad) : Prop := OwnF 44 4 w B E v xs.length (fl4 xs)
section
variable {w w' : World} {B E B' E' : Nat} {v : Value} {xs : List Quad}
theorem OwnI.mono (h : OwnI w B E v xs) (hB : B' ≤ B) (hE : E ≤ E') : OwnI w B' E' v xs := OwnF.mono h hB hE
theorem OwnI.below {E'' : Nat} (h : OwnI w B E v xs) (hB : Below E'' w w') (hE : E ≤ E'') : OwnI w' B E v xs := OwnF.below h hB hE
theorem OwnI.kept {row : Option Nat} (h : OwnI w B E v xs) (hg : w.grownBy w' row) (hr : ∀ g, row = some g → g < B ∨ E ≤ g) : OwnI w' B E v xs := OwnF.kept h hg hr
theorem OwnI.turned (h : OwnI w B E v xs) (ht : Turned B' E' w w') (hd : E ≤ B' ∨ E' ≤ B) : OwnI w' B E v xs := OwnF.turned h ht hd
theorem OwnI.read (h : OwnI w B E v xs) : QuadV w v xs := OwnF.read h
theorem OwnI.nil (w : World) (B E : Nat) : OwnI w B E (.slice none 0 0) [] := OwnF.nil _ _ _ _ _ _
end
def GrowI (w : World) (B : Nat) (v : Value) (xs : List Quad) : Prop := GrowF 44 4 w B v xs.length (fl4 xs)
theorem GrowI.nil (w : World) (B : Nat) : GrowI w B (.slice none 0 0) [] := GrowF.nil _ _ _ _
theorem GrowI.own {w : World} {B : Nat} {v : Value} {xs : List Quad} (h : GrowI w B v xs) : OwnI w B w.heap.size v xs := GrowF.own h
theorem GrowI.read {w : World} {B : Nat} {v : Value} {xs : List Quad} (h : GrowI w B v xs) : QuadV w v xs := h.own.read
theorem GrowI.below {w w' : World} {B : Nat} {v : Value} {xs : List Quad} (h : GrowI w B v xs) (hB : Below w.heap.size w w') : GrowI w' B v xs := GrowF.below h hB
theorem GrowI.belowB {w0 w w' : World} {B : Nat} {v : Value} {xs : List Quad} {b : Nat} (h : GrowI w B v xs) (hb : Below b w0 w) (hB : b ≤ B) (hsz : b ≤ w.heap.size) (hg : w.grownBy w' v.ownBlock) : Below b w0 w' := GrowF.belowB h hb hB hsz hg
theorem Tryz.infoInterval : (Tryz.prog.info? 44).map (fun i => (i.zero, i.size, i.bytes)) = some (some (.agg #[.int .i64 0, .int .i64 0, .int .i64 0, .int .i64 0]), 4, 32) := by kernel_rfl
theorem wp_append_I {o : Oper} {a : Act} {w : World} {KK : Act → World → Prop} {Q : Exit → Act → World → Prop} (s x : Operand)
    (ho : o.op = .call { callee := .builtin .append, args := #[s, x], argTypes := #[26, 26] }) (B : Nat) (v : Value) (xs : List Quad) (p q p' q' : Int) (c : Nat) (hs : a.eval s = v) (hx : a.eval x = .slice (some ⟨w.heap.size, 0, none⟩) 1 c)
    (hown : GrowI w B v xs) (hl : xs.length ≤ 1099511627776) (hB : B ≤ w.heap.size)
    (h : ∀ v' w', GrowI w' B v' (xs ++ [((p, q), (p', q'))]) → w.grownBy w' v.ownBlock → KK (a.put o.dst v') w') : o.wp Tryz.prog a (w.alloc (.cells #[.int .i64 p, .int .i64 q, .int .i64 p', .int .i64 q'] 44)) KK Q := by
  obtain ⟨i, hi, hz0, hz1, hz2⟩ := info_parts Tryz.infoInterval
  refine wp_append_flat s x ho Tryz.underlying26 hi hz0 hz1 hz2 rfl (by decide) (by decide) B v xs.length (fl4 xs) [p, q, p', q'] c hs hx rfl hown hl hB (fun v' w' h1 h2 => h v' w' ?_ h2)
  unfold GrowI
  rw [fl4_append, List.length_append]; exact h1
def OwnP (w : World) (B E : Nat) (v : Value) (xs : List Quad) : Prop := OwnF 48 4 w B E v xs.length (fl4 xs)
section
variable {w w' : World} {B E B' E' : Nat} {v : Value} {xs : List Quad}
theorem OwnP.mono (h : OwnP w B E v xs) (hB : B' ≤ B) (hE : E ≤ E') : OwnP w B' E' v xs := OwnF.mono h hB hE
theorem OwnP.below {E'' : Nat} (h : OwnP w B E v xs) (hB : Below E'' w w') (hE : E ≤ E'') : OwnP w' B E v xs := OwnF.below h hB hE
theorem OwnP.kept {row : Option Nat} (h : OwnP w B E v xs) (hg : w.grownBy w' row) (hr : ∀ g, row = some g → g < B ∨ E ≤ g) : OwnP w' B E v xs := OwnF.kept h hg hr
theorem OwnP.turned (h : OwnP w B E v xs) (ht : Turned B' E' w w') (hd : E ≤ B' ∨ E' ≤ B) : OwnP w' B E v xs := OwnF.turned h ht hd
theorem OwnP.read (h : OwnP w B E v xs) : QuadV w v xs := OwnF.read h
theorem OwnP.nil (w : World) (B E : Nat) : OwnP w B E (.slice none 0 0) [] := OwnF.nil _ _ _ _ _ _
end
def GrowP (w : World) (B : Nat) (v : Value) (xs : List Quad) : Prop := GrowF 48 4 w B v xs.length (fl4 xs)
theorem GrowP.nil (w : World) (B : Nat) : GrowP w B (.slice none 0 0) [] := GrowF.nil _ _ _ _
theorem GrowP.own {w : World} {B : Nat} {v : Value} {xs : List Quad} (h : GrowP w B v xs) : OwnP w B w.heap.size v xs := GrowF.own h
theorem GrowP.read {w : World} {B : Nat} {v : Value} {xs : List Quad} (h : GrowP w B v xs) : QuadV w v xs := h.own.read
theorem GrowP.below {w w' : World} {B : Nat} {v : Value} {xs : List Quad} (h : GrowP w B v xs) (hB : Below w.heap.size w w') : GrowP w' B v xs := GrowF.below h hB
theorem GrowP.belowB {w0 w w' : World} {B : Nat} {v : Value} {xs : List Quad} {b : Nat} (h : GrowP w B v xs) (hb : Below b w0 w) (hB : b ≤ B) (hsz : b ≤ w.heap.size) (hg : w.grownBy w' v.ownBlock) : Below b w0 w' := GrowF.belowB h hb hB hsz hg
theorem Tryz.infoPoint : (Tryz.prog.info? 48).map (fun i => (i.zero, i.size, i.bytes)) = some (some (.agg #[.int .i64 0, .int .i64 0, .int .i64 0, .int .i64 0]), 4, 32) := by kernel_rfl
theorem wp_append_P {o : Oper} {a : Act} {w : World} {KK : Act → World → Prop} {Q : Exit → Act → World → Prop} (s x : Operand)
    (ho : o.op = .call { callee := .builtin .append, args := #[s, x], argTypes := #[29, 29] }) (B : Nat) (v : Value) (xs : List Quad) (p q p' q' : Int) (c : Nat) (hs : a.eval s = v) (hx : a.eval x = .slice (some ⟨w.heap.size, 0, none⟩) 1 c)
    (hown : GrowP w B v xs) (hl : xs.length ≤ 1099511627776) (hB : B ≤ w.heap.size)
    (h : ∀ v' w', GrowP w' B v' (xs ++ [((p, q), (p', q'))]) → w.grownBy w' v.ownBlock → KK (a.put o.dst v') w') : o.wp Tryz.prog a (w.alloc (.cells #[.int .i64 p, .int .i64 q, .int .i64 p', .int .i64 q'] 48)) KK Q := by
  obtain ⟨i, hi, hz0, hz1, hz2⟩ := info_parts Tryz.infoPoint
  refine wp_append_flat s x ho Tryz.underlying29 hi hz0 hz1 hz2 rfl (by decide) (by decide) B v xs.length (fl4 xs) [p, q, p', q'] c hs hx rfl hown hl hB (fun v' w' h1 h2 => h v' w' ?_ h2)
  unfold GrowP
  rw [fl4_append, List.length_append]; exact h1

end Go.Proofs.YtjkgilenhoomoaaGreat

namespace Go.Proofs.YtjkgilenhoomoaaGreat
open Go.RowKit
set_option maxRecDepth 100000

/-- The first k intervals between neighbours. -/
def betwK (xs : List (Int × Int)) (k : Nat) : List Quad := (List.range k).map fun i => (nthR xs i, nthR xs (i + 1))
def betwL (xs : List (Int × Int)) : List Quad := betwK xs (xs.length - 1)
theorem betwK_len (xs : List (Int × Int)) (k : Nat) : (betwK xs k).length = k := by simp [betwK]
theorem betwK_step (xs : List (Int × Int)) (k : Nat) : betwK xs (k + 1) = betwK xs k ++ [(nthR xs k, nthR xs (k + 1))] := by simp [betwK, List.range_succ]
theorem nth4_betwK (xs : List (Int × Int)) {k i : Nat} (h : i < k) : nth4 (betwK xs k) i = (nthR xs i, nthR xs (i + 1)) := by
  rw [nth4_eq (by rw [betwK_len]; exact h)]; simp [betwK]


end Go.Proofs.YtjkgilenhoomoaaGreat

namespace Go.Proofs.YtjkgilenhoomoaaGreat
open Go.RowKit
set_option maxRecDepth 100000

def stB (xs : List (Int × Int)) (x : Int × Int) (i : Nat) : Bool := !(ltB x.1 x.2 (nthR xs i).1 (nthR xs i).2) && !(ltB (nthR xs (i + 1)).1 (nthR xs (i + 1)).2 x.1 x.2)
/-- Those of the first k states that x belongs to. -/
def stK (xs : List (Int × Int)) (x : Int × Int) : Nat → List Int
  | 0 => []
  | k + 1 => if stB xs x k = true then stK xs x k ++ [(k : Int)] else stK xs x k
def stL (xs : List (Int × Int)) (x : Int × Int) : List Int := stK xs x (xs.length - 1)
theorem stK_len (xs : List (Int × Int)) (x : Int × Int) (k : Nat) : (stK xs x k).length ≤ k := by
  induction k with
  | zero => exact Nat.le_refl _
  | succ k ih =>
    unfold stK
    split
    · rw [List.length_append]; simp; exact ih
    · omega
theorem cmpN_le (n d n' d' : Int) : decide (cmpN n d n' d' ≤ 0) = !(ltB n' d' n d) := by
  unfold cmpN ltB sgn
  by_cases h : n' * d < n * d'
  · rw [if_pos (by omega), decide_eq_true h]; rfl
  · rw [decide_eq_false h, if_neg (by omega)]
    by_cases h2 : n * d' - n' * d < 0
    · rw [if_pos h2]; rfl
    · rw [if_neg h2]; rfl



end Go.Proofs.YtjkgilenhoomoaaGreat

namespace Go.Proofs.YtjkgilenhoomoaaGreat
open Go.RowKit

def StatesOf_v (xs : List (Int × Int)) (x : Int × Int) : List Int × Bool := if (partB xs && unitR x.1 x.2) = true then (stL xs x, true) else ([], false)
theorem partB_len {xs : List (Int × Int)} (h : partB xs = true) : 2 ≤ xs.length ∧ xs.length ≤ 9 := by
  unfold partB at h
  rw [Bool.and_eq_true] at h
  have := inB_true.1 h.1
  omega
theorem partB_bd {xs : List (Int × Int)} (h : partB xs = true) : ∀ i, i < xs.length → BdR (nthR xs i).1 (nthR xs i).2 := by
  unfold partB at h
  rw [Bool.and_eq_true, Bool.and_eq_true] at h
  exact fun i hi => unitR_bd (unitsB_nth h.2.1 hi)
theorem StatesOf_len (xs : List (Int × Int)) (x : Int × Int) : szIntS (StatesOf_v xs x).1 ≤ 1099511627776 := by
  unfold StatesOf_v szIntS
  split
  · rename_i h
    rw [Bool.and_eq_true] at h
    have h1 := partB_len h.1
    have h2 : (stL xs x).length ≤ xs.length - 1 := stK_len xs x _
    show (stL xs x).length ≤ _
    omega
  · simp


end Go.Proofs.YtjkgilenhoomoaaGreat

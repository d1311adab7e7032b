/- The states that a fraction belongs to. No conditions. -/
import Derived.Test.YtfcanpebagpdbaaBetween
namespace Go.Proofs.Ytfcanpebagpdbaa
open Go.RowKit

def stB (xs : List (Int × Int)) (x : Int × Int) (i : Nat) : Bool := !(ltB x.1 x.2 (nthR xs i).1 (nthR xs i).2) && !(ltB (nthR xs (i + 1)).1 (nthR xs (i + 1)).2 x.1 x.2)
/-- Those of the first k states that x belongs to. -/
def stK (xs : List (Int × Int)) (x : Int × Int) : Nat → List Int
  | 0 => []
  | k + 1 => if stB xs x k = true then stK xs x k ++ [(k : Int)] else stK xs x k
def stL (xs : List (Int × Int)) (x : Int × Int) : List Int := stK xs x (xs.length - 1)
theorem stK_len (xs : List (Int × Int)) (x : Int × Int) (k : Nat) : (stK xs x k).length ≤ k := by
  induction k with
  | zero => exact Nat.le_refl _
  | succ k ih =>
    unfold stK
    split
    · rw [List.length_append]; simp; exact ih
    · omega
theorem cmpN_le (n d n' d' : Int) : decide (cmpN n d n' d' ≤ 0) = !(ltB n' d' n d) := by
  unfold cmpN ltB sgn
  by_cases h : n' * d < n * d'
  · rw [if_pos (by omega), decide_eq_true h]; rfl
  · rw [decide_eq_false h, if_neg (by omega)]
    by_cases h2 : n * d' - n' * d < 0
    · rw [if_pos h2]; rfl
    · rw [if_neg h2]; rfl

set_option maxHeartbeats 1600000 in
theorem statesOf_any (v : Value) (xs : List (Int × Int)) (x : Int × Int) (w : World) (hv : RatsV w v xs) (hm : szRatS xs ≤ 1099511627776) (hx : BdR x.1 x.2) (hb : ∀ i, i < xs.length → BdR (nthR xs i).1 (nthR xs i).2) :
    Calls Try.prog 75 #[v, .agg #[.int .i64 x.1, .int .i64 x.2]] w (RetO Own (stL xs x) w) := by
  replace hm : xs.length ≤ 1099511627776 := hm
  have c0 := fun w' (hB : Below w.heap.size w w') => between_any v xs w' (hv.below hB) hm
  have hN : (betwL xs).length = xs.length - 1 := betwK_len _ _
  have hat : ∀ i, i < xs.length - 1 → nth4 (betwL xs) i = (nthR xs i, nthR xs (i + 1)) := fun i hi => nth4_betwK xs hi
  unfold stL
  obtain ⟨n, hn⟩ : ∃ n, xs.length - 1 = n := ⟨_, rfl⟩
  replace hb : ∀ i, i < n + 1 → n ≠ 0 → BdR (nthR xs i).1 (nthR xs i).2 := fun i hi h0 => hb i (by omega)
  rw [hn] at hN hat ⊢
  have hm' : n ≤ 1099511627776 := by omega
  generalize betwL xs = L at *
  have hst : ∀ k, stK xs x (k + 1) = if stB xs x k = true then stK xs x k ++ [(k : Int)] else stK xs x k := fun k => rfl
  have hsl : ∀ k, (stK xs x k).length ≤ k := stK_len xs x
  have h0' : stK xs x 0 = [] := rfl
  have hB' : ∀ k, stB xs x k = (!(ltB x.1 x.2 (nthR xs k).1 (nthR xs k).2) && !(ltB (nthR xs (k + 1)).1 (nthR xs (k + 1)).2 x.1 x.2)) := fun k => rfl
  generalize stK xs x = st at *
  generalize stB xs x = sb at *
  have cl1 := fun (w' : World) k (h : k < n) => less_any x.1 x.2 (nthR xs k).1 (nthR xs k).2 w' hx (hb k (by omega) (by omega))
  have cl2 := fun (w' : World) k (h : k < n) => less_any (nthR xs (k + 1)).1 (nthR xs (k + 1)).2 x.1 x.2 w' (hb (k + 1) (by omega) (by omega)) hx
  obtain ⟨p, q⟩ := x
  simp only at cl1 cl2 hB'
  obtain ⟨w0, hw0⟩ : ∃ W, w.alloc (.cells #[.int .i64 p, .int .i64 q] 34) = W := ⟨_, rfl⟩
  have hB0 : Below w.heap.size w w0 := by rw [← hw0]; exact (Below.refl _ _).alloc (Nat.le_refl _) _
  have hz0 : w.heap.size < w0.heap.size := by rw [← hw0]; simp
  have hx0 : w0.cell? ⟨w.heap.size, 0, none⟩ = some (.int .i64 p) := by rw [← hw0]; simp [go_sem]
  have hx1 : w0.cell? ⟨w.heap.size, 1, none⟩ = some (.int .i64 q) := by rw [← hw0]; simp [go_sem]
  have c0' := Lib.hid c0
  have hN' := Lib.hid hN
  have hat' := Lib.hid hat
  have hn' := Lib.hid hn
  have hb' := Lib.hid hb
  have hst' := Lib.hid hst
  have hsl' := Lib.hid hsl
  have h0'' := Lib.hid h0'
  have hB'' := Lib.hid hB'
  have cl1' := Lib.hid cl1
  have cl2' := Lib.hid cl2
  have hw0' := Lib.hid hw0
  have hv' := Lib.hid hv
  clear c0 hN hat hn hb hst hsl h0' hB' cl1 cl2 hw0 hv
  clear hm hx
  show Calls _ _ #[v, .agg #[.int .i64 p, .int .i64 q]] w _
  go_enter Try.func75, Try.ntmps75
  go_wp2_with fail
  rw [hw0'.out]
  go_wp2_with fail
  refine (c0'.out _ hB0).mono ?_
  rintro e w2 ⟨v1, rfl, hv1, hB1⟩
  have hb1 := hB0.trans (hB1.mono hB0.size)
  have hs1 := hB1.size
  replace hx0 := (hB1.cell (p := ⟨w.heap.size, 0, none⟩) hz0).trans hx0
  replace hx1 := (hB1.cell (p := ⟨w.heap.size, 1, none⟩) hz0).trans hx1
  have hz2 : w.heap.size < w2.heap.size := by omega
  have hq := hv1.read
  obtain ⟨ao, cap, rfl, hcc, hcap, H⟩ := hq.form
  rw [hN'.out] at H hcc ⊢
  clear hv1 hq hB1 hs1 hcc hcap hB0 hz0
  have H' := Lib.hid H
  clear H
  go_wp2
  go_loopw [5, 11] (fun o i wr => ∃ k : Nat, k ≤ n ∧ i = .int .i64 k ∧ Grow wr w2.heap.size o (st k) ∧ Below w2.heap.size w2 wr) (fun _ i _ => n - (intOf i).toNat)
  case atStart => exact ⟨0, Nat.zero_le _, rfl, by rw [h0''.out]; exact Grow.nil _ _, Below.refl _ _⟩
  case round =>
    obtain ⟨k, hk, rfl, hg, hB⟩ := hrel
    by_cases hlt : k < n
    · obtain ⟨b, off, e, d0, d1, d2, d3⟩ := H'.out k hlt
      cases e
      have l1 := World.block_lt_of_cell? _ _ d0
      simp only at l1
      rw [hat'.out k hlt] at d0 d1 d2 d3
      have hsb := hB''.out k
      have hstk := hst'.out k
      have hslk := hsl'.out k
      have e1 := fun w' => cl1'.out w' k hlt
      have e2 := fun w' => cl2'.out w' k hlt
      generalize ltB p q (nthR xs k).1 (nthR xs k).2 = L1 at *
      generalize ltB (nthR xs (k + 1)).1 (nthR xs (k + 1)).2 p q = L2 at *
      generalize nthR xs k = r1 at *
      generalize nthR xs (k + 1) = r2 at *
      obtain ⟨a1, a2⟩ := r1
      obtain ⟨b1, b2⟩ := r2
      simp only at d0 d1 d2 d3 e1 e2
      rw [← hB.cell l1] at d0 d1 d2 d3
      have x0 := (hB.cell (p := ⟨w.heap.size, 0, none⟩) hz2).trans hx0
      have x1 := (hB.cell (p := ⟨w.heap.size, 1, none⟩) hz2).trans hx1
      have hs3 := hB.size
      have hzr : w.heap.size < wr.heap.size := by omega
      obtain ⟨w1, hw1⟩ : ∃ W, wr.alloc (.cells #[.int .i64 a1, .int .i64 a2, .int .i64 b1, .int .i64 b2] 43) = W := ⟨_, rfl⟩
      have hB3 : Below wr.heap.size wr w1 := by rw [← hw1]; exact (Below.refl _ _).alloc (Nat.le_refl _) _
      have i0 : w1.cell? ⟨wr.heap.size, 0, none⟩ = some (.int .i64 a1) := by rw [← hw1]; simp [go_sem]
      have i1 : w1.cell? ⟨wr.heap.size, 1, none⟩ = some (.int .i64 a2) := by rw [← hw1]; simp [go_sem]
      have i2 : w1.cell? ⟨wr.heap.size, 2, none⟩ = some (.int .i64 b1) := by rw [← hw1]; simp [go_sem]
      have i3 : w1.cell? ⟨wr.heap.size, 3, none⟩ = some (.int .i64 b2) := by rw [← hw1]; simp [go_sem]
      have hz3 : wr.heap.size < w1.heap.size := by rw [← hw1]; simp
      replace x0 := (hB3.cell (p := ⟨w.heap.size, 0, none⟩) hzr).trans x0
      replace x1 := (hB3.cell (p := ⟨w.heap.size, 1, none⟩) hzr).trans x1
      have hzx : w.heap.size < w1.heap.size := by omega
      have hb3 := hB.trans (hB3.mono hs3)
      have hg3 := hg.below hB3
      clear hx0 hx1 hz2 hB3 hg hB
      have y0 : (wr.alloc (.cells #[.int .i64 a1, .int .i64 a2, .int .i64 b1, .int .i64 b2] 43)).cell? ⟨w.heap.size, 0, none⟩ = some (.int .i64 p) := by rw [hw1]; exact x0
      have y1 : (wr.alloc (.cells #[.int .i64 a1, .int .i64 a2, .int .i64 b1, .int .i64 b2] 43)).cell? ⟨w.heap.size, 1, none⟩ = some (.int .i64 q) := by rw [hw1]; exact x1
      have hstk' := Lib.hid hstk
      have hslk' := Lib.hid hslk
      have e1' := Lib.hid e1
      have e2' := Lib.hid e2
      have hw1' := Lib.hid hw1
      have hg3' := Lib.hid hg3
      clear hstk hslk e1 e2 hw1 hg3
      cases L1
      · cases L2
        · have hsb1 : sb k = true := hsb
          have hst1 := hstk'.out
          rw [hsb1, if_pos rfl] at hst1
          clear hsb hsb1
          have hst1' := Lib.hid hst1
          clear hst1
          go_wp2_with fail
          rw [hw1'.out]
          clear y0 y1
          go_wp2_with fail
          refine (e1'.out _).mono ?_
          rintro e w3 ⟨rfl, hB4⟩
          replace x0 := (hB4.cell (p := ⟨w.heap.size, 0, none⟩) hzx).trans x0
          replace x1 := (hB4.cell (p := ⟨w.heap.size, 1, none⟩) hzx).trans x1
          replace i2 := (hB4.cell (p := ⟨wr.heap.size, 2, none⟩) hz3).trans i2
          replace i3 := (hB4.cell (p := ⟨wr.heap.size, 3, none⟩) hz3).trans i3
          have hb4 := hb3.trans (hB4.mono hb3.size)
          have hg4 := hg3'.out.below hB4
          clear i0 i1 hb3 hB4
          have hg4' := Lib.hid hg4
          clear hg4
          go_wp2_with fail
          refine (e2'.out _).mono ?_
          rintro e w4 ⟨rfl, hB5⟩
          have hb5 := hb4.trans (hB5.mono hb4.size)
          have hg5 := hg4'.out.below hB5
          have hs5 := hb5.size
          clear hb4 hB5 i2 i3 x0 x1
          have hslk := hslk'.out
          go_wp2_with (at_builtin; refine wpList_append_int rfl _ _ rfl w2.heap.size u5 (st k) k _ rfl rfl hg5 (by omega) hs5 ?_)
          intro v' w' hown' hgrow
          go_wp2
          go_roundw
          case rel => exact ⟨k + 1, by omega, by go_num, by rw [hst1'.out]; exact hown', hg5.belowB hb5 (Nat.le_refl _) hs5 hgrow⟩
          case measure => simp [intOf]; omega
        · have hsb1 : sb k = false := hsb
          have hst1 := hstk'.out
          rw [hsb1, if_neg (by decide)] at hst1
          clear hsb hsb1
          have hst1' := Lib.hid hst1
          clear hst1
          go_wp2_with fail
          rw [hw1'.out]
          clear y0 y1
          go_wp2_with fail
          refine (e1'.out _).mono ?_
          rintro e w3 ⟨rfl, hB4⟩
          replace x0 := (hB4.cell (p := ⟨w.heap.size, 0, none⟩) hzx).trans x0
          replace x1 := (hB4.cell (p := ⟨w.heap.size, 1, none⟩) hzx).trans x1
          replace i2 := (hB4.cell (p := ⟨wr.heap.size, 2, none⟩) hz3).trans i2
          replace i3 := (hB4.cell (p := ⟨wr.heap.size, 3, none⟩) hz3).trans i3
          have hb4 := hb3.trans (hB4.mono hb3.size)
          have hg4 := hg3'.out.below hB4
          clear i0 i1 hb3 hB4
          have hg4' := Lib.hid hg4
          clear hg4
          go_wp2_with fail
          refine (e2'.out _).mono ?_
          rintro e w4 ⟨rfl, hB5⟩
          have hb5 := hb4.trans (hB5.mono hb4.size)
          have hg5 := hg4'.out.below hB5
          clear hb4 hB5 i2 i3 x0 x1
          go_wp2
          go_roundw
          case rel => exact ⟨k + 1, by omega, by go_num, by rw [hst1'.out]; exact hg5, hb5⟩
          case measure => simp [intOf]; omega
      · have hsb1 : sb k = false := hsb
        have hst1 := hstk'.out
        rw [hsb1, if_neg (by decide)] at hst1
        clear hsb hsb1
        have hst1' := Lib.hid hst1
        clear hst1
        go_wp2_with fail
        rw [hw1'.out]
        clear y0 y1
        go_wp2_with fail
        refine (e1'.out _).mono ?_
        rintro e w3 ⟨rfl, hB4⟩
        have hb4 := hb3.trans (hB4.mono hb3.size)
        have hg4 := hg3'.out.below hB4
        clear hb3 hB4 i0 i1 i2 i3 x0 x1
        go_wp2
        go_roundw
        case rel => exact ⟨k + 1, by omega, by go_num, by rw [hst1'.out]; exact hg4, hb4⟩
        case measure => simp [intOf]; omega
    · obtain rfl : k = n := by omega
      have ho := hg.own
      have hs3 := hB.size
      have hg' := Lib.hid hg
      have ho' := Lib.hid ho
      clear hg ho
      clear H'
      go_wp2
      go_ret
      exact ⟨_, rfl, ho'.out.mono (by omega) (Nat.le_refl _), hb1.trans (hB.mono (by omega))⟩

set_option linter.unusedSimpArgs false in
set_option maxHeartbeats 1600000 in
theorem mkStates_any (v : Value) (xs : List (Int × Int)) (x : Int × Int) (w : World) (hv : RatsV w v xs) (hm : szRatS xs ≤ 1099511627776) (hx : BdR x.1 x.2) (hb : ∀ i, i < xs.length → BdR (nthR xs i).1 (nthR xs i).2) :
    Calls Try.prog 69 #[v, .agg #[.int .i64 x.1, .int .i64 x.2]] w (RetO Own (stL xs x) w) := by
  replace hm : xs.length ≤ 1099511627776 := hm
  obtain ⟨ao, cap, rfl, _, _, H⟩ := hv.form
  unfold stL
  obtain ⟨n, hn⟩ : ∃ n, xs.length = n := ⟨_, rfl⟩
  rw [hn] at hb H hv hm ⊢
  have hst : ∀ k, stK xs x (k + 1) = if stB xs x k = true then stK xs x k ++ [(k : Int)] else stK xs x k := fun k => rfl
  have hsl : ∀ k, (stK xs x k).length ≤ k := stK_len xs x
  have h0' : stK xs x 0 = [] := rfl
  have hB' : ∀ k, stB xs x k = (!(ltB x.1 x.2 (nthR xs k).1 (nthR xs k).2) && !(ltB (nthR xs (k + 1)).1 (nthR xs (k + 1)).2 x.1 x.2)) := fun k => rfl
  generalize stK xs x = st at *
  generalize stB xs x = sb at *
  have cl1 := fun (w' : World) k (h : k + 1 < n) => raCmp_any (nthR xs k).1 (nthR xs k).2 x.1 x.2 w' (hb k (by omega)) hx
  have cl2 := fun (w' : World) k (h : k + 1 < n) => raCmp_any x.1 x.2 (nthR xs (k + 1)).1 (nthR xs (k + 1)).2 w' hx (hb (k + 1) (by omega))
  have ce1 := fun k => cmpN_le (nthR xs k).1 (nthR xs k).2 x.1 x.2
  have ce2 := fun k => cmpN_le x.1 x.2 (nthR xs (k + 1)).1 (nthR xs (k + 1)).2
  obtain ⟨p, q⟩ := x
  simp only at cl1 cl2 hB' ce1 ce2
  obtain ⟨w0, hw0⟩ : ∃ W, w.alloc (.cells #[.int .i64 p, .int .i64 q] 34) = W := ⟨_, rfl⟩
  have hB0 : Below w.heap.size w w0 := by rw [← hw0]; exact (Below.refl _ _).alloc (Nat.le_refl _) _
  have hz0 : w.heap.size < w0.heap.size := by rw [← hw0]; simp
  have hx0 : w0.cell? ⟨w.heap.size, 0, none⟩ = some (.int .i64 p) := by rw [← hw0]; simp [go_sem]
  have hx1 : w0.cell? ⟨w.heap.size, 1, none⟩ = some (.int .i64 q) := by rw [← hw0]; simp [go_sem]
  have hb' := Lib.hid hb
  have hst' := Lib.hid hst
  have hsl' := Lib.hid hsl
  have h0'' := Lib.hid h0'
  have hB'' := Lib.hid hB'
  have cl1' := Lib.hid cl1
  have cl2' := Lib.hid cl2
  have ce1' := Lib.hid ce1
  have ce2' := Lib.hid ce2
  have hw0' := Lib.hid hw0
  have hv' := Lib.hid hv
  have H' := Lib.hid H
  have hn' := Lib.hid hn
  clear hb hst hsl h0' hB' cl1 cl2 ce1 ce2 hw0 hv H hn
  clear hx
  show Calls _ _ #[_, .agg #[.int .i64 p, .int .i64 q]] w _
  go_enter Try.func69, Try.ntmps69
  go_wp2_with fail
  rw [hw0'.out]
  go_loopw [5, 6] (fun o i wr => ∃ k : Nat, (k + 1 ≤ n ∨ k = 0) ∧ i = .int .i64 ((k : Int) + 1) ∧ Grow wr w0.heap.size o (st k) ∧ Below w0.heap.size w0 wr) (fun _ i _ => n - (intOf i).toNat)
  case atStart => exact ⟨0, .inr rfl, rfl, by rw [h0''.out]; exact Grow.nil _ _, Below.refl _ _⟩
  case round =>
    obtain ⟨k, hk, rfl, hg, hB⟩ := hrel
    by_cases hlt : k + 1 < n
    · obtain ⟨b, off, rfl, d0, d1⟩ := H'.out k (by omega)
      obtain ⟨_, _, e', d2, d3⟩ := H'.out (k + 1) hlt
      cases e'
      have l1 := World.block_lt_of_cell? _ _ d0
      simp only at l1
      have hsb := hB''.out k
      have hstk := hst'.out k
      have hslk := hsl'.out k
      have e1 := fun w' => cl1'.out w' k hlt
      have e2 := fun w' => cl2'.out w' k hlt
      have f1 := ce1'.out k
      have f2 := ce2'.out k
      rw [← f1, ← f2] at hsb
      generalize cmpN (nthR xs k).1 (nthR xs k).2 p q = C1 at *
      generalize cmpN p q (nthR xs (k + 1)).1 (nthR xs (k + 1)).2 = C2 at *
      clear f1 f2
      generalize nthR xs k = r1 at *
      generalize nthR xs (k + 1) = r2 at *
      obtain ⟨a1, a2⟩ := r1
      obtain ⟨b1, b2⟩ := r2
      simp only at d0 d1 d2 d3 e1 e2
      obtain ⟨j, hj⟩ : ∃ j : Nat, j = k + 1 := ⟨_, rfl⟩
      rw [← hj] at d2 d3 hlt
      rw [show (k : Int) + 1 = (j : Int) by omega]
      rw [← hB0.cell l1] at d0 d1 d2 d3
      have l2 : b < w0.heap.size := by omega
      have at' : ∀ w', Below w0.heap.size w0 w' → (w'.cell? ⟨w.heap.size, 0, none⟩ = some (.int .i64 p) ∧ w'.cell? ⟨w.heap.size, 1, none⟩ = some (.int .i64 q)) ∧ (w'.cell? ⟨b, off + k * 2, none⟩ = some (.int .i64 a1) ∧ w'.cell? ⟨b, off + k * 2 + 1, none⟩ = some (.int .i64 a2)) ∧ w'.cell? ⟨b, off + j * 2, none⟩ = some (.int .i64 b1) ∧ w'.cell? ⟨b, off + j * 2 + 1, none⟩ = some (.int .i64 b2) :=
        fun w' h => ⟨⟨(h.cell (p := ⟨w.heap.size, 0, none⟩) hz0).trans hx0, (h.cell (p := ⟨w.heap.size, 1, none⟩) hz0).trans hx1⟩, ⟨(h.cell (p := ⟨b, off + k * 2, none⟩) l2).trans d0, (h.cell (p := ⟨b, off + k * 2 + 1, none⟩) l2).trans d1⟩, (h.cell (p := ⟨b, off + j * 2, none⟩) l2).trans d2, (h.cell (p := ⟨b, off + j * 2 + 1, none⟩) l2).trans d3⟩
      clear d0 d1 d2 d3 hx0 hx1
      have g1 : IntKind.i64.wrap ((j : Int) - 1) = (k : Int) := by rw [IntKind.wrap_i64]; omega
      have g2 : (0 : Int) ≤ (k : Int) := by omega
      have g3 : (k : Int) < (n : Int) := by omega
      have g4 : k < n := by omega
      have g5 : (0 : Int) ≤ (j : Int) := by omega
      have hb3 := hB.drew
      have hg3 : Grow wr.drew w0.heap.size u5 (st k) := hg
      have hstk' := Lib.hid hstk
      have hslk' := Lib.hid hslk
      have e1' := Lib.hid e1
      have e2' := Lib.hid e2
      have hg3' := Lib.hid hg3
      have at'' := Lib.hid at'
      have hj' := Lib.hid hj
      clear hstk hslk e1 e2 hg3 at' hj
      clear hg
      by_cases hC1 : C1 ≤ 0
      · by_cases hC2 : C2 ≤ 0
        · have hsb1 : sb k = true := by rw [hsb, decide_eq_true hC1, decide_eq_true hC2]; rfl
          have hst1 := hstk'.out
          rw [hsb1, if_pos rfl] at hst1
          clear hsb hsb1
          have hst1' := Lib.hid hst1
          clear hst1
          go_wp2_with fail
          refine wp_region_held_drew (S := (fun w' => (w'.cell? ⟨w.heap.size, 0, none⟩ = some (.int .i64 p) ∧ w'.cell? ⟨w.heap.size, 1, none⟩ = some (.int .i64 q)) ∧ (w'.cell? ⟨b, off + k * 2, none⟩ = some (.int .i64 a1) ∧ w'.cell? ⟨b, off + k * 2 + 1, none⟩ = some (.int .i64 a2)) ∧ w'.cell? ⟨b, off + j * 2, none⟩ = some (.int .i64 b1) ∧ w'.cell? ⟨b, off + j * 2 + 1, none⟩ = some (.int .i64 b2))) (by kernel_rfl) (by (try dsimp only); (first | exact at''.out _ hb3 | exact at''.out _ hb4 | exact at''.out _ hb5)) (fun hHeld => ?_)
          refine wpAnyH_take (i := 0) (oi := Oper.mk _ _ _ _ _ _) (v := ?_) rfl (by kernel_rfl) (by kernel_rfl) (by kernel_rfl) (fun _ _ _ h => h) (Or.inl ⟨by kernel_rfl, ?_⟩) hHeld ?_
          rotate_left
          · (intro wS hSw; (try dsimp only at hSw); go_simp; all_goals (with_reducible rfl))
          try simp only [Act.put, List.setIfInBounds_toArray, List.set_cons_zero, List.set_cons_succ]
          refine wpAnyH_take (i := 1) (oi := Oper.mk _ _ _ _ _ _) (v := ?_) rfl (by kernel_rfl) (by kernel_rfl) (by kernel_rfl) (fun _ _ _ h => h) (Or.inl ⟨by kernel_rfl, ?_⟩) hHeld ?_
          rotate_left
          · (intro wS hSw; (try dsimp only at hSw); go_simp; all_goals (with_reducible rfl))
          try simp only [Act.put, List.setIfInBounds_toArray, List.set_cons_zero, List.set_cons_succ]
          refine wpAnyH_take (i := 2) (oi := Oper.mk _ _ _ _ _ _) (v := ?_) rfl (by kernel_rfl) (by kernel_rfl) (by kernel_rfl) (fun _ _ _ h => h) (Or.inl ⟨by kernel_rfl, ?_⟩) hHeld ?_
          rotate_left
          · (intro wS hSw; (try dsimp only at hSw); go_simp; all_goals (with_reducible rfl))
          try simp only [Act.put, List.setIfInBounds_toArray, List.set_cons_zero, List.set_cons_succ]
          refine wpAnyH_take (i := 3) (oi := Oper.mk _ _ _ _ _ _) (v := ?_) rfl (by kernel_rfl) (by kernel_rfl) (by kernel_rfl) (fun _ _ _ h => h) (Or.inl ⟨by kernel_rfl, ?_⟩) hHeld ?_
          rotate_left
          · (intro wS hSw; (try dsimp only at hSw); go_simp; all_goals (with_reducible rfl))
          try simp only [Act.put, List.setIfInBounds_toArray, List.set_cons_zero, List.set_cons_succ]
          refine wpAnyH_take (i := 4) (oi := Oper.mk _ _ _ _ _ _) (v := ?_) rfl (by kernel_rfl) (by kernel_rfl) (by kernel_rfl) (fun _ _ _ h => h) (Or.inl ⟨by kernel_rfl, ?_⟩) hHeld ?_
          rotate_left
          · (intro wS hSw; (try dsimp only at hSw); go_simp; all_goals (with_reducible rfl))
          try simp only [Act.put, List.setIfInBounds_toArray, List.set_cons_zero, List.set_cons_succ]
          refine wpAnyH_take (i := 5) (oi := Oper.mk _ _ _ _ _ _) (v := ?_) rfl (by kernel_rfl) (by kernel_rfl) (by kernel_rfl) (fun _ _ _ h => h) (Or.inl ⟨by kernel_rfl, ?_⟩) hHeld ?_
          rotate_left
          · (intro wS hSw; (try dsimp only at hSw); go_simp; all_goals (with_reducible rfl))
          try simp only [Act.put, List.setIfInBounds_toArray, List.set_cons_zero, List.set_cons_succ]
          refine wpAnyH_ready (rs := [6]) (by kernel_rfl) (by simp) ?_
          refine AllReadyH.cons (o := Oper.mk _ _ _ _ _ _) rfl (fun KK hKK => ?_) AllReadyH.nil
          rw [if_pos (by kernel_rfl)]
          go_simp
          refine (e1'.out _).mono ?_
          rintro e w3 ⟨rfl, hB4⟩
          have hb4 := hb3.trans (hB4.mono hb3.size)
          try dsimp only
          refine hKK.out _ _ (by (try dsimp only); (first | exact at''.out _ hb3 | exact at''.out _ hb4 | exact at''.out _ hb5)) (fun hHeld => ?_)
          clear hKK KK
          try simp only [Act.put, List.setIfInBounds_toArray, List.set_cons_zero, List.set_cons_succ]
          refine wpAnyH_take (i := 7) (oi := Oper.mk _ _ _ _ _ _) (v := .bool true) rfl (by kernel_rfl) (by kernel_rfl) (by kernel_rfl) (fun _ _ _ h => h) (Or.inl ⟨by kernel_rfl, ?_⟩) hHeld ?_
          · (intro wS hSw; (try dsimp only at hSw); go_simp; all_goals (simp [hC1]))
          try simp only [Act.put, List.setIfInBounds_toArray, List.set_cons_zero, List.set_cons_succ]
          refine wpAnyH_take (i := 8) (oi := Oper.mk _ _ _ _ _ _) (v := ?_) rfl (by kernel_rfl) (by kernel_rfl) (by kernel_rfl) (fun _ _ _ h => h) (Or.inl ⟨by kernel_rfl, ?_⟩) hHeld ?_
          rotate_left
          · (intro wS hSw; (try dsimp only at hSw); go_simp; all_goals (with_reducible rfl))
          try simp only [Act.put, List.setIfInBounds_toArray, List.set_cons_zero, List.set_cons_succ]
          refine wpAnyH_take (i := 9) (oi := Oper.mk _ _ _ _ _ _) (v := ?_) rfl (by kernel_rfl) (by kernel_rfl) (by kernel_rfl) (fun _ _ _ h => h) (Or.inl ⟨by kernel_rfl, ?_⟩) hHeld ?_
          rotate_left
          · (intro wS hSw; (try dsimp only at hSw); go_simp; all_goals (with_reducible rfl))
          try simp only [Act.put, List.setIfInBounds_toArray, List.set_cons_zero, List.set_cons_succ]
          refine wpAnyH_take (i := 10) (oi := Oper.mk _ _ _ _ _ _) (v := ?_) rfl (by kernel_rfl) (by kernel_rfl) (by kernel_rfl) (fun _ _ _ h => h) (Or.inl ⟨by kernel_rfl, ?_⟩) hHeld ?_
          rotate_left
          · (intro wS hSw; (try dsimp only at hSw); go_simp; all_goals (with_reducible rfl))
          try simp only [Act.put, List.setIfInBounds_toArray, List.set_cons_zero, List.set_cons_succ]
          refine wpAnyH_take (i := 11) (oi := Oper.mk _ _ _ _ _ _) (v := ?_) rfl (by kernel_rfl) (by kernel_rfl) (by kernel_rfl) (fun _ _ _ h => h) (Or.inl ⟨by kernel_rfl, ?_⟩) hHeld ?_
          rotate_left
          · (intro wS hSw; (try dsimp only at hSw); go_simp; all_goals (with_reducible rfl))
          try simp only [Act.put, List.setIfInBounds_toArray, List.set_cons_zero, List.set_cons_succ]
          refine wpAnyH_take (i := 12) (oi := Oper.mk _ _ _ _ _ _) (v := ?_) rfl (by kernel_rfl) (by kernel_rfl) (by kernel_rfl) (fun _ _ _ h => h) (Or.inl ⟨by kernel_rfl, ?_⟩) hHeld ?_
          rotate_left
          · (intro wS hSw; (try dsimp only at hSw); go_simp; all_goals (with_reducible rfl))
          try simp only [Act.put, List.setIfInBounds_toArray, List.set_cons_zero, List.set_cons_succ]
          refine wpAnyH_take (i := 13) (oi := Oper.mk _ _ _ _ _ _) (v := ?_) rfl (by kernel_rfl) (by kernel_rfl) (by kernel_rfl) (fun _ _ _ h => h) (Or.inl ⟨by kernel_rfl, ?_⟩) hHeld ?_
          rotate_left
          · (intro wS hSw; (try dsimp only at hSw); go_simp; all_goals (with_reducible rfl))
          try simp only [Act.put, List.setIfInBounds_toArray, List.set_cons_zero, List.set_cons_succ]
          refine wpAnyH_ready (rs := [14]) (by kernel_rfl) (by simp) ?_
          refine AllReadyH.cons (o := Oper.mk _ _ _ _ _ _) rfl (fun KK hKK => ?_) AllReadyH.nil
          rw [if_pos (by kernel_rfl)]
          go_simp
          refine (e2'.out _).mono ?_
          rintro e w4 ⟨rfl, hB5⟩
          have hb5 := hb4.trans (hB5.mono hb4.size)
          try dsimp only
          refine hKK.out _ _ (by (try dsimp only); (first | exact at''.out _ hb3 | exact at''.out _ hb4 | exact at''.out _ hb5)) (fun hHeld => ?_)
          clear hKK KK
          try simp only [Act.put, List.setIfInBounds_toArray, List.set_cons_zero, List.set_cons_succ]
          refine wpAnyH_take (i := 15) (oi := Oper.mk _ _ _ _ _ _) (v := .bool true) rfl (by kernel_rfl) (by kernel_rfl) (by kernel_rfl) (fun _ _ _ h => h) (Or.inl ⟨by kernel_rfl, ?_⟩) hHeld ?_
          · (intro wS hSw; (try dsimp only at hSw); go_simp; all_goals (simp [hC2]))
          try simp only [Act.put, List.setIfInBounds_toArray, List.set_cons_zero, List.set_cons_succ]
          refine wpAnyH_take (i := 16) (oi := Oper.mk _ _ _ _ _ _) (v := ?_) rfl (by kernel_rfl) (by kernel_rfl) (by kernel_rfl) (fun _ _ _ h => h) (Or.inl ⟨by kernel_rfl, ?_⟩) hHeld ?_
          rotate_left
          · (intro wS hSw; (try dsimp only at hSw); go_simp; all_goals (with_reducible rfl))
          try simp only [Act.put, List.setIfInBounds_toArray, List.set_cons_zero, List.set_cons_succ]
          refine wpAnyH_done (by kernel_rfl) ?_ _
          have hg5 := (hg3'.out.below (hB4.mono (Nat.le_refl _))).below hB5
          have hs5 := hb5.size
          have hslk := hslk'.out
          go_wp2_with (at_builtin; refine wpList_append_int rfl _ _ rfl w0.heap.size u5 (st k) k _ rfl rfl hg5 (by omega) hs5 ?_)
          intro v' w' hown' hgrow
          go_wp2
          go_roundw
          case rel =>
            have := hj'.out
            exact ⟨k + 1, .inl (by omega), by go_num, by rw [hst1'.out]; exact hown', hg5.belowB hb5 (Nat.le_refl _) hs5 hgrow⟩
          case measure => simp [intOf]; omega
        · have hsb1 : sb k = false := by rw [hsb, decide_eq_true hC1, decide_eq_false hC2]; rfl
          have hst1 := hstk'.out
          rw [hsb1, if_neg (by decide)] at hst1
          clear hsb hsb1
          have hst1' := Lib.hid hst1
          clear hst1
          go_wp2_with fail
          refine wp_region_held_drew (S := (fun w' => (w'.cell? ⟨w.heap.size, 0, none⟩ = some (.int .i64 p) ∧ w'.cell? ⟨w.heap.size, 1, none⟩ = some (.int .i64 q)) ∧ (w'.cell? ⟨b, off + k * 2, none⟩ = some (.int .i64 a1) ∧ w'.cell? ⟨b, off + k * 2 + 1, none⟩ = some (.int .i64 a2)) ∧ w'.cell? ⟨b, off + j * 2, none⟩ = some (.int .i64 b1) ∧ w'.cell? ⟨b, off + j * 2 + 1, none⟩ = some (.int .i64 b2))) (by kernel_rfl) (by (try dsimp only); (first | exact at''.out _ hb3 | exact at''.out _ hb4 | exact at''.out _ hb5)) (fun hHeld => ?_)
          refine wpAnyH_take (i := 0) (oi := Oper.mk _ _ _ _ _ _) (v := ?_) rfl (by kernel_rfl) (by kernel_rfl) (by kernel_rfl) (fun _ _ _ h => h) (Or.inl ⟨by kernel_rfl, ?_⟩) hHeld ?_
          rotate_left
          · (intro wS hSw; (try dsimp only at hSw); go_simp; all_goals (with_reducible rfl))
          try simp only [Act.put, List.setIfInBounds_toArray, List.set_cons_zero, List.set_cons_succ]
          refine wpAnyH_take (i := 1) (oi := Oper.mk _ _ _ _ _ _) (v := ?_) rfl (by kernel_rfl) (by kernel_rfl) (by kernel_rfl) (fun _ _ _ h => h) (Or.inl ⟨by kernel_rfl, ?_⟩) hHeld ?_
          rotate_left
          · (intro wS hSw; (try dsimp only at hSw); go_simp; all_goals (with_reducible rfl))
          try simp only [Act.put, List.setIfInBounds_toArray, List.set_cons_zero, List.set_cons_succ]
          refine wpAnyH_take (i := 2) (oi := Oper.mk _ _ _ _ _ _) (v := ?_) rfl (by kernel_rfl) (by kernel_rfl) (by kernel_rfl) (fun _ _ _ h => h) (Or.inl ⟨by kernel_rfl, ?_⟩) hHeld ?_
          rotate_left
          · (intro wS hSw; (try dsimp only at hSw); go_simp; all_goals (with_reducible rfl))
          try simp only [Act.put, List.setIfInBounds_toArray, List.set_cons_zero, List.set_cons_succ]
          refine wpAnyH_take (i := 3) (oi := Oper.mk _ _ _ _ _ _) (v := ?_) rfl (by kernel_rfl) (by kernel_rfl) (by kernel_rfl) (fun _ _ _ h => h) (Or.inl ⟨by kernel_rfl, ?_⟩) hHeld ?_
          rotate_left
          · (intro wS hSw; (try dsimp only at hSw); go_simp; all_goals (with_reducible rfl))
          try simp only [Act.put, List.setIfInBounds_toArray, List.set_cons_zero, List.set_cons_succ]
          refine wpAnyH_take (i := 4) (oi := Oper.mk _ _ _ _ _ _) (v := ?_) rfl (by kernel_rfl) (by kernel_rfl) (by kernel_rfl) (fun _ _ _ h => h) (Or.inl ⟨by kernel_rfl, ?_⟩) hHeld ?_
          rotate_left
          · (intro wS hSw; (try dsimp only at hSw); go_simp; all_goals (with_reducible rfl))
          try simp only [Act.put, List.setIfInBounds_toArray, List.set_cons_zero, List.set_cons_succ]
          refine wpAnyH_take (i := 5) (oi := Oper.mk _ _ _ _ _ _) (v := ?_) rfl (by kernel_rfl) (by kernel_rfl) (by kernel_rfl) (fun _ _ _ h => h) (Or.inl ⟨by kernel_rfl, ?_⟩) hHeld ?_
          rotate_left
          · (intro wS hSw; (try dsimp only at hSw); go_simp; all_goals (with_reducible rfl))
          try simp only [Act.put, List.setIfInBounds_toArray, List.set_cons_zero, List.set_cons_succ]
          refine wpAnyH_ready (rs := [6]) (by kernel_rfl) (by simp) ?_
          refine AllReadyH.cons (o := Oper.mk _ _ _ _ _ _) rfl (fun KK hKK => ?_) AllReadyH.nil
          rw [if_pos (by kernel_rfl)]
          go_simp
          refine (e1'.out _).mono ?_
          rintro e w3 ⟨rfl, hB4⟩
          have hb4 := hb3.trans (hB4.mono hb3.size)
          try dsimp only
          refine hKK.out _ _ (by (try dsimp only); (first | exact at''.out _ hb3 | exact at''.out _ hb4 | exact at''.out _ hb5)) (fun hHeld => ?_)
          clear hKK KK
          try simp only [Act.put, List.setIfInBounds_toArray, List.set_cons_zero, List.set_cons_succ]
          refine wpAnyH_take (i := 7) (oi := Oper.mk _ _ _ _ _ _) (v := .bool true) rfl (by kernel_rfl) (by kernel_rfl) (by kernel_rfl) (fun _ _ _ h => h) (Or.inl ⟨by kernel_rfl, ?_⟩) hHeld ?_
          · (intro wS hSw; (try dsimp only at hSw); go_simp; all_goals (simp [hC1]))
          try simp only [Act.put, List.setIfInBounds_toArray, List.set_cons_zero, List.set_cons_succ]
          refine wpAnyH_take (i := 8) (oi := Oper.mk _ _ _ _ _ _) (v := ?_) rfl (by kernel_rfl) (by kernel_rfl) (by kernel_rfl) (fun _ _ _ h => h) (Or.inl ⟨by kernel_rfl, ?_⟩) hHeld ?_
          rotate_left
          · (intro wS hSw; (try dsimp only at hSw); go_simp; all_goals (with_reducible rfl))
          try simp only [Act.put, List.setIfInBounds_toArray, List.set_cons_zero, List.set_cons_succ]
          refine wpAnyH_take (i := 9) (oi := Oper.mk _ _ _ _ _ _) (v := ?_) rfl (by kernel_rfl) (by kernel_rfl) (by kernel_rfl) (fun _ _ _ h => h) (Or.inl ⟨by kernel_rfl, ?_⟩) hHeld ?_
          rotate_left
          · (intro wS hSw; (try dsimp only at hSw); go_simp; all_goals (with_reducible rfl))
          try simp only [Act.put, List.setIfInBounds_toArray, List.set_cons_zero, List.set_cons_succ]
          refine wpAnyH_take (i := 10) (oi := Oper.mk _ _ _ _ _ _) (v := ?_) rfl (by kernel_rfl) (by kernel_rfl) (by kernel_rfl) (fun _ _ _ h => h) (Or.inl ⟨by kernel_rfl, ?_⟩) hHeld ?_
          rotate_left
          · (intro wS hSw; (try dsimp only at hSw); go_simp; all_goals (with_reducible rfl))
          try simp only [Act.put, List.setIfInBounds_toArray, List.set_cons_zero, List.set_cons_succ]
          refine wpAnyH_take (i := 11) (oi := Oper.mk _ _ _ _ _ _) (v := ?_) rfl (by kernel_rfl) (by kernel_rfl) (by kernel_rfl) (fun _ _ _ h => h) (Or.inl ⟨by kernel_rfl, ?_⟩) hHeld ?_
          rotate_left
          · (intro wS hSw; (try dsimp only at hSw); go_simp; all_goals (with_reducible rfl))
          try simp only [Act.put, List.setIfInBounds_toArray, List.set_cons_zero, List.set_cons_succ]
          refine wpAnyH_take (i := 12) (oi := Oper.mk _ _ _ _ _ _) (v := ?_) rfl (by kernel_rfl) (by kernel_rfl) (by kernel_rfl) (fun _ _ _ h => h) (Or.inl ⟨by kernel_rfl, ?_⟩) hHeld ?_
          rotate_left
          · (intro wS hSw; (try dsimp only at hSw); go_simp; all_goals (with_reducible rfl))
          try simp only [Act.put, List.setIfInBounds_toArray, List.set_cons_zero, List.set_cons_succ]
          refine wpAnyH_take (i := 13) (oi := Oper.mk _ _ _ _ _ _) (v := ?_) rfl (by kernel_rfl) (by kernel_rfl) (by kernel_rfl) (fun _ _ _ h => h) (Or.inl ⟨by kernel_rfl, ?_⟩) hHeld ?_
          rotate_left
          · (intro wS hSw; (try dsimp only at hSw); go_simp; all_goals (with_reducible rfl))
          try simp only [Act.put, List.setIfInBounds_toArray, List.set_cons_zero, List.set_cons_succ]
          refine wpAnyH_ready (rs := [14]) (by kernel_rfl) (by simp) ?_
          refine AllReadyH.cons (o := Oper.mk _ _ _ _ _ _) rfl (fun KK hKK => ?_) AllReadyH.nil
          rw [if_pos (by kernel_rfl)]
          go_simp
          refine (e2'.out _).mono ?_
          rintro e w4 ⟨rfl, hB5⟩
          have hb5 := hb4.trans (hB5.mono hb4.size)
          try dsimp only
          refine hKK.out _ _ (by (try dsimp only); (first | exact at''.out _ hb3 | exact at''.out _ hb4 | exact at''.out _ hb5)) (fun hHeld => ?_)
          clear hKK KK
          try simp only [Act.put, List.setIfInBounds_toArray, List.set_cons_zero, List.set_cons_succ]
          refine wpAnyH_take (i := 15) (oi := Oper.mk _ _ _ _ _ _) (v := .bool false) rfl (by kernel_rfl) (by kernel_rfl) (by kernel_rfl) (fun _ _ _ h => h) (Or.inl ⟨by kernel_rfl, ?_⟩) hHeld ?_
          · (intro wS hSw; (try dsimp only at hSw); go_simp; all_goals (simp [hC2]))
          try simp only [Act.put, List.setIfInBounds_toArray, List.set_cons_zero, List.set_cons_succ]
          refine wpAnyH_take (i := 16) (oi := Oper.mk _ _ _ _ _ _) (v := ?_) rfl (by kernel_rfl) (by kernel_rfl) (by kernel_rfl) (fun _ _ _ h => h) (Or.inl ⟨by kernel_rfl, ?_⟩) hHeld ?_
          rotate_left
          · (intro wS hSw; (try dsimp only at hSw); go_simp; all_goals (with_reducible rfl))
          try simp only [Act.put, List.setIfInBounds_toArray, List.set_cons_zero, List.set_cons_succ]
          refine wpAnyH_done (by kernel_rfl) ?_ _
          have hg5 := (hg3'.out.below (hB4.mono (Nat.le_refl _))).below hB5
          go_wp2
          go_roundw
          case rel =>
            have := hj'.out
            exact ⟨k + 1, .inl (by omega), by go_num, by rw [hst1'.out]; exact hg5, hb5⟩
          case measure => simp [intOf]; omega
      · have hsb1 : sb k = false := by rw [hsb, decide_eq_false hC1]; rfl
        have hst1 := hstk'.out
        rw [hsb1, if_neg (by decide)] at hst1
        clear hsb hsb1
        have hst1' := Lib.hid hst1
        clear hst1
        go_wp2_with fail
        refine wp_region_held_drew (S := (fun w' => (w'.cell? ⟨w.heap.size, 0, none⟩ = some (.int .i64 p) ∧ w'.cell? ⟨w.heap.size, 1, none⟩ = some (.int .i64 q)) ∧ (w'.cell? ⟨b, off + k * 2, none⟩ = some (.int .i64 a1) ∧ w'.cell? ⟨b, off + k * 2 + 1, none⟩ = some (.int .i64 a2)) ∧ w'.cell? ⟨b, off + j * 2, none⟩ = some (.int .i64 b1) ∧ w'.cell? ⟨b, off + j * 2 + 1, none⟩ = some (.int .i64 b2))) (by kernel_rfl) (by (try dsimp only); (first | exact at''.out _ hb3 | exact at''.out _ hb4 | exact at''.out _ hb5)) (fun hHeld => ?_)
        refine wpAnyH_take (i := 0) (oi := Oper.mk _ _ _ _ _ _) (v := ?_) rfl (by kernel_rfl) (by kernel_rfl) (by kernel_rfl) (fun _ _ _ h => h) (Or.inl ⟨by kernel_rfl, ?_⟩) hHeld ?_
        rotate_left
        · (intro wS hSw; (try dsimp only at hSw); go_simp; all_goals (with_reducible rfl))
        try simp only [Act.put, List.setIfInBounds_toArray, List.set_cons_zero, List.set_cons_succ]
        refine wpAnyH_take (i := 1) (oi := Oper.mk _ _ _ _ _ _) (v := ?_) rfl (by kernel_rfl) (by kernel_rfl) (by kernel_rfl) (fun _ _ _ h => h) (Or.inl ⟨by kernel_rfl, ?_⟩) hHeld ?_
        rotate_left
        · (intro wS hSw; (try dsimp only at hSw); go_simp; all_goals (with_reducible rfl))
        try simp only [Act.put, List.setIfInBounds_toArray, List.set_cons_zero, List.set_cons_succ]
        refine wpAnyH_take (i := 2) (oi := Oper.mk _ _ _ _ _ _) (v := ?_) rfl (by kernel_rfl) (by kernel_rfl) (by kernel_rfl) (fun _ _ _ h => h) (Or.inl ⟨by kernel_rfl, ?_⟩) hHeld ?_
        rotate_left
        · (intro wS hSw; (try dsimp only at hSw); go_simp; all_goals (with_reducible rfl))
        try simp only [Act.put, List.setIfInBounds_toArray, List.set_cons_zero, List.set_cons_succ]
        refine wpAnyH_take (i := 3) (oi := Oper.mk _ _ _ _ _ _) (v := ?_) rfl (by kernel_rfl) (by kernel_rfl) (by kernel_rfl) (fun _ _ _ h => h) (Or.inl ⟨by kernel_rfl, ?_⟩) hHeld ?_
        rotate_left
        · (intro wS hSw; (try dsimp only at hSw); go_simp; all_goals (with_reducible rfl))
        try simp only [Act.put, List.setIfInBounds_toArray, List.set_cons_zero, List.set_cons_succ]
        refine wpAnyH_take (i := 4) (oi := Oper.mk _ _ _ _ _ _) (v := ?_) rfl (by kernel_rfl) (by kernel_rfl) (by kernel_rfl) (fun _ _ _ h => h) (Or.inl ⟨by kernel_rfl, ?_⟩) hHeld ?_
        rotate_left
        · (intro wS hSw; (try dsimp only at hSw); go_simp; all_goals (with_reducible rfl))
        try simp only [Act.put, List.setIfInBounds_toArray, List.set_cons_zero, List.set_cons_succ]
        refine wpAnyH_take (i := 5) (oi := Oper.mk _ _ _ _ _ _) (v := ?_) rfl (by kernel_rfl) (by kernel_rfl) (by kernel_rfl) (fun _ _ _ h => h) (Or.inl ⟨by kernel_rfl, ?_⟩) hHeld ?_
        rotate_left
        · (intro wS hSw; (try dsimp only at hSw); go_simp; all_goals (with_reducible rfl))
        try simp only [Act.put, List.setIfInBounds_toArray, List.set_cons_zero, List.set_cons_succ]
        refine wpAnyH_ready (rs := [6]) (by kernel_rfl) (by simp) ?_
        refine AllReadyH.cons (o := Oper.mk _ _ _ _ _ _) rfl (fun KK hKK => ?_) AllReadyH.nil
        rw [if_pos (by kernel_rfl)]
        go_simp
        refine (e1'.out _).mono ?_
        rintro e w3 ⟨rfl, hB4⟩
        have hb4 := hb3.trans (hB4.mono hb3.size)
        try dsimp only
        refine hKK.out _ _ (by (try dsimp only); (first | exact at''.out _ hb3 | exact at''.out _ hb4 | exact at''.out _ hb5)) (fun hHeld => ?_)
        clear hKK KK
        try simp only [Act.put, List.setIfInBounds_toArray, List.set_cons_zero, List.set_cons_succ]
        refine wpAnyH_take (i := 7) (oi := Oper.mk _ _ _ _ _ _) (v := .bool false) rfl (by kernel_rfl) (by kernel_rfl) (by kernel_rfl) (fun _ _ _ h => h) (Or.inl ⟨by kernel_rfl, ?_⟩) hHeld ?_
        · (intro wS hSw; (try dsimp only at hSw); go_simp; all_goals (simp [hC1]))
        try simp only [Act.put, List.setIfInBounds_toArray, List.set_cons_zero, List.set_cons_succ]
        refine wpAnyH_take (i := 8) (oi := Oper.mk _ _ _ _ _ _) (v := ?_) rfl (by kernel_rfl) (by kernel_rfl) (by kernel_rfl) (fun _ _ _ h => h) (Or.inl ⟨by kernel_rfl, ?_⟩) hHeld ?_
        rotate_left
        · (intro wS hSw; (try dsimp only at hSw); go_simp; all_goals (with_reducible rfl))
        try simp only [Act.put, List.setIfInBounds_toArray, List.set_cons_zero, List.set_cons_succ]
        refine wpAnyH_take (i := 9) (oi := Oper.mk _ _ _ _ _ _) (v := undef) rfl (by kernel_rfl) (by kernel_rfl) (by kernel_rfl) (fun _ _ _ h => h) (Or.inr ⟨by kernel_rfl, rfl⟩) hHeld ?_
        try simp only [Act.put, List.setIfInBounds_toArray, List.set_cons_zero, List.set_cons_succ]
        refine wpAnyH_take (i := 10) (oi := Oper.mk _ _ _ _ _ _) (v := undef) rfl (by kernel_rfl) (by kernel_rfl) (by kernel_rfl) (fun _ _ _ h => h) (Or.inr ⟨by kernel_rfl, rfl⟩) hHeld ?_
        try simp only [Act.put, List.setIfInBounds_toArray, List.set_cons_zero, List.set_cons_succ]
        refine wpAnyH_take (i := 11) (oi := Oper.mk _ _ _ _ _ _) (v := undef) rfl (by kernel_rfl) (by kernel_rfl) (by kernel_rfl) (fun _ _ _ h => h) (Or.inr ⟨by kernel_rfl, rfl⟩) hHeld ?_
        try simp only [Act.put, List.setIfInBounds_toArray, List.set_cons_zero, List.set_cons_succ]
        refine wpAnyH_take (i := 12) (oi := Oper.mk _ _ _ _ _ _) (v := undef) rfl (by kernel_rfl) (by kernel_rfl) (by kernel_rfl) (fun _ _ _ h => h) (Or.inr ⟨by kernel_rfl, rfl⟩) hHeld ?_
        try simp only [Act.put, List.setIfInBounds_toArray, List.set_cons_zero, List.set_cons_succ]
        refine wpAnyH_take (i := 13) (oi := Oper.mk _ _ _ _ _ _) (v := undef) rfl (by kernel_rfl) (by kernel_rfl) (by kernel_rfl) (fun _ _ _ h => h) (Or.inr ⟨by kernel_rfl, rfl⟩) hHeld ?_
        try simp only [Act.put, List.setIfInBounds_toArray, List.set_cons_zero, List.set_cons_succ]
        refine wpAnyH_take (i := 14) (oi := Oper.mk _ _ _ _ _ _) (v := undef) rfl (by kernel_rfl) (by kernel_rfl) (by kernel_rfl) (fun _ _ _ h => h) (Or.inr ⟨by kernel_rfl, rfl⟩) hHeld ?_
        try simp only [Act.put, List.setIfInBounds_toArray, List.set_cons_zero, List.set_cons_succ]
        refine wpAnyH_take (i := 15) (oi := Oper.mk _ _ _ _ _ _) (v := undef) rfl (by kernel_rfl) (by kernel_rfl) (by kernel_rfl) (fun _ _ _ h => h) (Or.inr ⟨by kernel_rfl, rfl⟩) hHeld ?_
        try simp only [Act.put, List.setIfInBounds_toArray, List.set_cons_zero, List.set_cons_succ]
        refine wpAnyH_take (i := 16) (oi := Oper.mk _ _ _ _ _ _) (v := ?_) rfl (by kernel_rfl) (by kernel_rfl) (by kernel_rfl) (fun _ _ _ h => h) (Or.inl ⟨by kernel_rfl, ?_⟩) hHeld ?_
        rotate_left
        · (intro wS hSw; (try dsimp only at hSw); go_simp; all_goals (with_reducible rfl))
        try simp only [Act.put, List.setIfInBounds_toArray, List.set_cons_zero, List.set_cons_succ]
        refine wpAnyH_done (by kernel_rfl) ?_ _
        have hg4 := hg3'.out.below (hB4.mono (Nat.le_refl _))
        go_wp2
        go_roundw
        case rel =>
          have := hj'.out
          exact ⟨k + 1, .inl (by omega), by go_num, by rw [hst1'.out]; exact hg4, hb4⟩
        case measure => simp [intOf]; omega
    · have hke : st k = st (n - 1) := by rw [show n - 1 = k by omega]
      rw [hke] at hg
      have ho := hg.own
      have hke' := Lib.hid hke
      have hg' := Lib.hid hg
      have ho' := Lib.hid ho
      clear hke hg ho
      clear H'
      go_wp2
      go_ret
      exact ⟨_, rfl, ho'.out.mono (by omega) (Nat.le_refl _), hB0.trans (hB.mono (by omega))⟩

end Go.Proofs.Ytfcanpebagpdbaa

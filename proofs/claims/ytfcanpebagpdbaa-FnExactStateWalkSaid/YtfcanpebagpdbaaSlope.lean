/- Slopes and lines: the program's, by its calculator. No conditions but valid points. -/
import Derived.Test.YtfcanpebagpdbaaCops
import Derived.Test.YtfcanpebagpdbaaIsMap
import Derived.Maps.Range
namespace Go.Proofs.Ytfcanpebagpdbaa
open Go.RowKit

/-- Below block E all but block g reads as before. -/
def SameBut (g E : Nat) (w w' : World) : Prop := ∀ a : Addr, a.block < E → a.block ≠ g → w'.cell? a = w.cell? a
theorem SameBut.grown {g E : Nat} {w w' : World} (h : w.grownBy w' (some g)) (hE : E ≤ w.heap.size) : SameBut g E w w' := fun a ha hg => h.cell_far a (by omega) (fun e => hg (Option.some.inj e))
theorem SameBut.set {g E : Nat} {w w' : World} (h : SameBut g E w w') {b o : Nat} (hb : E ≤ b) (u : Value) : SameBut g E w (w'.setCell ⟨b, o, none⟩ u) := fun a ha hg => by
  have hne : a.block ≠ b := by omega
  have h2 : (w'.setCell ⟨b, o, none⟩ u).cell? a = w'.cell? a := World.cell?_of_block (Below.heap_setCell _ _ _ _ (by simpa using hne))
  rw [h2]; exact h a ha hg
theorem SameBut.keep {g E : Nat} {w w' : World} (h : SameBut g E w w') {b o : Nat} {v : Value} (hc : w.cell? ⟨b, o, none⟩ = some v) (hb : b < E) (hg : b ≠ g) : w'.cell? ⟨b, o, none⟩ = some v := (h ⟨b, o, none⟩ hb hg).trans hc
theorem gdrew {w w' : World} {r : Option Nat} (h : w.grownBy w' r) : w.grownBy w'.drew r := ⟨h.os, h.tape, h.output, h.size, h.block⟩
theorem grow_set {w w' : World} {g : Nat} (h : w.grownBy w' (some g)) {b o : Nat} (hb : w.heap.size ≤ b) (u : Value) : w.grownBy (w'.setCell ⟨b, o, none⟩ u) (some g) :=
  h.andThen (grownBy_setCell_some w' b o u) (fun j hj => .inl (by have := Option.some.inj hj; omega))
theorem CalcAt.set {w : World} {g : Nat} {bd : Bool} (h : CalcAt w g bd) {b o : Nat} (hb : b ≠ g) (u : Value) : CalcAt (w.setCell ⟨b, o, none⟩ u) g bd := h.grown (grownBy_setCell_some w b o u) (fun e => hb (Option.some.inj e))
theorem gfrozen {w w' : World} {r : Option Nat} (h : w.grownBy w' r) {a : Addr} {v : Value} (hc : w.cell? a = some v) (hf : w.frozen? a = false) (hr : r ≠ some a.block) : w'.frozen? a = false :=
  (h.frozen_far a (World.block_lt_of_cell? _ _ hc) (fun e => hr e.symm)).trans hf
theorem gcell {w w' : World} {r : Option Nat} (h : w.grownBy w' r) {a : Addr} {v : Value} (hc : w.cell? a = some v) (hr : r ≠ some a.block) : w'.cell? a = some v :=
  (h.cell_far a (World.block_lt_of_cell? _ _ hc) (fun e => hr e.symm)).trans hc

set_option linter.unusedSimpArgs false in
set_option maxHeartbeats 4000000 in
theorem cslope_any (g : Nat) (bd : Bool) (p q : Quad) (w : World) (h1 : coordR p.1 = true) (h2 : coordR p.2 = true) (h3 : coordR q.1 = true) (h4 : coordR q.2 = true) (hl : ltB p.1.1 p.1.2 q.1.1 q.1.2 = true) (hc : CalcAt w g bd) :
    Calls Try.prog 141 #[.pointer (some ⟨g, 0, none⟩), quadV p, quadV q] w (RetC g bd (ratV (slopeR p q)) w) := by
  obtain ⟨o3, _, _, k1, k2, hne⟩ := slope_ok h1 h2 h3 h4 hl
  obtain ⟨o1, _⟩ := subR_coord h3 h1
  obtain ⟨o2, _⟩ := subR_coord h4 h2
  have c1 := fun w (hc : CalcAt w g bd) => csub_any g bd q.2 p.2 w (unitR_good (coordR_unit h4)) (unitR_good (coordR_unit h2)) hc
  have c2 := fun w (hc : CalcAt w g bd) => csub_any g bd q.1 p.1 w (unitR_good (coordR_unit h3)) (unitR_good (coordR_unit h1)) hc
  have c3 := fun w (hc : CalcAt w g bd) => cdiv_any g bd (subR q.2 p.2).1 (subR q.1 p.1).1 w k2 k1 hne hc
  rw [orZ_ok o2, o2] at c1
  rw [orZ_ok o1, o1] at c2
  rw [orZ_ok o3, o3] at c3
  simp only [Bool.not_true, Bool.or_false] at c1 c2 c3
  have hs : slopeR p q = (divR (subR q.2 p.2).1 (subR q.1 p.1).1).1 := rfl
  rw [hs]
  generalize (divR (subR q.2 p.2).1 (subR q.1 p.1).1).1 = S at *
  generalize (subR q.2 p.2).1 = D2 at *
  generalize (subR q.1 p.1).1 = D1 at *
  clear hs o1 o2 o3 k1 k2 hne h1 h2 h3 h4 hl
  obtain ⟨⟨a0, a1⟩, ⟨a2, a3⟩⟩ := p
  obtain ⟨⟨b0, b1⟩, ⟨b2, b3⟩⟩ := q
  obtain ⟨s1, s2⟩ := S
  obtain ⟨d1, d2⟩ := D1
  obtain ⟨d3, d4⟩ := D2
  show Calls _ _ #[_, .agg #[.int .i64 a0, .int .i64 a1, .int .i64 a2, .int .i64 a3], .agg #[.int .i64 b0, .int .i64 b1, .int .i64 b2, .int .i64 b3]] w (RetC g bd (ratV (s1, s2)) w)
  simp only at c1 c2 c3
  have hgl := hc.lt
  obtain ⟨w1, hw1⟩ : ∃ W, ((w.alloc (.cells #[.int .i64 a0, .int .i64 a1, .int .i64 a2, .int .i64 a3] 73)).alloc (.cells #[.int .i64 b0, .int .i64 b1, .int .i64 b2, .int .i64 b3] 73)).alloc (.cells #[.int .i64 0, .int .i64 0] 34) = W := ⟨_, rfl⟩
  have hB : Below w.heap.size w w1 := by rw [← hw1]; exact (((Below.refl _ _).alloc (Nat.le_refl _) _).alloc (by simp) _).alloc (by simp; omega) _
  have hz : w.heap.size + 3 = w1.heap.size := by rw [← hw1]; simp
  have x1 : w1.cell? ⟨w.heap.size, 0, none⟩ = some (.int .i64 a0) ∧ w1.cell? ⟨w.heap.size, 1, none⟩ = some (.int .i64 a1) ∧ w1.cell? ⟨w.heap.size, 2, none⟩ = some (.int .i64 a2) ∧ w1.cell? ⟨w.heap.size, 3, none⟩ = some (.int .i64 a3) := by rw [← hw1]; simp [go_sem]
  have x2 : w1.cell? ⟨w.heap.size + 1, 0, none⟩ = some (.int .i64 b0) ∧ w1.cell? ⟨w.heap.size + 1, 1, none⟩ = some (.int .i64 b1) ∧ w1.cell? ⟨w.heap.size + 1, 2, none⟩ = some (.int .i64 b2) ∧ w1.cell? ⟨w.heap.size + 1, 3, none⟩ = some (.int .i64 b3) := by rw [← hw1]; simp [go_sem]
  have y0 : w1.cell? ⟨w.heap.size + 1 + 1, 0, none⟩ = some (.int .i64 0) := by rw [← hw1]; simp [go_sem]
  have y1 : w1.cell? ⟨w.heap.size + 1 + 1, 1, none⟩ = some (.int .i64 0) := by rw [← hw1]; simp [go_sem]
  have y2 : w1.frozen? ⟨w.heap.size + 1 + 1, 0, none⟩ = false := by rw [← hw1]; simp [go_sem]
  have y3 : w1.frozen? ⟨w.heap.size + 1 + 1, 1, none⟩ = false := by rw [← hw1]; simp [go_sem]
  have at' : ∀ w', SameBut g (w.heap.size + 2) w1 w' → (w'.cell? ⟨w.heap.size, 0, none⟩ = some (.int .i64 a0) ∧ w'.cell? ⟨w.heap.size, 1, none⟩ = some (.int .i64 a1) ∧ w'.cell? ⟨w.heap.size, 2, none⟩ = some (.int .i64 a2) ∧ w'.cell? ⟨w.heap.size, 3, none⟩ = some (.int .i64 a3)) ∧ w'.cell? ⟨w.heap.size + 1, 0, none⟩ = some (.int .i64 b0) ∧ w'.cell? ⟨w.heap.size + 1, 1, none⟩ = some (.int .i64 b1) ∧ w'.cell? ⟨w.heap.size + 1, 2, none⟩ = some (.int .i64 b2) ∧ w'.cell? ⟨w.heap.size + 1, 3, none⟩ = some (.int .i64 b3) :=
    fun w' h => ⟨⟨h.keep x1.1 (by omega) (by omega), h.keep x1.2.1 (by omega) (by omega), h.keep x1.2.2.1 (by omega) (by omega), h.keep x1.2.2.2 (by omega) (by omega)⟩, h.keep x2.1 (by omega) (by omega), h.keep x2.2.1 (by omega) (by omega), h.keep x2.2.2.1 (by omega) (by omega), h.keep x2.2.2.2 (by omega) (by omega)⟩
  have hk1 : w1.grownBy w1.drew (some g) := gdrew (World.grownBy.refl _ _)
  have hcd : CalcAt w1.drew g bd := (hc.grown ⟨hB.os, hB.tape, hB.output, hB.size, fun k hk _ => hB.block k hk⟩ (r := none) (by simp)).drew
  have hg1 : w.grownBy w1 (some g) := ⟨hB.os, hB.tape, hB.output, hB.size, fun k hk _ => hB.block k hk⟩
  have hrg : (some g : Option Nat) ≠ some (w.heap.size + 1 + 1) := fun e => by have := Option.some.inj e; omega
  have hE : w.heap.size + 2 ≤ w1.heap.size := by omega
  clear x1 x2 hc
  have c1' := Lib.hid c1
  have c2' := Lib.hid c2
  have c3' := Lib.hid c3
  have hw1' := Lib.hid hw1
  have at'' := Lib.hid at'
  have hz' := Lib.hid hz
  clear c1 c2 c3 hw1 at' hz
  go_enter Try.func141, Try.ntmps141
  go_wp2_with fail
  rw [hw1'.out]
  refine wp_region_held_drew (S := (fun w' => (w'.cell? ⟨w.heap.size, 0, none⟩ = some (.int .i64 a0) ∧ w'.cell? ⟨w.heap.size, 1, none⟩ = some (.int .i64 a1) ∧ w'.cell? ⟨w.heap.size, 2, none⟩ = some (.int .i64 a2) ∧ w'.cell? ⟨w.heap.size, 3, none⟩ = some (.int .i64 a3)) ∧ w'.cell? ⟨w.heap.size + 1, 0, none⟩ = some (.int .i64 b0) ∧ w'.cell? ⟨w.heap.size + 1, 1, none⟩ = some (.int .i64 b1) ∧ w'.cell? ⟨w.heap.size + 1, 2, none⟩ = some (.int .i64 b2) ∧ w'.cell? ⟨w.heap.size + 1, 3, none⟩ = some (.int .i64 b3))) (by kernel_rfl) (by (try dsimp only); (first | exact at''.out _ (SameBut.grown hk1 hE) | exact at''.out _ (SameBut.grown hk2 hE) | exact at''.out _ (SameBut.grown hk3 hE) | exact at''.out _ (SameBut.grown hk4 hE) | exact at''.out _ hk5)) (fun hHeld => ?_)
  refine wpAnyH_take (i := 0) (oi := Oper.mk _ _ _ _ _ _) (v := ?_) rfl (by kernel_rfl) (by kernel_rfl) (by kernel_rfl) (fun _ _ _ h => h) (Or.inl ⟨by kernel_rfl, ?_⟩) hHeld ?_
  rotate_left
  · (intro wS hSw; (try dsimp only at hSw); go_simp; all_goals (with_reducible rfl))
  try simp only [Act.put, List.setIfInBounds_toArray, List.set_cons_zero, List.set_cons_succ]
  refine wpAnyH_take (i := 1) (oi := Oper.mk _ _ _ _ _ _) (v := ?_) rfl (by kernel_rfl) (by kernel_rfl) (by kernel_rfl) (fun _ _ _ h => h) (Or.inl ⟨by kernel_rfl, ?_⟩) hHeld ?_
  rotate_left
  · (intro wS hSw; (try dsimp only at hSw); go_simp; all_goals (with_reducible rfl))
  try simp only [Act.put, List.setIfInBounds_toArray, List.set_cons_zero, List.set_cons_succ]
  refine wpAnyH_take (i := 2) (oi := Oper.mk _ _ _ _ _ _) (v := ?_) rfl (by kernel_rfl) (by kernel_rfl) (by kernel_rfl) (fun _ _ _ h => h) (Or.inl ⟨by kernel_rfl, ?_⟩) hHeld ?_
  rotate_left
  · (intro wS hSw; (try dsimp only at hSw); go_simp; all_goals (with_reducible rfl))
  try simp only [Act.put, List.setIfInBounds_toArray, List.set_cons_zero, List.set_cons_succ]
  refine wpAnyH_take (i := 3) (oi := Oper.mk _ _ _ _ _ _) (v := ?_) rfl (by kernel_rfl) (by kernel_rfl) (by kernel_rfl) (fun _ _ _ h => h) (Or.inl ⟨by kernel_rfl, ?_⟩) hHeld ?_
  rotate_left
  · (intro wS hSw; (try dsimp only at hSw); go_simp; all_goals (with_reducible rfl))
  try simp only [Act.put, List.setIfInBounds_toArray, List.set_cons_zero, List.set_cons_succ]
  refine wpAnyH_take (i := 4) (oi := Oper.mk _ _ _ _ _ _) (v := ?_) rfl (by kernel_rfl) (by kernel_rfl) (by kernel_rfl) (fun _ _ _ h => h) (Or.inl ⟨by kernel_rfl, ?_⟩) hHeld ?_
  rotate_left
  · (intro wS hSw; (try dsimp only at hSw); go_simp; all_goals (with_reducible rfl))
  try simp only [Act.put, List.setIfInBounds_toArray, List.set_cons_zero, List.set_cons_succ]
  refine wpAnyH_take (i := 5) (oi := Oper.mk _ _ _ _ _ _) (v := ?_) rfl (by kernel_rfl) (by kernel_rfl) (by kernel_rfl) (fun _ _ _ h => h) (Or.inl ⟨by kernel_rfl, ?_⟩) hHeld ?_
  rotate_left
  · (intro wS hSw; (try dsimp only at hSw); go_simp; all_goals (with_reducible rfl))
  try simp only [Act.put, List.setIfInBounds_toArray, List.set_cons_zero, List.set_cons_succ]
  refine wpAnyH_take (i := 7) (oi := Oper.mk _ _ _ _ _ _) (v := ?_) rfl (by kernel_rfl) (by kernel_rfl) (by kernel_rfl) (fun _ _ _ h => h) (Or.inl ⟨by kernel_rfl, ?_⟩) hHeld ?_
  rotate_left
  · (intro wS hSw; (try dsimp only at hSw); go_simp; all_goals (with_reducible rfl))
  try simp only [Act.put, List.setIfInBounds_toArray, List.set_cons_zero, List.set_cons_succ]
  refine wpAnyH_take (i := 8) (oi := Oper.mk _ _ _ _ _ _) (v := ?_) rfl (by kernel_rfl) (by kernel_rfl) (by kernel_rfl) (fun _ _ _ h => h) (Or.inl ⟨by kernel_rfl, ?_⟩) hHeld ?_
  rotate_left
  · (intro wS hSw; (try dsimp only at hSw); go_simp; all_goals (with_reducible rfl))
  try simp only [Act.put, List.setIfInBounds_toArray, List.set_cons_zero, List.set_cons_succ]
  refine wpAnyH_take (i := 9) (oi := Oper.mk _ _ _ _ _ _) (v := ?_) rfl (by kernel_rfl) (by kernel_rfl) (by kernel_rfl) (fun _ _ _ h => h) (Or.inl ⟨by kernel_rfl, ?_⟩) hHeld ?_
  rotate_left
  · (intro wS hSw; (try dsimp only at hSw); go_simp; all_goals (with_reducible rfl))
  try simp only [Act.put, List.setIfInBounds_toArray, List.set_cons_zero, List.set_cons_succ]
  refine wpAnyH_take (i := 10) (oi := Oper.mk _ _ _ _ _ _) (v := ?_) rfl (by kernel_rfl) (by kernel_rfl) (by kernel_rfl) (fun _ _ _ h => h) (Or.inl ⟨by kernel_rfl, ?_⟩) hHeld ?_
  rotate_left
  · (intro wS hSw; (try dsimp only at hSw); go_simp; all_goals (with_reducible rfl))
  try simp only [Act.put, List.setIfInBounds_toArray, List.set_cons_zero, List.set_cons_succ]
  refine wpAnyH_take (i := 11) (oi := Oper.mk _ _ _ _ _ _) (v := ?_) rfl (by kernel_rfl) (by kernel_rfl) (by kernel_rfl) (fun _ _ _ h => h) (Or.inl ⟨by kernel_rfl, ?_⟩) hHeld ?_
  rotate_left
  · (intro wS hSw; (try dsimp only at hSw); go_simp; all_goals (with_reducible rfl))
  try simp only [Act.put, List.setIfInBounds_toArray, List.set_cons_zero, List.set_cons_succ]
  refine wpAnyH_ready (rs := [6]) (by kernel_rfl) (by simp) ?_
  refine AllReadyH.cons (o := Oper.mk _ _ _ _ _ _) rfl (fun KK hKK => ?_) AllReadyH.nil
  rw [if_pos (by kernel_rfl)]
  go_simp
  refine (c1'.out _ hcd).mono ?_
  rintro e w2 ⟨rfl, hg2, hc2⟩
  have hk2 := hk1.trans hg2
  try dsimp only
  refine hKK.out _ _ (by (try dsimp only); (first | exact at''.out _ (SameBut.grown hk1 hE) | exact at''.out _ (SameBut.grown hk2 hE) | exact at''.out _ (SameBut.grown hk3 hE) | exact at''.out _ (SameBut.grown hk4 hE) | exact at''.out _ hk5)) (fun hHeld => ?_)
  clear hKK KK
  try simp only [Act.put, List.setIfInBounds_toArray, List.set_cons_zero, List.set_cons_succ]
  refine wpAnyH_ready (rs := [12]) (by kernel_rfl) (by simp) ?_
  refine AllReadyH.cons (o := Oper.mk _ _ _ _ _ _) rfl (fun KK hKK => ?_) AllReadyH.nil
  rw [if_pos (by kernel_rfl)]
  go_simp
  refine (c2'.out _ hc2).mono ?_
  rintro e w3 ⟨rfl, hg3, hc3⟩
  have hk3 := hk2.trans hg3
  try dsimp only
  refine hKK.out _ _ (by (try dsimp only); (first | exact at''.out _ (SameBut.grown hk1 hE) | exact at''.out _ (SameBut.grown hk2 hE) | exact at''.out _ (SameBut.grown hk3 hE) | exact at''.out _ (SameBut.grown hk4 hE) | exact at''.out _ hk5)) (fun hHeld => ?_)
  clear hKK KK
  try simp only [Act.put, List.setIfInBounds_toArray, List.set_cons_zero, List.set_cons_succ]
  refine wpAnyH_ready (rs := [13]) (by kernel_rfl) (by simp) ?_
  refine AllReadyH.cons (o := Oper.mk _ _ _ _ _ _) rfl (fun KK hKK => ?_) AllReadyH.nil
  rw [if_pos (by kernel_rfl)]
  go_simp
  refine (c3'.out _ hc3).mono ?_
  rintro e w4 ⟨rfl, hg4, hc4⟩
  have hk4 := hk3.trans hg4
  have q0 := gcell hk4 y0 hrg
  have q1 := gcell hk4 y1 hrg
  have q2 := gfrozen hk4 y0 y2 hrg
  have q3 := gfrozen hk4 y1 y3 hrg
  try dsimp only
  refine hKK.out _ _ (by (try dsimp only); (first | exact at''.out _ (SameBut.grown hk1 hE) | exact at''.out _ (SameBut.grown hk2 hE) | exact at''.out _ (SameBut.grown hk3 hE) | exact at''.out _ (SameBut.grown hk4 hE) | exact at''.out _ hk5)) (fun hHeld => ?_)
  clear hKK KK
  try simp only [Act.put, List.setIfInBounds_toArray, List.set_cons_zero, List.set_cons_succ]
  refine wpAnyH_ready (rs := [14]) (by kernel_rfl) (by simp) ?_
  refine AllReadyH.cons (o := Oper.mk _ _ _ _ _ _) rfl (fun KK hKK => ?_) AllReadyH.nil
  rw [if_pos (by kernel_rfl)]
  go_simp
  have hk5 := ((SameBut.grown hk4 hE).set (b := w.heap.size + 1 + 1) (o := 0) (Nat.le_refl _) (.int .i64 s1)).set (b := w.heap.size + 1 + 1) (o := 1) (Nat.le_refl _) (.int .i64 s2)
  try dsimp only
  refine hKK.out _ _ (by (try dsimp only); (first | exact at''.out _ (SameBut.grown hk1 hE) | exact at''.out _ (SameBut.grown hk2 hE) | exact at''.out _ (SameBut.grown hk3 hE) | exact at''.out _ (SameBut.grown hk4 hE) | exact at''.out _ hk5)) (fun hHeld => ?_)
  clear hKK KK
  try simp only [Act.put, List.setIfInBounds_toArray, List.set_cons_zero, List.set_cons_succ]
  refine wpAnyH_done (by kernel_rfl) ?_ _
  have hgf := grow_set (grow_set (hg1.trans hk4) (b := w.heap.size + 1 + 1) (o := 0) (by omega) (.int .i64 s1)) (b := w.heap.size + 1 + 1) (o := 1) (by omega) (.int .i64 s2)
  have hcf := (hc4.set (b := w.heap.size + 1 + 1) (o := 0) (by omega) (.int .i64 s1)).set (b := w.heap.size + 1 + 1) (o := 1) (by omega) (.int .i64 s2)
  clear hHeld hk5 hk4 hk3 hk2 hk1
  go_wp2
  exact bodyPost_ret (v := ratV (s1, s2)) (by simp [results, Try.results141, go_sem, q0, q1, ratV]) rfl ⟨rfl, hgf, hcf⟩

end Go.Proofs.Ytfcanpebagpdbaa

/- A drawn partition with a fraction, told loosely. No conditions but small sizes. -/
import Derived.Test.YtnggopbehohjnaaGreatDrawM
namespace Go.Proofs.YtnggopbehohjnaaGreat
open Go.RowKit
set_option maxRecDepth 100000

/-- It returns a list of fractions and a fraction. -/
def DrawRX (w : World) (e : Ending) (w' : World) : Prop := ∃ v xs x, e = .returned (.tuple #[v, ratV x]) ∧ (RatsV w' v xs ∧ xs.length ≤ 12 ∧ ∀ x, x ∈ xs → I64R x) ∧ I64R x ∧ Below w.heap.size w w'
theorem ratsV_nil (w : World) : QuadV w (.slice none 0 0) [] := QuadV.mk (xs := []) ⟨Nat.le_refl _, fun _ => rfl⟩ (by simp [maxLen]) (fun i hi => by simp at hi)
set_option linter.unusedSimpArgs false in
set_option maxHeartbeats 1600000 in
theorem DrawStatesOf_any (v : Value) (n : Nat) (w : World) (h : CodeV w v n) : Calls Tryz.prog 37 #[v] w (DrawRX w) := by
  obtain ⟨w0, hw0⟩ : ∃ W, w.alloc (.cells #[.int .i64 0, .int .i64 0] 50) = W := ⟨_, rfl⟩
  have hB0 : Below w.heap.size w w0 := by rw [← hw0]; exact (Below.refl _ _).alloc (Nat.le_refl _) _
  have hx0 : BoxO w0 w.heap.size 0 0 := by rw [← hw0]; exact BoxO.new _ _ _ _
  have hs0 : w0.heap.size = w.heap.size + 1 := by rw [← hw0]; simp
  have hsz : w.heap.size < w0.heap.size := by omega
  have c1 := cuts_any w0.heap.size 0 _ (CurAt.start (h.below hB0)) (by omega)
  rw [hs0] at c1
  obtain ⟨ao, cap, rfl, -, -⟩ := h
  have c1' := Lib.hid c1
  have hw0' := Lib.hid hw0
  have hx0' := Lib.hid hx0
  have hs0' := Lib.hid hs0
  clear c1 hw0 hx0 hs0
  go_enter Tryz.func37, Tryz.ntmps37
  go_wp2_with fail
  rw [hw0'.out]
  go_wp2_with fail
  refine (c1'.out).mono ?_
  rintro e w1 ⟨v1, xs, rfl, hr, ⟨ho, hnb⟩, hl, hI, hc1, hg1⟩
  have hlt := hc1.lt
  have hnb2 : Off w.heap.size v1 := hnb.off (by have := hs0'.out; simp; omega)
  have hB1 := start_below (w := w0) (by rw [hs0'.out]; exact hg1)
  have hx1 := hx0'.out.below hB1
  have hB01 := hB0.trans (hB1.mono (Nat.le_of_lt hsz))
  have hsz1 : w.heap.size < w1.heap.size := Nat.lt_of_lt_of_le hsz hB1.size
  obtain ⟨ao1, cap1, rfl, -, -, H⟩ := hr.form
  obtain ⟨m, hm⟩ : ∃ m, xs.length = m := ⟨_, rfl⟩
  rw [hm] at hr ho hl H hnb2 ⊢
  clear hg1 hB1 hB0 hnb
  have hx1' := Lib.hid hx1
  have hB01' := Lib.hid hB01
  have hr' := Lib.hid hr
  have ho' := Lib.hid ho
  have hI' := Lib.hid hI
  have hm' := Lib.hid hm
  have hnb2' := Lib.hid hnb2
  clear hx1 hB01 hr ho hI hm hnb2
  by_cases h0 : 0 < m
  · go_wp2_with fail
    refine (one_any (w.heap.size + 1) _ 2 w1 hc1 (by omega) (by omega) (by omega)).mono ?_
    rintro e w2 ⟨v2, rfl, ⟨b, rfl⟩, hc2, hg2⟩
    have hx2 := hx1'.out.kept hg2 (by intro e; have := Option.some.inj e; omega)
    have hr2 := hr'.out.cellOff ho'.out hg2
    have hB2 : Below w.heap.size w w2 := hB01'.out.grown hg2 (Nat.le_of_lt hsz1) (fun j hj => by have := Option.some.inj hj; omega)
    have hsz2 : w.heap.size < w2.heap.size := Nat.lt_of_lt_of_le hsz1 hg2.size
    clear hc1 hr' H hg2
    have hx2' := Lib.hid hx2
    have hr2' := Lib.hid hr2
    have hB2' := Lib.hid hB2
    clear hx2 hr2 hB2
    cases b
    · skip
      go_wp2_with fail
      refine (among2_any (w.heap.size + 1) _ _ [] w2 hc2 (by omega) (ratsV_nil _) (fun b o k c e => by cases e) (fun i hi => by simp at hi) (by simp)).mono ?_
      rintro e w3 ⟨⟨p, q⟩, rfl, hpq, hc3, hg3⟩
      have hx3 := hx2'.out.kept hg3 (by intro e; have := Option.some.inj e; omega)
      have hr3 := hr2'.out.cellOff ho'.out hg3
      have hB3 : Below w.heap.size w w3 := hB2'.out.grown hg3 (Nat.le_of_lt hsz2) (fun j hj => by have := Option.some.inj hj; omega)
      have hrF := hr3.cellOff hnb2'.out (grown_put w3 w.heap.size (.int .i64 p) (.int .i64 q))
      have hBF : Below w.heap.size w ((w3.setCell ⟨w.heap.size, 0, none⟩ (.int .i64 p)).setCell ⟨w.heap.size, 1, none⟩ (.int .i64 q)) := (hB3.setCell (p := ⟨w.heap.size, 0, none⟩) (Nat.le_refl _) _).setCell (p := ⟨w.heap.size, 1, none⟩) (Nat.le_refl _) _
      obtain ⟨e0, e1, e2, e3⟩ := hx3
      clear hg3 hc2 hc3 hr3 hB3
      have hrF' := Lib.hid hrF
      have hBF' := Lib.hid hBF
      have hpq' := Lib.hid hpq
      clear hrF hBF hpq
      go_wp2
      refine bodyPost_ret (v := .tuple #[.slice ao1 m cap1, ratV (p, q)]) (by simp [results, Tryz.results37, go_sem, ratV, e0, e1, e2, e3]) rfl ⟨_, xs, (p, q), rfl, ⟨hrF'.out, by rw [hm'.out]; exact hl, hI'.out⟩, hpq'.out, hBF'.out⟩
    · obtain ⟨_, _, e, -, -, H⟩ := hr2'.out.form
      obtain ⟨rfl, -, rfl⟩ := Value.slice.inj e
      rw [hm'.out] at H
      obtain ⟨gb, off, rfl, -⟩ := H 0 h0
      have hgne : some (w.heap.size + 1) ≠ some gb := fun e => ho'.out gb off _ _ rfl (Option.some.inj e).symm
      have at' : ∀ w', w2.grownBy w' (some (w.heap.size + 1)) → ∀ i, i < m → w'.cell? ⟨gb, off + i * 2, none⟩ = some (.int .i64 (nthR xs i).1) ∧ w'.cell? ⟨gb, off + i * 2 + 1, none⟩ = some (.int .i64 (nthR xs i).2) := fun w' hg i hi => by
        obtain ⟨_, _, e, c0, c1⟩ := H i hi
        cases e
        exact ⟨gcell hg c0 hgne, gcell hg c1 hgne⟩
      have hgA : w2.grownBy w2.drew (some (w.heap.size + 1)) := bgrow ((Below.refl _ _).drew) _
      have hcD : CurAt w2.drew (w.heap.size + 1) (0 + 700 + 2) := hc2.heap rfl
      have hgw : some w.heap.size ≠ some gb := fun e => hnb2'.out gb off _ _ rfl (Option.some.inj e).symm
      clear H e
      have at'' := Lib.hid at'
      have hcD' := Lib.hid hcD
      clear at' hcD
      go_wp2_with fail
      refine wp_region_held_drew (S := (fun w' => ∀ i, i < m → w'.cell? ⟨gb, off + i * 2, none⟩ = some (.int .i64 (nthR xs i).1) ∧ w'.cell? ⟨gb, off + i * 2 + 1, none⟩ = some (.int .i64 (nthR xs i).2))) (by kernel_rfl) (by (try dsimp only); (first | exact at''.out _ hgA | exact at''.out _ hgB | exact hD)) (fun hHeld => ?_)
      refine ly_q 0 (v := ?_) hHeld ?_
      try simp only [Act.put, lyA, lyB, lyC]
      refine ly_q 1 (v := ?_) hHeld ?_
      try simp only [Act.put, lyA, lyB, lyC]
      refine ly_q 2 (v := ?_) hHeld ?_
      try simp only [Act.put, lyA, lyB, lyC]
      refine ly_q 3 (v := ?_) hHeld ?_
      try simp only [Act.put, lyA, lyB, lyC]
      refine ly_q 4 (v := ?_) hHeld ?_
      try simp only [Act.put, lyA, lyB, lyC]
      refine ly_a 5 (fun KK hKK => ?_)
      go_simp
      refine (pick_any (w.heap.size + 1) _ m _ hcD'.out (by omega) (by omega) (by omega)).mono ?_
      rintro e w3 ⟨v3, rfl, ⟨i, rfl, hi⟩, hc3, hg3⟩
      have hgB := hgA.trans hg3
      obtain ⟨e0, e1, e2, e3⟩ := hx2'.out.kept hgB (by intro e; have := Option.some.inj e; omega)
      have q1 : (0 : Int) ≤ (i : Int) := by omega
      have q2 : (i : Int) < (m : Int) := by omega
      try dsimp only
      refine hKK.out _ _ (by (try dsimp only); (first | exact at''.out _ hgA | exact at''.out _ hgB | exact hD)) (fun hHeld => ?_)
      clear hKK KK
      try simp only [Act.put, lyA, lyB, lyC]
      refine ly_q 6 (v := ?_) hHeld ?_
      try simp only [Act.put, lyA, lyB, lyC]
      refine ly_q 7 (v := ?_) hHeld ?_
      try simp only [Act.put, lyA, lyB, lyC]
      refine ly_q 8 (v := ?_) hHeld ?_
      try simp only [Act.put, lyA, lyB, lyC]
      refine ly_a 9 (fun KK hKK => ?_)
      go_simp
      have hD : ∀ j, j < m → ((w3.setCell ⟨w.heap.size, 0, none⟩ (.int .i64 (nthR xs i).1)).setCell ⟨w.heap.size, 1, none⟩ (.int .i64 (nthR xs i).2)).cell? ⟨gb, off + j * 2, none⟩ = some (.int .i64 (nthR xs j).1) ∧ ((w3.setCell ⟨w.heap.size, 0, none⟩ (.int .i64 (nthR xs i).1)).setCell ⟨w.heap.size, 1, none⟩ (.int .i64 (nthR xs i).2)).cell? ⟨gb, off + j * 2 + 1, none⟩ = some (.int .i64 (nthR xs j).2) := fun j hj => ⟨gcell (grown_put w3 w.heap.size _ _) (at''.out _ hgB j hj).1 hgw, gcell (grown_put w3 w.heap.size _ _) (at''.out _ hgB j hj).2 hgw⟩
      try dsimp only
      refine hKK.out _ _ (by (try dsimp only); (first | exact at''.out _ hgA | exact at''.out _ hgB | exact hD)) (fun hHeld => ?_)
      clear hKK KK
      try simp only [Act.put, lyA, lyB, lyC]
      refine wpAnyH_done (by kernel_rfl) ?_ _
      have hr3 := hr2'.out.cellOff ho'.out hgB
      have hB3 : Below w.heap.size w w3 := hB2'.out.grown hgB (Nat.le_of_lt hsz2) (fun j hj => by have := Option.some.inj hj; omega)
      have hrF := hr3.cellOff hnb2'.out (grown_put w3 w.heap.size (.int .i64 (nthR xs i).1) (.int .i64 (nthR xs i).2))
      have hBF : Below w.heap.size w ((w3.setCell ⟨w.heap.size, 0, none⟩ (.int .i64 (nthR xs i).1)).setCell ⟨w.heap.size, 1, none⟩ (.int .i64 (nthR xs i).2)) := (hB3.setCell (p := ⟨w.heap.size, 0, none⟩) (Nat.le_refl _) _).setCell (p := ⟨w.heap.size, 1, none⟩) (Nat.le_refl _) _
      have hpq : I64R (nthR xs i) := hI'.out _ (by rw [nthR_eq (by rw [hm'.out]; exact hi)]; exact List.getElem_mem _)
      clear hg3 hc3 hr3 hB3 hD hgA hgB hHeld
      have hrF' := Lib.hid hrF
      have hBF' := Lib.hid hBF
      have hpq' := Lib.hid hpq
      clear hrF hBF hpq
      go_wp2
      refine bodyPost_ret (v := .tuple #[.slice (some ⟨gb, off, none⟩) m cap1, ratV (nthR xs i)]) (by simp [results, Tryz.results37, go_sem, ratV, e0, e1, e2, e3]) rfl ⟨_, xs, nthR xs i, rfl, ⟨hrF'.out, by rw [hm'.out]; exact hl, hI'.out⟩, hpq'.out, hBF'.out⟩
  · obtain rfl : m = 0 := by omega
    obtain ⟨w2, rfl⟩ : ∃ W, W = w1 := ⟨_, rfl⟩
    have hc2 := hc1
    have hx2' := hx1'
    have hr2' := hr'
    have hB2' := hB01'
    have hsz2 := hsz1
    clear hc1 hx1' hr' hB01' hsz1 H
    go_wp2_with fail
    refine (among2_any (w.heap.size + 1) _ _ [] w2 hc2 (by omega) (ratsV_nil _) (fun b o k c e => by cases e) (fun i hi => by simp at hi) (by simp)).mono ?_
    rintro e w3 ⟨⟨p, q⟩, rfl, hpq, hc3, hg3⟩
    have hx3 := hx2'.out.kept hg3 (by intro e; have := Option.some.inj e; omega)
    have hr3 := hr2'.out.cellOff ho'.out hg3
    have hB3 : Below w.heap.size w w3 := hB2'.out.grown hg3 (Nat.le_of_lt hsz2) (fun j hj => by have := Option.some.inj hj; omega)
    have hrF := hr3.cellOff hnb2'.out (grown_put w3 w.heap.size (.int .i64 p) (.int .i64 q))
    have hBF : Below w.heap.size w ((w3.setCell ⟨w.heap.size, 0, none⟩ (.int .i64 p)).setCell ⟨w.heap.size, 1, none⟩ (.int .i64 q)) := (hB3.setCell (p := ⟨w.heap.size, 0, none⟩) (Nat.le_refl _) _).setCell (p := ⟨w.heap.size, 1, none⟩) (Nat.le_refl _) _
    obtain ⟨e0, e1, e2, e3⟩ := hx3
    clear hg3 hc2 hc3 hr3 hB3
    have hrF' := Lib.hid hrF
    have hBF' := Lib.hid hBF
    have hpq' := Lib.hid hpq
    clear hrF hBF hpq
    go_wp2
    refine bodyPost_ret (v := .tuple #[.slice ao1 0 cap1, ratV (p, q)]) (by simp [results, Tryz.results37, go_sem, ratV, e0, e1, e2, e3]) rfl ⟨_, xs, (p, q), rfl, ⟨hrF'.out, by rw [hm'.out]; exact hl, hI'.out⟩, hpq'.out, hBF'.out⟩
end Go.Proofs.YtnggopbehohjnaaGreat

/- The slopes of a map's pieces: the program's and the reference's; signs. No conditions but valid maps. -/
import Derived.Test.YtfhhofecfllbfaaGreatPkF
import Derived.Test.YtfhhofecfllbfaaGreatPkG
namespace Go.Proofs.YtfhhofecfllbfaaGreat
open Go.RowKit
set_option maxRecDepth 100000

def slK (f : List Quad) (k : Nat) : List (Int × Int) := (List.range k).map fun i => slopeR (nth4 f i) (nth4 f (i + 1))
def slL (f : List Quad) : List (Int × Int) := slK f (f.length - 1)
theorem slK_len (f : List Quad) (k : Nat) : (slK f k).length = k := by simp [slK]
theorem slK_step (f : List Quad) (k : Nat) : slK f (k + 1) = slK f k ++ [slopeR (nth4 f k) (nth4 f (k + 1))] := by simp [slK, List.range_succ]
theorem nthR_slK (f : List Quad) {k i : Nat} (h : i < k) : nthR (slK f k) i = slopeR (nth4 f i) (nth4 f (i + 1)) := by
  rw [nthR_eq (by rw [slK_len]; exact h)]; simp [slK]
theorem slope_good {f : List Quad} (hf : MapP f) {i : Nat} (h : i + 1 < f.length) : goodR (slopeR (nth4 f i) (nth4 f (i + 1))).1 (slopeR (nth4 f i) (nth4 f (i + 1))).2 = true :=
  (slope_ok (hf.coord i (by omega)).1 (hf.coord i (by omega)).2 (hf.coord (i + 1) h).1 (hf.coord (i + 1) h).2 (hf.rise i h)).2.1

set_option linter.unusedSimpArgs false in
set_option maxRecDepth 10000 in
set_option maxHeartbeats 4000000 in
theorem slopesL_any (v : Value) (f : List Quad) (w : World) (hv : QuadV w v f) (hf : LineP f) :
    Calls Tryz.prog 72 #[v] w (RetO OwnR (slL f) w) := by
  have hl := hf.len
  have cs := fun (k : Nat) (g : Nat) w' (h : k + 1 < f.length) hc => cslope_any g false (nth4 f k) (nth4 f (k + 1)) w' (hf.coord k (by omega)).1 (hf.coord k (by omega)).2 (hf.coord (k + 1) h).1 (hf.coord (k + 1) h).2 (hf.rise k h) hc
  have hst := slK_step f
  have hsl := slK_len f
  have hV : slL f = slK f (f.length - 1) := rfl
  rw [hV]
  have h00 : slK f 0 = [] := rfl
  obtain ⟨ao, cap, rfl, _, _, H⟩ := hv.form
  obtain ⟨n, hn⟩ : ∃ n, f.length = n := ⟨_, rfl⟩
  rw [hn] at H cs hl ⊢
  clear hv hV
  generalize slK f = SK at *
  obtain ⟨SR, hSR⟩ : ∃ SR : Nat → Int × Int, ∀ k, slopeR (nth4 f k) (nth4 f (k + 1)) = SR k := ⟨_, fun _ => rfl⟩
  simp only [hSR] at cs hst
  clear hSR
  obtain ⟨wc, hwc⟩ : ∃ W, w.alloc (.cells #[.bool false] 92) = W := ⟨_, rfl⟩
  have hBc : Below w.heap.size w wc := by rw [← hwc]; exact (Below.refl _ _).alloc (Nat.le_refl _) _
  have hcA : CalcAt wc w.heap.size false := by rw [← hwc]; refine ⟨?_, ?_⟩ <;> simp [go_sem]
  have hsc : wc.heap.size = w.heap.size + 1 := by rw [← hwc]; simp
  have cs' := Lib.hid cs
  have hst' := Lib.hid hst
  have hsl' := Lib.hid hsl
  have h00' := Lib.hid h00
  have hn' := Lib.hid hn
  have H' := Lib.hid H
  have hwc' := Lib.hid hwc
  have hcA' := Lib.hid hcA
  have hBc' := Lib.hid hBc
  clear cs hst hsl h00 hn H hwc hcA hBc
  go_enter Tryz.func72, Tryz.ntmps72
  go_wp2
  rw [hwc'.out]
  go_loopw [4, 5] (fun o i wr => ∃ k : Nat, k + 1 ≤ n ∧ i = .int .i64 ((k : Int) + 1) ∧ GrowR wr (w.heap.size + 1) o (SK k) ∧ CalcAt wr w.heap.size false ∧ Below w.heap.size w wr ∧ w.heap.size + 1 ≤ wr.heap.size) (fun _ i _ => n - (intOf i).toNat)
  case atStart => exact ⟨0, by omega, rfl, by rw [h00'.out]; exact GrowR.nil _ _, hcA'.out, hBc'.out, by omega⟩
  case round =>
    obtain ⟨k, hk, rfl, hg, hc, hB, hsr⟩ := hrel
    clear hwc' hcA' hBc' hsc
    by_cases hlt : k + 1 < n
    · obtain ⟨b, off, rfl, p0, p1, p2, p3⟩ := H'.out k (by omega)
      obtain ⟨_, _, e', q0, q1, q2, q3⟩ := H'.out (k + 1) hlt
      cases e'
      have l0 := World.block_lt_of_cell? _ _ p0
      simp only at l0
      have hst1 := hst'.out k
      have hlen := hsl'.out k
      have cs1 := fun w' hc => cs'.out k w.heap.size w' hlt hc
      obtain ⟨⟨s0, s1⟩, hr⟩ : ∃ r, SR k = r := ⟨_, rfl⟩
      rw [hr] at hst1 cs1
      obtain ⟨j, hj⟩ : ∃ j : Nat, j = k + 1 := ⟨_, rfl⟩
      rw [← hj] at hlt q0 q1 q2 q3 cs1
      generalize nth4 f k = P at *
      generalize nth4 f j = Q at *
      obtain ⟨⟨a0, a1⟩, ⟨a2, a3⟩⟩ := P
      obtain ⟨⟨b0, b1⟩, ⟨b2, b3⟩⟩ := Q
      simp only at p0 p1 p2 p3 q0 q1 q2 q3 cs1
      have at' : ∀ w', Below w.heap.size w w' → (w'.cell? ⟨b, off + k * 4, none⟩ = some (.int .i64 a0) ∧ w'.cell? ⟨b, off + k * 4 + 1, none⟩ = some (.int .i64 a1) ∧ w'.cell? ⟨b, off + k * 4 + 2, none⟩ = some (.int .i64 a2) ∧ w'.cell? ⟨b, off + k * 4 + 3, none⟩ = some (.int .i64 a3)) ∧ w'.cell? ⟨b, off + j * 4, none⟩ = some (.int .i64 b0) ∧ w'.cell? ⟨b, off + j * 4 + 1, none⟩ = some (.int .i64 b1) ∧ w'.cell? ⟨b, off + j * 4 + 2, none⟩ = some (.int .i64 b2) ∧ w'.cell? ⟨b, off + j * 4 + 3, none⟩ = some (.int .i64 b3) :=
        fun w' h => ⟨⟨bkeep h p0, bkeep h p1, bkeep h p2, bkeep h p3⟩, bkeep h q0, bkeep h q1, bkeep h q2, bkeep h q3⟩
      clear p0 p1 p2 p3 q0 q1 q2 q3
      rw [show (k : Int) + 1 = (j : Int) by omega]
      have g1 : IntKind.i64.wrap ((j : Int) - 1) = (k : Int) := by rw [IntKind.wrap_i64]; omega
      have g2 : (0 : Int) ≤ (k : Int) := by omega
      have g3 : (k : Int) < (n : Int) := by omega
      have g4 : k < n := by omega
      have hgw : IntKind.i64.wrap ((j : Int) + 1) = (j : Int) + 1 := by rw [IntKind.wrap_i64]; omega
      have hb1 := hB.drew
      have hs1 : w.heap.size + 1 ≤ wr.drew.heap.size := hsr
      have hcd := hc.drew
      have hg1 : GrowR wr.drew (w.heap.size + 1) u4 (SK k) := hg
      have hll : (SK k).length ≤ 1099511627776 := by omega
      have hst1' := Lib.hid hst1
      have hr' := Lib.hid hr
      have at'' := Lib.hid at'
      have hg1' := Lib.hid hg1
      have hll' := Lib.hid hll
      have hj' := Lib.hid hj
      have cs1' := Lib.hid cs1
      have hlen' := Lib.hid hlen
      clear hst1 hr at' hg1 hll hj cs1 hlen
      clear hg hB hc
      go_wp2_with fail
      refine wp_region_held_drew (S := (fun w' => (w'.cell? ⟨b, off + k * 4, none⟩ = some (.int .i64 a0) ∧ w'.cell? ⟨b, off + k * 4 + 1, none⟩ = some (.int .i64 a1) ∧ w'.cell? ⟨b, off + k * 4 + 2, none⟩ = some (.int .i64 a2) ∧ w'.cell? ⟨b, off + k * 4 + 3, none⟩ = some (.int .i64 a3)) ∧ w'.cell? ⟨b, off + j * 4, none⟩ = some (.int .i64 b0) ∧ w'.cell? ⟨b, off + j * 4 + 1, none⟩ = some (.int .i64 b1) ∧ w'.cell? ⟨b, off + j * 4 + 2, none⟩ = some (.int .i64 b2) ∧ w'.cell? ⟨b, off + j * 4 + 3, none⟩ = some (.int .i64 b3))) (by kernel_rfl) (by (try dsimp only); (first | exact at''.out _ hb1 | exact at''.out _ hb3 | exact at''.out _ hb4 | exact at''.out _ hb5)) (fun hHeld => ?_)
      refine ly_q 0 (v := ?_) hHeld ?_
      try simp only [Act.put, lyA, lyB, lyC]
      refine ly_q 1 (v := ?_) hHeld ?_
      try simp only [Act.put, lyA, lyB, lyC]
      refine ly_q 2 (v := ?_) hHeld ?_
      try simp only [Act.put, lyA, lyB, lyC]
      refine ly_q 3 (v := ?_) hHeld ?_
      try simp only [Act.put, lyA, lyB, lyC]
      refine ly_q 4 (v := ?_) hHeld ?_
      try simp only [Act.put, lyA, lyB, lyC]
      refine ly_q 5 (v := ?_) hHeld ?_
      try simp only [Act.put, lyA, lyB, lyC]
      refine ly_q 6 (v := ?_) hHeld ?_
      try simp only [Act.put, lyA, lyB, lyC]
      refine ly_q 7 (v := ?_) hHeld ?_
      try simp only [Act.put, lyA, lyB, lyC]
      refine ly_q 8 (v := ?_) hHeld ?_
      try simp only [Act.put, lyA, lyB, lyC]
      refine ly_q 9 (v := ?_) hHeld ?_
      try simp only [Act.put, lyA, lyB, lyC]
      refine ly_a 10 (fun KK hKK => ?_)
      go_simp
      refine (cs1'.out _ hcd).mono ?_
      rintro e w3 ⟨rfl, hg3, hc3⟩
      have hs3 := Nat.le_trans hs1 hg3.size
      have hb3 : Below w.heap.size w w3 := hb1.grown hg3 hb1.size (fun j hj => by have := Option.some.inj hj; omega)
      have hgr3 := hg1'.out.kept hg3 (Nat.lt_succ_self _)
      try dsimp only
      refine hKK.out _ _ (by (try dsimp only); (first | exact at''.out _ hb1 | exact at''.out _ hb3 | exact at''.out _ hb4 | exact at''.out _ hb5)) (fun hHeld => ?_)
      clear hKK KK
      try simp only [Act.put, lyA, lyB, lyC]
      refine ly_a 11 (fun KK hKK => ?_)
      go_simp
      have hb4 := hb3.alloc hb3.size (.cells #[.int .i64 s0, .int .i64 s1] 42)
      try dsimp only
      refine hKK.out _ _ (by (try dsimp only); (first | exact at''.out _ hb1 | exact at''.out _ hb3 | exact at''.out _ hb4 | exact at''.out _ hb5)) (fun hHeld => ?_)
      clear hKK KK
      try simp only [Act.put, lyA, lyB, lyC]
      refine ly_a 12 (fun KK hKK => ?_)
      refine wp_append_rat _ _ rfl (w.heap.size + 1) u4 (SK k) s0 s1 _ rfl rfl hgr3 hll'.out hs3 ?_
      intro v2 w2 hg2 hgr
      have hb5 := hgr3.belowB hb3 (Nat.le_succ _) hb3.size hgr
      have hc5 := hc3.grown hgr (fun e => by have := (World.ownsRow.lt hgr3 _ e).1; omega)
      have hs5 := Nat.le_trans hs3 hgr.size
      try dsimp only
      refine hKK.out _ _ (by (try dsimp only); (first | exact at''.out _ hb1 | exact at''.out _ hb3 | exact at''.out _ hb4 | exact at''.out _ hb5)) (fun hHeld => ?_)
      clear hKK KK
      try simp only [Act.put, lyA, lyB, lyC]
      refine ly_q 13 (v := ?_) hHeld ?_
      try simp only [Act.put, lyA, lyB, lyC]
      refine wpAnyH_done (by kernel_rfl) ?_ _
      rw [← hst1'.out] at hg2
      clear hHeld hgr hgr3 hc3 hg3 hb3 hb4 hb1
      have hj2 : (j : Int) = (k : Int) + 1 := by have := hj'.out; omega
      have hg2' := Lib.hid hg2
      have hb5' := Lib.hid hb5
      have hc5' := Lib.hid hc5
      have hj2' := Lib.hid hj2
      clear hg2 hb5 hc5 hj2
      go_wp2
      go_roundw
      case rel =>
        have := hj'.out
        exact ⟨k + 1, by omega, by go_num, hg2'.out, hc5'.out, hb5'.out, hs5⟩
      case measure => simp [intOf]; omega
    · obtain rfl : n = k + 1 := by omega
      have ho := hg.own
      rw [show k + 1 - 1 = k from rfl] at *
      have ho' := Lib.hid ho
      have hB' := Lib.hid hB
      clear ho hB
      clear H' hg hc
      go_wp2
      go_ret
      exact ⟨_, rfl, ho'.out.mono (by omega) (Nat.le_refl _), hB'.out⟩
theorem slopes_any (v : Value) (f : List Quad) (w : World) (hv : QuadV w v f) (hf : MapP f) :
    Calls Tryz.prog 72 #[v] w (RetO OwnR (slL f) w) := slopesL_any v f w hv hf.line
set_option linter.unusedSimpArgs false in
set_option maxRecDepth 10000 in
set_option maxHeartbeats 4000000 in
theorem imSlopesL_any (v : Value) (f : List Quad) (w : World) (hv : QuadV w v f) (hf : LineP f) :
    Calls Tryz.prog 77 #[v] w (RetO OwnR (slL f) w) := by
  have hl := hf.len
  have cs := fun (k : Nat) w' (h : k + 1 < f.length) => imSlope_any (nth4 f k) (nth4 f (k + 1)) w' (hf.coord k (by omega)).1 (hf.coord k (by omega)).2 (hf.coord (k + 1) h).1 (hf.coord (k + 1) h).2 (hf.rise k h)
  have hst := slK_step f
  have hsl := slK_len f
  have hV : slL f = slK f (f.length - 1) := rfl
  rw [hV]
  have h00 : slK f 0 = [] := rfl
  obtain ⟨ao, cap, rfl, _, _, H⟩ := hv.form
  obtain ⟨n, hn⟩ : ∃ n, f.length = n := ⟨_, rfl⟩
  rw [hn] at H cs hl ⊢
  clear hv hV
  generalize slK f = SK at *
  obtain ⟨SR, hSR⟩ : ∃ SR : Nat → Int × Int, ∀ k, slopeR (nth4 f k) (nth4 f (k + 1)) = SR k := ⟨_, fun _ => rfl⟩
  simp only [hSR] at cs hst
  clear hSR
  have cs' := Lib.hid cs
  have hst' := Lib.hid hst
  have hsl' := Lib.hid hsl
  have h00' := Lib.hid h00
  have hn' := Lib.hid hn
  have H' := Lib.hid H
  clear cs hst hsl h00 hn H
  go_enter Tryz.func77, Tryz.ntmps77
  go_wp2
  go_loopw [3, 4] (fun o i wr => ∃ k : Nat, k + 1 ≤ n ∧ i = .int .i64 ((k : Int) + 1) ∧ GrowR wr w.heap.size o (SK k) ∧ Below w.heap.size w wr) (fun _ i _ => n - (intOf i).toNat)
  case atStart => exact ⟨0, by omega, rfl, by rw [h00'.out]; exact GrowR.nil _ _, Below.refl _ _⟩
  case round =>
    obtain ⟨k, hk, rfl, hg, hB⟩ := hrel
    by_cases hlt : k + 1 < n
    · obtain ⟨b, off, rfl, p0, p1, p2, p3⟩ := H'.out k (by omega)
      obtain ⟨_, _, e', q0, q1, q2, q3⟩ := H'.out (k + 1) hlt
      cases e'
      have l0 := World.block_lt_of_cell? _ _ p0
      simp only at l0
      have hst1 := hst'.out k
      have hlen := hsl'.out k
      have cs1 := fun w' => cs'.out k w' hlt
      obtain ⟨⟨s0, s1⟩, hr⟩ : ∃ r, SR k = r := ⟨_, rfl⟩
      rw [hr] at hst1 cs1
      obtain ⟨j, hj⟩ : ∃ j : Nat, j = k + 1 := ⟨_, rfl⟩
      rw [← hj] at hlt q0 q1 q2 q3 cs1
      generalize nth4 f k = P at *
      generalize nth4 f j = Q at *
      obtain ⟨⟨a0, a1⟩, ⟨a2, a3⟩⟩ := P
      obtain ⟨⟨b0, b1⟩, ⟨b2, b3⟩⟩ := Q
      simp only at p0 p1 p2 p3 q0 q1 q2 q3 cs1
      have at' : ∀ w', Below w.heap.size w w' → (w'.cell? ⟨b, off + k * 4, none⟩ = some (.int .i64 a0) ∧ w'.cell? ⟨b, off + k * 4 + 1, none⟩ = some (.int .i64 a1) ∧ w'.cell? ⟨b, off + k * 4 + 2, none⟩ = some (.int .i64 a2) ∧ w'.cell? ⟨b, off + k * 4 + 3, none⟩ = some (.int .i64 a3)) ∧ w'.cell? ⟨b, off + j * 4, none⟩ = some (.int .i64 b0) ∧ w'.cell? ⟨b, off + j * 4 + 1, none⟩ = some (.int .i64 b1) ∧ w'.cell? ⟨b, off + j * 4 + 2, none⟩ = some (.int .i64 b2) ∧ w'.cell? ⟨b, off + j * 4 + 3, none⟩ = some (.int .i64 b3) :=
        fun w' h => ⟨⟨bkeep h p0, bkeep h p1, bkeep h p2, bkeep h p3⟩, bkeep h q0, bkeep h q1, bkeep h q2, bkeep h q3⟩
      clear p0 p1 p2 p3 q0 q1 q2 q3
      rw [show (k : Int) + 1 = (j : Int) by omega]
      have g1 : IntKind.i64.wrap ((j : Int) - 1) = (k : Int) := by rw [IntKind.wrap_i64]; omega
      have g2 : (0 : Int) ≤ (k : Int) := by omega
      have g3 : (k : Int) < (n : Int) := by omega
      have g4 : k < n := by omega
      have hgw : IntKind.i64.wrap ((j : Int) + 1) = (j : Int) + 1 := by rw [IntKind.wrap_i64]; omega
      have hb1 := hB.drew
      have hg1 : GrowR wr.drew w.heap.size u3 (SK k) := hg
      have hll : (SK k).length ≤ 1099511627776 := by omega
      have hst1' := Lib.hid hst1
      have hr' := Lib.hid hr
      have at'' := Lib.hid at'
      have hg1' := Lib.hid hg1
      have hll' := Lib.hid hll
      have hj' := Lib.hid hj
      have cs1' := Lib.hid cs1
      have hlen' := Lib.hid hlen
      clear hst1 hr at' hg1 hll hj cs1 hlen
      clear hg hB
      go_wp2_with fail
      refine wp_region_held_drew (S := (fun w' => (w'.cell? ⟨b, off + k * 4, none⟩ = some (.int .i64 a0) ∧ w'.cell? ⟨b, off + k * 4 + 1, none⟩ = some (.int .i64 a1) ∧ w'.cell? ⟨b, off + k * 4 + 2, none⟩ = some (.int .i64 a2) ∧ w'.cell? ⟨b, off + k * 4 + 3, none⟩ = some (.int .i64 a3)) ∧ w'.cell? ⟨b, off + j * 4, none⟩ = some (.int .i64 b0) ∧ w'.cell? ⟨b, off + j * 4 + 1, none⟩ = some (.int .i64 b1) ∧ w'.cell? ⟨b, off + j * 4 + 2, none⟩ = some (.int .i64 b2) ∧ w'.cell? ⟨b, off + j * 4 + 3, none⟩ = some (.int .i64 b3))) (by kernel_rfl) (by (try dsimp only); (first | exact at''.out _ hb1 | exact at''.out _ hb3 | exact at''.out _ hb4 | exact at''.out _ hb5)) (fun hHeld => ?_)
      refine ly_q 0 (v := ?_) hHeld ?_
      try simp only [Act.put, lyA, lyB, lyC]
      refine ly_q 1 (v := ?_) hHeld ?_
      try simp only [Act.put, lyA, lyB, lyC]
      refine ly_q 2 (v := ?_) hHeld ?_
      try simp only [Act.put, lyA, lyB, lyC]
      refine ly_q 3 (v := ?_) hHeld ?_
      try simp only [Act.put, lyA, lyB, lyC]
      refine ly_q 4 (v := ?_) hHeld ?_
      try simp only [Act.put, lyA, lyB, lyC]
      refine ly_q 5 (v := ?_) hHeld ?_
      try simp only [Act.put, lyA, lyB, lyC]
      refine ly_q 6 (v := ?_) hHeld ?_
      try simp only [Act.put, lyA, lyB, lyC]
      refine ly_q 7 (v := ?_) hHeld ?_
      try simp only [Act.put, lyA, lyB, lyC]
      refine ly_q 8 (v := ?_) hHeld ?_
      try simp only [Act.put, lyA, lyB, lyC]
      refine ly_q 9 (v := ?_) hHeld ?_
      try simp only [Act.put, lyA, lyB, lyC]
      refine ly_a 10 (fun KK hKK => ?_)
      go_simp
      refine (cs1'.out _).mono ?_
      rintro e w3 ⟨rfl, hB3⟩
      have hb3 := hb1.trans (hB3.mono hb1.size)
      have hgr3 := hg1'.out.below hB3
      try dsimp only
      refine hKK.out _ _ (by (try dsimp only); (first | exact at''.out _ hb1 | exact at''.out _ hb3 | exact at''.out _ hb4 | exact at''.out _ hb5)) (fun hHeld => ?_)
      clear hKK KK
      try simp only [Act.put, lyA, lyB, lyC]
      refine ly_a 11 (fun KK hKK => ?_)
      go_simp
      have hb4 := hb3.alloc hb3.size (.cells #[.int .i64 s0, .int .i64 s1] 42)
      try dsimp only
      refine hKK.out _ _ (by (try dsimp only); (first | exact at''.out _ hb1 | exact at''.out _ hb3 | exact at''.out _ hb4 | exact at''.out _ hb5)) (fun hHeld => ?_)
      clear hKK KK
      try simp only [Act.put, lyA, lyB, lyC]
      refine ly_a 12 (fun KK hKK => ?_)
      refine wp_append_rat _ _ rfl w.heap.size u3 (SK k) s0 s1 _ rfl rfl hgr3 hll'.out hb3.size ?_
      intro v2 w2 hg2 hgr
      have hb5 := hgr3.belowB hb3 (Nat.le_refl _) hb3.size hgr
      try dsimp only
      refine hKK.out _ _ (by (try dsimp only); (first | exact at''.out _ hb1 | exact at''.out _ hb3 | exact at''.out _ hb4 | exact at''.out _ hb5)) (fun hHeld => ?_)
      clear hKK KK
      try simp only [Act.put, lyA, lyB, lyC]
      refine ly_q 13 (v := ?_) hHeld ?_
      try simp only [Act.put, lyA, lyB, lyC]
      refine wpAnyH_done (by kernel_rfl) ?_ _
      rw [← hst1'.out] at hg2
      clear hHeld hgr hgr3 hB3 hb3 hb4 hb1
      have hj2 : (j : Int) = (k : Int) + 1 := by have := hj'.out; omega
      have hg2' := Lib.hid hg2
      have hb5' := Lib.hid hb5
      have hj2' := Lib.hid hj2
      clear hg2 hb5 hj2
      go_wp2
      go_roundw
      case rel =>
        have := hj'.out
        exact ⟨k + 1, by omega, by go_num, hg2'.out, hb5'.out⟩
      case measure => simp [intOf]; omega
    · obtain rfl : n = k + 1 := by omega
      have ho := hg.own
      rw [show k + 1 - 1 = k from rfl] at *
      have ho' := Lib.hid ho
      have hB' := Lib.hid hB
      clear ho hB
      clear H' hg
      go_wp2
      go_ret
      exact ⟨_, rfl, ho'.out.mono (by omega) (Nat.le_refl _), hB'.out⟩
theorem imSlopes_any (v : Value) (f : List Quad) (w : World) (hv : QuadV w v f) (hf : MapP f) :
    Calls Tryz.prog 77 #[v] w (RetO OwnR (slL f) w) := imSlopesL_any v f w hv hf.line


end Go.Proofs.YtfhhofecfllbfaaGreat

/- Several texts in one: Slopes LapLaw Laps Turns Simple. No conditions but those that each theorem states. -/
import Derived.Test.YtfhhofecfllbfaaGreatPkF
import Derived.Test.YtfhhofecfllbfaaGreatPkG
import Derived.Test.YtfhhofecfllbfaaGreatPkA
import Derived.Test.YtfhhofecfllbfaaGreatPkB
import Derived.Test.YtfhhofecfllbfaaGreatPkE
namespace Go.Proofs.YtfhhofecfllbfaaGreat
open Go.RowKit
set_option maxRecDepth 100000
def slK (f : List Quad) (k : Nat) : List (Int × Int) := (List.range k).map fun i => slopeR (nth4 f i) (nth4 f (i + 1))
def slL (f : List Quad) : List (Int × Int) := slK f (f.length - 1)
theorem slK_len (f : List Quad) (k : Nat) : (slK f k).length = k := by simp [slK]
theorem slK_step (f : List Quad) (k : Nat) : slK f (k + 1) = slK f k ++ [slopeR (nth4 f k) (nth4 f (k + 1))] := by simp [slK, List.range_succ]
theorem nthR_slK (f : List Quad) {k i : Nat} (h : i < k) : nthR (slK f k) i = slopeR (nth4 f i) (nth4 f (i + 1)) := by
 rw [nthR_eq (by rw [slK_len]; exact h)]; simp [slK]
set_option linter.unusedSimpArgs false in
set_option maxRecDepth 10000 in
set_option maxHeartbeats 4000000 in
theorem slopesL_any (v : Value) (f : List Quad) (w : World) (hv : QuadV w v f) (hf : LineP f) :
  Calls Tryz.prog 72 #[v] w (RetO OwnR (slL f) w) := by
 have hl := hf.len
 have cs := fun (k : Nat) (g : Nat) w' (h : k + 1 < f.length) hc => cslope_any g false (nth4 f k) (nth4 f (k + 1)) w' (hf.coord k (by omega)).1 (hf.coord k (by omega)).2 (hf.coord (k + 1) h).1 (hf.coord (k + 1) h).2 (hf.rise k h) hc
 have hst := slK_step f
 have hsl := slK_len f
 have hV : slL f = slK f (f.length - 1) := rfl
 rw [hV]
 have h00 : slK f 0 = [] := rfl
 obtain ⟨ao, cap, rfl, _, _, H⟩ := hv.form
 obtain ⟨n, hn⟩ : ∃ n, f.length = n := ⟨_, rfl⟩
 rw [hn] at H cs hl ⊢
 clear hv hV
 generalize slK f = SK at *
 obtain ⟨SR, hSR⟩ : ∃ SR : Nat → Int × Int, ∀ k, slopeR (nth4 f k) (nth4 f (k + 1)) = SR k := ⟨_, fun _ => rfl⟩
 simp only [hSR] at cs hst
 clear hSR
 obtain ⟨wc, hwc⟩ : ∃ W, w.alloc (.cells #[.bool false] 92) = W := ⟨_, rfl⟩
 have hBc : Below w.heap.size w wc := by rw [← hwc]; exact (Below.refl _ _).alloc (Nat.le_refl _) _
 have hcA : CalcAt wc w.heap.size false := by rw [← hwc]; refine ⟨?_, ?_⟩ <;> simp [go_sem]
 have hsc : wc.heap.size = w.heap.size + 1 := by rw [← hwc]; simp
 have cs' := Lib.hid cs; have hst' := Lib.hid hst; have hsl' := Lib.hid hsl; have h00' := Lib.hid h00; have hn' := Lib.hid hn; have H' := Lib.hid H; have hwc' := Lib.hid hwc; have hcA' := Lib.hid hcA; have hBc' := Lib.hid hBc; clear cs hst hsl h00 hn H hwc hcA hBc
 go_enter Tryz.func72, Tryz.ntmps72
 go_wp2
 rw [hwc'.out]
 go_loopw [4, 5] (fun o i wr => ∃ k : Nat, k + 1 ≤ n ∧ i = .int .i64 ((k : Int) + 1) ∧ GrowR wr (w.heap.size + 1) o (SK k) ∧ CalcAt wr w.heap.size false ∧ Below w.heap.size w wr ∧ w.heap.size + 1 ≤ wr.heap.size) (fun _ i _ => n - (intOf i).toNat)
 case atStart => exact ⟨0, by omega, rfl, by rw [h00'.out]; exact GrowR.nil _ _, hcA'.out, hBc'.out, by omega⟩
 case round =>
  obtain ⟨k, hk, rfl, hg, hc, hB, hsr⟩ := hrel
  clear hwc' hcA' hBc' hsc
  by_cases hlt : k + 1 < n
  ·obtain ⟨b, off, rfl, p0, p1, p2, p3⟩ := H'.out k (by omega)
   obtain ⟨_, _, e', q0, q1, q2, q3⟩ := H'.out (k + 1) hlt
   cases e'
   have l0 := World.block_lt_of_cell? _ _ p0
   simp only at l0
   have hst1 := hst'.out k
   have hlen := hsl'.out k
   have cs1 := fun w' hc => cs'.out k w.heap.size w' hlt hc
   obtain ⟨⟨s0, s1⟩, hr⟩ : ∃ r, SR k = r := ⟨_, rfl⟩
   rw [hr] at hst1 cs1
   obtain ⟨j, hj⟩ : ∃ j : Nat, j = k + 1 := ⟨_, rfl⟩
   rw [← hj] at hlt q0 q1 q2 q3 cs1
   generalize nth4 f k = P at *
   generalize nth4 f j = Q at *
   obtain ⟨⟨a0, a1⟩, ⟨a2, a3⟩⟩ := P
   obtain ⟨⟨b0, b1⟩, ⟨b2, b3⟩⟩ := Q
   simp only at p0 p1 p2 p3 q0 q1 q2 q3 cs1
   have at' : ∀ w', Below w.heap.size w w' → (w'.cell? ⟨b, off + k * 4, none⟩ = some (.int .i64 a0) ∧ w'.cell? ⟨b, off + k * 4 + 1, none⟩ = some (.int .i64 a1) ∧ w'.cell? ⟨b, off + k * 4 + 2, none⟩ = some (.int .i64 a2) ∧ w'.cell? ⟨b, off + k * 4 + 3, none⟩ = some (.int .i64 a3)) ∧ w'.cell? ⟨b, off + j * 4, none⟩ = some (.int .i64 b0) ∧ w'.cell? ⟨b, off + j * 4 + 1, none⟩ = some (.int .i64 b1) ∧ w'.cell? ⟨b, off + j * 4 + 2, none⟩ = some (.int .i64 b2) ∧ w'.cell? ⟨b, off + j * 4 + 3, none⟩ = some (.int .i64 b3) :=
    fun w' h => ⟨⟨bkeep h p0, bkeep h p1, bkeep h p2, bkeep h p3⟩, bkeep h q0, bkeep h q1, bkeep h q2, bkeep h q3⟩
   clear p0 p1 p2 p3 q0 q1 q2 q3
   rw [show (k : Int) + 1 = (j : Int) by omega]
   have g1 : IntKind.i64.wrap ((j : Int) - 1) = (k : Int) := by rw [IntKind.wrap_i64]; omega
   have g2 : (0 : Int) ≤ (k : Int) := by omega
   have g3 : (k : Int) < (n : Int) := by omega
   have g4 : k < n := by omega
   have hgw : IntKind.i64.wrap ((j : Int) + 1) = (j : Int) + 1 := by rw [IntKind.wrap_i64]; omega
   have hb1 := hB.drew
   have hs1 : w.heap.size + 1 ≤ wr.drew.heap.size := hsr
   have hcd := hc.drew
   have hg1 : GrowR wr.drew (w.heap.size + 1) u4 (SK k) := hg
   have hll : (SK k).length ≤ 1099511627776 := by omega
   have hst1' := Lib.hid hst1; have hr' := Lib.hid hr; have at'' := Lib.hid at'; have hg1' := Lib.hid hg1; have hll' := Lib.hid hll; have hj' := Lib.hid hj; have cs1' := Lib.hid cs1; have hlen' := Lib.hid hlen; clear hst1 hr at' hg1 hll hj cs1 hlen
   clear hg hB hc
   go_wp2_with fail
   refine wp_region_held_drew (S := (fun w' => (w'.cell? ⟨b, off + k * 4, none⟩ = some (.int .i64 a0) ∧ w'.cell? ⟨b, off + k * 4 + 1, none⟩ = some (.int .i64 a1) ∧ w'.cell? ⟨b, off + k * 4 + 2, none⟩ = some (.int .i64 a2) ∧ w'.cell? ⟨b, off + k * 4 + 3, none⟩ = some (.int .i64 a3)) ∧ w'.cell? ⟨b, off + j * 4, none⟩ = some (.int .i64 b0) ∧ w'.cell? ⟨b, off + j * 4 + 1, none⟩ = some (.int .i64 b1) ∧ w'.cell? ⟨b, off + j * 4 + 2, none⟩ = some (.int .i64 b2) ∧ w'.cell? ⟨b, off + j * 4 + 3, none⟩ = some (.int .i64 b3))) (by kernel_rfl) (by (try dsimp only); exact at''.out _ ‹_›) (fun hHeld => ?_)
   refine ly_s 0 hHeld ?_
   refine ly_s 1 hHeld ?_
   refine ly_s 2 hHeld ?_
   refine ly_s 3 hHeld ?_
   refine ly_s 4 hHeld ?_
   refine ly_s 5 hHeld ?_
   refine ly_s 6 hHeld ?_
   refine ly_s 7 hHeld ?_
   refine ly_s 8 hHeld ?_
   refine ly_s 9 hHeld ?_
   refine ly_a 10 (fun KK hKK => ?_)
   go_simp
   refine (cs1'.out _ hcd).mono ?_
   rintro e w3 ⟨rfl, hg3, hc3⟩
   have hs3 := Nat.le_trans hs1 hg3.size
   have hb3 : Below w.heap.size w w3 := hb1.grown hg3 hb1.size (fun j hj => by have := Option.some.inj hj; omega)
   have hgr3 := hg1'.out.kept hg3 (Nat.lt_succ_self _)
   try dsimp only
   refine hKK.out _ _ (by (try dsimp only); exact at''.out _ ‹_›) (fun hHeld => ?_)
   clear hKK KK
   try simp only [Act.put, lyA, lyB, lyC]
   refine ly_a 11 (fun KK hKK => ?_)
   go_simp
   have hb4 := hb3.alloc hb3.size (.cells #[.int .i64 s0, .int .i64 s1] 42)
   try dsimp only
   refine hKK.out _ _ (by (try dsimp only); exact at''.out _ ‹_›) (fun hHeld => ?_)
   clear hKK KK
   try simp only [Act.put, lyA, lyB, lyC]
   refine ly_a 12 (fun KK hKK => ?_)
   refine wp_append_rat _ _ rfl (w.heap.size + 1) u4 (SK k) s0 s1 _ rfl rfl hgr3 hll'.out hs3 ?_
   intro v2 w2 hg2 hgr
   have hb5 := hgr3.belowB hb3 (Nat.le_succ _) hb3.size hgr
   have hc5 := hc3.grown hgr (fun e => by have := (World.ownsRow.lt hgr3 _ e).1; omega)
   have hs5 := Nat.le_trans hs3 hgr.size
   try dsimp only
   refine hKK.out _ _ (by (try dsimp only); exact at''.out _ ‹_›) (fun hHeld => ?_)
   clear hKK KK
   try simp only [Act.put, lyA, lyB, lyC]
   refine ly_s 13 hHeld ?_
   refine wpAnyH_done (by kernel_rfl) ?_ _
   rw [← hst1'.out] at hg2
   clear hHeld hgr hgr3 hc3 hg3 hb3 hb4 hb1
   have hj2 : (j : Int) = (k : Int) + 1 := by have := hj'.out; omega
   have hg2' := Lib.hid hg2; have hb5' := Lib.hid hb5; have hc5' := Lib.hid hc5; have hj2' := Lib.hid hj2; clear hg2 hb5 hc5 hj2
   go_wp2
   go_roundw
   case rel =>
    have := hj'.out
    exact ⟨k + 1, by omega, by go_num, hg2'.out, hc5'.out, hb5'.out, hs5⟩
   case measure => simp [intOf]; omega
  ·obtain rfl : n = k + 1 := by omega
   have ho := hg.own
   rw [show k + 1 - 1 = k from rfl] at *
   have ho' := Lib.hid ho; have hB' := Lib.hid hB; clear ho hB
   clear H' hg hc
   go_wp2
   go_ret
   exact ⟨_, rfl, ho'.out.mono (by omega) (Nat.le_refl _), hB'.out⟩
set_option linter.unusedSimpArgs false in
set_option maxRecDepth 10000 in
set_option maxHeartbeats 4000000 in
theorem imSlopesL_any (v : Value) (f : List Quad) (w : World) (hv : QuadV w v f) (hf : LineP f) :
  Calls Tryz.prog 77 #[v] w (RetO OwnR (slL f) w) := by
 have hl := hf.len
 have cs := fun (k : Nat) w' (h : k + 1 < f.length) => imSlope_any (nth4 f k) (nth4 f (k + 1)) w' (hf.coord k (by omega)).1 (hf.coord k (by omega)).2 (hf.coord (k + 1) h).1 (hf.coord (k + 1) h).2 (hf.rise k h)
 have hst := slK_step f
 have hsl := slK_len f
 have hV : slL f = slK f (f.length - 1) := rfl
 rw [hV]
 have h00 : slK f 0 = [] := rfl
 obtain ⟨ao, cap, rfl, _, _, H⟩ := hv.form
 obtain ⟨n, hn⟩ : ∃ n, f.length = n := ⟨_, rfl⟩
 rw [hn] at H cs hl ⊢
 clear hv hV
 generalize slK f = SK at *
 obtain ⟨SR, hSR⟩ : ∃ SR : Nat → Int × Int, ∀ k, slopeR (nth4 f k) (nth4 f (k + 1)) = SR k := ⟨_, fun _ => rfl⟩
 simp only [hSR] at cs hst
 clear hSR
 have cs' := Lib.hid cs; have hst' := Lib.hid hst; have hsl' := Lib.hid hsl; have h00' := Lib.hid h00; have hn' := Lib.hid hn; have H' := Lib.hid H; clear cs hst hsl h00 hn H
 go_enter Tryz.func77, Tryz.ntmps77
 go_wp2
 go_loopw [3, 4] (fun o i wr => ∃ k : Nat, k + 1 ≤ n ∧ i = .int .i64 ((k : Int) + 1) ∧ GrowR wr w.heap.size o (SK k) ∧ Below w.heap.size w wr) (fun _ i _ => n - (intOf i).toNat)
 case atStart => exact ⟨0, by omega, rfl, by rw [h00'.out]; exact GrowR.nil _ _, Below.refl _ _⟩
 case round =>
  obtain ⟨k, hk, rfl, hg, hB⟩ := hrel
  by_cases hlt : k + 1 < n
  ·obtain ⟨b, off, rfl, p0, p1, p2, p3⟩ := H'.out k (by omega)
   obtain ⟨_, _, e', q0, q1, q2, q3⟩ := H'.out (k + 1) hlt
   cases e'
   have l0 := World.block_lt_of_cell? _ _ p0
   simp only at l0
   have hst1 := hst'.out k
   have hlen := hsl'.out k
   have cs1 := fun w' => cs'.out k w' hlt
   obtain ⟨⟨s0, s1⟩, hr⟩ : ∃ r, SR k = r := ⟨_, rfl⟩
   rw [hr] at hst1 cs1
   obtain ⟨j, hj⟩ : ∃ j : Nat, j = k + 1 := ⟨_, rfl⟩
   rw [← hj] at hlt q0 q1 q2 q3 cs1
   generalize nth4 f k = P at *
   generalize nth4 f j = Q at *
   obtain ⟨⟨a0, a1⟩, ⟨a2, a3⟩⟩ := P
   obtain ⟨⟨b0, b1⟩, ⟨b2, b3⟩⟩ := Q
   simp only at p0 p1 p2 p3 q0 q1 q2 q3 cs1
   have at' : ∀ w', Below w.heap.size w w' → (w'.cell? ⟨b, off + k * 4, none⟩ = some (.int .i64 a0) ∧ w'.cell? ⟨b, off + k * 4 + 1, none⟩ = some (.int .i64 a1) ∧ w'.cell? ⟨b, off + k * 4 + 2, none⟩ = some (.int .i64 a2) ∧ w'.cell? ⟨b, off + k * 4 + 3, none⟩ = some (.int .i64 a3)) ∧ w'.cell? ⟨b, off + j * 4, none⟩ = some (.int .i64 b0) ∧ w'.cell? ⟨b, off + j * 4 + 1, none⟩ = some (.int .i64 b1) ∧ w'.cell? ⟨b, off + j * 4 + 2, none⟩ = some (.int .i64 b2) ∧ w'.cell? ⟨b, off + j * 4 + 3, none⟩ = some (.int .i64 b3) :=
    fun w' h => ⟨⟨bkeep h p0, bkeep h p1, bkeep h p2, bkeep h p3⟩, bkeep h q0, bkeep h q1, bkeep h q2, bkeep h q3⟩
   clear p0 p1 p2 p3 q0 q1 q2 q3
   rw [show (k : Int) + 1 = (j : Int) by omega]
   have g1 : IntKind.i64.wrap ((j : Int) - 1) = (k : Int) := by rw [IntKind.wrap_i64]; omega
   have g2 : (0 : Int) ≤ (k : Int) := by omega
   have g3 : (k : Int) < (n : Int) := by omega
   have g4 : k < n := by omega
   have hgw : IntKind.i64.wrap ((j : Int) + 1) = (j : Int) + 1 := by rw [IntKind.wrap_i64]; omega
   have hb1 := hB.drew
   have hg1 : GrowR wr.drew w.heap.size u3 (SK k) := hg
   have hll : (SK k).length ≤ 1099511627776 := by omega
   have hst1' := Lib.hid hst1; have hr' := Lib.hid hr; have at'' := Lib.hid at'; have hg1' := Lib.hid hg1; have hll' := Lib.hid hll; have hj' := Lib.hid hj; have cs1' := Lib.hid cs1; have hlen' := Lib.hid hlen; clear hst1 hr at' hg1 hll hj cs1 hlen
   clear hg hB
   go_wp2_with fail
   refine wp_region_held_drew (S := (fun w' => (w'.cell? ⟨b, off + k * 4, none⟩ = some (.int .i64 a0) ∧ w'.cell? ⟨b, off + k * 4 + 1, none⟩ = some (.int .i64 a1) ∧ w'.cell? ⟨b, off + k * 4 + 2, none⟩ = some (.int .i64 a2) ∧ w'.cell? ⟨b, off + k * 4 + 3, none⟩ = some (.int .i64 a3)) ∧ w'.cell? ⟨b, off + j * 4, none⟩ = some (.int .i64 b0) ∧ w'.cell? ⟨b, off + j * 4 + 1, none⟩ = some (.int .i64 b1) ∧ w'.cell? ⟨b, off + j * 4 + 2, none⟩ = some (.int .i64 b2) ∧ w'.cell? ⟨b, off + j * 4 + 3, none⟩ = some (.int .i64 b3))) (by kernel_rfl) (by (try dsimp only); exact at''.out _ ‹_›) (fun hHeld => ?_)
   refine ly_s 0 hHeld ?_
   refine ly_s 1 hHeld ?_
   refine ly_s 2 hHeld ?_
   refine ly_s 3 hHeld ?_
   refine ly_s 4 hHeld ?_
   refine ly_s 5 hHeld ?_
   refine ly_s 6 hHeld ?_
   refine ly_s 7 hHeld ?_
   refine ly_s 8 hHeld ?_
   refine ly_s 9 hHeld ?_
   refine ly_a 10 (fun KK hKK => ?_)
   go_simp
   refine (cs1'.out _).mono ?_
   rintro e w3 ⟨rfl, hB3⟩
   have hb3 := hb1.trans (hB3.mono hb1.size)
   have hgr3 := hg1'.out.below hB3
   try dsimp only
   refine hKK.out _ _ (by (try dsimp only); exact at''.out _ ‹_›) (fun hHeld => ?_)
   clear hKK KK
   try simp only [Act.put, lyA, lyB, lyC]
   refine ly_a 11 (fun KK hKK => ?_)
   go_simp
   have hb4 := hb3.alloc hb3.size (.cells #[.int .i64 s0, .int .i64 s1] 42)
   try dsimp only
   refine hKK.out _ _ (by (try dsimp only); exact at''.out _ ‹_›) (fun hHeld => ?_)
   clear hKK KK
   try simp only [Act.put, lyA, lyB, lyC]
   refine ly_a 12 (fun KK hKK => ?_)
   refine wp_append_rat _ _ rfl w.heap.size u3 (SK k) s0 s1 _ rfl rfl hgr3 hll'.out hb3.size ?_
   intro v2 w2 hg2 hgr
   have hb5 := hgr3.belowB hb3 (Nat.le_refl _) hb3.size hgr
   try dsimp only
   refine hKK.out _ _ (by (try dsimp only); exact at''.out _ ‹_›) (fun hHeld => ?_)
   clear hKK KK
   try simp only [Act.put, lyA, lyB, lyC]
   refine ly_s 13 hHeld ?_
   refine wpAnyH_done (by kernel_rfl) ?_ _
   rw [← hst1'.out] at hg2
   clear hHeld hgr hgr3 hB3 hb3 hb4 hb1
   have hj2 : (j : Int) = (k : Int) + 1 := by have := hj'.out; omega
   have hg2' := Lib.hid hg2; have hb5' := Lib.hid hb5; have hj2' := Lib.hid hj2; clear hg2 hb5 hj2
   go_wp2
   go_roundw
   case rel =>
    have := hj'.out
    exact ⟨k + 1, by omega, by go_num, hg2'.out, hb5'.out⟩
   case measure => simp [intOf]; omega
  ·obtain rfl : n = k + 1 := by omega
   have ho := hg.own
   rw [show k + 1 - 1 = k from rfl] at *
   have ho' := Lib.hid ho; have hB' := Lib.hid hB; clear ho hB
   clear H' hg
   go_wp2
   go_ret
   exact ⟨_, rfl, ho'.out.mono (by omega) (Nat.le_refl _), hB'.out⟩
theorem imSlopes_any (v : Value) (f : List Quad) (w : World) (hv : QuadV w v f) (hf : MapP f) :
  Calls Tryz.prog 77 #[v] w (RetO OwnR (slL f) w) := imSlopesL_any v f w hv hf.line
def lpc (S : Nat → Int) : Nat → Nat
 | 0 => 0
 | j + 1 => if 0 < j ∧ S (j - 1) = S j then lpc S j else lpc S j + 1
def row3 (k : Nat) (s : Int) (c : Nat) : Int := if c = 0 then k else if c = 1 then (k : Int) + 1 else s
def lpT (S : Nat → Int) : Nat → (Nat → Nat → Int)
 | 0 => fun _ _ => 0
 | j + 1 => if 0 < j ∧ S (j - 1) = S j then upd (lpT S j) (lpc S j - 1) 1 ((j : Int) + 1) else fun i c => if i = lpc S j then row3 j (S j) c else lpT S j i c
theorem lpc_same {S : Nat → Int} {j : Nat} (h : 0 < j ∧ S (j - 1) = S j) : lpc S (j + 1) = lpc S j := by show (if _ then _ else _) = _; rw [if_pos h]
theorem lpc_new {S : Nat → Int} {j : Nat} (h : ¬ (0 < j ∧ S (j - 1) = S j)) : lpc S (j + 1) = lpc S j + 1 := by show (if _ then _ else _) = _; rw [if_neg h]
theorem lpT_same {S : Nat → Int} {j : Nat} (h : 0 < j ∧ S (j - 1) = S j) : lpT S (j + 1) = upd (lpT S j) (lpc S j - 1) 1 ((j : Int) + 1) := by show (if _ then _ else _) = _; rw [if_pos h]
theorem lpT_new {S : Nat → Int} {j : Nat} (h : ¬ (0 < j ∧ S (j - 1) = S j)) : lpT S (j + 1) = fun i c => if i = lpc S j then row3 j (S j) c else lpT S j i c := by show (if _ then _ else _) = _; rw [if_neg h]
theorem lpc_le (S : Nat → Int) (j : Nat) : lpc S j ≤ j := by
 induction j with
 | zero => exact Nat.le_refl _
 | succ j ih =>
   by_cases h : 0 < j ∧ S (j - 1) = S j
   ·rw [lpc_same h]; omega
   ·rw [lpc_new h]; omega
theorem lpc_pos (S : Nat → Int) {j : Nat} (h : 0 < j) : 1 ≤ lpc S j := by
 induction j with
 | zero => omega
 | succ j ih =>
   by_cases h2 : 0 < j ∧ S (j - 1) = S j
   ·rw [lpc_same h2]; exact ih h2.1
   ·rw [lpc_new h2]; omega
theorem lpT_last (S : Nat → Int) {j : Nat} (h : 0 < j) : lpT S j (lpc S j - 1) 2 = S (j - 1) := by
 induction j with
 | zero => omega
 | succ j ih =>
   by_cases h2 : 0 < j ∧ S (j - 1) = S j
   ·rw [lpc_same h2, lpT_same h2]
    unfold upd
    rw [if_neg (by omega), ih h2.1, h2.2, Nat.add_sub_cancel]
   ·rw [lpc_new h2, lpT_new h2, Nat.add_sub_cancel, Nat.add_sub_cancel]
    simp [row3]
theorem lpT_start (S : Nat → Int) (j : Nat) : (∀ i, i < lpc S j → 0 ≤ lpT S j i 0 ∧ lpT S j i 0 < j) ∧ (0 < j → lpT S j 0 0 = 0) ∧
  (∀ i, 0 < i → i < lpc S j → 0 < lpT S j i 0 ∧ S ((lpT S j i 0).toNat - 1) ≠ S (lpT S j i 0).toNat) ∧
  (∀ k, 0 < k → k < j → S (k - 1) ≠ S k → ∃ i, 0 < i ∧ i < lpc S j ∧ lpT S j i 0 = k) := by
 induction j with
 | zero => exact ⟨fun i hi => absurd hi (Nat.not_lt_zero i), fun h => absurd h (Nat.lt_irrefl 0), fun i _ hi => absurd hi (Nat.not_lt_zero i), fun k _ hk => absurd hk (Nat.not_lt_zero k)⟩
 | succ j ih =>
   obtain ⟨h1, h2, h3, h4⟩ := ih
   by_cases h : 0 < j ∧ S (j - 1) = S j
   ·have e : ∀ i, lpT S (j + 1) i 0 = lpT S j i 0 := fun i => by
     rw [lpT_same h]; unfold upd; rw [if_neg (by omega)]
    rw [lpc_same h]
    simp only [e]
    refine ⟨fun i hi => ?_, fun _ => h2 h.1, h3, fun k hk hk2 hne => ?_⟩
    ·have := h1 i hi; omega
    ·have : k ≠ j := fun e => hne (by subst e; exact h.2)
     exact h4 k hk (by omega) hne
   ·have e : ∀ i, lpT S (j + 1) i 0 = if i = lpc S j then (j : Int) else lpT S j i 0 := fun i => by
     rw [lpT_new h]; simp only [row3, if_true]
    rw [lpc_new h]
    simp only [e]
    refine ⟨fun i hi => ?_, fun _ => ?_, fun i hi hi2 => ?_, fun k hk hk2 hne => ?_⟩
    ·by_cases e2 : i = lpc S j
     ·rw [if_pos e2]; omega
     ·rw [if_neg e2]; have := h1 i (by omega); omega
    ·by_cases h0 : 0 < j
     ·rw [if_neg (by have := lpc_pos S h0; omega)]; exact h2 h0
     ·have : j = 0 := by omega
      subst this
      rfl
    ·by_cases e2 : i = lpc S j
     ·rw [if_pos e2]
      have hj : 0 < j := by
       rcases Nat.eq_zero_or_pos j with h0 | h0
       ·subst h0; exact absurd e2 (by show i ≠ 0; omega)
       ·exact h0
      refine ⟨by omega, ?_⟩
      rw [Int.toNat_natCast]
      exact fun q => h ⟨hj, q⟩
     ·rw [if_neg e2]; exact h3 i hi (by omega)
    ·by_cases e2 : k = j
     ·subst e2
      exact ⟨lpc S k, lpc_pos S hk, by omega, by rw [if_pos rfl]⟩
     ·obtain ⟨i, hi1, hi2, hi3⟩ := h4 k hk (by omega) hne
      exact ⟨i, hi1, by omega, by rw [if_neg (by omega)]; exact hi3⟩
def sgS (f : List Quad) (i : Nat) : Int := sgn (slopeR (nth4 f i) (nth4 f (i + 1))).1
def tuK (f : List Quad) (k : Nat) : List (Int × Int) := (List.range k).map fun i => (nth4 f (lpT (sgS f) (f.length - 1) (i + 1) 0).toNat).1
def tuL (f : List Quad) : List (Int × Int) := tuK f (lpc (sgS f) (f.length - 1) - 1)
theorem tuK_len (f : List Quad) (k : Nat) : (tuK f k).length = k := by simp [tuK]
theorem tuK_step (f : List Quad) (k : Nat) : tuK f (k + 1) = tuK f k ++ [(nth4 f (lpT (sgS f) (f.length - 1) (k + 1) 0).toNat).1] := by simp [tuK, List.range_succ]
theorem mem_tuL {f : List Quad} {x : Int × Int} : x ∈ tuL f ↔ ∃ k, 0 < k ∧ k < f.length - 1 ∧ sgS f (k - 1) ≠ sgS f k ∧ x = (nth4 f k).1 := by
 obtain ⟨h1, _, h3, h4⟩ := lpT_start (sgS f) (f.length - 1)
 unfold tuL tuK
 simp only [List.mem_map, List.mem_range]
 constructor
 ·rintro ⟨i, hi, rfl⟩
  have h5 := h1 (i + 1) (by omega)
  have h6 := h3 (i + 1) (by omega) (by omega)
  exact ⟨_, by omega, by omega, h6.2, rfl⟩
 ·rintro ⟨k, hk, hk2, hne, rfl⟩
  obtain ⟨i, hi1, hi2, hi3⟩ := h4 k hk hk2 hne
  refine ⟨i - 1, by omega, ?_⟩
  rw [show i - 1 + 1 = i by omega, hi3, Int.toNat_natCast]
theorem RowAt.lit3 (w : World) (x y z : Int) : RowAt (w.alloc (.cells #[.int .i64 x, .int .i64 y, .int .i64 z] 3)) w.heap.size w.heap.size 3 3 [x, y, z] :=
 World.ownsRow_lit (base := w.heap.size) (e := 3) (size := 1) w #[.int .i64 x, .int .i64 y, .int .i64 z] 3 (Nat.le_refl _) (by decide) rfl
theorem lst_row3 (k : Nat) (s : Int) : lst 3 (row3 k s) = [(k : Int), (k : Int) + 1, s] := rfl
set_option linter.unusedSimpArgs false in
set_option maxRecDepth 10000 in
set_option maxHeartbeats 4000000 in
theorem imLaps_any (v : Value) (f : List Quad) (w : World) (hv : QuadV w v f) (hf : MapP f) :
  Calls Tryz.prog 228 #[v] w (RetM (lpc (sgS f) (f.length - 1)) 3 (lpT (sgS f) (f.length - 1)) w) := by
 have hl := hf.len
 have c1 := imSlopes_any v f w hv hf
 have hsn : (slL f).length = f.length - 1 := slK_len f _
 have hat : ∀ i, i < f.length - 1 → nthR (slL f) i = slopeR (nth4 f i) (nth4 f (i + 1)) := fun i h => nthR_slK f h
 have hS : ∀ i, i < f.length - 1 → sgn (nthR (slL f) i).1 = sgS f i := fun i h => by rw [hat i h]; rfl
 have cs : ∀ (i : Nat) (w' : World), i < f.length - 1 → Calls Tryz.prog 141 #[.int .i64 (nthR (slL f) i).1] w' (Same (.int .i64 (sgS f i)) w') := fun i w' h => by
  have := l1Sign_any (nthR (slL f) i).1 w'
  rw [hS i h] at this; exact this
 have hn1 : 0 < f.length - 1 := by omega
 have hnl : f.length - 1 ≤ 11 := by omega
 generalize sgS f = S at *
 generalize slL f = SL at *
 generalize f.length - 1 = n at *
 clear hat hS hf hv
 have hcp := fun j => lpc_pos S (j := j)
 have hcl := lpc_le S
 have hlast := fun j => lpT_last S (j := j)
 have hsame := fun j => lpT_same (S := S) (j := j)
 have hnew := fun j => lpT_new (S := S) (j := j)
 have hcsame := fun j => lpc_same (S := S) (j := j)
 have hcnew := fun j => lpc_new (S := S) (j := j)
 have hc0 : lpc S 0 = 0 := rfl
 have h3 := fun k => lst_row3 k (S k)
 generalize lpc S = C at *
 generalize lpT S = T at *
 have c1' := Lib.hid c1; have cs' := Lib.hid cs; have hcp' := Lib.hid hcp; have hcl' := Lib.hid hcl; have hlast' := Lib.hid hlast; have hsame' := Lib.hid hsame; have hnew' := Lib.hid hnew; have hcsame' := Lib.hid hcsame; have hcnew' := Lib.hid hcnew; have hc0' := Lib.hid hc0; have h3' := Lib.hid h3; clear c1 cs hcp hcl hlast hsame hnew hcsame hcnew hc0 h3
 go_enter Tryz.func228, Tryz.ntmps228
 go_wp2_with fail
 refine (c1'.out).mono ?_
 rintro e w1 ⟨sv, rfl, hsv, hB1⟩
 obtain ⟨so, scap, rfl, _, _, H⟩ := hsv.read.form
 rw [hsn] at H ⊢
 clear hsv
 have H' := Lib.hid H; have hsn' := Lib.hid hsn; clear H hsn
 go_wp2
 go_loopw [3, 11] (fun o i wr => ∃ (k : Nat) (rb rc : Nat → Nat), k ≤ n ∧ i = .int .i64 k ∧ GrowT wr w1.heap.size wr.heap.size o (C k) 3 rb rc (T k) ∧ (k = 0 → o = .slice none 0 0) ∧ Below w1.heap.size w1 wr) (fun _ i _ => n - (intOf i).toNat)
 case atStart => exact ⟨0, fun _ => 0, fun _ => 0, Nat.zero_le _, rfl, by rw [hc0'.out]; exact GrowT.nil _ _ _ _ _ _ _, fun _ => rfl, Below.refl _ _⟩
 case round =>
  obtain ⟨k, rb, rc, hk, rfl, hp, ho, hB⟩ := hrel
  obtain ⟨wo, rfl⟩ : ∃ wo : World, wo = wr := ⟨_, rfl⟩
  by_cases hlt : k < n
  ·obtain ⟨b, off, rfl, p0, p1⟩ := H'.out k hlt
   replace p0 := bkeep hB p0
   replace p1 := bkeep hB p1
   have cs1 := fun w' => cs'.out k w' hlt
   generalize nthR SL k = P at *
   obtain ⟨s0, s1⟩ := P
   simp only at p0 p1 cs1
   have hso := hB.size
   obtain ⟨w4, hw4⟩ : ∃ W, wo.alloc (.cells #[.int .i64 s0, .int .i64 s1] 42) = W := ⟨_, rfl⟩
   have hB4 : Below wo.heap.size wo w4 := by rw [← hw4]; exact (Below.refl _ _).alloc (Nat.le_refl _) _
   have i0 : w4.cell? ⟨wo.heap.size, 0, none⟩ = some (.int .i64 s0) := by rw [← hw4]; simp [go_sem]
   have i1 : w4.cell? ⟨wo.heap.size, 1, none⟩ = some (.int .i64 s1) := by rw [← hw4]; simp [go_sem]
   have hb4 := hB.trans (hB4.mono hso)
   have hs4 : wo.heap.size ≤ w4.heap.size := hB4.size
   have hgw : IntKind.i64.wrap ((k : Int) + 1) = (k : Int) + 1 := by rw [IntKind.wrap_i64]; omega
   rcases Nat.eq_zero_or_pos k with h0 | h0
   ·obtain rfl := ho h0
    have e1 := hcnew'.out k (fun h => by omega)
    have e2 := hnew'.out k (fun h => by omega)
    have hCq : C k = 0 := by rw [h0]; exact hc0'.out
    rw [hCq] at hp
    have hp4 := hp.kept hB4
    clear hp hB4 hB ho
    have e1' := Lib.hid e1; have e2' := Lib.hid e2; have hp4' := Lib.hid hp4; have hb4' := Lib.hid hb4; have cs1' := Lib.hid cs1; have hw4' := Lib.hid hw4; have hCq' := Lib.hid hCq; have h0' := Lib.hid h0; clear e1 e2 hp4 hb4 cs1 hw4 hCq h0
    go_wp2_with fail
    rw [hw4'.out]
    clear p0 p1
    go_wp2_with fail
    refine (cs1'.out _).mono ?_
    rintro e w_ ⟨rfl, rfl⟩
    obtain ⟨w9, hw9⟩ : ∃ W, w4.alloc (.cells #[.int .i64 k, .int .i64 ((k : Int) + 1), .int .i64 (S k)] 3) = W := ⟨_, rfl⟩
    have hBr : Below w4.heap.size w4 w9 := by rw [← hw9]; exact (Below.refl _ _).alloc (Nat.le_refl _) _
    have hb8 := hb4'.out
    have hs8 := hs4
    have hb9 := hb8.trans (hBr.mono hb8.size)
    have hrow : RowAt w9 w1.heap.size w4.heap.size 3 3 (lst 3 (row3 k (S k))) := by
     have := RowAt.lit3 w4 (k : Int) ((k : Int) + 1) (S k)
     rw [← h3'.out k, hw9] at this
     exact this.mono hb8.size
    have hz9 : w4.heap.size + 1 = w9.heap.size := by rw [← hw9]; simp
    have hp9 : GrowT w9 w1.heap.size wo.heap.size (.slice none 0 0) 0 3 rb rc (T k) := hp4'.out.kept (hBr.mono hs4)
    have hs9 := hb9.size
    clear hBr hb8 hb4'
    have hw9' := Lib.hid hw9; have hz9' := Lib.hid hz9; have hrow' := Lib.hid hrow; have hb9' := Lib.hid hb9; clear hw9 hz9 hrow hb9
    go_wp2_with (at_builtin; rw [hw9'.out, hz9'.out]; refine wpList_append_row rfl _ _ rfl w1.heap.size wo.heap.size (.slice none 0 0) 0 3 w4.heap.size 3 1 rb rc (T k) (row3 k (S k)) rfl rfl hp9 hrow'.out hs8 (by omega) hs9 ?_)
    intro v' w' hp' hg'
    have hb10 := hb9'.out.grown hg' hs9 (fun j hj => (World.ownsRow.lt hp9.outer j hj).1)
    clear hg' hp9
    have hp'' := Lib.hid hp'; have hb10' := Lib.hid hb10; clear hp' hb10
    go_wp2
    go_roundw
    case rel =>
     refine ⟨k + 1, (fun i => if i = 0 then w4.heap.size else rb i), (fun i => if i = 0 then 3 else rc i), by omega, by go_num, ?_, fun h => absurd h (Nat.succ_ne_zero k), hb10'.out⟩
     rw [e1'.out, e2'.out, hCq'.out]
     exact hp''.out.congr (fun i j _ _ => by split <;> rfl)
    case measure => simp [intOf]; omega
   ·clear ho
    have hq1 := hcp'.out k h0
    have hql := hcl'.out k
    obtain ⟨g, cap, rfl, hM⟩ := hp.form hq1
    have hM4 := hM.below hB4 (Nat.le_refl _)
    obtain ⟨q, hq⟩ : ∃ q, C k - 1 = q := ⟨_, rfl⟩
    obtain ⟨Q, hCq⟩ : ∃ Q, C k = Q := ⟨_, rfl⟩
    have hqQ : Q = q + 1 := by omega
    have hQl : Q ≤ 1099511627776 := by omega
    have hl1 := hlast'.out k h0
    rw [hq] at hl1
    rw [hCq] at hM4 ⊢
    have g1 : IntKind.i64.wrap ((Q : Int) - 1) = (q : Int) := by rw [IntKind.wrap_i64]; omega
    have g2 : (0 : Int) ≤ (q : Int) := by omega
    have g3 : (q : Int) < (Q : Int) := by omega
    have g4 : q < Q := by omega
    have hp4 := hM4.ptr (i := q) g4
    have hc4 := hM4.cell (i := q) (j := 2) g4 (by decide)
    rw [hl1] at hc4
    clear i1 hp hM hB4 hB
    by_cases hsg : S (k - 1) = S k
    ·rw [hsg] at hc4
     have e1 := hcsame'.out k ⟨h0, hsg⟩
     have e2 := hsame'.out k ⟨h0, hsg⟩
     rw [hq] at e2
     have e1' := Lib.hid e1; have e2' := Lib.hid e2; have hM4' := Lib.hid hM4; have hb4' := Lib.hid hb4; have cs1' := Lib.hid cs1; have hw4' := Lib.hid hw4; have hCq' := Lib.hid hCq; have hq' := Lib.hid hq; have hl1' := Lib.hid hl1; have hqQ' := Lib.hid hqQ; clear e1 e2 hM4 hb4 cs1 hw4 hCq hq hl1 hqQ
     go_wp2_with fail
     rw [hw4'.out]
     clear p0 p1
     go_wp2_with fail
     refine (cs1'.out _).mono ?_
     rintro e w_ ⟨rfl, rfl⟩
     have hb5 := hb4'.out
     have hM5 := hM4'.out
     have hs5 := hs4
     have hp5 := hM5.ptr (i := q) g4
     have hf5 := hM5.frozen (i := q) g4 1
     have hc5 := hM5.cell (i := q) (j := 1) g4 (by decide)
     obtain ⟨hr1, hr2⟩ := hM5.block (i := q) g4
     have hM6 := hM5.stored (i := q) g4 1 ((k : Int) + 1)
     have hb6 := hb5.setCell (p := ⟨rb q, 1, none⟩) (by show w1.heap.size ≤ rb q; omega) (.int .i64 ((k : Int) + 1))
     clear hM4' hb4' hb5 hM5
     have hM6' := Lib.hid hM6; have hb6' := Lib.hid hb6; clear hM6 hb6
     go_wp2
     go_roundw
     case rel =>
      refine ⟨k + 1, rb, rc, by omega, by go_num, ?_, fun h => absurd h (Nat.succ_ne_zero k), hb6'.out⟩
      rw [e1'.out, e2'.out, hCq'.out]
      exact (hM6'.out.mono (Nat.le_refl _) (by simpa [World.setCell] using hs5)).grow
     case measure => simp [intOf]; omega
    ·have e1 := hcnew'.out k (fun h => hsg h.2)
     have e2 := hnew'.out k (fun h => hsg h.2)
     have e1' := Lib.hid e1; have e2' := Lib.hid e2; have hM4' := Lib.hid hM4; have hb4' := Lib.hid hb4; have cs1' := Lib.hid cs1; have hw4' := Lib.hid hw4; have hCq' := Lib.hid hCq; have hq' := Lib.hid hq; have hl1' := Lib.hid hl1; have hqQ' := Lib.hid hqQ; clear e1 e2 hM4 hb4 cs1 hw4 hCq hq hl1 hqQ
     go_wp2_with fail
     rw [hw4'.out]
     clear p0 p1
     go_wp2_with fail
     refine (cs1'.out _).mono ?_
     rintro e w_ ⟨rfl, rfl⟩
     have hM5 := hM4'.out
     obtain ⟨w9, hw9⟩ : ∃ W, w4.alloc (.cells #[.int .i64 k, .int .i64 ((k : Int) + 1), .int .i64 (S k)] 3) = W := ⟨_, rfl⟩
     have hBr : Below w4.heap.size w4 w9 := by rw [← hw9]; exact (Below.refl _ _).alloc (Nat.le_refl _) _
     have hb8 := hb4'.out
     have hs8 := hs4
     have hb9 := hb8.trans (hBr.mono hb8.size)
     have hrow : RowAt w9 w1.heap.size w4.heap.size 3 3 (lst 3 (row3 k (S k))) := by
      have := RowAt.lit3 w4 (k : Int) ((k : Int) + 1) (S k)
      rw [← h3'.out k, hw9] at this
      exact this.mono hb8.size
     have hz9 : w4.heap.size + 1 = w9.heap.size := by rw [← hw9]; simp
     have hp9 : GrowT w9 w1.heap.size wo.heap.size (.slice (some ⟨g, 0, none⟩) Q cap) Q 3 rb rc (T k) := (hM5.grow).kept (hBr.mono hs4)
     have hs9 := hb9.size
     clear hBr hb8 hM4' hM5 hb4'
     have hw9' := Lib.hid hw9; have hz9' := Lib.hid hz9; have hrow' := Lib.hid hrow; have hb9' := Lib.hid hb9; clear hw9 hz9 hrow hb9
     go_wp2_with (at_builtin; rw [hw9'.out, hz9'.out]; refine wpList_append_row rfl _ _ rfl w1.heap.size wo.heap.size (.slice (some ⟨g, 0, none⟩) Q cap) Q 3 w4.heap.size 3 1 rb rc (T k) (row3 k (S k)) rfl rfl hp9 hrow'.out hs8 hQl hs9 ?_)
     intro v' w' hp' hg'
     have hb10 := hb9'.out.grown hg' hs9 (fun j hj => (World.ownsRow.lt hp9.outer j hj).1)
     clear hg' hp9
     have hp'' := Lib.hid hp'; have hb10' := Lib.hid hb10; clear hp' hb10
     go_wp2
     go_roundw
     case rel =>
      refine ⟨k + 1, (fun i => if i = Q then w4.heap.size else rb i), (fun i => if i = Q then 3 else rc i), by omega, by go_num, ?_, fun h => absurd h (Nat.succ_ne_zero k), hb10'.out⟩
      rw [e1'.out, e2'.out, hCq'.out]
      exact hp''.out.congr (fun i j _ _ => by split <;> rfl)
     case measure => simp [intOf]; omega
  ·obtain rfl : k = n := by omega
   obtain ⟨gg, gcap, rfl, hall⟩ := hp.form (hcp'.out k (by omega))
   have hb := hB1.trans (hB.mono hB1.size)
   have hM := hall.mono hB1.size (Nat.le_refl _)
   clear hp hall H' ho
   have hb' := Lib.hid hb; have hM' := Lib.hid hM; clear hb hM
   go_wp2
   go_ret
   exact ⟨_, _, _, _, rfl, hM'.out, hb'.out⟩
theorem MatT.cap {w : World} {B E g n cap m : Nat} {rb rc : Nat → Nat} {f : Nat → Nat → Int} (h : MatT w B E g n cap m rb rc f) : n ≤ cap := by
 rcases h.outer.2 with ⟨h4, _⟩ | ⟨g', cap', cur, e', h4, h5, h6, h7, _⟩
 ·simp at h4
 ·simp only [Value.slice.injEq, Option.some.injEq, Addr.mk.injEq, and_true, true_and] at e'
  omega
set_option linter.unusedSimpArgs false in
set_option maxRecDepth 10000 in
set_option maxHeartbeats 4000000 in
theorem lpTurns_any (v : Value) (f : List Quad) (w : World) (hv : QuadV w v f) (hf : MapP f) :
  Calls Tryz.prog 211 #[v] w (RetO OwnR (tuL f) w) := by
 have hl := hf.len
 have c1 := imLaps_any v f w hv hf
 obtain ⟨hT, _, _, _⟩ := lpT_start (sgS f) (f.length - 1)
 have hL1 := lpc_pos (sgS f) (j := f.length - 1) (by omega)
 have hL2 := lpc_le (sgS f) (f.length - 1)
 have hst := tuK_step f
 have hkl := tuK_len f
 have h00 : tuK f 0 = [] := rfl
 have hV : tuL f = tuK f (lpc (sgS f) (f.length - 1) - 1) := rfl
 rw [hV]
 clear hV
 have hfm := hv.form
 have hvb := fun w' (hB : Below w.heap.size w w') => (hv.below hB).form
 generalize lpT (sgS f) (f.length - 1) = T at *
 generalize lpc (sgS f) (f.length - 1) = L at *
 generalize tuK f = TK at *
 obtain ⟨ao, cap, rfl, _, _, _⟩ := hfm
 obtain ⟨n, hn⟩ : ∃ n, f.length = n := ⟨_, rfl⟩
 rw [hn] at hT hL2 hl hvb c1 ⊢
 have hsub : L - 1 + 1 = L := by omega
 clear hv
 have c1' := Lib.hid c1; have hT' := Lib.hid hT; have hst' := Lib.hid hst; have hkl' := Lib.hid hkl; have h00' := Lib.hid h00; have hvb' := Lib.hid hvb; have hn' := Lib.hid hn; have hsub' := Lib.hid hsub; clear c1 hT hst hkl h00 hvb hn hsub
 go_enter Tryz.func211, Tryz.ntmps211
 go_wp2_with fail
 refine (c1'.out).mono ?_
 rintro e w1 ⟨g, gcap, rb, rc, rfl, hM, hB1⟩
 have hLc := hM.cap
 have hM' := Lib.hid hM; clear hM
 go_wp2
 case inl =>
  obtain rfl : L = 1 := by omega
  go_loopw [3, 10] (fun o i wr => i = .int .i64 0 ∧ o = .slice none 0 0 ∧ Below w.heap.size w wr) (fun _ _ _ => 0)
  case atStart => exact ⟨rfl, rfl, hB1⟩
  case round =>
   obtain ⟨rfl, rfl, hbr⟩ := hrel
   clear hB1
   go_wp2
   go_ret
   exact ⟨_, rfl, by first | (rw [h00'.out]; exact OwnR.nil _ _ _) | (rw [Nat.sub_self, h00'.out]; exact OwnR.nil _ _ _), hbr⟩
 obtain ⟨m, hm⟩ : ∃ m, L - 1 = m := ⟨_, rfl⟩
 rw [hm]
 have hm' := Lib.hid hm; clear hm
 go_loopw [3, 10] (fun o i wr => ∃ k : Nat, k ≤ m ∧ i = .int .i64 k ∧ GrowR wr w1.heap.size o (TK k) ∧ Below w1.heap.size w1 wr) (fun _ i _ => m - (intOf i).toNat)
 case atStart => exact ⟨0, Nat.zero_le _, rfl, by rw [h00'.out]; exact GrowR.nil _ _, Below.refl _ _⟩
 case round =>
  obtain ⟨k, hk, rfl, hg, hB⟩ := hrel
  have hb := hB1.trans (hB.mono hB1.size)
  by_cases hlt : k < m
  ·have hkL : k + 1 < L := by have := hm'.out; omega
   have hM2 := hM'.out.below hB (Nat.le_refl _)
   have hp := hM2.ptr (i := k + 1) hkL
   have hc := hM2.cell (i := k + 1) (j := 0) hkL (by decide)
   obtain ⟨t0, t1⟩ := hT'.out (k + 1) hkL
   have hst1 := hst'.out k
   obtain ⟨a, ha⟩ : ∃ a : Nat, (T (k + 1) 0).toNat = a := ⟨_, rfl⟩
   have haT : T (k + 1) 0 = (a : Int) := by omega
   rw [ha] at hst1
   rw [haT] at hc
   have hp' : wr.cell? ⟨g, 1 + k, none⟩ = some (.slice (some ⟨rb (k + 1), 0, none⟩) 3 (rc (k + 1))) := by rw [Nat.add_comm]; exact hp
   have han : a < n := by omega
   have han2 : (a : Int) < (n : Int) := by omega
   have han3 : (0 : Int) ≤ (a : Int) := by omega
   obtain ⟨ao2, cap2, e, _, _, H⟩ := hvb'.out wr hb
   obtain ⟨rfl, e1, rfl⟩ := Value.slice.inj e
   clear e1
   obtain ⟨b, off, rfl, p0, p1, p2, p3⟩ := H a han
   generalize nth4 f a = P at *
   obtain ⟨⟨x0, x1⟩, ⟨x2, x3⟩⟩ := P
   simp only at p0 p1 p2 p3 hst1
   generalize rb (k + 1) = r at *
   generalize rc (k + 1) = rcc at *
   have hlen : (TK k).length ≤ 1099511627776 := by rw [hkl'.out]; omega
   have hs1 := hB.size
   clear H e hM2 hp t0 t1 haT ha p2 p3
   have hst1' := Lib.hid hst1; have hb' := Lib.hid hb; have hlen' := Lib.hid hlen; clear hst1 hb hlen
   go_wp2_with (at_builtin; refine wpList_append_rat rfl _ _ rfl w1.heap.size u3 (TK k) x0 x1 1 rfl rfl hg hlen'.out hs1 ?_)
   intro v' w' hown hgrow
   have hB2 := hg.belowB hB (Nat.le_refl _) hs1 hgrow
   clear hgrow hg hB
   have hown' := Lib.hid hown; have hB2' := Lib.hid hB2; clear hown hB2
   go_wp2
   go_roundw
   case rel => exact ⟨k + 1, by omega, by go_num, by rw [hst1'.out]; exact hown'.out, hB2'.out⟩
   case measure => simp [intOf]; omega
  ·obtain rfl : k = m := by omega
   have ho := hg.own
   clear hg
   have ho' := Lib.hid ho; have hb' := Lib.hid hb; clear ho hb
   go_wp2
   go_ret
   exact ⟨_, rfl, by rw [hm'.out]; exact ho'.out.mono hB1.size (Nat.le_refl _), hb'.out⟩
theorem wpList_append_P {ops : Array Oper} {rest : List Oper} {o : Oper} {a : Act} {w : World} {Q : Exit → Act → World → Prop} (hgd : o.guard = none) (s x : Operand)
  (ho : o.op = .call { callee := .builtin .append, args := #[s, x], argTypes := #[29, 29] }) (B : Nat) (v : Value) (xs : List Quad) (p q p' q' : Int) (c : Nat) (hs : a.eval s = v) (hx : a.eval x = .slice (some ⟨w.heap.size, 0, none⟩) 1 c)
  (hown : GrowP w B v xs) (hl : xs.length ≤ 1099511627776) (hB : B ≤ w.heap.size)
  (h : ∀ v' w', GrowP w' B v' (xs ++ [((p, q), (p', q'))]) → w.grownBy w' v.ownBlock → wpList Tryz.prog ops Q rest (a.put o.dst v') w') : wpList Tryz.prog ops Q (o :: rest) a (w.alloc (.cells #[.int .i64 p, .int .i64 q, .int .i64 p', .int .i64 q'] 80)) :=
 wpList_plain hgd fun _ hK => wp_append_P s x ho B v xs p q p' q' c hs hx hown hl hB fun v' w' h2 h3 => hK _ _ (h v' w' h2 h3)
theorem GrowP.lit (w : World) (x : Quad) : GrowP (w.alloc (.cells #[.int .i64 x.1.1, .int .i64 x.1.2, .int .i64 x.2.1, .int .i64 x.2.2] 80)) w.heap.size (.slice (some ⟨w.heap.size, 0, none⟩) 1 1) [x] :=
 World.ownsRow_lit (base := w.heap.size) (e := 80) (size := 4) w #[.int .i64 x.1.1, .int .i64 x.1.2, .int .i64 x.2.1, .int .i64 x.2.2] 1 (Nat.le_refl _) (by decide) rfl
def srF (f : List Quad) (i : Nat) : Int × Int := slopeR (nth4 f i) (nth4 f (i + 1))
def smK (f : List Quad) : Nat → List Quad
 | 0 => [nth4 f 0]
 | k + 1 => if srF f k = srF f (k + 1) then smK f k else smK f k ++ [nth4 f (k + 1)]
def smL (f : List Quad) : List Quad := smK f (f.length - 2) ++ [nth4 f (f.length - 1)]
theorem smK_len (f : List Quad) (k : Nat) : 1 ≤ (smK f k).length ∧ (smK f k).length ≤ k + 1 := by
 induction k with
 | zero => exact ⟨Nat.le_refl _, Nat.le_refl _⟩
 | succ k ih =>
   unfold smK
   split
   ·omega
   ·rw [List.length_append]; simp; omega
theorem smK_same {f : List Quad} {k : Nat} (h : srF f k = srF f (k + 1)) : smK f (k + 1) = smK f k := by show (if _ then _ else _) = _; rw [if_pos h]
theorem smK_new {f : List Quad} {k : Nat} (h : ¬ srF f k = srF f (k + 1)) : smK f (k + 1) = smK f k ++ [nth4 f (k + 1)] := by show (if _ then _ else _) = _; rw [if_neg h]
set_option linter.unusedSimpArgs false in
set_option maxRecDepth 10000 in
set_option maxHeartbeats 4000000 in
theorem simpleL_any (v : Value) (f : List Quad) (w : World) (hv : QuadV w v f) (hf : LineP f) :
  Calls Tryz.prog 213 #[v] w (RetO OwnP (smL f) w) := by
 have hl := hf.len
 have c1 := slopesL_any v f w hv hf
 have hsn : (slL f).length = f.length - 1 := slK_len f _
 have hat : ∀ i, i < f.length - 1 → nthR (slL f) i = srF f i := fun i h => nthR_slK f h
 have hsame := fun k => smK_same (f := f) (k := k)
 have hnew := fun k => smK_new (f := f) (k := k)
 have hkl := smK_len f
 have h00 : smK f 0 = [nth4 f 0] := rfl
 have hV : smL f = smK f (f.length - 2) ++ [nth4 f (f.length - 1)] := rfl
 rw [hV]
 clear hV hf
 have hvb := fun w' (hB : Below w.heap.size w w') => (hv.below hB).form
 generalize slL f = SL at *
 generalize srF f = SR at *
 generalize smK f = SM at *
 obtain ⟨ao, cap, rfl, _, _, H⟩ := hv.form
 obtain ⟨b, off, rfl, _⟩ := H 0 (by omega)
 obtain ⟨n, hn⟩ : ∃ n, f.length = n := ⟨_, rfl⟩
 have hfc : ∀ w', Below w.heap.size w w' → ∀ i, i < n → w'.cell? ⟨b, off + i * 4, none⟩ = some (.int .i64 (nth4 f i).1.1) ∧ w'.cell? ⟨b, off + i * 4 + 1, none⟩ = some (.int .i64 (nth4 f i).1.2) ∧ w'.cell? ⟨b, off + i * 4 + 2, none⟩ = some (.int .i64 (nth4 f i).2.1) ∧ w'.cell? ⟨b, off + i * 4 + 3, none⟩ = some (.int .i64 (nth4 f i).2.2) := fun w' hB i hi => by
  obtain ⟨ao, cap, e, _, _, H⟩ := hvb w' hB
  obtain ⟨rfl, _, rfl⟩ := Value.slice.inj e
  obtain ⟨_, _, e, c0, c1, c2, c3⟩ := H i (by rw [hn]; exact hi)
  cases e
  exact ⟨c0, c1, c2, c3⟩
 rw [hn] at hl c1 hsn hat ⊢
 clear hv H hvb
 obtain ⟨m, hm⟩ : ∃ m, n - 2 = m := ⟨_, rfl⟩
 have hn2 : n - 1 = m + 1 := by omega
 obtain ⟨M, hM⟩ : ∃ M, m + 1 = M := ⟨_, rfl⟩
 rw [hm, hn2, hM]
 rw [hn2, hM] at hsn hat
 have hnm : n = m + 2 := by omega
 have hmb : m ≤ 1000 ∧ m < M ∧ M = m + 1 ∧ n = M + 1 := by omega
 obtain ⟨hmb1, hmb2, hmb3, hmb4⟩ := hmb
 have c1' := Lib.hid c1; have hsn' := Lib.hid hsn; have hat' := Lib.hid hat; have hsame' := Lib.hid hsame; have hnew' := Lib.hid hnew; have hkl' := Lib.hid hkl; have h00' := Lib.hid h00; have hfc' := Lib.hid hfc; have hn' := Lib.hid hn; have hm' := Lib.hid hm; have hn2' := Lib.hid hn2; have hnm' := Lib.hid hnm; have hM' := Lib.hid hM; have hmb3' := Lib.hid hmb3; have hmb4' := Lib.hid hmb4; clear c1 hsn hat hsame hnew hkl h00 hfc hn hm hn2 hnm hM hmb3 hmb4
 go_enter Tryz.func213, Tryz.ntmps213
 go_wp2_with fail
 refine (c1'.out).mono ?_
 rintro e w1 ⟨sv, rfl, hsv, hB1⟩
 obtain ⟨so, scap, rfl, _, _, HS⟩ := hsv.read.form
 rw [hsn'.out] at HS ⊢
 obtain ⟨sb, soff, rfl, _⟩ := HS 0 (by omega)
 have hs1 := hB1.size
 obtain ⟨p0, p1, p2, p3⟩ := hfc'.out w1 hB1 0 (by have := hnm'.out; omega)
 generalize hP : nth4 f 0 = P at *
 obtain ⟨⟨a0, a1⟩, ⟨a2, a3⟩⟩ := P
 simp only [Nat.zero_mul, Nat.add_zero] at p0 p1 p2 p3
 obtain ⟨w2, hw2⟩ : ∃ W, w1.alloc (.cells #[.int .i64 a0, .int .i64 a1, .int .i64 a2, .int .i64 a3] 80) = W := ⟨_, rfl⟩
 have hB2 : Below w1.heap.size w1 w2 := by rw [← hw2]; exact (Below.refl _ _).alloc (Nat.le_refl _) _
 have hg2 : GrowP w2 w1.heap.size (.slice (some ⟨w1.heap.size, 0, none⟩) 1 1) (SM 0) := by
  rw [h00'.out, ← hw2]; exact GrowP.lit w1 ((a0, a1), (a2, a3))
 have g0 : (0 : Int) < (n : Int) := by omega
 have g0b : 0 < n := by omega
 clear hsv
 have HS' := Lib.hid HS; have hw2' := Lib.hid hw2; have hg2' := Lib.hid hg2; have hP' := Lib.hid hP; clear HS hw2 hg2 hP
 go_wp2
 rw [hw2'.out]
 clear p0 p1 p2 p3
 have hgn : IntKind.i64.wrap ((n : Int) - 1) = (M : Int) := by have := hnm'.out; have := hM'.out; rw [IntKind.wrap_i64]; omega
 go_loopw [4, 5] (fun o i wr => ∃ k : Nat, k ≤ m ∧ i = .int .i64 ((k : Int) + 1) ∧ GrowP wr w1.heap.size o (SM k) ∧ Below w1.heap.size w1 wr) (fun _ i _ => n - (intOf i).toNat)
 case atStart => exact ⟨0, Nat.zero_le _, rfl, hg2'.out, hB2⟩
 case round =>
  obtain ⟨k, hk, rfl, hg, hB⟩ := hrel
  clear hg2' hB2 hw2'
  have hb := hB1.trans (hB.mono hs1)
  have hsz := hB.size
  have hkl1 := hkl'.out k
  by_cases hlt : k < m
  ·obtain ⟨j, hj⟩ : ∃ j : Nat, j = k + 1 := ⟨_, rfl⟩
   obtain ⟨_, _, e, s0, s1⟩ := HS'.out k (by omega)
   cases e
   obtain ⟨_, _, e, t0, t1⟩ := HS'.out j (by omega)
   cases e
   rw [hat'.out k (by omega)] at s0 s1
   rw [hat'.out j (by omega)] at t0 t1
   replace s0 := bkeep hB s0
   replace s1 := bkeep hB s1
   replace t0 := bkeep hB t0
   replace t1 := bkeep hB t1
   obtain ⟨p0, p1, p2, p3⟩ := hfc'.out wr hb j (by have := hnm'.out; omega)
   have hsame1 := hsame'.out k
   have hnew1 := hnew'.out k
   rw [← hj] at hsame1 hnew1
   rw [show (k : Int) + 1 = (j : Int) by omega]
   generalize SR k = U at *
   generalize SR j = T at *
   generalize nth4 f j = P2 at *
   obtain ⟨⟨x0, x1⟩, ⟨x2, x3⟩⟩ := P2
   obtain ⟨u0, u1⟩ := U
   obtain ⟨v0, v1⟩ := T
   simp only at s0 s1 t0 t1 p0 p1 p2 p3
   have g1 : IntKind.i64.wrap ((j : Int) - 1) = (k : Int) := by rw [IntKind.wrap_i64]; omega
   have g2 : (0 : Int) ≤ (k : Int) := by omega
   have g3 : (k : Int) < (M : Int) := by omega
   have g4 : (j : Int) < (M : Int) := by omega
   have g5 : (j : Int) < (n : Int) := by have := hnm'.out; omega
   have g3b : k < M := by omega
   have g4b : j < M := by omega
   have g5b : j < n := by have := hnm'.out; omega
   have hj2 : (j : Int) = (k : Int) + 1 := by omega
   have hgw : IntKind.i64.wrap ((j : Int) + 1) = (j : Int) + 1 := by have := hnm'.out; rw [IntKind.wrap_i64]; omega
   have hlen : (SM k).length ≤ 1099511627776 := by have := hnm'.out; omega
   by_cases he : u0 = v0 ∧ u1 = v1
   ·obtain ⟨rfl, rfl⟩ := he
    have e1 := hsame1 rfl
    rw [hj] at e1
    clear hsame1 hnew1
    have e1' := Lib.hid e1; have hg' := Lib.hid hg; have hB' := Lib.hid hB; have hj' := Lib.hid hj; have hj2' := Lib.hid hj2; clear e1 hg hB hj hj2
    go_wp2_with fail
    go_region
    go_wp2
    go_roundw
    case rel => exact ⟨k + 1, by omega, by have := hj2'.out; go_num, by rw [e1'.out]; exact hg'.out, hB'.out.drew⟩
    case measure => simp [intOf]; have := hj'.out; omega
   ·have e1 := hnew1 (fun h => he ⟨(Prod.mk.inj h).1, (Prod.mk.inj h).2⟩)
    rw [hj] at e1
    clear hsame1 hnew1
    have hgd := hg
    have e1' := Lib.hid e1; have hg' := Lib.hid hg; have hB' := Lib.hid hB; have hj' := Lib.hid hj; have hj2' := Lib.hid hj2; have hlen' := Lib.hid hlen; clear e1 hg hB hj hj2 hlen
    by_cases h0 : u0 = v0
    ·have h1 : ¬ u1 = v1 := fun h => he ⟨h0, h⟩
     subst h0
     clear he
     go_wp2_with fail
     go_region
     go_wp2_with (at_builtin; refine wpList_append_P rfl _ _ rfl w1.heap.size u4 (SM k) x0 x1 x2 x3 1 rfl rfl (w := wr.drew) hgd hlen'.out hsz ?_)
     intro v' w' hown hgrow
     have hB2 := GrowP.belowB (w := wr.drew) hgd hB'.out.drew (Nat.le_refl _) hsz hgrow
     clear hgrow hgd
     have hown' := Lib.hid hown; have hB2' := Lib.hid hB2; clear hown hB2
     go_wp2
     go_roundw
     case rel => exact ⟨k + 1, by omega, by have := hj2'.out; go_num, by rw [e1'.out]; exact hown'.out, hB2'.out⟩
     case measure => simp [intOf]; have := hj'.out; omega
    ·clear he
     go_wp2_with fail
     go_region
     go_wp2_with (at_builtin; refine wpList_append_P rfl _ _ rfl w1.heap.size u4 (SM k) x0 x1 x2 x3 1 rfl rfl (w := wr.drew) hgd hlen'.out hsz ?_)
     intro v' w' hown hgrow
     have hB2 := GrowP.belowB (w := wr.drew) hgd hB'.out.drew (Nat.le_refl _) hsz hgrow
     clear hgrow hgd
     have hown' := Lib.hid hown; have hB2' := Lib.hid hB2; clear hown hB2
     go_wp2
     go_roundw
     case rel => exact ⟨k + 1, by omega, by have := hj2'.out; go_num, by rw [e1'.out]; exact hown'.out, hB2'.out⟩
     case measure => simp [intOf]; have := hj'.out; omega
  ·obtain rfl : k = m := by omega
   obtain ⟨p0, p1, p2, p3⟩ := hfc'.out wr hb M (by have := hmb4'.out; omega)
   have g5 : (M : Int) < (n : Int) := by have := hmb4'.out; omega
   have g5b : M < n := by have := hmb4'.out; omega
   have g5c : (0 : Int) ≤ (M : Int) := by omega
   have hge : ¬ ((k : Int) + 1 < (M : Int)) := by have := hM'.out; omega
   have hlen : (SM k).length ≤ 1099511627776 := by omega
   generalize nth4 f M = P2 at *
   obtain ⟨⟨x0, x1⟩, ⟨x2, x3⟩⟩ := P2
   simp only at p0 p1 p2 p3
   have hB' := Lib.hid hB; have hlen' := Lib.hid hlen; clear hB hlen
   go_wp2_with (at_builtin; refine wpList_append_P rfl _ _ rfl w1.heap.size u4 (SM k) x0 x1 x2 x3 1 rfl rfl hg hlen'.out hsz ?_)
   intro v' w' hown hgrow
   have hB2 := hg.belowB hB'.out (Nat.le_refl _) hsz hgrow
   have hbe := hB1.trans (hB2.mono hs1)
   have ho := hown.own
   clear hgrow hg hown
   have ho' := Lib.hid ho; have hbe' := Lib.hid hbe; clear ho hbe
   go_wp2
   go_ret
   exact ⟨_, rfl, ho'.out.mono hs1 (Nat.le_refl _), hbe'.out⟩
set_option linter.unusedSimpArgs false in
set_option maxRecDepth 10000 in
set_option maxHeartbeats 4000000 in
theorem imSimpleL_any (v : Value) (f : List Quad) (w : World) (hv : QuadV w v f) (hf : LineP f) :
  Calls Tryz.prog 210 #[v] w (RetO OwnP (smL f) w) := by
 have hl := hf.len
 have cs : ∀ (k : Nat) w', k + 1 < f.length → Calls Tryz.prog 140 #[quadV (nth4 f k), quadV (nth4 f (k + 1))] w' (Ret (ratV (srF f k)) w') := fun k w' h => imSlope_any (nth4 f k) (nth4 f (k + 1)) w' (hf.coord k (by omega)).1 (hf.coord k (by omega)).2 (hf.coord (k + 1) h).1 (hf.coord (k + 1) h).2 (hf.rise k h)
 have hsame := fun k => smK_same (f := f) (k := k)
 have hnew := fun k => smK_new (f := f) (k := k)
 have hkl := smK_len f
 have h00 : smK f 0 = [nth4 f 0] := rfl
 have hV : smL f = smK f (f.length - 2) ++ [nth4 f (f.length - 1)] := rfl
 rw [hV]
 clear hV hf
 have hvb := fun w' (hB : Below w.heap.size w w') => (hv.below hB).form
 generalize srF f = SR at *
 generalize smK f = SM at *
 obtain ⟨ao, cap, rfl, _, _, H⟩ := hv.form
 obtain ⟨b, off, rfl, _⟩ := H 0 (by omega)
 obtain ⟨n, hn⟩ : ∃ n, f.length = n := ⟨_, rfl⟩
 have hfc : ∀ w', Below w.heap.size w w' → ∀ i, i < n → w'.cell? ⟨b, off + i * 4, none⟩ = some (.int .i64 (nth4 f i).1.1) ∧ w'.cell? ⟨b, off + i * 4 + 1, none⟩ = some (.int .i64 (nth4 f i).1.2) ∧ w'.cell? ⟨b, off + i * 4 + 2, none⟩ = some (.int .i64 (nth4 f i).2.1) ∧ w'.cell? ⟨b, off + i * 4 + 3, none⟩ = some (.int .i64 (nth4 f i).2.2) := fun w' hB i hi => by
  obtain ⟨ao, cap, e, _, _, H⟩ := hvb w' hB
  obtain ⟨rfl, _, rfl⟩ := Value.slice.inj e
  obtain ⟨_, _, e, c0, c1, c2, c3⟩ := H i (by rw [hn]; exact hi)
  cases e
  exact ⟨c0, c1, c2, c3⟩
 rw [hn] at hl cs ⊢
 clear hv H hvb
 obtain ⟨m, hm⟩ : ∃ m, n - 2 = m := ⟨_, rfl⟩
 have hn2 : n - 1 = m + 1 := by omega
 obtain ⟨M, hM⟩ : ∃ M, m + 1 = M := ⟨_, rfl⟩
 rw [hm, hn2, hM]
 have hmb : m ≤ 1000 ∧ m < M ∧ M = m + 1 ∧ n = M + 1 := by omega
 obtain ⟨hmb1, hmb2, hmb3, hmb4⟩ := hmb
 obtain ⟨L, hL⟩ : ∃ L : Nat → List Quad, ∀ k, (if k ≤ m then SM k else SM m ++ [nth4 f M]) = L k := ⟨_, fun _ => rfl⟩
 have hLk : ∀ k, k ≤ m → L k = SM k := fun k h => by rw [← hL, if_pos h]
 have hLM : L M = SM m ++ [nth4 f M] := by rw [← hL, if_neg (by omega)]
 have hL0 : L 0 = [nth4 f 0] := by rw [hLk 0 (Nat.zero_le _), h00]
 have hLl : ∀ k, k ≤ m → (L k).length ≤ 1099511627776 := fun k h => by rw [hLk k h]; have := hkl k; omega
 have hLs : ∀ k, k < m → SR k = SR (k + 1) → L (k + 1) = L k := fun k h e => by rw [hLk _ h, hLk k (by omega)]; exact hsame k e
 have hLn : ∀ k, k < m → ¬ SR k = SR (k + 1) → L (k + 1) = L k ++ [nth4 f (k + 1)] := fun k h e => by rw [hLk _ h, hLk k (by omega)]; exact hnew k e
 have hLe : L M = L m ++ [nth4 f M] := by rw [hLM, hLk m (Nat.le_refl _)]
 rw [← hLM]
 clear hL hLk hLM hsame hnew hkl h00
 obtain ⟨p0, p1, p2, p3⟩ := hfc w (Below.refl _ _) 0 (by omega)
 generalize hP : nth4 f 0 = P at *
 obtain ⟨⟨a0, a1⟩, ⟨a2, a3⟩⟩ := P
 simp only [Nat.zero_mul, Nat.add_zero] at p0 p1 p2 p3
 obtain ⟨w2, hw2⟩ : ∃ W, w.alloc (.cells #[.int .i64 a0, .int .i64 a1, .int .i64 a2, .int .i64 a3] 80) = W := ⟨_, rfl⟩
 have hB2 : Below w.heap.size w w2 := by rw [← hw2]; exact (Below.refl _ _).alloc (Nat.le_refl _) _
 have hg2 : GrowP w2 w.heap.size (.slice (some ⟨w.heap.size, 0, none⟩) 1 1) (L 0) := by
  rw [hL0, ← hw2]; exact GrowP.lit w ((a0, a1), (a2, a3))
 have g0 : (0 : Int) < (n : Int) := by omega
 have g0b : 0 < n := by omega
 have cs' := Lib.hid cs; have hL0' := Lib.hid hL0; have hLl' := Lib.hid hLl; have hLs' := Lib.hid hLs; have hLn' := Lib.hid hLn; have hLe' := Lib.hid hLe; have hfc' := Lib.hid hfc; have hn' := Lib.hid hn; have hm' := Lib.hid hm; have hn2' := Lib.hid hn2; have hM' := Lib.hid hM; have hmb3' := Lib.hid hmb3; have hmb4' := Lib.hid hmb4; have hw2' := Lib.hid hw2; have hg2' := Lib.hid hg2; have hP' := Lib.hid hP; clear cs hL0 hLl hLs hLn hLe hfc hn hm hn2 hM hmb3 hmb4 hw2 hg2 hP
 go_enter Tryz.func210, Tryz.ntmps210
 go_wp2
 rw [hw2'.out]
 clear p0 p1 p2 p3
 go_loopw [3, 4] (fun o i wr => ∃ k : Nat, k ≤ M ∧ i = .int .i64 ((k : Int) + 1) ∧ GrowP wr w.heap.size o (L k) ∧ Below w.heap.size w wr) (fun _ i _ => n - (intOf i).toNat)
 case atStart => exact ⟨0, Nat.zero_le _, rfl, hg2'.out, hB2⟩
 case round =>
  obtain ⟨k, hk, rfl, hg, hB⟩ := hrel
  clear hg2' hB2 hw2'
  have hsz := hB.size
  by_cases hlt : k < M
  ·obtain ⟨j, hj⟩ : ∃ j : Nat, j = k + 1 := ⟨_, rfl⟩
   have hj2 : (j : Int) = (k : Int) + 1 := by omega
   have hn4 := hmb4'.out
   have hlen := hLl'.out k (by have := hmb3'.out; omega)
   have hgw : IntKind.i64.wrap ((j : Int) + 1) = ((j + 1 : Nat) : Int) := by have := hmb3'.out; rw [IntKind.wrap_i64]; omega
   obtain ⟨l, hll⟩ : ∃ l : Nat, j + 1 = l := ⟨_, rfl⟩
   rw [hll] at hgw
   have g1 : IntKind.i64.wrap ((j : Int) - 1) = (k : Int) := by rw [IntKind.wrap_i64]; omega
   have g2 : (0 : Int) ≤ (k : Int) := by omega
   have g2b : (0 : Int) ≤ (j : Int) := by omega
   have g2c : (0 : Int) ≤ (l : Int) := by omega
   have g3 : (k : Int) < (n : Int) := by omega
   have g3b : k < n := by omega
   have g5 : (j : Int) < (n : Int) := by omega
   have g5b : j < n := by omega
   rw [show (k : Int) + 1 = (j : Int) by omega]
   have hd : Below wr.heap.size wr wr.drew := (Below.refl _ _).drew
   clear hn4
   by_cases hlast : k < m
   ·obtain ⟨q0, q1, q2, q3⟩ := hfc'.out wr hB k (by omega)
    obtain ⟨r0, r1, r2, r3⟩ := hfc'.out wr hB j (by omega)
    obtain ⟨t0, t1, t2, t3⟩ := hfc'.out wr hB l (by have := hmb3'.out; have := hmb4'.out; omega)
    have g6 : (l : Int) < (n : Int) := by have := hmb3'.out; have := hmb4'.out; omega
    have g6b : l < n := by omega
    have g7 : ¬ l = n := by omega
    have g7b : ¬ (l : Int) = (n : Int) := by omega
    have cs1 := fun w' => cs'.out k w' (by omega)
    have cs2 := fun w' => cs'.out j w' (by omega)
    have e1s := hLs'.out k hlast
    have e1n := hLn'.out k hlast
    rw [← hj] at cs1 e1s e1n
    rw [hll] at cs2
    generalize nth4 f k = P1 at *
    generalize nth4 f j = P2 at *
    generalize nth4 f l = P3 at *
    generalize SR k = U at *
    generalize SR j = T at *
    obtain ⟨⟨a0, a1⟩, ⟨a2, a3⟩⟩ := P1
    obtain ⟨⟨x0, x1⟩, ⟨x2, x3⟩⟩ := P2
    obtain ⟨⟨y0, y1⟩, ⟨y2, y3⟩⟩ := P3
    obtain ⟨u0, u1⟩ := U
    obtain ⟨v0, v1⟩ := T
    simp only at q0 q1 q2 q3 r0 r1 r2 r3 t0 t1 t2 t3
    have at' : ∀ w', Below wr.heap.size wr w' → (w'.cell? ⟨b, off + k * 4, none⟩ = some (.int .i64 a0) ∧ w'.cell? ⟨b, off + k * 4 + 1, none⟩ = some (.int .i64 a1) ∧ w'.cell? ⟨b, off + k * 4 + 2, none⟩ = some (.int .i64 a2) ∧ w'.cell? ⟨b, off + k * 4 + 3, none⟩ = some (.int .i64 a3)) ∧ (w'.cell? ⟨b, off + j * 4, none⟩ = some (.int .i64 x0) ∧ w'.cell? ⟨b, off + j * 4 + 1, none⟩ = some (.int .i64 x1) ∧ w'.cell? ⟨b, off + j * 4 + 2, none⟩ = some (.int .i64 x2) ∧ w'.cell? ⟨b, off + j * 4 + 3, none⟩ = some (.int .i64 x3)) ∧ w'.cell? ⟨b, off + l * 4, none⟩ = some (.int .i64 y0) ∧ w'.cell? ⟨b, off + l * 4 + 1, none⟩ = some (.int .i64 y1) ∧ w'.cell? ⟨b, off + l * 4 + 2, none⟩ = some (.int .i64 y2) ∧ w'.cell? ⟨b, off + l * 4 + 3, none⟩ = some (.int .i64 y3) :=
     fun w' h => ⟨⟨bkeep h q0, bkeep h q1, bkeep h q2, bkeep h q3⟩, ⟨bkeep h r0, bkeep h r1, bkeep h r2, bkeep h r3⟩, bkeep h t0, bkeep h t1, bkeep h t2, bkeep h t3⟩
    clear q0 q1 q2 q3 r0 r1 r2 r3 t0 t1 t2 t3
    by_cases he : u0 = v0 ∧ u1 = v1
    ·obtain ⟨rfl, rfl⟩ := he
     have he : True := trivial
     have e1 := e1s rfl
     rw [hj] at e1
     clear e1s e1n
     have e1' := Lib.hid e1; have hg' := Lib.hid hg; have hB' := Lib.hid hB; have hj' := Lib.hid hj; have hj2' := Lib.hid hj2; have cs1' := Lib.hid cs1; have cs2' := Lib.hid cs2; have at'' := Lib.hid at'; have hlen' := Lib.hid hlen; have he' := Lib.hid he; have hll' := Lib.hid hll; clear e1 hg hB hj hj2 cs1 cs2 at' hlen he hll
     go_wp2_with fail
     refine wp_region_held_drew (S := (fun w' => (w'.cell? ⟨b, off + k * 4, none⟩ = some (.int .i64 a0) ∧ w'.cell? ⟨b, off + k * 4 + 1, none⟩ = some (.int .i64 a1) ∧ w'.cell? ⟨b, off + k * 4 + 2, none⟩ = some (.int .i64 a2) ∧ w'.cell? ⟨b, off + k * 4 + 3, none⟩ = some (.int .i64 a3)) ∧ (w'.cell? ⟨b, off + j * 4, none⟩ = some (.int .i64 x0) ∧ w'.cell? ⟨b, off + j * 4 + 1, none⟩ = some (.int .i64 x1) ∧ w'.cell? ⟨b, off + j * 4 + 2, none⟩ = some (.int .i64 x2) ∧ w'.cell? ⟨b, off + j * 4 + 3, none⟩ = some (.int .i64 x3)) ∧ w'.cell? ⟨b, off + l * 4, none⟩ = some (.int .i64 y0) ∧ w'.cell? ⟨b, off + l * 4 + 1, none⟩ = some (.int .i64 y1) ∧ w'.cell? ⟨b, off + l * 4 + 2, none⟩ = some (.int .i64 y2) ∧ w'.cell? ⟨b, off + l * 4 + 3, none⟩ = some (.int .i64 y3))) (by kernel_rfl) (by (try dsimp only); exact at''.out _ ‹_›) (fun hHeld => ?_)
     refine ly_s 0 hHeld ?_
     refine ly_s 1 hHeld ?_
     refine ly_s 2 hHeld ?_
     refine ly_s 3 hHeld ?_
     refine ly_s 4 (v := .bool false) (hy := by intro wS hSw; (try dsimp only at hSw); go_simp; all_goals (first | (simp; done) | (with_reducible rfl))) hHeld ?_
     refine ly_s 5 hHeld ?_
     refine ly_s 6 hHeld ?_
     refine ly_s 7 hHeld ?_
     refine ly_s 8 hHeld ?_
     refine ly_s 9 hHeld ?_
     refine ly_s 10 hHeld ?_
     refine ly_s 11 hHeld ?_
     refine ly_s 12 hHeld ?_
     refine ly_s 13 hHeld ?_
     refine ly_s 14 hHeld ?_
     refine ly_s 16 hHeld ?_
     refine ly_s 17 hHeld ?_
     refine ly_s 18 hHeld ?_
     refine ly_s 19 hHeld ?_
     refine ly_s 20 hHeld ?_
     refine ly_s 21 hHeld ?_
     refine ly_s 22 hHeld ?_
     refine ly_s 23 hHeld ?_
     refine ly_s 24 hHeld ?_
     refine ly_a 15 (fun KK hKK => ?_)
     go_simp
     refine (cs1'.out _).mono ?_
     rintro e w5 ⟨rfl, hB5⟩
     have hd2 := hd.trans (hB5.mono hd.size)
     try dsimp only
     refine hKK.out _ _ (by (try dsimp only); exact at''.out _ ‹_›) (fun hHeld => ?_)
     clear hKK KK
     try simp only [Act.put, lyA, lyB, lyC]
     refine ly_a 25 (fun KK hKK => ?_)
     go_simp
     refine (cs2'.out _).mono ?_
     rintro e w6 ⟨rfl, hB6⟩
     have hd3 := hd2.trans (hB6.mono hd2.size)
     try dsimp only
     refine hKK.out _ _ (by (try dsimp only); exact at''.out _ ‹_›) (fun hHeld => ?_)
     clear hKK KK
     try simp only [Act.put, lyA, lyB, lyC]
     refine ly_s 26 (v := .bool false) (hy := by intro wS hSw; (try dsimp only at hSw); go_simp; all_goals (first | (simp [ratV, he'.out]; done) | (simp [ratV]; done) | (with_reducible rfl))) hHeld ?_
     refine ly_s 27 hHeld ?_
     refine wpAnyH_done (by kernel_rfl) ?_ _
     have hb5 := hB'.out.trans (hd3.mono hB'.out.size)
     have hg5 := hg'.out.below hd3
     have hs5 := hb5.size
     obtain ⟨_, ⟨p0, p1, p2, p3⟩, _⟩ := at''.out _ hd3
     clear hHeld hd hd2 hd3 hB5 hB6 hg' hB' at''
     have hb5' := Lib.hid hb5; clear hb5
     go_wp2
     go_roundw
     case rel => exact ⟨k + 1, by omega, by have := hj2'.out; have := hll'.out; go_num, by rw [e1'.out]; exact hg5, hb5'.out⟩
     case measure => simp [intOf]; have := hj'.out; have := hll'.out; omega
    ·have e1 := e1n (fun h => he ⟨(Prod.mk.inj h).1, (Prod.mk.inj h).2⟩)
     rw [hj] at e1
     clear e1s e1n
     have e1' := Lib.hid e1; have hg' := Lib.hid hg; have hB' := Lib.hid hB; have hj' := Lib.hid hj; have hj2' := Lib.hid hj2; have cs1' := Lib.hid cs1; have cs2' := Lib.hid cs2; have at'' := Lib.hid at'; have hlen' := Lib.hid hlen; have he' := Lib.hid he; have hll' := Lib.hid hll; clear e1 hg hB hj hj2 cs1 cs2 at' hlen he hll
     go_wp2_with fail
     refine wp_region_held_drew (S := (fun w' => (w'.cell? ⟨b, off + k * 4, none⟩ = some (.int .i64 a0) ∧ w'.cell? ⟨b, off + k * 4 + 1, none⟩ = some (.int .i64 a1) ∧ w'.cell? ⟨b, off + k * 4 + 2, none⟩ = some (.int .i64 a2) ∧ w'.cell? ⟨b, off + k * 4 + 3, none⟩ = some (.int .i64 a3)) ∧ (w'.cell? ⟨b, off + j * 4, none⟩ = some (.int .i64 x0) ∧ w'.cell? ⟨b, off + j * 4 + 1, none⟩ = some (.int .i64 x1) ∧ w'.cell? ⟨b, off + j * 4 + 2, none⟩ = some (.int .i64 x2) ∧ w'.cell? ⟨b, off + j * 4 + 3, none⟩ = some (.int .i64 x3)) ∧ w'.cell? ⟨b, off + l * 4, none⟩ = some (.int .i64 y0) ∧ w'.cell? ⟨b, off + l * 4 + 1, none⟩ = some (.int .i64 y1) ∧ w'.cell? ⟨b, off + l * 4 + 2, none⟩ = some (.int .i64 y2) ∧ w'.cell? ⟨b, off + l * 4 + 3, none⟩ = some (.int .i64 y3))) (by kernel_rfl) (by (try dsimp only); exact at''.out _ ‹_›) (fun hHeld => ?_)
     refine ly_s 0 hHeld ?_
     refine ly_s 1 hHeld ?_
     refine ly_s 2 hHeld ?_
     refine ly_s 3 hHeld ?_
     refine ly_s 4 (v := .bool false) (hy := by intro wS hSw; (try dsimp only at hSw); go_simp; all_goals (first | (simp; done) | (with_reducible rfl))) hHeld ?_
     refine ly_s 5 hHeld ?_
     refine ly_s 6 hHeld ?_
     refine ly_s 7 hHeld ?_
     refine ly_s 8 hHeld ?_
     refine ly_s 9 hHeld ?_
     refine ly_s 10 hHeld ?_
     refine ly_s 11 hHeld ?_
     refine ly_s 12 hHeld ?_
     refine ly_s 13 hHeld ?_
     refine ly_s 14 hHeld ?_
     refine ly_s 16 hHeld ?_
     refine ly_s 17 hHeld ?_
     refine ly_s 18 hHeld ?_
     refine ly_s 19 hHeld ?_
     refine ly_s 20 hHeld ?_
     refine ly_s 21 hHeld ?_
     refine ly_s 22 hHeld ?_
     refine ly_s 23 hHeld ?_
     refine ly_s 24 hHeld ?_
     refine ly_a 15 (fun KK hKK => ?_)
     go_simp
     refine (cs1'.out _).mono ?_
     rintro e w5 ⟨rfl, hB5⟩
     have hd2 := hd.trans (hB5.mono hd.size)
     try dsimp only
     refine hKK.out _ _ (by (try dsimp only); exact at''.out _ ‹_›) (fun hHeld => ?_)
     clear hKK KK
     try simp only [Act.put, lyA, lyB, lyC]
     refine ly_a 25 (fun KK hKK => ?_)
     go_simp
     refine (cs2'.out _).mono ?_
     rintro e w6 ⟨rfl, hB6⟩
     have hd3 := hd2.trans (hB6.mono hd2.size)
     try dsimp only
     refine hKK.out _ _ (by (try dsimp only); exact at''.out _ ‹_›) (fun hHeld => ?_)
     clear hKK KK
     try simp only [Act.put, lyA, lyB, lyC]
     refine ly_s 26 (v := .bool true) (hy := by intro wS hSw; (try dsimp only at hSw); go_simp; all_goals (first | (intro h1 h2; exact he'.out ⟨h1, h2⟩) | (simp [ratV, he'.out]; done) | (simp [ratV]; intro h1 h2; exact he'.out ⟨h1, h2⟩) | (with_reducible rfl))) hHeld ?_
     refine ly_s 27 hHeld ?_
     refine wpAnyH_done (by kernel_rfl) ?_ _
     have hb5 := hB'.out.trans (hd3.mono hB'.out.size)
     have hg5 := hg'.out.below hd3
     have hs5 := hb5.size
     obtain ⟨_, ⟨p0, p1, p2, p3⟩, _⟩ := at''.out _ hd3
     clear hHeld hd hd2 hd3 hB5 hB6 hg' hB' at''
     have hb5' := Lib.hid hb5; clear hb5
     go_wp2_with (at_builtin; refine wpList_append_P rfl _ _ rfl w.heap.size u3 (L k) x0 x1 x2 x3 1 rfl rfl hg5 hlen'.out hs5 ?_)
     intro v' w' hown hgrow
     have hB2 := hg5.belowB hb5'.out (Nat.le_refl _) hs5 hgrow
     clear hgrow hg5
     have hown' := Lib.hid hown; have hB2' := Lib.hid hB2; clear hown hB2
     go_wp2
     go_roundw
     case rel => exact ⟨k + 1, by omega, by have := hj2'.out; have := hll'.out; go_num, by rw [e1'.out]; exact hown'.out, hB2'.out⟩
     case measure => simp [intOf]; have := hj'.out; have := hll'.out; omega
   ·have hkm : k = m := by have := hmb3'.out; omega
    have hjM : j = M := by rw [hj, hkm]; exact hM'.out
    have hln : l = n := by have := hmb4'.out; omega
    obtain ⟨r0, r1, r2, r3⟩ := hfc'.out wr hB j (by omega)
    have e1 : L (k + 1) = L k ++ [nth4 f j] := by rw [hjM, hkm, hM'.out]; exact hLe'.out
    generalize nth4 f j = P2 at *
    obtain ⟨⟨x0, x1⟩, ⟨x2, x3⟩⟩ := P2
    simp only at r0 r1 r2 r3
    have at' : ∀ w', Below wr.heap.size wr w' → w'.cell? ⟨b, off + j * 4, none⟩ = some (.int .i64 x0) ∧ w'.cell? ⟨b, off + j * 4 + 1, none⟩ = some (.int .i64 x1) ∧ w'.cell? ⟨b, off + j * 4 + 2, none⟩ = some (.int .i64 x2) ∧ w'.cell? ⟨b, off + j * 4 + 3, none⟩ = some (.int .i64 x3) := fun w' h => ⟨bkeep h r0, bkeep h r1, bkeep h r2, bkeep h r3⟩
    clear r0 r1 r2 r3
    subst hln
    have e1' := Lib.hid e1; have hg' := Lib.hid hg; have hB' := Lib.hid hB; have hj' := Lib.hid hj; have hj2' := Lib.hid hj2; have at'' := Lib.hid at'; have hlen' := Lib.hid hlen; have hkm' := Lib.hid hkm; have hjM' := Lib.hid hjM; have hll' := Lib.hid hll; clear e1 hg hB hj hj2 at' hlen hkm hjM hll
    go_wp2_with fail
    refine wp_region_held_drew (S := (fun w' => w'.cell? ⟨b, off + j * 4, none⟩ = some (.int .i64 x0) ∧ w'.cell? ⟨b, off + j * 4 + 1, none⟩ = some (.int .i64 x1) ∧ w'.cell? ⟨b, off + j * 4 + 2, none⟩ = some (.int .i64 x2) ∧ w'.cell? ⟨b, off + j * 4 + 3, none⟩ = some (.int .i64 x3))) (by kernel_rfl) (by (try dsimp only); (first | exact at''.out _ hd)) (fun hHeld => ?_)
    refine ly_s 0 hHeld ?_
    refine ly_s 1 hHeld ?_
    refine ly_s 2 hHeld ?_
    refine ly_s 3 hHeld ?_
    refine ly_s 4 (v := .bool true) (hy := by intro wS hSw; (try dsimp only at hSw); go_simp; all_goals (first | (simp; done) | (with_reducible rfl))) hHeld ?_
    refine ly_s 5 hHeld ?_
    refine ly_f 6 hHeld ?_
    refine ly_f 7 hHeld ?_
    refine ly_f 8 hHeld ?_
    refine ly_f 9 hHeld ?_
    refine ly_f 10 hHeld ?_
    refine ly_f 11 hHeld ?_
    refine ly_f 12 hHeld ?_
    refine ly_f 13 hHeld ?_
    refine ly_f 14 hHeld ?_
    refine ly_f 15 hHeld ?_
    refine ly_f 16 hHeld ?_
    refine ly_f 17 hHeld ?_
    refine ly_f 18 hHeld ?_
    refine ly_f 19 hHeld ?_
    refine ly_f 20 hHeld ?_
    refine ly_f 21 hHeld ?_
    refine ly_f 22 hHeld ?_
    refine ly_f 23 hHeld ?_
    refine ly_f 24 hHeld ?_
    refine ly_f 25 hHeld ?_
    refine ly_f 26 hHeld ?_
    refine ly_s 27 hHeld ?_
    refine wpAnyH_done (by kernel_rfl) ?_ _
    have hb5 := hB'.out.trans (hd.mono hB'.out.size)
    have hg5 := hg'.out.below hd
    have hs5 := hb5.size
    obtain ⟨p0, p1, p2, p3⟩ := at''.out _ hd
    clear hHeld hd hg' hB' at''
    have hb5' := Lib.hid hb5; clear hb5
    go_wp2_with (at_builtin; refine wpList_append_P rfl _ _ rfl w.heap.size u3 (L k) x0 x1 x2 x3 1 rfl rfl hg5 hlen'.out hs5 ?_)
    intro v' w' hown hgrow
    have hB2 := hg5.belowB hb5'.out (Nat.le_refl _) hs5 hgrow
    clear hgrow hg5
    have hown' := Lib.hid hown; have hB2' := Lib.hid hB2; clear hown hB2
    go_wp2
    go_roundw
    case rel => exact ⟨k + 1, by omega, by have := hj2'.out; have := hll'.out; go_num, by rw [e1'.out]; exact hown'.out, hB2'.out⟩
    case measure => simp [intOf]; have := hj'.out; have := hll'.out; omega
  ·obtain rfl : k = M := by omega
   have ho := hg.own
   have hge : ¬ ((k : Int) + 1 < (n : Int)) := by have := hmb4'.out; omega
   clear hg
   have hB' := Lib.hid hB; have ho' := Lib.hid ho; clear hB ho
   go_wp2
   go_ret
   exact ⟨_, rfl, ho'.out, hB'.out⟩
theorem imSimple_any (v : Value) (f : List Quad) (w : World) (hv : QuadV w v f) (hf : MapP f) :
  Calls Tryz.prog 210 #[v] w (RetO OwnP (smL f) w) := imSimpleL_any v f w hv hf.line
end Go.Proofs.YtfhhofecfllbfaaGreat

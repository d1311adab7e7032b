/- Several texts in one: CoSimple CompLaw CoIf Made CompS. No conditions but those that each theorem states. -/
import Derived.Test.YtfhhofecfllbfaaGreatPkR
import Derived.Test.YtfhhofecfllbfaaGreatPkM
import Derived.Test.YtfhhofecfllbfaaGreatPkI
import Derived.Test.YtfhhofecfllbfaaGreatPkL
import Derived.Test.YtfhhofecfllbfaaGreatBefS
import Derived.Test.YtfhhofecfllbfaaGreatPkG
import Derived.Test.YtfhhofecfllbfaaGreatBoxV
namespace Go.Proofs.YtfhhofecfllbfaaGreat
open Go.RowKit
set_option maxRecDepth 100000
set_option linter.unusedSimpArgs false in
set_option maxRecDepth 10000 in
set_option maxHeartbeats 4000000 in
theorem coSimpleL_any (v : Value) (f : List Quad) (w : World) (hv : QuadV w v f) (hf : LineP f) :
  Calls Tryz.prog 199 #[v] w (RetO OwnP (smL f) w) := by
 have hl := hf.len
 have cs : ∀ (k : Nat) w', k + 1 < f.length → Calls Tryz.prog 140 #[quadV (nth4 f k), quadV (nth4 f (k + 1))] w' (Ret (ratV (srF f k)) w') := fun k w' h => imSlope_any (nth4 f k) (nth4 f (k + 1)) w' (hf.coord k (by omega)).1 (hf.coord k (by omega)).2 (hf.coord (k + 1) h).1 (hf.coord (k + 1) h).2 (hf.rise k h)
 have hsame := fun k => smK_same (f := f) (k := k)
 have hnew := fun k => smK_new (f := f) (k := k)
 have hkl := smK_len f
 have h00 : smK f 0 = [nth4 f 0] := rfl
 have hV : smL f = smK f (f.length - 2) ++ [nth4 f (f.length - 1)] := rfl
 rw [hV]
 clear hV hf
 have hvb := fun w' (hB : Below w.heap.size w w') => (hv.below hB).form
 generalize srF f = SR at *
 generalize smK f = SM at *
 obtain ⟨ao, cap, rfl, _, _, H⟩ := hv.form
 obtain ⟨b, off, rfl, _⟩ := H 0 (by omega)
 obtain ⟨n, hn⟩ : ∃ n, f.length = n := ⟨_, rfl⟩
 have hfc : ∀ w', Below w.heap.size w w' → ∀ i, i < n → w'.cell? ⟨b, off + i * 4, none⟩ = some (.int .i64 (nth4 f i).1.1) ∧ w'.cell? ⟨b, off + i * 4 + 1, none⟩ = some (.int .i64 (nth4 f i).1.2) ∧ w'.cell? ⟨b, off + i * 4 + 2, none⟩ = some (.int .i64 (nth4 f i).2.1) ∧ w'.cell? ⟨b, off + i * 4 + 3, none⟩ = some (.int .i64 (nth4 f i).2.2) := fun w' hB i hi => by
  obtain ⟨ao, cap, e, _, _, H⟩ := hvb w' hB
  obtain ⟨rfl, _, rfl⟩ := Value.slice.inj e
  obtain ⟨_, _, e, c0, c1, c2, c3⟩ := H i (by rw [hn]; exact hi)
  cases e
  exact ⟨c0, c1, c2, c3⟩
 rw [hn] at hl cs ⊢
 clear hv H hvb
 obtain ⟨m, hm⟩ : ∃ m, n - 2 = m := ⟨_, rfl⟩
 have hn2 : n - 1 = m + 1 := by omega
 obtain ⟨M, hM⟩ : ∃ M, m + 1 = M := ⟨_, rfl⟩
 rw [hm, hn2, hM]
 have hmb : m ≤ 1000 ∧ m < M ∧ M = m + 1 ∧ n = M + 1 := by omega
 obtain ⟨hmb1, hmb2, hmb3, hmb4⟩ := hmb
 obtain ⟨L, hL⟩ : ∃ L : Nat → List Quad, ∀ k, (if k ≤ m then SM k else SM m ++ [nth4 f M]) = L k := ⟨_, fun _ => rfl⟩
 have hLk : ∀ k, k ≤ m → L k = SM k := fun k h => by rw [← hL, if_pos h]
 have hLM : L M = SM m ++ [nth4 f M] := by rw [← hL, if_neg (by omega)]
 have hL0 : L 0 = [nth4 f 0] := by rw [hLk 0 (Nat.zero_le _), h00]
 have hLl : ∀ k, k ≤ m → (L k).length ≤ 1099511627776 := fun k h => by rw [hLk k h]; have := hkl k; omega
 have hLs : ∀ k, k < m → SR k = SR (k + 1) → L (k + 1) = L k := fun k h e => by rw [hLk _ h, hLk k (by omega)]; exact hsame k e
 have hLn : ∀ k, k < m → ¬ SR k = SR (k + 1) → L (k + 1) = L k ++ [nth4 f (k + 1)] := fun k h e => by rw [hLk _ h, hLk k (by omega)]; exact hnew k e
 have hLe : L M = L m ++ [nth4 f M] := by rw [hLM, hLk m (Nat.le_refl _)]
 rw [← hLM]
 clear hL hLk hLM hsame hnew hkl h00
 obtain ⟨p0, p1, p2, p3⟩ := hfc w (Below.refl _ _) 0 (by omega)
 generalize hP : nth4 f 0 = P at *
 obtain ⟨⟨a0, a1⟩, ⟨a2, a3⟩⟩ := P
 simp only [Nat.zero_mul, Nat.add_zero] at p0 p1 p2 p3
 obtain ⟨w2, hw2⟩ : ∃ W, w.alloc (.cells #[.int .i64 a0, .int .i64 a1, .int .i64 a2, .int .i64 a3] 80) = W := ⟨_, rfl⟩
 have hB2 : Below w.heap.size w w2 := by rw [← hw2]; exact (Below.refl _ _).alloc (Nat.le_refl _) _
 have hg2 : GrowP w2 w.heap.size (.slice (some ⟨w.heap.size, 0, none⟩) 1 1) (L 0) := by
  rw [hL0, ← hw2]; exact GrowP.lit w ((a0, a1), (a2, a3))
 have g0 : (0 : Int) < (n : Int) := by omega
 have g0b : 0 < n := by omega
 have cs' := Lib.hid cs; have hL0' := Lib.hid hL0; have hLl' := Lib.hid hLl; have hLs' := Lib.hid hLs; have hLn' := Lib.hid hLn; have hLe' := Lib.hid hLe; have hfc' := Lib.hid hfc; have hn' := Lib.hid hn; have hm' := Lib.hid hm; have hn2' := Lib.hid hn2; have hM' := Lib.hid hM; have hmb3' := Lib.hid hmb3; have hmb4' := Lib.hid hmb4; have hw2' := Lib.hid hw2; have hg2' := Lib.hid hg2; have hP' := Lib.hid hP; clear cs hL0 hLl hLs hLn hLe hfc hn hm hn2 hM hmb3 hmb4 hw2 hg2 hP
 go_enter Tryz.func199, Tryz.ntmps199
 go_wp2
 rw [hw2'.out]
 clear p0 p1 p2 p3
 go_loopw [3, 4] (fun o i wr => ∃ k : Nat, k ≤ M ∧ i = .int .i64 ((k : Int) + 1) ∧ GrowP wr w.heap.size o (L k) ∧ Below w.heap.size w wr) (fun _ i _ => n - (intOf i).toNat)
 case atStart => exact ⟨0, Nat.zero_le _, rfl, hg2'.out, hB2⟩
 case round =>
  obtain ⟨k, hk, rfl, hg, hB⟩ := hrel
  clear hg2' hB2 hw2'
  have hsz := hB.size
  by_cases hlt : k < M
  ·obtain ⟨j, hj⟩ : ∃ j : Nat, j = k + 1 := ⟨_, rfl⟩
   have hj2 : (j : Int) = (k : Int) + 1 := by omega
   have hn4 := hmb4'.out
   have hlen := hLl'.out k (by have := hmb3'.out; omega)
   have hgw : IntKind.i64.wrap ((j : Int) + 1) = ((j + 1 : Nat) : Int) := by have := hmb3'.out; rw [IntKind.wrap_i64]; omega
   obtain ⟨l, hll⟩ : ∃ l : Nat, j + 1 = l := ⟨_, rfl⟩
   rw [hll] at hgw
   have g1 : IntKind.i64.wrap ((j : Int) - 1) = (k : Int) := by rw [IntKind.wrap_i64]; omega
   have g2 : (0 : Int) ≤ (k : Int) := by omega
   have g2b : (0 : Int) ≤ (j : Int) := by omega
   have g2c : (0 : Int) ≤ (l : Int) := by omega
   have g3 : (k : Int) < (n : Int) := by omega
   have g3b : k < n := by omega
   have g5 : (j : Int) < (n : Int) := by omega
   have g5b : j < n := by omega
   rw [show (k : Int) + 1 = (j : Int) by omega]
   have hd : Below wr.heap.size wr wr.drew := (Below.refl _ _).drew
   clear hn4
   by_cases hlast : k < m
   ·obtain ⟨q0, q1, q2, q3⟩ := hfc'.out wr hB k (by omega)
    obtain ⟨r0, r1, r2, r3⟩ := hfc'.out wr hB j (by omega)
    obtain ⟨t0, t1, t2, t3⟩ := hfc'.out wr hB l (by have := hmb3'.out; have := hmb4'.out; omega)
    have g6 : (l : Int) < (n : Int) := by have := hmb3'.out; have := hmb4'.out; omega
    have g6b : l < n := by omega
    have g7 : ¬ l = n := by omega
    have g7b : ¬ (l : Int) = (n : Int) := by omega
    have cs1 := fun w' => cs'.out k w' (by omega)
    have cs2 := fun w' => cs'.out j w' (by omega)
    have e1s := hLs'.out k hlast
    have e1n := hLn'.out k hlast
    rw [← hj] at cs1 e1s e1n
    rw [hll] at cs2
    generalize nth4 f k = P1 at *
    generalize nth4 f j = P2 at *
    generalize nth4 f l = P3 at *
    generalize SR k = U at *
    generalize SR j = T at *
    obtain ⟨⟨a0, a1⟩, ⟨a2, a3⟩⟩ := P1
    obtain ⟨⟨x0, x1⟩, ⟨x2, x3⟩⟩ := P2
    obtain ⟨⟨y0, y1⟩, ⟨y2, y3⟩⟩ := P3
    obtain ⟨u0, u1⟩ := U
    obtain ⟨v0, v1⟩ := T
    simp only at q0 q1 q2 q3 r0 r1 r2 r3 t0 t1 t2 t3
    have at' : ∀ w', Below wr.heap.size wr w' → (w'.cell? ⟨b, off + k * 4, none⟩ = some (.int .i64 a0) ∧ w'.cell? ⟨b, off + k * 4 + 1, none⟩ = some (.int .i64 a1) ∧ w'.cell? ⟨b, off + k * 4 + 2, none⟩ = some (.int .i64 a2) ∧ w'.cell? ⟨b, off + k * 4 + 3, none⟩ = some (.int .i64 a3)) ∧ (w'.cell? ⟨b, off + j * 4, none⟩ = some (.int .i64 x0) ∧ w'.cell? ⟨b, off + j * 4 + 1, none⟩ = some (.int .i64 x1) ∧ w'.cell? ⟨b, off + j * 4 + 2, none⟩ = some (.int .i64 x2) ∧ w'.cell? ⟨b, off + j * 4 + 3, none⟩ = some (.int .i64 x3)) ∧ w'.cell? ⟨b, off + l * 4, none⟩ = some (.int .i64 y0) ∧ w'.cell? ⟨b, off + l * 4 + 1, none⟩ = some (.int .i64 y1) ∧ w'.cell? ⟨b, off + l * 4 + 2, none⟩ = some (.int .i64 y2) ∧ w'.cell? ⟨b, off + l * 4 + 3, none⟩ = some (.int .i64 y3) :=
     fun w' h => ⟨⟨bkeep h q0, bkeep h q1, bkeep h q2, bkeep h q3⟩, ⟨bkeep h r0, bkeep h r1, bkeep h r2, bkeep h r3⟩, bkeep h t0, bkeep h t1, bkeep h t2, bkeep h t3⟩
    clear q0 q1 q2 q3 r0 r1 r2 r3 t0 t1 t2 t3
    by_cases he : u0 = v0 ∧ u1 = v1
    ·obtain ⟨rfl, rfl⟩ := he
     have he : True := trivial
     have e1 := e1s rfl
     rw [hj] at e1
     clear e1s e1n
     have e1' := Lib.hid e1; have hg' := Lib.hid hg; have hB' := Lib.hid hB; have hj' := Lib.hid hj; have hj2' := Lib.hid hj2; have cs1' := Lib.hid cs1; have cs2' := Lib.hid cs2; have at'' := Lib.hid at'; have hlen' := Lib.hid hlen; have he' := Lib.hid he; have hll' := Lib.hid hll; clear e1 hg hB hj hj2 cs1 cs2 at' hlen he hll
     go_wp2_with fail
     refine wp_region_held_drew (S := (fun w' => (w'.cell? ⟨b, off + k * 4, none⟩ = some (.int .i64 a0) ∧ w'.cell? ⟨b, off + k * 4 + 1, none⟩ = some (.int .i64 a1) ∧ w'.cell? ⟨b, off + k * 4 + 2, none⟩ = some (.int .i64 a2) ∧ w'.cell? ⟨b, off + k * 4 + 3, none⟩ = some (.int .i64 a3)) ∧ (w'.cell? ⟨b, off + j * 4, none⟩ = some (.int .i64 x0) ∧ w'.cell? ⟨b, off + j * 4 + 1, none⟩ = some (.int .i64 x1) ∧ w'.cell? ⟨b, off + j * 4 + 2, none⟩ = some (.int .i64 x2) ∧ w'.cell? ⟨b, off + j * 4 + 3, none⟩ = some (.int .i64 x3)) ∧ w'.cell? ⟨b, off + l * 4, none⟩ = some (.int .i64 y0) ∧ w'.cell? ⟨b, off + l * 4 + 1, none⟩ = some (.int .i64 y1) ∧ w'.cell? ⟨b, off + l * 4 + 2, none⟩ = some (.int .i64 y2) ∧ w'.cell? ⟨b, off + l * 4 + 3, none⟩ = some (.int .i64 y3))) (by kernel_rfl) (by (try dsimp only); exact at''.out _ ‹_›) (fun hHeld => ?_)
     refine ly_s 0 hHeld ?_
     refine ly_s 1 hHeld ?_
     refine ly_s 2 hHeld ?_
     refine ly_s 3 hHeld ?_
     refine ly_s 4 (v := .bool false) (hy := by intro wS hSw; (try dsimp only at hSw); go_simp; all_goals (first | (simp; done) | (with_reducible rfl))) hHeld ?_
     refine ly_s 5 hHeld ?_
     refine ly_s 6 hHeld ?_
     refine ly_s 7 hHeld ?_
     refine ly_s 8 hHeld ?_
     refine ly_s 9 hHeld ?_
     refine ly_s 10 hHeld ?_
     refine ly_s 11 hHeld ?_
     refine ly_s 12 hHeld ?_
     refine ly_s 13 hHeld ?_
     refine ly_s 14 hHeld ?_
     refine ly_s 16 hHeld ?_
     refine ly_s 17 hHeld ?_
     refine ly_s 18 hHeld ?_
     refine ly_s 19 hHeld ?_
     refine ly_s 20 hHeld ?_
     refine ly_s 21 hHeld ?_
     refine ly_s 22 hHeld ?_
     refine ly_s 23 hHeld ?_
     refine ly_s 24 hHeld ?_
     refine ly_a 15 (fun KK hKK => ?_)
     go_simp
     refine (cs1'.out _).mono ?_
     rintro e w5 ⟨rfl, hB5⟩
     have hd2 := hd.trans (hB5.mono hd.size)
     try dsimp only
     refine hKK.out _ _ (by (try dsimp only); exact at''.out _ ‹_›) (fun hHeld => ?_)
     clear hKK KK
     try simp only [Act.put, lyA, lyB, lyC]
     refine ly_a 25 (fun KK hKK => ?_)
     go_simp
     refine (cs2'.out _).mono ?_
     rintro e w6 ⟨rfl, hB6⟩
     have hd3 := hd2.trans (hB6.mono hd2.size)
     try dsimp only
     refine hKK.out _ _ (by (try dsimp only); exact at''.out _ ‹_›) (fun hHeld => ?_)
     clear hKK KK
     try simp only [Act.put, lyA, lyB, lyC]
     refine ly_s 26 (v := .bool false) (hy := by intro wS hSw; (try dsimp only at hSw); go_simp; all_goals (first | (simp [ratV, he'.out]; done) | (simp [ratV]; done) | (with_reducible rfl))) hHeld ?_
     refine ly_s 27 hHeld ?_
     refine wpAnyH_done (by kernel_rfl) ?_ _
     have hb5 := hB'.out.trans (hd3.mono hB'.out.size)
     have hg5 := hg'.out.below hd3
     have hs5 := hb5.size
     obtain ⟨_, ⟨p0, p1, p2, p3⟩, _⟩ := at''.out _ hd3
     clear hHeld hd hd2 hd3 hB5 hB6 hg' hB' at''
     have hb5' := Lib.hid hb5; clear hb5
     go_wp2
     go_roundw
     case rel => exact ⟨k + 1, by omega, by have := hj2'.out; have := hll'.out; go_num, by rw [e1'.out]; exact hg5, hb5'.out⟩
     case measure => simp [intOf]; have := hj'.out; have := hll'.out; omega
    ·have e1 := e1n (fun h => he ⟨(Prod.mk.inj h).1, (Prod.mk.inj h).2⟩)
     rw [hj] at e1
     clear e1s e1n
     have e1' := Lib.hid e1; have hg' := Lib.hid hg; have hB' := Lib.hid hB; have hj' := Lib.hid hj; have hj2' := Lib.hid hj2; have cs1' := Lib.hid cs1; have cs2' := Lib.hid cs2; have at'' := Lib.hid at'; have hlen' := Lib.hid hlen; have he' := Lib.hid he; have hll' := Lib.hid hll; clear e1 hg hB hj hj2 cs1 cs2 at' hlen he hll
     go_wp2_with fail
     refine wp_region_held_drew (S := (fun w' => (w'.cell? ⟨b, off + k * 4, none⟩ = some (.int .i64 a0) ∧ w'.cell? ⟨b, off + k * 4 + 1, none⟩ = some (.int .i64 a1) ∧ w'.cell? ⟨b, off + k * 4 + 2, none⟩ = some (.int .i64 a2) ∧ w'.cell? ⟨b, off + k * 4 + 3, none⟩ = some (.int .i64 a3)) ∧ (w'.cell? ⟨b, off + j * 4, none⟩ = some (.int .i64 x0) ∧ w'.cell? ⟨b, off + j * 4 + 1, none⟩ = some (.int .i64 x1) ∧ w'.cell? ⟨b, off + j * 4 + 2, none⟩ = some (.int .i64 x2) ∧ w'.cell? ⟨b, off + j * 4 + 3, none⟩ = some (.int .i64 x3)) ∧ w'.cell? ⟨b, off + l * 4, none⟩ = some (.int .i64 y0) ∧ w'.cell? ⟨b, off + l * 4 + 1, none⟩ = some (.int .i64 y1) ∧ w'.cell? ⟨b, off + l * 4 + 2, none⟩ = some (.int .i64 y2) ∧ w'.cell? ⟨b, off + l * 4 + 3, none⟩ = some (.int .i64 y3))) (by kernel_rfl) (by (try dsimp only); exact at''.out _ ‹_›) (fun hHeld => ?_)
     refine ly_s 0 hHeld ?_
     refine ly_s 1 hHeld ?_
     refine ly_s 2 hHeld ?_
     refine ly_s 3 hHeld ?_
     refine ly_s 4 (v := .bool false) (hy := by intro wS hSw; (try dsimp only at hSw); go_simp; all_goals (first | (simp; done) | (with_reducible rfl))) hHeld ?_
     refine ly_s 5 hHeld ?_
     refine ly_s 6 hHeld ?_
     refine ly_s 7 hHeld ?_
     refine ly_s 8 hHeld ?_
     refine ly_s 9 hHeld ?_
     refine ly_s 10 hHeld ?_
     refine ly_s 11 hHeld ?_
     refine ly_s 12 hHeld ?_
     refine ly_s 13 hHeld ?_
     refine ly_s 14 hHeld ?_
     refine ly_s 16 hHeld ?_
     refine ly_s 17 hHeld ?_
     refine ly_s 18 hHeld ?_
     refine ly_s 19 hHeld ?_
     refine ly_s 20 hHeld ?_
     refine ly_s 21 hHeld ?_
     refine ly_s 22 hHeld ?_
     refine ly_s 23 hHeld ?_
     refine ly_s 24 hHeld ?_
     refine ly_a 15 (fun KK hKK => ?_)
     go_simp
     refine (cs1'.out _).mono ?_
     rintro e w5 ⟨rfl, hB5⟩
     have hd2 := hd.trans (hB5.mono hd.size)
     try dsimp only
     refine hKK.out _ _ (by (try dsimp only); exact at''.out _ ‹_›) (fun hHeld => ?_)
     clear hKK KK
     try simp only [Act.put, lyA, lyB, lyC]
     refine ly_a 25 (fun KK hKK => ?_)
     go_simp
     refine (cs2'.out _).mono ?_
     rintro e w6 ⟨rfl, hB6⟩
     have hd3 := hd2.trans (hB6.mono hd2.size)
     try dsimp only
     refine hKK.out _ _ (by (try dsimp only); exact at''.out _ ‹_›) (fun hHeld => ?_)
     clear hKK KK
     try simp only [Act.put, lyA, lyB, lyC]
     refine ly_s 26 (v := .bool true) (hy := by intro wS hSw; (try dsimp only at hSw); go_simp; all_goals (first | (intro h1 h2; exact he'.out ⟨h1, h2⟩) | (simp [ratV, he'.out]; done) | (simp [ratV]; intro h1 h2; exact he'.out ⟨h1, h2⟩) | (with_reducible rfl))) hHeld ?_
     refine ly_s 27 hHeld ?_
     refine wpAnyH_done (by kernel_rfl) ?_ _
     have hb5 := hB'.out.trans (hd3.mono hB'.out.size)
     have hg5 := hg'.out.below hd3
     have hs5 := hb5.size
     obtain ⟨_, ⟨p0, p1, p2, p3⟩, _⟩ := at''.out _ hd3
     clear hHeld hd hd2 hd3 hB5 hB6 hg' hB' at''
     have hb5' := Lib.hid hb5; clear hb5
     go_wp2_with (at_builtin; refine wpList_append_P rfl _ _ rfl w.heap.size u3 (L k) x0 x1 x2 x3 1 rfl rfl hg5 hlen'.out hs5 ?_)
     intro v' w' hown hgrow
     have hB2 := hg5.belowB hb5'.out (Nat.le_refl _) hs5 hgrow
     clear hgrow hg5
     have hown' := Lib.hid hown; have hB2' := Lib.hid hB2; clear hown hB2
     go_wp2
     go_roundw
     case rel => exact ⟨k + 1, by omega, by have := hj2'.out; have := hll'.out; go_num, by rw [e1'.out]; exact hown'.out, hB2'.out⟩
     case measure => simp [intOf]; have := hj'.out; have := hll'.out; omega
   ·have hkm : k = m := by have := hmb3'.out; omega
    have hjM : j = M := by rw [hj, hkm]; exact hM'.out
    have hln : l = n := by have := hmb4'.out; omega
    obtain ⟨r0, r1, r2, r3⟩ := hfc'.out wr hB j (by omega)
    have e1 : L (k + 1) = L k ++ [nth4 f j] := by rw [hjM, hkm, hM'.out]; exact hLe'.out
    generalize nth4 f j = P2 at *
    obtain ⟨⟨x0, x1⟩, ⟨x2, x3⟩⟩ := P2
    simp only at r0 r1 r2 r3
    have at' : ∀ w', Below wr.heap.size wr w' → w'.cell? ⟨b, off + j * 4, none⟩ = some (.int .i64 x0) ∧ w'.cell? ⟨b, off + j * 4 + 1, none⟩ = some (.int .i64 x1) ∧ w'.cell? ⟨b, off + j * 4 + 2, none⟩ = some (.int .i64 x2) ∧ w'.cell? ⟨b, off + j * 4 + 3, none⟩ = some (.int .i64 x3) := fun w' h => ⟨bkeep h r0, bkeep h r1, bkeep h r2, bkeep h r3⟩
    clear r0 r1 r2 r3
    subst hln
    have e1' := Lib.hid e1; have hg' := Lib.hid hg; have hB' := Lib.hid hB; have hj' := Lib.hid hj; have hj2' := Lib.hid hj2; have at'' := Lib.hid at'; have hlen' := Lib.hid hlen; have hkm' := Lib.hid hkm; have hjM' := Lib.hid hjM; have hll' := Lib.hid hll; clear e1 hg hB hj hj2 at' hlen hkm hjM hll
    go_wp2_with fail
    refine wp_region_held_drew (S := (fun w' => w'.cell? ⟨b, off + j * 4, none⟩ = some (.int .i64 x0) ∧ w'.cell? ⟨b, off + j * 4 + 1, none⟩ = some (.int .i64 x1) ∧ w'.cell? ⟨b, off + j * 4 + 2, none⟩ = some (.int .i64 x2) ∧ w'.cell? ⟨b, off + j * 4 + 3, none⟩ = some (.int .i64 x3))) (by kernel_rfl) (by (try dsimp only); (first | exact at''.out _ hd)) (fun hHeld => ?_)
    refine ly_s 0 hHeld ?_
    refine ly_s 1 hHeld ?_
    refine ly_s 2 hHeld ?_
    refine ly_s 3 hHeld ?_
    refine ly_s 4 (v := .bool true) (hy := by intro wS hSw; (try dsimp only at hSw); go_simp; all_goals (first | (simp; done) | (with_reducible rfl))) hHeld ?_
    refine ly_s 5 hHeld ?_
    refine ly_f 6 hHeld ?_
    refine ly_f 7 hHeld ?_
    refine ly_f 8 hHeld ?_
    refine ly_f 9 hHeld ?_
    refine ly_f 10 hHeld ?_
    refine ly_f 11 hHeld ?_
    refine ly_f 12 hHeld ?_
    refine ly_f 13 hHeld ?_
    refine ly_f 14 hHeld ?_
    refine ly_f 15 hHeld ?_
    refine ly_f 16 hHeld ?_
    refine ly_f 17 hHeld ?_
    refine ly_f 18 hHeld ?_
    refine ly_f 19 hHeld ?_
    refine ly_f 20 hHeld ?_
    refine ly_f 21 hHeld ?_
    refine ly_f 22 hHeld ?_
    refine ly_f 23 hHeld ?_
    refine ly_f 24 hHeld ?_
    refine ly_f 25 hHeld ?_
    refine ly_f 26 hHeld ?_
    refine ly_s 27 hHeld ?_
    refine wpAnyH_done (by kernel_rfl) ?_ _
    have hb5 := hB'.out.trans (hd.mono hB'.out.size)
    have hg5 := hg'.out.below hd
    have hs5 := hb5.size
    obtain ⟨p0, p1, p2, p3⟩ := at''.out _ hd
    clear hHeld hd hg' hB' at''
    have hb5' := Lib.hid hb5; clear hb5
    go_wp2_with (at_builtin; refine wpList_append_P rfl _ _ rfl w.heap.size u3 (L k) x0 x1 x2 x3 1 rfl rfl hg5 hlen'.out hs5 ?_)
    intro v' w' hown hgrow
    have hB2 := hg5.belowB hb5'.out (Nat.le_refl _) hs5 hgrow
    clear hgrow hg5
    have hown' := Lib.hid hown; have hB2' := Lib.hid hB2; clear hown hB2
    go_wp2
    go_roundw
    case rel => exact ⟨k + 1, by omega, by have := hj2'.out; have := hll'.out; go_num, by rw [e1'.out]; exact hown'.out, hB2'.out⟩
    case measure => simp [intOf]; have := hj'.out; have := hll'.out; omega
  ·obtain rfl : k = M := by omega
   have ho := hg.own
   have hge : ¬ ((k : Int) + 1 < (n : Int)) := by have := hmb4'.out; omega
   clear hg
   have hB' := Lib.hid hB; have ho' := Lib.hid ho; clear hB ho
   go_wp2
   go_ret
   exact ⟨_, rfl, ho'.out, hB'.out⟩
def cmB (f g : List Quad) (k : Nat) : List (Int × Int) := (List.range k).flatMap fun i => befR g (nth4 f i).1
def cmRaw (f g : List Quad) (k : Nat) : List (Int × Int) := xsL g ++ cmB f g k
def cmXs (f g : List Quad) : List (Int × Int) := mergeL [] (cmRaw f g f.length)
theorem cmB_step (f g : List Quad) (k : Nat) : cmB f g (k + 1) = cmB f g k ++ befR g (nth4 f k).1 := by simp [cmB, List.range_succ]
theorem cmRaw_step (f g : List Quad) (k : Nat) : cmRaw f g (k + 1) = cmRaw f g k ++ befR g (nth4 f k).1 := by unfold cmRaw; rw [cmB_step, List.append_assoc]
theorem cmB_len (f g : List Quad) (k : Nat) : (cmB f g k).length ≤ 2 * g.length * k := by
 induction k with
 | zero => simp [cmB]
 | succ k ih =>
   rw [cmB_step, List.length_append, Nat.mul_succ]
   have := befR_len g (nth4 f k).1
   omega
theorem cmRaw_len {f g : List Quad} (hf : MapP f) (hg : MapP g) {k : Nat} (hk : k ≤ f.length) : (cmRaw f g k).length ≤ 300 := by
 unfold cmRaw
 rw [List.length_append, xsL_len]
 have h1 := cmB_len f g k
 have h2 := hf.len.2
 have h3 := hg.len.2
 have h4 : 2 * g.length * k ≤ 24 * 12 := Nat.mul_le_mul (by omega) (by omega)
 omega
theorem mem_cmB {f g : List Quad} {k : Nat} {x : Int × Int} : x ∈ cmB f g k ↔ ∃ i, i < k ∧ x ∈ befR g (nth4 f i).1 := by
 unfold cmB
 simp only [List.mem_flatMap, List.mem_range]
theorem xsL_unit {g : List Quad} (hg : MapP g) : ∀ x, x ∈ xsL g → unitR x.1 x.2 = true := by
 intro x hx
 obtain ⟨i, hi, rfl⟩ := List.getElem_of_mem hx
 rw [xsL_len] at hi
 rw [← nthR_eq, nthR_xsL hi]
 exact coordR_unit (hg.coord i hi).1
theorem cmRaw_unit {f g : List Quad} (hf : MapP f) (hg : MapP g) {k : Nat} (hk : k ≤ f.length) : ∀ x, x ∈ cmRaw f g k → unitR x.1 x.2 = true := by
 intro x hx
 unfold cmRaw at hx
 rcases List.mem_append.1 hx with h | h
 ·exact xsL_unit hg x h
 ·obtain ⟨i, hi, h⟩ := mem_cmB.1 h
  exact befR_unit hg (unitR_good (coordR_unit (hf.coord i (by omega)).1)) x h
theorem cmXs_rise {f g : List Quad} (hf : MapP f) (hg : MapP g) : RiseL (cmXs f g) ∧ ∀ x, x ∈ cmXs f g ↔ x ∈ cmRaw f g f.length := by
 obtain ⟨h1, h2⟩ := merge_rise (cmRaw f g f.length) (xs := []) List.Pairwise.nil (fun y h => by cases h) (fun x hx => unitR_good (cmRaw_unit hf hg (Nat.le_refl _) x hx))
 exact ⟨h1, fun x => by rw [show cmXs f g = mergeL [] (cmRaw f g f.length) from rfl, h2]; simp⟩
theorem cmXs_sorted {f g : List Quad} (hf : MapP f) (hg : MapP g) {ys : List (Int × Int)} (hp : ys.Pairwise fun a b => qv a ≤ qv b) (hm : ∀ x, x ∈ ys ↔ x ∈ cmRaw f g f.length) : cmpL ys = cmXs f g :=
 sort_merge hp (fun x => by rw [hm]; simp) List.Pairwise.nil (fun y h => by cases h) (fun x hx => unitR_good (cmRaw_unit hf hg (Nat.le_refl _) x hx))
theorem cmXs_put {f g : List Quad} (hf : MapP f) (hg : MapP g) {l : List (Int × Int)} (hr : RiseL l) (hm : ∀ x, x ∈ l ↔ x ∈ cmRaw f g f.length) : l = cmXs f g :=
 rise_ext hr (cmXs_rise hf hg).1 fun x => by rw [hm, (cmXs_rise hf hg).2]
theorem cmXs_unit {f g : List Quad} (hf : MapP f) (hg : MapP g) : ∀ x, x ∈ cmXs f g → unitR x.1 x.2 = true := fun x hx => cmRaw_unit hf hg (Nat.le_refl _) x (((cmXs_rise hf hg).2 x).1 hx)
theorem xsL_rise {g : List Quad} (hg : MapP g) : RiseL (xsL g) := by
 unfold RiseL
 rw [List.pairwise_iff_getElem]
 intro i j hi hj hij
 rw [xsL_len] at hi hj
 rw [← nthR_eq, ← nthR_eq, nthR_xsL hi, nthR_xsL hj]
 exact x_rise hg j i hij hj
def cmM (f g : List Quad) : Nat → List (Int × Int)
 | 0 => xsL g
 | k + 1 => mergeL (cmM f g k) (befR g (nth4 f k).1)
theorem cmM_law {f g : List Quad} (hf : MapP f) (hg : MapP g) : ∀ k, k ≤ f.length → GoodL (cmM f g k) ∧ (∀ x, x ∈ cmM f g k ↔ x ∈ cmRaw f g k) ∧ (cmM f g k).length ≤ 12 + 24 * k := by
 intro k
 induction k with
 | zero =>
   intro _
   refine ⟨⟨xsL_rise hg, fun x hx => unitR_good (xsL_unit hg x hx)⟩, fun x => ?_, ?_⟩
   ·show x ∈ xsL g ↔ x ∈ xsL g ++ cmB f g 0
    simp [cmB]
   ·show (xsL g).length ≤ _
    rw [xsL_len]
    have := hg.len.2
    omega
 | succ k ih =>
   intro hk
   obtain ⟨h1, h2, h3⟩ := ih (by omega)
   have hb := fun x hx => unitR_good (befR_unit hg (unitR_good (coordR_unit (hf.coord k (by omega)).1)) x hx)
   obtain ⟨a, b⟩ := merge_rise (befR g (nth4 f k).1) h1.rise h1.good hb
   have hE : cmM f g (k + 1) = mergeL (cmM f g k) (befR g (nth4 f k).1) := rfl
   rw [hE]
   refine ⟨⟨a, fun x hx => ?_⟩, fun x => ?_, ?_⟩
   ·rcases (b x).1 hx with h | h
    ·exact h1.good x h
    ·exact hb x h
   ·rw [b, h2, cmRaw_step, List.mem_append]
   ·have h4 := mergeL_len0 (befR g (nth4 f k).1) (cmM f g k)
    have h5 := befR_len g (nth4 f k).1
    have := hg.len.2
    omega
theorem cmM_end {f g : List Quad} (hf : MapP f) (hg : MapP g) : cmM f g f.length = cmXs f g := by
 obtain ⟨a, b, _⟩ := cmM_law hf hg f.length (Nat.le_refl _)
 exact cmXs_put hf hg a.rise b
theorem cmXs_len {f g : List Quad} (hf : MapP f) (hg : MapP g) : 2 ≤ (cmXs f g).length ∧ (cmXs f g).length ≤ 300 := by
 constructor
 ·have h0 : (0, 1) ∈ cmXs f g := ((cmXs_rise hf hg).2 _).2 (by
   unfold cmRaw
   refine List.mem_append_left _ ?_
   have := hg.len.1
   rw [← hg.first, ← nthR_xsL (by omega), nthR_eq (by rw [xsL_len]; omega)]
   exact List.getElem_mem _)
  have h1 : (1, 1) ∈ cmXs f g := ((cmXs_rise hf hg).2 _).2 (by
   unfold cmRaw
   refine List.mem_append_left _ ?_
   have := hg.len.1
   rw [← hg.last, ← nthR_xsL (by omega), nthR_eq (by rw [xsL_len]; omega)]
   exact List.getElem_mem _)
  generalize cmXs f g = l at *
  match l with
  | [] => cases h0
  | [a] =>
    have e1 := List.mem_singleton.1 h0
    have e2 := List.mem_singleton.1 h1
    rw [← e1] at e2
    exact absurd e2 (by decide)
  | _ :: _ :: _ => simp
 ·have h1 := mergeL_len0 (cmRaw f g f.length) []
  have h2 := cmRaw_len hf hg (Nat.le_refl f.length)
  show (mergeL [] (cmRaw f g f.length)).length ≤ 300
  simp only [List.length_nil, Nat.zero_add] at h1
  omega
def cmBef (f g : List Quad) (k : Nat) : Bool := (List.range k).all fun i => befOk g (nth4 f i).1 g.length
theorem cmBef_step (f g : List Quad) (k : Nat) : cmBef f g (k + 1) = (cmBef f g k && befOk g (nth4 f k).1 g.length) := by simp [cmBef, List.range_succ, List.all_append]
theorem cmBef_false {f g : List Quad} {k n : Nat} (h : k < n) (hb : befOk g (nth4 f k).1 g.length = false) : cmBef f g n = false := by
 unfold cmBef
 rw [List.all_eq_false]
 exact ⟨k, List.mem_range.2 h, by rw [hb]; simp⟩
def cmAt (f g : List Quad) (xs : List (Int × Int)) (k : Nat) : Bool := (List.range k).all fun i => atOk g (nthR xs i) && atOk f (atZ g (nthR xs i))
theorem cmAt_step (f g : List Quad) (xs : List (Int × Int)) (k : Nat) : cmAt f g xs (k + 1) = (cmAt f g xs k && (atOk g (nthR xs k) && atOk f (atZ g (nthR xs k)))) := by simp [cmAt, List.range_succ, List.all_append]
theorem cmAt_false {f g : List Quad} {xs : List (Int × Int)} {k n : Nat} (h : k < n) (hb : (atOk g (nthR xs k) && atOk f (atZ g (nthR xs k))) = false) : cmAt f g xs n = false := by
 unfold cmAt
 rw [List.all_eq_false]
 exact ⟨k, List.mem_range.2 h, by rw [hb]; simp⟩
def cmPt (f g : List Quad) (x : Int × Int) : Quad := (x, atZ f (atZ g x))
def cmPts (f g : List Quad) : List Quad := (cmXs f g).map (cmPt f g)
theorem cmPts_len (f g : List Quad) : (cmPts f g).length = (cmXs f g).length := by simp [cmPts]
theorem nth4_cmPts {f g : List Quad} {i : Nat} (h : i < (cmXs f g).length) : nth4 (cmPts f g) i = cmPt f g (nthR (cmXs f g) i) := by
 rw [nth4_eq (by rw [cmPts_len]; exact h), nthR_eq h]; simp [cmPts]
def fineP (p : Quad) : Bool := decide (p.1.2 ≤ 100) && decide (p.2.2 ≤ 100)
theorem cmPt_unit {f g : List Quad} (hf : MapP f) (hg : MapP g) {i : Nat} (h : i < (cmXs f g).length) : unitR (nth4 (cmPts f g) i).1.1 (nth4 (cmPts f g) i).1.2 = true ∧ unitR (nth4 (cmPts f g) i).2.1 (nth4 (cmPts f g) i).2.2 = true := by
 have hx := cmXs_unit hf hg (nthR (cmXs f g) i) (by rw [nthR_eq h]; exact List.getElem_mem h)
 rw [nth4_cmPts h]
 exact ⟨hx, atZ_unit hf (atZ_unit hg hx)⟩
theorem fine_coord {p : Quad} (h1 : unitR p.1.1 p.1.2 = true) (h2 : unitR p.2.1 p.2.2 = true) : coordP p = fineP p := by
 unfold coordP coordR fineP
 rw [h1, h2]
 simp
theorem cmPts_line {f g : List Quad} (hf : MapP f) (hg : MapP g) (h : (cmPts f g).all fineP = true) : LineP (cmPts f g) := by
 obtain ⟨l1, l2⟩ := cmXs_len hf hg
 refine ⟨by rw [cmPts_len]; omega, fun i hi => ?_, fun i hi => ?_⟩
 ·have hi2 := hi
  rw [cmPts_len] at hi2
  obtain ⟨u1, u2⟩ := cmPt_unit hf hg hi2
  have := all_nth4 h hi
  rw [← fine_coord u1 u2] at this
  unfold coordP at this
  rw [Bool.and_eq_true] at this
  exact this
 ·rw [cmPts_len] at hi
  obtain ⟨u1, _⟩ := cmPt_unit hf hg (i := i) (by omega)
  obtain ⟨u2, _⟩ := cmPt_unit hf hg hi
  rw [ltB_qv (unitR_good u1) (unitR_good u2), nth4_cmPts (by omega), nth4_cmPts hi]
  exact rise_nth (cmXs_rise hf hg).1 (by omega) hi
def cmIf (s : List Quad) : List Quad × Bool := if mapB s = true then (s, true) else ([], false)
def cmR (f g : List Quad) : List Quad × Bool := if cmBef f g f.length = true ∧ cmAt f g (cmXs f g) (cmXs f g).length = true ∧ (cmPts f g).all fineP = true then cmIf (smL (cmPts f g)) else ([], false)
theorem cmIf_map {s : List Quad} (h : (cmIf s).2 = true) : mapB (cmIf s).1 = true := by
 unfold cmIf at h ⊢
 split
 ·rename_i q; exact q
 ·rename_i q; rw [if_neg q] at h; cases h
theorem cmR_map {f g : List Quad} (h : (cmR f g).2 = true) : mapB (cmR f g).1 = true := by
 unfold cmR at h ⊢
 split
 ·rename_i q; rw [if_pos q] at h; exact cmIf_map h
 ·rename_i q; rw [if_neg q] at h; cases h
theorem cmR_no {f g : List Quad} (h : (cmR f g).2 = false) : cmR f g = ([], false) := by
 unfold cmR cmIf at h ⊢
 split
 ·rename_i q
  rw [if_pos q] at h
  split
  ·rename_i q2; rw [if_pos q2] at h; cases h
  ·rfl
 ·rfl
def cmId : List Quad := [((0, 1), (0, 1)), ((1, 1), (1, 1))]
def cmW (f : List Quad) : Nat → List Quad × Bool
 | 0 => (cmId, true)
 | k + 1 => if (cmW f k).2 = true then cmR f (cmW f k).1 else ([], false)
theorem cmW_map (f : List Quad) : ∀ k, (cmW f k).2 = true → mapB (cmW f k).1 = true := by
 intro k
 induction k with
 | zero => intro _; show mapB cmId = true; decide
 | succ k ih =>
   intro h
   have hE : cmW f (k + 1) = if (cmW f k).2 = true then cmR f (cmW f k).1 else ([], false) := rfl
   rw [hE] at h ⊢
   split
   ·rename_i q; rw [if_pos q] at h; exact cmR_map h
   ·rename_i q; rw [if_neg q] at h; cases h
theorem cmW_no {f : List Quad} : ∀ {k n : Nat}, k ≤ n → (cmW f k).2 = false → cmW f n = ([], false) := by
 intro k n h
 induction n with
 | zero =>
   intro h2
   obtain rfl : k = 0 := by omega
   cases h2
 | succ n ih =>
   intro h2
   have hE : cmW f (n + 1) = if (cmW f n).2 = true then cmR f (cmW f n).1 else ([], false) := rfl
   by_cases e : k = n + 1
   ·subst e
    rw [hE] at h2 ⊢
    split
    ·rename_i q; rw [if_pos q] at h2; exact cmR_no h2
    ·rfl
   ·rw [hE, ih (by omega) h2]
    rfl
def fineK (f : List Quad) (k : Nat) : Bool := (List.range k).all fun i => coordP (nth4 f i)
theorem fineK_step (f : List Quad) (k : Nat) : fineK f (k + 1) = (fineK f k && coordP (nth4 f k)) := by simp [fineK, List.range_succ, List.all_append]
theorem fineK_false {f : List Quad} {k n : Nat} (h : k < n) (hb : coordP (nth4 f k) = false) : fineK f n = false := by
 unfold fineK
 rw [List.all_eq_false]
 exact ⟨k, List.mem_range.2 h, by rw [hb]; simp⟩
def coIf_v (f : List Quad) : List Quad × Bool := if fineK f f.length = true then cmIf (smL f) else ([], false)
set_option linter.unusedSimpArgs false in
set_option linter.unusedVariables false in
set_option maxRecDepth 10000 in
set_option maxHeartbeats 4000000 in
theorem coIf_any (v : Value) (f : List Quad) (w : World) (hv : QuadV w v f) (hl : f.length ≤ 1000) (hf : fineK f f.length = true → LineP f) :
  Calls Tryz.prog 168 #[v] w (RetOB OwnP (coIf_v f) w) := by
 have c1 := fun (hq : fineK f f.length = true) w' (hB : Below w.heap.size w w') => coSimpleL_any v f w' (hv.below hB) (hf hq)
 have c2 := fun (r : Value) w' (hr : QuadV w' r (smL f)) (hsl : (smL f).length ≤ 1099511627776) => imGood_any r (smL f) w' hr hsl
 have hyes : fineK f f.length = true → coIf_v f = cmIf (smL f) := fun h => by unfold coIf_v; rw [if_pos h]
 have hno : fineK f f.length = false → coIf_v f = ([], false) := fun h => by unfold coIf_v; rw [if_neg (by rw [h]; decide)]
 have hbad := fun k (h : k < f.length) (hb : coordP (nth4 f k) = false) => hno (fineK_false h hb)
 have hstep := fineK_step f
 have hsl : (smL f).length ≤ f.length + 2 := by unfold smL; have := (smK_len f (f.length - 2)).2; simp; omega
 obtain ⟨ao, cap, rfl, -, -, H⟩ := hv.form
 obtain ⟨n, hn⟩ : ∃ n, f.length = n := ⟨_, rfl⟩
 rw [hn] at hl H c1 hyes hno hbad ⊢
 generalize coIf_v f = V at *
 obtain ⟨FK, hFK⟩ : ∃ K, fineK f = K := ⟨_, rfl⟩
 rw [hFK] at hyes hno c1 hstep
 have hF0 : FK 0 = true := by rw [← hFK]; rfl
 clear hv hf hFK
 have c1' := Lib.hid c1; have c2' := Lib.hid c2; have hyes' := Lib.hid hyes; have hno' := Lib.hid hno; have hbad' := Lib.hid hbad; have hstep' := Lib.hid hstep; have hsl' := Lib.hid hsl; have hn' := Lib.hid hn; have H' := Lib.hid H; clear c1 c2 hyes hno hbad hstep hsl hn H
 go_enter Tryz.func168, Tryz.ntmps168
 go_wp2
 go_loopw [9] (fun i wr => ∃ k : Nat, k ≤ n ∧ i = .int .i64 k ∧ FK k = true ∧ Below w.heap.size w wr) (fun i _ => n - (intOf i).toNat)
 case atStart => exact ⟨0, Nat.zero_le _, rfl, hF0, Below.refl _ _⟩
 case round =>
  obtain ⟨k, hk, rfl, hF, hB⟩ := hrel
  obtain ⟨wo, rfl⟩ : ∃ wo : World, wo = wr := ⟨_, rfl⟩
  by_cases hlt : k < n
  ·obtain ⟨b, off, rfl, y0, y1, y2, y3⟩ := H'.out k hlt
   replace y0 := bkeep hB y0
   replace y1 := bkeep hB y1
   replace y2 := bkeep hB y2
   replace y3 := bkeep hB y3
   have hs1 := hstep'.out k
   have hb1 := hbad'.out k hlt
   have i1 := fun w' => imCoord_any (nth4 f k).1 w'
   have i2 := fun w' => imCoord_any (nth4 f k).2 w'
   have hcp : coordP (nth4 f k) = (coordR (nth4 f k).1 && coordR (nth4 f k).2) := rfl
   rw [hcp] at hs1 hb1
   generalize coordR (nth4 f k).1 = A at *
   generalize coordR (nth4 f k).2 = C at *
   generalize nth4 f k = P at *
   obtain ⟨⟨p0, p1⟩, ⟨p2, p3⟩⟩ := P
   simp only at y0 y1 y2 y3 i1 i2
   obtain ⟨w1, hw1⟩ : ∃ W, wo.alloc (.cells #[.int .i64 p0, .int .i64 p1, .int .i64 p2, .int .i64 p3] 80) = W := ⟨_, rfl⟩
   have hB1 : Below wo.heap.size wo w1 := by rw [← hw1]; exact (Below.refl _ _).alloc (Nat.le_refl _) _
   have xp : BoxQ w1 wo.heap.size ((p0, p1), (p2, p3)) := by rw [← hw1]; refine ⟨?_, ?_, ?_, ?_⟩ <;> simp [go_sem]
   have hb2 := hB.trans (hB1.mono hB.size)
   clear hB1 hB hcp
   have hs1' := Lib.hid hs1; have hb1' := Lib.hid hb1; have i1' := Lib.hid i1; have i2' := Lib.hid i2; have hw1' := Lib.hid hw1; have hb2' := Lib.hid hb2; have xp' := Lib.hid xp; clear hs1 hb1 i1 i2 hw1 hb2 xp
   go_upto_region 4 with fail
   rw [hw1'.out]
   clear y0 y1 y2 y3
   obtain ⟨y0, y1, y2, y3⟩ := xp'.out
   simp only at y0 y1 y2 y3
   go_wp2_with fail
   refine (i1'.out _).mono ?_
   rintro e w2 ⟨rfl, hB2⟩
   have hb3 := hb2'.out.trans (hB2.mono hb2'.out.size)
   cases A
   ·have hV := hb1'.out rfl
    subst hV
    clear hB2 y0 y1 y2 y3
    have hb3' := Lib.hid hb3; clear hb3
    go_wp2
    go_ret2
    exact ⟨_, rfl, OwnP.nil _ _ _, hb3'.out⟩
   ·obtain ⟨t0, t1, t2, t3⟩ := xp'.out.below hB2
    simp only at t0 t1 t2 t3
    clear hB2 y0 y1 y2 y3 hb2' i1'
    have hb3' := Lib.hid hb3; clear hb3
    go_wp2_with fail
    refine (i2'.out _).mono ?_
    rintro e w3 ⟨rfl, hB3⟩
    have hb4 := hb3'.out.trans (hB3.mono hb3'.out.size)
    clear t0 t1 t2 t3 hB3
    cases C
    ·have hV := hb1'.out rfl
     subst hV
     have hb4' := Lib.hid hb4; clear hb4
     go_wp2
     go_ret2
     exact ⟨_, rfl, OwnP.nil _ _ _, hb4'.out⟩
    ·have hF1 : FK (k + 1) = true := by rw [hs1'.out, hF]; rfl
     have hb4' := Lib.hid hb4; have hF1' := Lib.hid hF1; clear hb4 hF1
     go_wp2
     go_roundw
     case rel => exact ⟨k + 1, by omega, by go_num, hF1'.out, hb4'.out⟩
     case measure => simp [intOf]; omega
  ·obtain rfl : k = n := by omega
   have c3 := c1'.out hF wo hB
   have hV := hyes'.out hF
   subst hV
   have hszw : w.heap.size ≤ wo.heap.size := hB.size
   clear H'
   have c3' := Lib.hid c3; have hB' := Lib.hid hB; clear c3 hB
   go_wp2_with fail
   refine (c3'.out).mono ?_
   rintro e w1 ⟨v1, rfl, ho, hB1⟩
   have c4 := c2'.out v1 w1 ho.read (by have := hsl'.out; have := hn'.out; omega)
   have hb1 := hB'.out.trans (hB1.mono hB'.out.size)
   obtain ⟨ao1, cap1, rfl, -⟩ := ho.read.form
   generalize (smL f).length = m at *
   have hmB : cmIf (smL f) = if mapB (smL f) = true then (smL f, true) else ([], false) := rfl
   generalize mapB (smL f) = M at *
   generalize cmIf (smL f) = R at *
   have hos := fun w' (h : Below w1.heap.size w1 w') => OwnP.below ho h (Nat.le_refl _)
   clear ho hB1 c3' hB'
   have c4' := Lib.hid c4; have hb1' := Lib.hid hb1; have hmB' := Lib.hid hmB; have hos' := Lib.hid hos; clear c4 hb1 hmB hos
   go_wp2_with fail
   refine (c4'.out).mono ?_
   rintro e w2 ⟨rfl, hB2⟩
   have hb2 := hb1'.out.trans (hB2.mono hb1'.out.size)
   have ho2 := hos'.out w2 hB2
   have hM := hmB'.out
   cases M
   ·rw [if_neg (by decide)] at hM
    subst hM
    clear hB2 ho2
    have hb2' := Lib.hid hb2; clear hb2
    go_wp2
    go_ret2
    exact ⟨_, rfl, OwnP.nil _ _ _, hb2'.out⟩
   ·rw [if_pos rfl] at hM
    subst hM
    have ho3 := OwnP.mono ho2 (hB := hszw) (hE := hB2.size)
    clear hB2
    have hb2' := Lib.hid hb2; have ho3' := Lib.hid ho3; clear hb2 ho3
    go_wp2
    go_ret2
    exact ⟨_, rfl, ho3'.out, hb2'.out⟩
set_option maxHeartbeats 800000 in
theorem made1_any (q : Quad) (w : World) : Calls Tryz.prog 212 #[quadV q] w (Ret (.bool (!(fineP q))) w) := by
 obtain ⟨⟨x, y⟩, ⟨z, t⟩⟩ := q
 show Calls _ _ #[.agg #[.int .i64 x, .int .i64 y, .int .i64 z, .int .i64 t]] w (Ret (.bool (!(decide (y ≤ 100) && decide (t ≤ 100)))) w)
 have hB : Below w.heap.size w (w.alloc (.cells #[.int .i64 x, .int .i64 y, .int .i64 z, .int .i64 t] 80)) := (Below.refl _ _).alloc (Nat.le_refl _) _
 by_cases h1 : 100 < y
 ·have e : (!(decide (y ≤ 100) && decide (t ≤ 100))) = true := by simp; omega
  rw [e]
  clear e
  go_enter Tryz.func212, Tryz.ntmps212
  go_wp2
  go_ret
  exact ⟨by simp, hB⟩
 ·by_cases h2 : 100 < t
  ·have e : (!(decide (y ≤ 100) && decide (t ≤ 100))) = true := by simp; omega
   rw [e]
   clear e
   go_enter Tryz.func212, Tryz.ntmps212
   go_wp2
   go_ret
   exact ⟨by simp, hB⟩
  ·have e : (!(decide (y ≤ 100) && decide (t ≤ 100))) = false := by simp; omega
   rw [e]
   clear e
   go_enter Tryz.func212, Tryz.ntmps212
   go_wp2
   go_ret
   exact ⟨by simp, hB⟩
def made_v (f : List Quad) : List Quad × Bool := if f.all fineP = true then (smL f, mapB (smL f)) else ([], false)
def fin_v (bd : Bool) (f : List Quad) : List Quad × Bool := if bd = false ∧ f.all fineP = true then cmIf (smL f) else ([], false)
set_option maxHeartbeats 2000000 in
theorem made_any (v : Value) (f : List Quad) (w : World) (hv : QuadV w v f) (hl : f.length ≤ 1000) (hf : f.all fineP = true → LineP f) :
  Calls Tryz.prog 200 #[v] w (RetOB OwnP (made_v f) w) := by
 have cc := containsFuncP_any v f 212 #[] (fun q => !(fineP q)) w (enters_of Tryz.func212 (by kernel_rfl) rfl) (fun i w' _ _ => made1_any _ w') hv (by omega)
 have hany : (f.any fun q => !(fineP q)) = !(f.all fineP) := by rw [List.all_eq_not_any_not, Bool.not_not]
 rw [hany] at cc
 have c1 := fun (hq : f.all fineP = true) w' (hB : Below w.heap.size w w') => simpleL_any v f w' (hv.below hB) (hf hq)
 have hsl : (smL f).length ≤ f.length + 2 := by unfold smL; have := (smK_len f (f.length - 2)).2; simp; omega
 have c2 := fun (r : Value) w' (hr : QuadV w' r (smL f)) => isMap_any r (smL f) w' hr (by omega)
 cases ha : f.all fineP
 ·rw [show made_v f = ([], false) by unfold made_v; rw [ha]; rfl]
  rw [ha] at cc
  clear ha hany hv hf c1 c2 hsl
  have cc' := Lib.hid cc; clear cc
  go_enter Tryz.func200, Tryz.ntmps200
  go_wp2_with fail
  refine (cc'.out).mono ?_
  rintro e w1 ⟨rfl, hB1⟩
  go_wp2
  go_ret2
  exact ⟨_, rfl, OwnP.nil _ _ _, hB1⟩
 ·rw [show made_v f = (smL f, mapB (smL f)) by unfold made_v; rw [ha]; rfl]
  rw [ha] at cc
  have c3 := c1 ha
  clear ha hany hv hf c1
  generalize mapB (smL f) = M at *
  generalize smL f = S at *
  have cc' := Lib.hid cc; have c2' := Lib.hid c2; have c3' := Lib.hid c3; have hsl' := Lib.hid hsl; clear cc c2 c3 hsl
  go_enter Tryz.func200, Tryz.ntmps200
  go_wp2_with fail
  refine (cc'.out).mono ?_
  rintro e w1 ⟨rfl, hB1⟩
  have c4 := c3'.out w1 hB1
  have c4' := Lib.hid c4; have hB1' := Lib.hid hB1; clear c4 hB1
  go_wp2_with fail
  refine (c4'.out).mono ?_
  rintro e w2 ⟨r, rfl, ho, hB2⟩
  have c5 := c2'.out r w2 ho.read
  have hb2 := hB1'.out.trans (hB2.mono hB1'.out.size)
  have ho2 := fun w' (h : Below w2.heap.size w2 w') => OwnP.mono (OwnP.below ho h (Nat.le_refl _)) (hB := hB1'.out.size) (hE := h.size)
  obtain ⟨ao, cap, rfl, -⟩ := ho.read.form
  clear ho hB2 c3' c2' hsl'
  have c5' := Lib.hid c5; have hb2' := Lib.hid hb2; have ho2' := Lib.hid ho2; clear c5 hb2 ho2
  go_wp2_with fail
  refine (c5'.out).mono ?_
  rintro e w3 ⟨rfl, hB3⟩
  have ho3 := ho2'.out w3 hB3
  have hb3 := hb2'.out.trans (hB3.mono hb2'.out.size)
  have ho3' := Lib.hid ho3; have hb3' := Lib.hid hb3; clear ho3 hb3
  clear hB3
  go_wp2
  go_ret2
  exact ⟨_, rfl, ho3'.out, hb3'.out⟩
set_option maxHeartbeats 2000000 in
theorem finish_any (g : Nat) (bd : Bool) (v : Value) (f : List Quad) (w : World) (hv : QuadV w v f) (hc : CalcAt w g bd) (hl : f.length ≤ 1000) (hf : bd = false → f.all fineP = true → LineP f) :
  Calls Tryz.prog 172 #[.pointer (some ⟨g, 0, none⟩), v] w (RetOB OwnP (fin_v bd f) w) := by
 have k0 : w.cell? ⟨g, 0, none⟩ = some (.bool bd) := hc.1
 cases bd
 ·have c1 := fun w' (hB : Below w.heap.size w w') => made_any v f w' (hv.below hB) hl (hf rfl)
  have hfin : fin_v false f = if (made_v f).2 = true then made_v f else ([], false) := by
   unfold fin_v made_v cmIf
   split
   ·rename_i h
    rw [if_pos h.2]
    cases mapB (smL f) <;> rfl
   ·rename_i h
    rw [if_neg (fun e => h ⟨rfl, e⟩)]
    rfl
  rw [hfin]
  clear hfin hv hf hc
  obtain ⟨⟨S, M⟩, hM⟩ : ∃ r, made_v f = r := ⟨_, rfl⟩
  rw [hM] at c1 ⊢
  clear hM
  cases M
  ·rw [if_neg (by simp)]
   have c1' := Lib.hid c1; clear c1
   go_enter Tryz.func172, Tryz.ntmps172
   go_wp2_with fail
   refine (c1'.out _ (Below.refl _ _)).mono ?_
   rintro e w1 ⟨r, rfl, ho, hB1⟩
   obtain ⟨ao, cap, rfl, -⟩ := ho.read.form
   clear ho
   have hB1' := Lib.hid hB1; clear hB1
   go_wp2
   go_ret2
   exact ⟨_, rfl, OwnP.nil _ _ _, hB1'.out⟩
  ·rw [if_pos rfl]
   have c1' := Lib.hid c1; clear c1
   go_enter Tryz.func172, Tryz.ntmps172
   go_wp2_with fail
   refine (c1'.out _ (Below.refl _ _)).mono ?_
   rintro e w1 ⟨r, rfl, ho, hB1⟩
   obtain ⟨ao, cap, rfl, -⟩ := ho.read.form
   have ho' := Lib.hid ho; have hB1' := Lib.hid hB1; clear ho hB1
   go_wp2
   go_ret2
   exact ⟨_, rfl, ho'.out, hB1'.out⟩
 ·have hfin : fin_v true f = ([], false) := by unfold fin_v; rw [if_neg (by simp)]
  rw [hfin]
  clear hfin hv hf hc
  go_enter Tryz.func172, Tryz.ntmps172
  go_wp2
  go_ret2
  exact ⟨_, rfl, OwnP.nil _ _ _, Below.refl _ _⟩
theorem OwnP.two (w : World) (i k : Quad) : OwnP (w.alloc (.cells #[.int .i64 i.1.1, .int .i64 i.1.2, .int .i64 i.2.1, .int .i64 i.2.2, .int .i64 k.1.1, .int .i64 k.1.2, .int .i64 k.2.1, .int .i64 k.2.2] 80)) w.heap.size (w.alloc (.cells #[.int .i64 i.1.1, .int .i64 i.1.2, .int .i64 i.2.1, .int .i64 i.2.2, .int .i64 k.1.1, .int .i64 k.1.2, .int .i64 k.2.1, .int .i64 k.2.2] 80)).heap.size (.slice (some ⟨w.heap.size, 0, none⟩) 2 2) [i, k] :=
 OwnF.row (World.ownsRow_lit (base := w.heap.size) (e := 80) (size := 4) w #[.int .i64 i.1.1, .int .i64 i.1.2, .int .i64 i.2.1, .int .i64 i.2.2, .int .i64 k.1.1, .int .i64 k.1.2, .int .i64 k.2.1, .int .i64 k.2.2] 2 (Nat.le_refl _) (by decide) rfl)
set_option maxHeartbeats 1600000 in
theorem identityMap_any (w : World) : Calls Tryz.prog 114 #[] w (RetO OwnP cmId w) := by
 go_enter Tryz.func114, Tryz.ntmps114
 go_wp2_with fail
 refine (zero_any _).mono ?_
 rintro e w1 ⟨rfl, hB1⟩
 go_wp2_with fail
 refine (zero_any _).mono ?_
 rintro e w2 ⟨rfl, hB2⟩
 go_wp2_with fail
 refine (oneRat_any _).mono ?_
 rintro e w3 ⟨rfl, hB3⟩
 go_wp2_with fail
 refine (oneRat_any _).mono ?_
 rintro e w4 ⟨rfl, hB4⟩
 have hB := hB1.trans ((hB2.trans ((hB3.trans (hB4.mono hB3.size)).mono hB2.size)).mono hB1.size)
 have ho := OwnP.two w4 ((0, 1), (0, 1)) ((1, 1), (1, 1))
 simp only at ho
 have ho2 := OwnP.mono ho (hB := hB.size) (hE := Nat.le_refl _)
 have hb := hB.alloc hB.size (.cells #[.int .i64 0, .int .i64 1, .int .i64 0, .int .i64 1, .int .i64 1, .int .i64 1, .int .i64 1, .int .i64 1] 80)
 clear hB1 hB2 hB3 hB4 ho hB
 have ho2' := Lib.hid ho2; have hb' := Lib.hid hb; clear ho2 hb
 go_wp2
 go_ret
 exact ⟨_, rfl, ho2'.out, hb'.out⟩
set_option maxHeartbeats 1600000 in
theorem coSame_any (w : World) : Calls Tryz.prog 108 #[] w (RetO OwnP cmId w) := by
 go_enter Tryz.func108, Tryz.ntmps108
 go_wp2_with fail
 refine (raInt_any 0 _).mono ?_
 rintro e w1 ⟨rfl, hB1⟩
 go_wp2_with fail
 refine (raInt_any 0 _).mono ?_
 rintro e w2 ⟨rfl, hB2⟩
 go_wp2_with fail
 refine (raInt_any 1 _).mono ?_
 rintro e w3 ⟨rfl, hB3⟩
 go_wp2_with fail
 refine (raInt_any 1 _).mono ?_
 rintro e w4 ⟨rfl, hB4⟩
 have hB := hB1.trans ((hB2.trans ((hB3.trans (hB4.mono hB3.size)).mono hB2.size)).mono hB1.size)
 have ho := OwnP.two w4 ((0, 1), (0, 1)) ((1, 1), (1, 1))
 simp only at ho
 have ho2 := OwnP.mono ho (hB := hB.size) (hE := Nat.le_refl _)
 have hb := hB.alloc hB.size (.cells #[.int .i64 0, .int .i64 1, .int .i64 0, .int .i64 1, .int .i64 1, .int .i64 1, .int .i64 1, .int .i64 1] 80)
 clear hB1 hB2 hB3 hB4 ho hB
 have ho2' := Lib.hid ho2; have hb' := Lib.hid hb; clear ho2 hb
 go_wp2
 go_ret
 exact ⟨_, rfl, ho2'.out, hb'.out⟩
theorem mergeT_good {M L : List (Int × Int)} (hM : GoodL M) (hL : ∀ y, y ∈ L → goodR y.1 y.2 = true) (j : Nat) : GoodL (mergeL M (L.take j)) ∧ (mergeL M (L.take j)).length ≤ M.length + L.length := by
 have hT : ∀ y, y ∈ L.take j → goodR y.1 y.2 = true := fun y hy => hL y (List.mem_of_mem_take hy)
 obtain ⟨a, b⟩ := merge_rise (L.take j) hM.rise hM.good hT
 refine ⟨⟨a, fun x hx => ?_⟩, ?_⟩
 ·rcases (b x).1 hx with h | h
  ·exact hM.good x h
  ·exact hT x h
 ·have h1 := mergeL_len0 (L.take j) M
  have h2 : (L.take j).length ≤ L.length := by rw [List.length_take]; omega
  omega
theorem range_all4 (P : Quad → Bool) (f : List Quad) : (List.range f.length).all (fun i => P (nth4 f i)) = f.all P := by
 rw [Bool.eq_iff_iff, List.all_eq_true, List.all_eq_true]
 constructor
 ·intro h x hx
  obtain ⟨i, hi, rfl⟩ := List.getElem_of_mem hx
  have := h i (List.mem_range.2 hi)
  rwa [nth4_eq hi] at this
 ·intro h i hi
  rw [nth4_eq (List.mem_range.1 hi)]
  exact h _ (List.getElem_mem _)
theorem fineK_pts {f h : List Quad} (hf : MapP f) (hh : MapP h) : fineK (cmPts f h) (cmPts f h).length = (cmPts f h).all fineP := by
 rw [← range_all4]
 unfold fineK
 rw [Bool.eq_iff_iff, List.all_eq_true, List.all_eq_true]
 have e : ∀ i, i ∈ List.range (cmPts f h).length → coordP (nth4 (cmPts f h) i) = fineP (nth4 (cmPts f h) i) := fun i hi => by
  have hi2 := List.mem_range.1 hi
  rw [cmPts_len] at hi2
  obtain ⟨a, b⟩ := cmPt_unit hf hh hi2
  exact fine_coord a b
 exact ⟨fun q i hi => by rw [← e i hi]; exact q i hi, fun q i hi => by rw [e i hi]; exact q i hi⟩
set_option linter.unusedSimpArgs false in
set_option maxRecDepth 10000 in
set_option maxHeartbeats 8000000 in
theorem coCompose_any (vf vh : Value) (f h : List Quad) (w : World) (hvf : QuadV w vf f) (hvh : QuadV w vh h) (hf : MapP f) (hh : MapP h) :
  Calls Tryz.prog 109 #[vf, vh] w (RetOB OwnP (cmR f h) w) := by
 have cX := coXs_any vh h w hvh (by have := hh.len.2; omega)
 have cB := fun k w' (hk : k < f.length) (hB : Below w.heap.size w w') => imBefore_any vh h (nth4 f k).1 w' (hvh.below hB) hh (unitR_good (coordR_unit (hf.coord k hk).1))
 have hcu := cmXs_unit hf hh
 have cA := fun x w' (hB : Below w.heap.size w w') (hx : unitR x.1 x.2 = true) => imAt_any vh h x w' (hvh.below hB) hh hx
 have cA2 := fun x w' (hB : Below w.heap.size w w') (hx : unitR x.1 x.2 = true) => imAt_any vf f (atZ h x) w' (hvf.below hB) hf (atZ_unit hh hx)
 have cI := fun v w' (hq : QuadV w' v (cmPts f h)) => coIf_any v (cmPts f h) w' hq (by rw [cmPts_len]; have := (cmXs_len hf hh).2; omega) (fun q => cmPts_line hf hh (by rw [← fineK_pts hf hh]; exact q))
 have hno1 : ∀ k, k < f.length → befOk h (nth4 f k).1 h.length = false → cmR f h = ([], false) := fun k hk hb => by
  unfold cmR
  rw [if_neg]
  rw [cmBef_false hk hb]
  simp
 have hno2 : ∀ k, k < (cmXs f h).length → (atOk h (nthR (cmXs f h) k) && atOk f (atZ h (nthR (cmXs f h) k))) = false → cmR f h = ([], false) := fun k hk hb => by
  unfold cmR
  rw [if_neg]
  rw [cmAt_false hk hb]
  simp
 have hyes : cmBef f h f.length = true → cmAt f h (cmXs f h) (cmXs f h).length = true → coIf_v (cmPts f h) = cmR f h := fun a b => by
  unfold cmR coIf_v
  rw [fineK_pts hf hh]
  by_cases c : (cmPts f h).all fineP = true
  ·rw [if_pos c, if_pos ⟨a, b, c⟩]
  ·rw [if_neg c, if_neg (fun q => c q.2.2)]
 have hMl := fun k (hk : k ≤ f.length) => cmM_law hf hh k hk
 have hbg := fun k (hk : k < f.length) x hx => unitR_good (befR_unit hh (unitR_good (coordR_unit (hf.coord k hk).1)) x hx)
 have hbl := fun k => befR_len h (nth4 f k).1
 have hMs : ∀ k, cmM f h (k + 1) = mergeL (cmM f h k) (befR h (nth4 f k).1) := fun _ => rfl
 have hM0 : cmM f h 0 = xsL h := rfl
 have hMe := cmM_end hf hh
 have hBs := cmBef_step f h
 have hB0 : cmBef f h 0 = true := rfl
 have hAs := cmAt_step f h (cmXs f h)
 have hA0 : cmAt f h (cmXs f h) 0 = true := rfl
 have hXl := cmXs_len hf hh
 have hPk : ∀ k, k < (cmXs f h).length → (cmPts f h).take (k + 1) = (cmPts f h).take k ++ [(nthR (cmXs f h) k, atZ f (atZ h (nthR (cmXs f h) k)))] := fun k hk => by
  rw [take_nth4 (by rw [cmPts_len]; exact hk), nth4_cmPts hk]
  rfl
 have hPe : (cmPts f h).take (cmXs f h).length = cmPts f h := by rw [← cmPts_len f h, List.take_length]
 have hP0 : (cmPts f h).take 0 = [] := rfl
 have hPl : ∀ k, ((cmPts f h).take k).length ≤ k := fun k => by rw [List.length_take]; omega
 have hu : ∀ k, k < (cmXs f h).length → unitR (nthR (cmXs f h) k).1 (nthR (cmXs f h) k).2 = true := fun k hk => hcu _ (by rw [nthR_eq hk]; exact List.getElem_mem _)
 have hhl := hh.len
 have hxl : 0 < (xsL h).length := by rw [xsL_len]; omega
 obtain ⟨aof, capf, rfl, -, -, H⟩ := hvf.form
 obtain ⟨aoh, caph, rfl, -⟩ := hvh.form
 have hl12 := hf.len
 obtain ⟨PF, hPF⟩ : ∃ PF : Nat → List Quad, ∀ k, (cmPts f h).take k = PF k := ⟨_, fun _ => rfl⟩
 simp only [hPF] at hPk hPe hP0 hPl
 obtain ⟨V, hV⟩ : ∃ V, cmR f h = V := ⟨_, rfl⟩
 rw [hV] at hno1 hno2 hyes ⊢
 obtain ⟨n, hn⟩ : ∃ n, f.length = n := ⟨_, rfl⟩
 obtain ⟨m, hm⟩ : ∃ m, h.length = m := ⟨_, rfl⟩
 obtain ⟨XS, hXS⟩ : ∃ XS, cmXs f h = XS := ⟨_, rfl⟩
 rw [hn] at cA2 cB H hno1 hyes hMl hbg hMe hl12 ⊢
 rw [hm] at cX cB cA hbl hhl hno1 hBs ⊢
 rw [hXS] at hno2 hyes hMe hAs hA0 hXl hPk hPe hu
 generalize cmM f h = M at *
 generalize cmBef f h = BF at *
 generalize cmAt f h XS = AT at *
 generalize cmPts f h = PT at *
 clear hvf hvh hcu hV hXS hPF hh hf
 have cX' := Lib.hid cX; have cB' := Lib.hid cB; have cA' := Lib.hid cA; have cA2' := Lib.hid cA2; have cI' := Lib.hid cI; have hno1' := Lib.hid hno1; have hno2' := Lib.hid hno2; have hyes' := Lib.hid hyes; have hMl' := Lib.hid hMl; have hbg' := Lib.hid hbg; have hbl' := Lib.hid hbl; have hMs' := Lib.hid hMs; have hM0' := Lib.hid hM0; have hMe' := Lib.hid hMe; have hBs' := Lib.hid hBs; have hB0' := Lib.hid hB0; have hAs' := Lib.hid hAs; have hA0' := Lib.hid hA0; have hXl' := Lib.hid hXl; have hPk' := Lib.hid hPk; have hPe' := Lib.hid hPe; have hP0' := Lib.hid hP0; have hPl' := Lib.hid hPl; have hu' := Lib.hid hu; have H' := Lib.hid H; have hxl' := Lib.hid hxl; have hn' := Lib.hid hn; have hm' := Lib.hid hm; clear cX cB cA cA2 cI hno1 hno2 hyes hMl hbg hbl hMs hM0 hMe hBs hB0 hAs hA0 hXl hPk hPe hP0 hPl hu H hxl hn hm
 go_enter Tryz.func109, Tryz.ntmps109
 go_wp2_with fail
 refine (cX'.out).mono ?_
 rintro e w1 ⟨v1, rfl, ho1, hB1⟩
 have hr1 := GrowR.ofOwn ho1 hxl'.out
 rw [← hM0'.out] at hr1
 have hne : M 0 ≠ [] := by rw [hM0'.out]; intro e; have := hxl'.out; rw [e] at this; simp at this
 have hh1 : HasR w1 w.heap.size v1 (M 0) := ⟨fun e => absurd e hne, hr1⟩
 obtain ⟨ao1, cap1, rfl, -⟩ := ho1.read.form
 clear cX' ho1 hr1 hne
 have hh1' := Lib.hid hh1; have hB1' := Lib.hid hB1; clear hh1 hB1
 go_wp2
 go_loopw [6, 24] (fun o i wr => ∃ k : Nat, k ≤ n ∧ i = .int .i64 k ∧ HasR wr w.heap.size o (M k) ∧ BF k = true ∧ Below w.heap.size w wr) (fun _ i _ => n - (intOf i).toNat)
 case atStart => exact ⟨0, Nat.zero_le _, rfl, hh1'.out, hB0'.out, hB1'.out⟩
 case round =>
  obtain ⟨k, hk, rfl, hl, hok, hB⟩ := hrel
  clear hh1' hB1'
  by_cases hlt : k < n
  ·obtain ⟨b, off, rfl, p0, p1, p2, p3⟩ := H'.out k hlt
   replace p0 := bkeep hB p0
   replace p1 := bkeep hB p1
   replace p2 := bkeep hB p2
   replace p3 := bkeep hB p3
   have cB1 := fun w' hB => cB'.out k w' hlt hB
   have hbs := hBs'.out k
   have hno := hno1'.out k hlt
   have hMk := hMl'.out k hk
   have hbk := hbg'.out k hlt
   have hbn := hbl'.out k
   have hMs1 := hMs'.out k
   rw [hok, Bool.true_and] at hbs
   have hmg := mergeT_good hMk.1 hbk
   have hMk2 : (M k).length ≤ 400 := by have := hMk.2.2; omega
   clear hMk
   generalize nth4 f k = P at *
   obtain ⟨⟨a0, a1⟩, ⟨a2, a3⟩⟩ := P
   simp only at p0 p1 p2 p3 cB1 hbs hno hbk hbn hMs1 hmg
   generalize befR h (a0, a1) = L at *
   obtain ⟨w3, hw3⟩ : ∃ W, wr.alloc (.cells #[.int .i64 a0, .int .i64 a1, .int .i64 a2, .int .i64 a3] 80) = W := ⟨_, rfl⟩
   have hB3 : Below wr.heap.size wr w3 := by rw [← hw3]; exact (Below.refl _ _).alloc (Nat.le_refl _) _
   have hb3 := hB.trans (hB3.mono hB.size)
   have cB2 := cB1 w3 hb3
   have hl3 := hl.below hB3
   have hs3 := hb3.size
   clear cB1 hl hB hB3 hok
   cases hOK : befOk h (a0, a1) m
   ·rw [hOK, if_neg (by decide)] at cB2
    have hV := hno hOK
    subst hV
    clear hbs hno hmg hbk hbn hMs1 hl3 hOK
    have cB2' := Lib.hid cB2; have hb3' := Lib.hid hb3; have hw3' := Lib.hid hw3; clear cB2 hb3 hw3
    go_wp2_with fail
    rw [hw3'.out]
    clear p0 p1 p2 p3
    go_wp2_with fail
    refine (cB2'.out).mono ?_
    rintro e w4 ⟨v4, rfl, hh4, hB4⟩
    have hv4 := hh4.1 rfl
    subst hv4
    have hb4 := hb3'.out.trans (hB4.mono hb3'.out.size)
    clear hh4 hB4
    have hb4' := Lib.hid hb4; clear hb4
    go_wp2
    go_ret2
    exact ⟨_, rfl, OwnP.nil _ _ _, hb4'.out⟩
   ·rw [hOK, if_pos rfl] at cB2
    rw [hOK] at hbs
    clear hno hOK
    have cB2' := Lib.hid cB2; have hb3' := Lib.hid hb3; have hw3' := Lib.hid hw3; have hbs' := Lib.hid hbs; have hmg' := Lib.hid hmg; have hbk' := Lib.hid hbk; have hbn' := Lib.hid hbn; have hMs1' := Lib.hid hMs1; have hl3' := Lib.hid hl3; have hMk2' := Lib.hid hMk2; clear cB2 hb3 hw3 hbs hmg hbk hbn hMs1 hl3 hMk2
    go_wp2_with fail
    rw [hw3'.out]
    clear p0 p1 p2 p3
    go_wp2_with fail
    refine (cB2'.out).mono ?_
    rintro e w4 ⟨v4, rfl, hh4, hB4⟩
    have hb4 := hb3'.out.trans (hB4.mono hb3'.out.size)
    have hl4 := hl3'.out.below hB4
    have hs4 := hb4.size
    have hrd := RatsV.form (GrowR.read hh4.2)
    obtain ⟨ao4, cap4, rfl, -, -, HL⟩ := hrd
    obtain ⟨nl, hnl⟩ : ∃ nl, L.length = nl := ⟨_, rfl⟩
    rw [hnl] at HL ⊢
    have hgo : ∀ (o : Value) (j : Nat) (w' : World), j < nl → HasR w' w.heap.size o (mergeL (M k) (L.take j)) → w.heap.size ≤ w'.heap.size →
      Calls Tryz.prog 128 #[o, .agg #[.int .i64 (nthR L j).1, .int .i64 (nthR L j).2]] w' (fun e w2 => ∃ v', e = .returned v' ∧ HasR w2 w.heap.size v' (mergeL (M k) (L.take (j + 1))) ∧ Below w'.heap.size w' w2) := fun o j w' hj hr hs => by
     rw [mergeL_take (by rw [hnl]; exact hj)]
     have g := hmg'.out j
     exact imPut_has w.heap.size o _ (nthR L j) w' hr hs (by have := g.2; have := hMk2'.out; have := hbn'.out; omega) (hbk'.out _ (by rw [nthR_eq (by rw [hnl]; exact hj)]; exact List.getElem_mem _)) g.1.good
    have hE : mergeL (M k) (L.take nl) = M (k + 1) := by rw [← hnl, List.take_length, hMs1'.out]
    have h0 : mergeL (M k) (L.take 0) = M k := rfl
    have hnlb : nl ≤ 100 := by rw [← hnl]; have := hbn'.out; omega
    clear hh4 hB4 hmg' hMs1' hMk2' hbk' hbn' hl3' hnl cB2'
    have hb4' := Lib.hid hb4; have hl4' := Lib.hid hl4; have HL' := Lib.hid HL; have hgo' := Lib.hid hgo; have hE' := Lib.hid hE; have h0' := Lib.hid h0; clear hb4 hl4 HL hgo hE h0
    go_wp2
    go_loopw [6, 39] (fun o i wx => ∃ j : Nat, j ≤ nl ∧ i = .int .i64 j ∧ HasR wx w.heap.size o (mergeL (M k) (L.take j)) ∧ Below w4.heap.size w4 wx) (fun _ i _ => nl - (intOf i).toNat)
    case atStart => exact ⟨0, Nat.zero_le _, rfl, by rw [h0'.out]; exact hl4'.out, Below.refl _ _⟩
    case round =>
     obtain ⟨j, hj, rfl, hx, hBx⟩ := hrel
     clear hl4'
     by_cases hlj : j < nl
     ·obtain ⟨bb, ob, rfl, d0, d1⟩ := HL'.out j hlj
      replace d0 := bkeep hBx d0
      replace d1 := bkeep hBx d1
      have hgo1 := fun w' hr hs => hgo'.out u6 j w' hlj hr hs
      generalize nthR L j = X at *
      obtain ⟨x0, x1⟩ := X
      simp only at d0 d1 hgo1
      obtain ⟨w5, hw5⟩ : ∃ W, wr.alloc (.cells #[.int .i64 x0, .int .i64 x1] 42) = W := ⟨_, rfl⟩
      have hB5 : Below wr.heap.size wr w5 := by rw [← hw5]; exact (Below.refl _ _).alloc (Nat.le_refl _) _
      have hb5 := hBx.trans (hB5.mono hBx.size)
      have hgo2 := hgo1 w5 (hx.below hB5) (by have := hb5.size; omega)
      clear hgo1 hB5 hBx hx
      have hw5' := Lib.hid hw5; have hb5' := Lib.hid hb5; have hgo2' := Lib.hid hgo2; clear hw5 hb5 hgo2
      go_wp2_with fail
      rw [hw5'.out]
      clear d0 d1
      go_wp2_with fail
      refine (hgo2'.out).mono ?_
      rintro e w6 ⟨v6, rfl, hh6, hB6⟩
      have hb6 := hb5'.out.trans (hB6.mono hb5'.out.size)
      clear hB6 hgo2'
      have hh6' := Lib.hid hh6; have hb6' := Lib.hid hb6; clear hh6 hb6
      go_wp2
      go_roundw
      case rel => exact ⟨j + 1, by omega, by go_num, hh6'.out, hb6'.out⟩
      case measure => simp [intOf]; omega
     ·obtain rfl : j = nl := by omega
      rw [hE'.out] at hx
      have hbx := hb4'.out.trans (hBx.mono hb4'.out.size)
      clear hBx HL' hgo' hE' h0' hb4'
      have hx' := Lib.hid hx; have hbx' := Lib.hid hbx; clear hx hbx
      go_wp2
      go_roundw
      case rel => exact ⟨k + 1, by omega, by go_num, hx'.out, hbs'.out, hbx'.out⟩
      case measure => simp [intOf]; omega
  ·obtain rfl : k = n := by omega
   rw [hMe'.out] at hl
   obtain ⟨ao6, cap6, hu6, -, -, HX⟩ := RatsV.form (GrowR.read hl.2)
   obtain ⟨u6', hu6'⟩ : ∃ u, u6 = u := ⟨_, rfl⟩
   subst hu6
   obtain ⟨N, hN⟩ : ∃ N, XS.length = N := ⟨_, rfl⟩
   have hXl1 := hXl'.out
   rw [hN] at HX hXl1
   rw [hN]
   have hyes1 := hyes'.out hok
   have hno := hno2'.out
   have hPk1 := hPk'.out
   have hPe1 := hPe'.out
   have huX := hu'.out
   rw [hN] at hyes1 hno hPk1 hPe1 huX
   clear hl hyes' hno2' hPk' hPe' hu' hMe' hBs' hB0' hno1' hbg' hbl' hMs' hM0' hMl' cB' H' hXl' hn' hm' hok
   obtain ⟨wl, rfl⟩ : ∃ wl : World, wl = wr := ⟨_, rfl⟩
   have hyes1' := Lib.hid hyes1; have hno' := Lib.hid hno; have hPk1' := Lib.hid hPk1; have hPe1' := Lib.hid hPe1; have huX' := Lib.hid huX; have HX' := Lib.hid HX; have hB' := Lib.hid hB; clear hyes1 hno hPk1 hPe1 huX HX hB
   go_wp2
   go_loopw [13, 50] (fun o i wx => ∃ j : Nat, j ≤ N ∧ i = .int .i64 j ∧ GrowP wx wl.heap.size o (PF j) ∧ AT j = true ∧ Below wl.heap.size wl wx) (fun _ i _ => N - (intOf i).toNat)
   case atStart => exact ⟨0, Nat.zero_le _, rfl, by rw [hP0'.out]; exact GrowP.nil _ _, hA0'.out, Below.refl _ _⟩
   case round =>
    obtain ⟨j, hj, rfl, hg, hat, hBx⟩ := hrel
    by_cases hlt : j < N
    ·obtain ⟨bb, ob, rfl, d0, d1⟩ := HX'.out j hlt
     replace d0 := bkeep hBx d0
     replace d1 := bkeep hBx d1
     have hux := huX'.out j hlt
     have has := hAs'.out j
     rw [hat, Bool.true_and] at has
     have hnj := hno'.out j hlt
     have hpj := hPk1'.out j hlt
     have hpl := hPl'.out j
     generalize nthR XS j = X at *
     have cA1 := fun w' hB => cA'.out X w' hB hux
     have cA3 := fun w' hB => cA2'.out X w' hB hux
     obtain ⟨w5, hw5⟩ : ∃ W, wr.alloc (.cells #[.int .i64 X.1, .int .i64 X.2] 42) = W := ⟨_, rfl⟩
     have hB5 : Below wr.heap.size wr w5 := by rw [← hw5]; exact (Below.refl _ _).alloc (Nat.le_refl _) _
     have hb5 := hBx.trans (hB5.mono hBx.size)
     have hbw5 := hB'.out.trans (hb5.mono hB'.out.size)
     have xb : BoxV w5 wr.heap.size X := by rw [← hw5]; refine ⟨⟨?_, ?_⟩, ?_, ?_⟩ <;> simp [go_sem]
     have hg5 := hg.below hB5
     have cA4 := cA1 w5 hbw5
     clear cA1 hBx hB5 hg hux hat
     cases ho1 : atOk h X
     ·rw [atR_bad ho1] at cA4
      have hV := hnj (by rw [ho1]; rfl)
      subst hV
      obtain ⟨x0, x1⟩ := X
      simp only at d0 d1 hw5 cA4
      clear hnj has hpj xb cA3 hg5 ho1
      have cA4' := Lib.hid cA4; have hw5' := Lib.hid hw5; have hbw5' := Lib.hid hbw5; clear cA4 hw5 hbw5
      go_wp2_with fail
      rw [hw5'.out]
      clear d0 d1
      go_wp2_with fail
      refine (cA4'.out).mono ?_
      rintro e w6 ⟨rfl, hB6⟩
      have hb6 := (hbw5'.out.trans (hB6.mono hbw5'.out.size)).alloc (hbw5'.out.trans (hB6.mono hbw5'.out.size)).size (.cells #[.int .i64 0, .int .i64 0] 42)
      clear hB6
      have hb6' := Lib.hid hb6; clear hb6
      go_wp2
      go_ret2
      exact ⟨_, rfl, OwnP.nil _ _ _, hb6'.out⟩
     ·rw [atR_ok ho1] at cA4
      rw [ho1, Bool.true_and] at has hnj
      generalize atZ h X = Y at *
      obtain ⟨y0, y1⟩ := Y
      cases ho2 : atOk f (y0, y1)
      ·have hV := hnj ho2
       subst hV
       simp only [atR_bad ho2] at cA3
       obtain ⟨x0, x1⟩ := X
       simp only at d0 d1 hw5 cA4
       clear hnj has hpj xb hg5 ho1 ho2
       have cA4' := Lib.hid cA4; have cA3' := Lib.hid cA3; have hw5' := Lib.hid hw5; have hbw5' := Lib.hid hbw5; clear cA4 cA3 hw5 hbw5
       go_wp2_with fail
       rw [hw5'.out]
       clear d0 d1
       go_wp2_with fail
       refine (cA4'.out).mono ?_
       rintro e w6 ⟨rfl, hB6⟩
       obtain ⟨w7, hw7⟩ : ∃ W, w6.alloc (.cells #[.int .i64 y0, .int .i64 y1] 42) = W := ⟨_, rfl⟩
       have hB7 : Below w5.heap.size w5 w7 := by rw [← hw7]; exact hB6.alloc hB6.size _
       have hbw7 := hbw5'.out.trans (hB7.mono hbw5'.out.size)
       have cA5 := cA3'.out w7 hbw7
       clear hB6 hB7
       have hw7' := Lib.hid hw7; have hbw7' := Lib.hid hbw7; have cA5' := Lib.hid cA5; clear hw7 hbw7 cA5
       go_wp2_with fail
       rw [hw7'.out]
       go_wp2_with fail
       refine (cA5'.out).mono ?_
       rintro e w8 ⟨rfl, hB8⟩
       have hb8 := (hbw7'.out.trans (hB8.mono hbw7'.out.size)).alloc (hbw7'.out.trans (hB8.mono hbw7'.out.size)).size (.cells #[.int .i64 0, .int .i64 0] 42)
       clear hB8
       have hb8' := Lib.hid hb8; clear hb8
       go_wp2
       go_ret2
       exact ⟨_, rfl, OwnP.nil _ _ _, hb8'.out⟩
      ·rw [ho2] at has
       simp only [atR_ok ho2] at cA3
       generalize atZ f (y0, y1) = Z at *
       obtain ⟨z0, z1⟩ := Z
       obtain ⟨x0, x1⟩ := X
       simp only at d0 d1 hw5 cA4 hpj
       clear hnj ho1 ho2
       have cA4' := Lib.hid cA4; have cA3' := Lib.hid cA3; have hw5' := Lib.hid hw5; have hbw5' := Lib.hid hbw5; have hg5' := Lib.hid hg5; have hb5' := Lib.hid hb5; have has' := Lib.hid has; have hpj' := Lib.hid hpj; have xb' := Lib.hid xb; have hpl' := Lib.hid hpl; clear cA4 cA3 hw5 hbw5 hg5 hb5 has hpj xb hpl
       go_wp2_with fail
       rw [hw5'.out]
       clear d0 d1
       go_wp2_with fail
       refine (cA4'.out).mono ?_
       rintro e w6 ⟨rfl, hB6⟩
       obtain ⟨w7, hw7⟩ : ∃ W, w6.alloc (.cells #[.int .i64 y0, .int .i64 y1] 42) = W := ⟨_, rfl⟩
       have hB7 : Below w5.heap.size w5 w7 := by rw [← hw7]; exact hB6.alloc hB6.size _
       have hbw7 := hbw5'.out.trans (hB7.mono hbw5'.out.size)
       have cA5 := cA3'.out w7 hbw7
       have hg7 := hg5'.out.below hB7
       have hb7 := hb5'.out.trans (hB7.mono hb5'.out.size)
       have xb7 := xb'.out.below hB7
       clear hB6 hB7 xb' hg5' hb5'
       have hw7' := Lib.hid hw7; have cA5' := Lib.hid cA5; have hg7' := Lib.hid hg7; have hb7' := Lib.hid hb7; have xb7' := Lib.hid xb7; clear hw7 cA5 hg7 hb7 xb7
       go_wp2_with fail
       rw [hw7'.out]
       go_wp2_with fail
       refine (cA5'.out).mono ?_
       rintro e w8 ⟨rfl, hB8⟩
       obtain ⟨w9, hw9⟩ : ∃ W, w8.alloc (.cells #[.int .i64 z0, .int .i64 z1] 42) = W := ⟨_, rfl⟩
       have hB9 : Below w7.heap.size w7 w9 := by rw [← hw9]; exact hB8.alloc hB8.size _
       have xz : BoxV w9 w8.heap.size (z0, z1) := by rw [← hw9]; refine ⟨⟨?_, ?_⟩, ?_, ?_⟩ <;> simp [go_sem]
       have hg9 := hg7'.out.below hB9
       have hb9 := hb7'.out.trans (hB9.mono hb7'.out.size)
       have hs9 := hb9.size
       obtain ⟨⟨k0, k1⟩, -, -⟩ := xb7'.out.below hB9
       obtain ⟨⟨k2, k3⟩, -, -⟩ := xz
       simp only at k0 k1 k2 k3
       clear hB8 hB9 xb7' hg7' hb7' hbw7 cA5' cA4' cA3' hw7'
       have hw9' := Lib.hid hw9; have hg9' := Lib.hid hg9; have hb9' := Lib.hid hb9; clear hw9 hg9 hb9
       go_upto_region 24 with fail
       rw [hw9'.out]
       go_wp2_with (at_builtin; refine wpList_append_P rfl _ _ rfl wl.heap.size u13 (PF j) x0 x1 z0 z1 _ rfl rfl hg9'.out (by have := hpl'.out; omega) hs9 ?_)
       intro v' w' hown hgrow
       have hbF := hg9'.out.belowB hb9'.out (Nat.le_refl _) hs9 hgrow
       rw [← hpj'.out] at hown
       clear hgrow k0 k1 k2 k3
       have hown' := Lib.hid hown; have hbF' := Lib.hid hbF; clear hown hbF
       go_wp2
       go_roundw
       case rel => exact ⟨j + 1, by omega, by go_num, hown'.out, has'.out, hbF'.out⟩
       case measure => simp [intOf]; omega
    ·obtain rfl : j = N := by omega
     rw [hPe1'.out] at hg
     have hV := hyes1'.out hat
     have cI1 := cI'.out u13 wr hg.own.read
     rw [hV] at cI1
     have hbx := hB'.out.trans (hBx.mono hB'.out.size)
     obtain ⟨ao13, cap13, hu13, -⟩ := hg.own.read.form
     subst hu13
     clear hg hBx HX' hno' hPk1' hPe1' huX' hyes1' cI' hAs' hA0'
     have cI1' := Lib.hid cI1; have hbx' := Lib.hid hbx; clear cI1 hbx
     go_wp2_with fail
     refine (cI1'.out).mono ?_
     rintro e w6 ⟨r6, rfl, ho6, hB6⟩
     have hb6 := hbx'.out.trans (hB6.mono hbx'.out.size)
     have ho7 := OwnP.mono ho6 (hB := hbx'.out.size) (hE := Nat.le_refl _)
     obtain ⟨ao7, cap7, rfl, -⟩ := ho6.read.form
     clear ho6 hB6 cI1'
     have ho7' := Lib.hid ho7; have hb6' := Lib.hid hb6; clear ho7 hb6
     go_wp2
     go_ret2
     exact ⟨_, rfl, ho7'.out, hb6'.out⟩
set_option linter.unusedSimpArgs false in
set_option maxRecDepth 10000 in
set_option maxHeartbeats 4000000 in
theorem coPower_any (v : Value) (f : List Quad) (n : Nat) (w : World) (hv : QuadV w v f) (hmap : mapB f = true) (hn6 : n ≤ 6) :
  Calls Tryz.prog 50 #[v, .int .i64 n] w (RetOB OwnP (cmW f n) w) := by
 have hf := mapB_true hmap
 have cK := fun (k : Nat) (u : Value) (w' : World) (hB : Below w.heap.size w w') (hk : (cmW f k).2 = true) (hu : QuadV w' u (cmW f k).1) => coCompose_any v u f (cmW f k).1 w' (hv.below hB) hu hf (mapB_true (cmW_map f k hk))
 have hst : ∀ k, (cmW f k).2 = true → cmW f (k + 1) = cmR f (cmW f k).1 := fun k hk => by show (if (cmW f k).2 = true then _ else _) = _; rw [if_pos hk]
 have hno := fun k (hk : k < n) (hb : (cmW f (k + 1)).2 = false) => cmW_no (f := f) (show k + 1 ≤ n from hk) hb
 obtain ⟨V, hV⟩ : ∃ V, cmW f n = V := ⟨_, rfl⟩
 rw [hV] at hno ⊢
 have h00 : cmW f 0 = (cmId, true) := rfl
 have cI := fun w' => coSame_any w'
 obtain ⟨ao, cap, rfl, -⟩ := hv.form
 clear hmap hf hv
 generalize f.length = m at *
 have cK' := Lib.hid cK; have hst' := Lib.hid hst; have hno' := Lib.hid hno; have h00' := Lib.hid h00; have cI' := Lib.hid cI; have hn6' := Lib.hid hn6; have hV' := Lib.hid hV; clear cK hst hno h00 cI hn6 hV
 go_enter Tryz.func50, Tryz.ntmps50
 go_wp2_with fail
 refine (cI'.out w).mono ?_
 rintro e w2 ⟨v2, rfl, ho2, hB2⟩
 have ho3 : OwnP w2 w.heap.size w2.heap.size v2 (cmW f 0).1 := by rw [h00'.out]; exact ho2
 have hk0 : (cmW f 0).2 = true := by rw [h00'.out]
 obtain ⟨ao2, cap2, rfl, -⟩ := ho2.read.form
 clear ho2
 have hB2' := Lib.hid hB2; have ho3' := Lib.hid ho3; have hk0' := Lib.hid hk0; clear hB2 ho3 hk0
 go_wp2
 go_loopw [1, 6] (fun i o wr => ∃ k : Nat, k ≤ n ∧ i = .int .i64 ((n : Int) - k) ∧ OwnP wr w.heap.size wr.heap.size o (cmW f k).1 ∧ (cmW f k).2 = true ∧ Below w.heap.size w wr) (fun i _ _ => (intOf i).toNat)
 case atStart => exact ⟨0, Nat.zero_le _, by simp, ho3'.out, hk0'.out, hB2'.out⟩
 case round =>
  obtain ⟨k, hk, rfl, ho, hok, hB⟩ := hrel
  clear hB2' ho3' hk0'
  by_cases hlt : k < n
  ·have c5 := cK'.out k _ wr hB hok ho.read
   have hs1 := hst'.out k hok
   have hn1 := hno'.out k hlt
   rw [← hs1] at c5
   have hsz := hB.size
   have g1 : (0 : Int) < (n : Int) - (k : Int) := by omega
   have g2 : IntKind.i64.wrap ((n : Int) - (k : Int) - 1) = (n : Int) - ((k + 1 : Nat) : Int) := by rw [IntKind.wrap_i64]; have := hn6'.out; omega
   obtain ⟨⟨S, M⟩, hSM⟩ : ∃ r, cmW f (k + 1) = r := ⟨_, rfl⟩
   rw [hSM] at c5 hn1
   obtain ⟨ao6, cap6, hu6, -⟩ := ho.read.form
   subst hu6
   clear ho hs1 hok
   have c5' := Lib.hid c5; have hB' := Lib.hid hB; have hn1' := Lib.hid hn1; have hSM' := Lib.hid hSM; clear c5 hB hn1 hSM
   go_wp2_with fail
   refine (c5'.out).mono ?_
   rintro e w3 ⟨r, rfl, ho3, hB3⟩
   have hb3 := hB'.out.trans (hB3.mono hB'.out.size)
   obtain ⟨ao3, cap3, rfl, -⟩ := ho3.read.form
   cases M
   ·have hV2 := hn1'.out rfl
    subst hV2
    clear ho3 hB3 c5'
    have hb3' := Lib.hid hb3; clear hb3
    go_wp2
    go_ret2
    exact ⟨_, rfl, OwnP.nil _ _ _, hb3'.out⟩
   ·have ho4 := OwnP.mono ho3 (hB := hsz) (hE := Nat.le_refl _)
    have e1 : S = (cmW f (k + 1)).1 := by rw [hSM'.out]
    have e2 : (cmW f (k + 1)).2 = true := by rw [hSM'.out]
    have ho5 : OwnP w3 w.heap.size w3.heap.size (.slice ao3 S.length cap3) (cmW f (k + 1)).1 := by rw [← e1]; exact ho4
    clear ho3 hB3 c5' e1 ho4
    have hb3' := Lib.hid hb3; have ho5' := Lib.hid ho5; have e2' := Lib.hid e2; clear hb3 ho5 e2
    go_wp2
    go_roundw
    case rel => exact ⟨k + 1, by omega, rfl, ho5'.out, e2'.out, hb3'.out⟩
    case measure => simp [intOf]; omega
  ·obtain rfl : k = n := by omega
   have hVk := hV'.out
   have g1 : ¬ (0 : Int) < (k : Int) - (k : Int) := by omega
   rw [hVk] at ho hok
   obtain ⟨S, M⟩ := V
   simp only at hok ho
   subst hok
   obtain ⟨ao6, cap6, hu6, -⟩ := ho.read.form
   subst hu6
   clear hVk hV'
   have ho' := Lib.hid ho; have hB' := Lib.hid hB; clear ho hB
   go_wp2
   go_ret2
   exact ⟨_, rfl, ho'.out, hB'.out⟩
end Go.Proofs.YtfhhofecfllbfaaGreat

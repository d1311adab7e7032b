/- FnPartitions: for every input the law returns true, and the arguments read as before. No conditions. -/
import Derived.Test.YtnggopbehohjnaaGreatHelpL
import Derived.Test.YtnggopbehohjnaaGreatPtnLaw
import Derived.Test.YtnggopbehohjnaaGreatMerge
import Derived.Test.YtnggopbehohjnaaGreatWidthsOf
import Derived.Test.YtnggopbehohjnaaGreatSpecWidths
import Derived.Test.YtnggopbehohjnaaGreatIsPart
import Derived.Test.YtnggopbehohjnaaGreatMarkovS
import Derived.Test.YtnggopbehohjnaaGreatLiftC
import Derived.Deep.Cut
import Derived.Deep.CutRange
import Derived.Deep.CutBlock
namespace Go.Proofs.YtnggopbehohjnaaGreat
open Go.RowKit
set_option maxRecDepth 100000

theorem any_step {m : List (Int × Int)} {i : Nat} (h : i < m.length) (x : Int × Int) : ((m.take (i + 1)).any fun y => decide (x = y)) = (((m.take i).any fun y => decide (x = y)) || decide (x = nthR m i)) := by
  rw [take_nthR h, List.any_append]; simp
theorem any_in {m : List (Int × Int)} {x : Int × Int} (h : x ∈ m) : ((m.take m.length).any fun y => decide (x = y)) = true := by
  rw [List.take_length, List.any_eq_true]
  exact ⟨x, h, by simp⟩

set_option linter.unusedSimpArgs false in
set_option maxRecDepth 100000 in
set_option maxHeartbeats 12000000 in
theorem lawPartitions_main (ao0 : Option Addr) (n0 cap0 : Nat) (ao1 : Option Addr) (n1 cap1 : Nat) (w : World) (h0 : Hid (CodeV w (.slice ao0 n0 cap0) n0)) (h1 : Hid (CodeV w (.slice ao1 n1 cap1) n1)) (hl : n0 + n1 ≤ 1048576) :
    Calls Tryz.prog 6 #[.slice ao0 n0 cap0, .slice ao1 n1 cap1] w (Ret (.bool true) w) := by
  have cb := big_no ao0 n0 cap0 ao1 n1 cap1 w hl
  have cb' := Lib.hid cb
  clear cb
  go_enter Tryz.func6, Tryz.ntmps6
  go_wp2_with fail
  refine (cb'.out).mono ?_
  rintro e w_ ⟨rfl, rfl⟩
  go_wp2_with fail
  refine (DrawWidthsOf_any _ _ w h0.out).mono ?_
  rintro e w1 ⟨v1, xs, rfl, ⟨hr1, hl1, -⟩, hB1⟩
  obtain ⟨ao, cap, rfl, -⟩ := hr1.form
  have ci := fun w' (hB : Below w1.heap.size w1 w') => implWidthsOf_any _ xs w' (hr1.below hB) (show xs.length ≤ _ by omega)
  have cs := fun w' (hB : Below w1.heap.size w1 w') => specWidthsOf_any _ xs w' (hr1.below hB) (show xs.length ≤ _ by omega)
  have cI := fun w' (hB : Below w1.heap.size w1 w') => implIsPartition_any _ xs w' (hr1.below hB) (show xs.length ≤ _ by omega)
  obtain ⟨⟨l, ok⟩, hv1⟩ : ∃ r, WidthsOf_v xs = r := ⟨_, rfl⟩
  have hll : l.length ≤ 1099511627776 := by have := WidthsOf_len xs; rw [hv1] at this; exact this
  rw [hv1] at ci cs
  obtain ⟨n, hn⟩ : ∃ n, xs.length = n := ⟨_, rfl⟩
  rw [hn] at hr1 hl1 ci cs cI ⊢
  have ci' := Lib.hid ci
  have cs' := Lib.hid cs
  have cI' := Lib.hid cI
  have hv1' := Lib.hid hv1
  have hn' := Lib.hid hn
  have hr1' := Lib.hid hr1
  have hll' := Lib.hid hll
  clear ci cs cI hv1 hn hr1 hll
  go_wp2_with fail
  refine (ci'.out w1 (Below.refl _ _)).mono ?_
  rintro e w2 ⟨v2, rfl, ho2, hB2⟩
  go_wp2_with fail
  refine (cs'.out w2 hB2).mono ?_
  rintro e w3 ⟨v3, rfl, ho3, hB3⟩
  have hr2 := ho2.read.below hB3
  have hr3 := ho3.read
  have hr13 := hr1'.out.below (hB2.trans (hB3.mono hB2.size))
  have hB13 := hB2.trans (hB3.mono hB2.size)
  have hB03 := hB1.trans (hB13.mono hB1.size)
  obtain ⟨ao2, cap2, rfl, -⟩ := hr2.form
  obtain ⟨ao3, cap3, rfl, -⟩ := hr3.form
  obtain ⟨m, hm⟩ : ∃ m, l.length = m := ⟨_, rfl⟩
  rw [hm] at hr2 hr3 ⊢
  have cq := pSameRats_same _ _ l w3 hr2 hr3 hll'.out
  clear ho2 ho3 hB1 hB2 hB3 hr1' ci' cs'
  have hr2' := Lib.hid hr2
  have hr3' := Lib.hid hr3
  have hr13' := Lib.hid hr13
  have hB13' := Lib.hid hB13
  have hB03' := Lib.hid hB03
  have hm' := Lib.hid hm
  have cq' := Lib.hid cq
  clear hr2 hr3 hr13 hB13 hB03 hm cq
  go_upto_region 6 with fail
  go_cut [77] from 61 to 76 (fun s wx => s = .bool false ∧ Below w3.heap.size w3 wx)
  case first => as_aux_lemma =>
    cases ok
    · go_wp2_with fail
      refine (cq'.out).mono ?_
      rintro e w4 ⟨rfl, hB4⟩
      go_wp2_with fail
      go_meet
      exact ⟨rfl, hB4⟩
    · have hpb := (widths_ok hv1'.out).1
      have cI4 := fun w4 (hB4 : Below w3.heap.size w3 w4) => cI'.out w4 (hB13'.out.trans (hB4.mono hB13'.out.size))
      rw [show IsPartition_v xs = true from hpb] at cI4
      clear cI' hpb
      have cI4' := Lib.hid cI4
      clear cI4
      go_wp2_with fail
      refine (cq'.out).mono ?_
      rintro e w4 ⟨rfl, hB4⟩
      go_wp2_with fail
      refine (cI4'.out w4 hB4).mono ?_
      rintro e w5 ⟨rfl, hB5⟩
      have hB6 := hB4.trans (hB5.mono hB4.size)
      clear hB4 hB5
      have hB6' := Lib.hid hB6
      clear hB6
      go_wp2_with fail
      go_meet
      exact ⟨rfl, hB6'.out⟩
  case rest => as_aux_lemma =>
    obtain ⟨rfl, hB4⟩ := hcut
    obtain ⟨w4, rfl⟩ : ∃ wo : World, wo = wc := ⟨_, rfl⟩
    clear cI' cq' hr2'
    have hB4' := Lib.hid hB4
    clear hB4
    go_upto_if 78 with fail
    go_cut [] from 79 to 107 (fun wx => Below w3.heap.size w3 wx)
    case first => as_aux_lemma =>
      cases ok
      · go_wp2_with fail
        go_meet
        exact hB4'.out
      · obtain ⟨hpb, hlm, hadd⟩ := widths_ok hv1'.out
        have hpl := partB_len hpb
        have hgd := partB_good hpb
        rw [hn'.out] at hpl hlm hadd hgd
        rw [hm'.out] at hlm
        obtain rfl : n = m + 1 := by omega
        simp only [Nat.add_sub_cancel] at hadd
        obtain ⟨_, _, e, -, -, H1⟩ := (hr13'.out.below hB4'.out).form
        obtain ⟨rfl, -, rfl⟩ := Value.slice.inj e
        rw [hn'.out] at H1
        obtain ⟨bx, ox, rfl, z0, z1⟩ := H1 0 (by omega)
        obtain ⟨_, _, e3, -, -, H3⟩ := (hr3'.out.below hB4'.out).form
        obtain ⟨rfl, -, rfl⟩ := Value.slice.inj e3
        rw [hm'.out] at H3
        have hX : ∀ w', Below w4.heap.size w4 w' → ∀ i, i < m + 1 → w'.cell? ⟨bx, ox + i * 2, none⟩ = some (.int .i64 (nthR xs i).1) ∧ w'.cell? ⟨bx, ox + i * 2 + 1, none⟩ = some (.int .i64 (nthR xs i).2) := fun w' hB i hi => by
          obtain ⟨_, _, e, c0, c1⟩ := H1 i hi
          cases e
          exact ⟨bkeep hB c0, bkeep hB c1⟩
        obtain ⟨⟨p0, p1⟩, hp⟩ : ∃ p, nthR xs 0 = p := ⟨_, rfl⟩
        rw [hp] at z0 z1
        simp only [Nat.zero_mul, Nat.add_zero] at z0 z1
        obtain ⟨w5, hw5⟩ : ∃ W, w4.alloc (.cells #[.int .i64 p0, .int .i64 p1] 50) = W := ⟨_, rfl⟩
        have hB45 : Below w4.heap.size w4 w5 := by rw [← hw5]; exact (Below.refl _ _).alloc (Nat.le_refl _) _
        have hx5 : BoxO w5 w4.heap.size (nthR xs 0).1 (nthR xs 0).2 := by rw [← hw5, hp]; exact BoxO.new _ _ _ _
        clear H1 e e3 hlm hpl
        have hX' := Lib.hid hX
        have H3' := Lib.hid H3
        have hadd' := Lib.hid hadd
        have hgd' := Lib.hid hgd
        have hp' := Lib.hid hp
        have hw5' := Lib.hid hw5
        have hx5' := Lib.hid hx5
        have hB45' := Lib.hid hB45
        clear hX H3 hadd hgd hp hw5 hx5 hB45
        go_wp2_with fail
        rw [hw5'.out]
        clear z0 z1
        go_loopw [84] (fun i wr => ∃ k : Nat, k ≤ m ∧ i = .int .i64 k ∧ BoxO wr w4.heap.size (nthR xs k).1 (nthR xs k).2 ∧ Below w4.heap.size w4 wr) (fun i _ => m - (intOf i).toNat)
        case atStart => exact ⟨0, Nat.zero_le _, rfl, hx5'.out, hB45'.out⟩
        case round => as_aux_lemma =>
          clear hx5' hB45' hw5'
          obtain ⟨k, hk, rfl, hx, hB⟩ := hrel
          obtain ⟨w6, rfl⟩ : ∃ wo : World, wo = wr := ⟨_, rfl⟩
          by_cases hlt : k < m
          · obtain ⟨b3, o3, rfl, c0, c1⟩ := H3'.out k hlt
            replace c0 := bkeep hB c0
            replace c1 := bkeep hB c1
            obtain ⟨ha, hgl⟩ := hadd'.out k (by omega)
            have cA := AddRats_any (nthR xs k) (nthR l k) (w6.alloc (.cells #[.int .i64 (nthR l k).1, .int .i64 (nthR l k).2] 50)) (hgd'.out k (by omega)) hgl
            rw [ha] at cA
            have hXk := fun w' hB => hX'.out w' hB (k + 1) (by omega)
            obtain ⟨⟨a0, a1⟩, hA⟩ : ∃ a, nthR xs k = a := ⟨_, rfl⟩
            obtain ⟨⟨d0, d1⟩, hD⟩ : ∃ d, nthR l k = d := ⟨_, rfl⟩
            obtain ⟨⟨e0, e1⟩, hE⟩ : ∃ e, nthR xs (k + 1) = e := ⟨_, rfl⟩
            rw [hA] at hx cA
            rw [hD] at c0 c1 cA
            rw [hE] at cA hXk
            simp only at c0 c1 cA hXk hx
            obtain ⟨w7, hw7⟩ : ∃ W, w6.alloc (.cells #[.int .i64 d0, .int .i64 d1] 50) = W := ⟨_, rfl⟩
            have hB67 : Below w6.heap.size w6 w7 := by rw [← hw7]; exact (Below.refl _ _).alloc (Nat.le_refl _) _
            rw [hw7] at cA
            have i0 := hx.c0
            have i1 := hx.c1
            have hb7 := hB.trans (hB67.mono hB.size)
            have hs4 : w4.heap.size < w6.heap.size := hx.c0 |> World.block_lt_of_cell? w6 _
            obtain ⟨j, hj⟩ : ∃ j, k + 1 = j := ⟨_, rfl⟩
            have g1 : IntKind.i64.wrap ((k : Int) + 1) = (j : Int) := by rw [IntKind.wrap_i64]; omega
            have g2 : (0 : Int) ≤ (j : Int) := by omega
            have g3 : (j : Int) < ((m + 1 : Nat) : Int) := by omega
            have g7 : (j : Int) < (m : Int) + 1 := by omega
            have g4 : j < m + 1 := by omega
            have g5 : (0 : Int) ≤ (k : Int) := by omega
            have g6 : (k : Int) < (m : Int) := by omega
            rw [hj] at hXk
            clear ha hgl
            have cA' := Lib.hid cA
            have hw7' := Lib.hid hw7
            have hx' := Lib.hid hx
            have hXk' := Lib.hid hXk
            have hb7' := Lib.hid hb7
            have hA' := Lib.hid hA
            have hD' := Lib.hid hD
            have hE' := Lib.hid hE
            have hj' := Lib.hid hj
            have hB' := Lib.hid hB
            clear cA hw7 hx hXk hb7 hA hD hE hj hB
            go_wp2_with fail
            rw [hw7'.out]
            clear c0 c1
            go_wp2_with fail
            refine (cA'.out).mono ?_
            rintro e w8 ⟨rfl, hB8⟩
            have hx8 := (hx'.out.below hB67).below hB8
            have hb8 := hb7'.out.trans (hB8.mono hb7'.out.size)
            obtain ⟨w9, hw9⟩ : ∃ W, w8.alloc (.cells #[.int .i64 e0, .int .i64 e1] 50) = W := ⟨_, rfl⟩
            have hB89 : Below w8.heap.size w8 w9 := by rw [← hw9]; exact (Below.refl _ _).alloc (Nat.le_refl _) _
            have hE9 : BoxO w9 w8.heap.size e0 e1 := by rw [← hw9]; exact BoxO.new _ _ _ _
            have hx9 := hx8.below hB89
            have hb9 := hb8.trans (hB89.mono hb8.size)
            obtain ⟨j0, j1, -, -⟩ := hE9
            obtain ⟨y0, y1⟩ := hXk'.out w9 hb9
            have hdA : Below w9.heap.size w9 w9.drew := (Below.refl _ _).drew
            have at' : ∀ w', Below w9.heap.size w9 w' → (w'.cell? ⟨w8.heap.size, 0, none⟩ = some (.int .i64 e0) ∧ w'.cell? ⟨w8.heap.size, 1, none⟩ = some (.int .i64 e1)) ∧ w'.cell? ⟨bx, ox + j * 2, none⟩ = some (.int .i64 e0) ∧ w'.cell? ⟨bx, ox + j * 2 + 1, none⟩ = some (.int .i64 e1) := fun w' h => ⟨⟨bkeep h j0, bkeep h j1⟩, bkeep h y0, bkeep h y1⟩
            clear y0 y1 i0 i1 hB8 hB89 hx8 hb8 hx'
            have hw9' := Lib.hid hw9
            have at'' := Lib.hid at'
            have hx9' := Lib.hid hx9
            have hb9' := Lib.hid hb9
            clear hw9 at' hx9 hb9
            go_wp2_with fail
            rw [hw9'.out]
            go_wp2_with fail
            refine wp_region_held_drew (S := (fun w' => (w'.cell? ⟨w8.heap.size, 0, none⟩ = some (.int .i64 e0) ∧ w'.cell? ⟨w8.heap.size, 1, none⟩ = some (.int .i64 e1)) ∧ w'.cell? ⟨bx, ox + j * 2, none⟩ = some (.int .i64 e0) ∧ w'.cell? ⟨bx, ox + j * 2 + 1, none⟩ = some (.int .i64 e1))) (by kernel_rfl) (by (try dsimp only); (exact at''.out _ hdA)) (fun hHeld => ?_)
            refine ly_q 0 (v := ?_) hHeld ?_
            try simp only [Act.put, lyA, lyB, lyC]
            refine ly_q 1 (v := ?_) hHeld ?_
            try simp only [Act.put, lyA, lyB, lyC]
            refine ly_q 2 (v := ?_) hHeld ?_
            try simp only [Act.put, lyA, lyB, lyC]
            refine ly_q 3 (v := ?_) hHeld ?_
            try simp only [Act.put, lyA, lyB, lyC]
            refine ly_q 4 (v := ?_) hHeld ?_
            try simp only [Act.put, lyA, lyB, lyC]
            refine ly_q 5 (v := ?_) hHeld ?_
            try simp only [Act.put, lyA, lyB, lyC]
            refine ly_q 6 (v := ?_) hHeld ?_
            try simp only [Act.put, lyA, lyB, lyC]
            refine ly_q 7 (v := ?_) hHeld ?_
            try simp only [Act.put, lyA, lyB, lyC]
            refine ly_q 8 (v := ?_) hHeld ?_
            try simp only [Act.put, lyA, lyB, lyC]
            refine ly_q 9 (v := ?_) hHeld ?_
            try simp only [Act.put, lyA, lyB, lyC]
            refine ly_q 10 (v := ?_) hHeld ?_
            try simp only [Act.put, lyA, lyB, lyC]
            refine wpAnyH_done (by kernel_rfl) ?_ _
            obtain ⟨i0, i1, i2, i3⟩ := hx9'.out
            have hput := hx9'.out.put e0 e1
            have hst : ∃ k' : Nat, k' ≤ m ∧ Value.int .i64 j = .int .i64 k' ∧ BoxO (((w9.setCell ⟨w4.heap.size, 0, none⟩ (.int .i64 e0)).setCell ⟨w4.heap.size, 1, none⟩ (.int .i64 e1)).drew) w4.heap.size (nthR xs k').1 (nthR xs k').2 ∧ Below w4.heap.size w4 (((w9.setCell ⟨w4.heap.size, 0, none⟩ (.int .i64 e0)).setCell ⟨w4.heap.size, 1, none⟩ (.int .i64 e1)).drew) := ⟨j, by omega, rfl, by rw [← hj'.out, hE'.out]; exact ⟨hput.c0, hput.c1, hput.f0, hput.f1⟩, ((hb9'.out.setCell (p := ⟨w4.heap.size, 0, none⟩) (Nat.le_refl _) _).setCell (p := ⟨w4.heap.size, 1, none⟩) (Nat.le_refl _) _).drew⟩
            clear hput hHeld
            have hkj : m - j < m - k := by have := hj'.out; omega
            have hst' := Lib.hid hst
            clear hst
            go_wp2_with fail
            go_roundw
            case rel => exact hst'.out
            case measure => simpa [intOf] using hkj
          · obtain rfl : k = m := by omega
            have hB' := hB4'.out.trans (hB.mono hB4'.out.size)
            clear hB hx
            have hB'' := Lib.hid hB'
            clear hB'
            go_wp2_with fail
            go_meet
            exact hB''.out
    case rest => as_aux_lemma =>
      obtain ⟨w5, rfl⟩ : ∃ wo : World, wo = wc := ⟨_, rfl⟩
      have hB05 := hB03'.out.trans (hcut.mono hB03'.out.size)
      clear hcut hB4' hr3' hr13' hB03' hB13' hv1' hn' hm' hll'
      have cD := DrawMergePartitions_any _ _ w5 (h1.out.below hB05)
      have cD' := Lib.hid cD
      have hB05' := Lib.hid hB05
      clear cD hB05
      go_wp2_with fail
      refine (cD'.out).mono ?_
      rintro e w6 ⟨va, a, vb, b, rfl, ⟨hra, hla, -⟩, ⟨hrb, hlb, -⟩, hB6⟩
      obtain ⟨aoa, capa, rfl, -⟩ := hra.form
      obtain ⟨aob, capb, rfl, -⟩ := hrb.form
      have ci := fun w' (hB : Below w6.heap.size w6 w') => implMergePartitions_any _ a _ b w' (hra.below hB) (show a.length ≤ _ by omega) (hrb.below hB) (show b.length ≤ _ by omega)
      have cs := fun w' (hB : Below w6.heap.size w6 w') => specMergePartitions_any _ a _ b w' (hra.below hB) (show a.length ≤ _ by omega) (hrb.below hB) (show b.length ≤ _ by omega)
      have cj := fun w' (hB : Below w6.heap.size w6 w') => implMergePartitions_any _ b _ a w' (hrb.below hB) (show b.length ≤ _ by omega) (hra.below hB) (show a.length ≤ _ by omega)
      have hcm := Merge_comm b a
      obtain ⟨⟨mm, one⟩, hv2⟩ : ∃ r, MergePartitions_v a b = r := ⟨_, rfl⟩
      rw [hcm, hv2] at cj
      rw [hv2] at ci cs
      have hml : mm.length ≤ 1099511627776 := by have := MergePartitions_len a b; rw [hv2] at this; exact this
      have hB06 := hB05'.out.trans (hB6.mono hB05'.out.size)
      obtain ⟨na, hna⟩ : ∃ na, a.length = na := ⟨_, rfl⟩
      obtain ⟨nb, hnb⟩ : ∃ nb, b.length = nb := ⟨_, rfl⟩
      rw [hna] at hra hla ci cs cj ⊢
      rw [hnb] at hrb hlb ci cs cj ⊢
      clear hB6 hcm hB05' cD'
      have ci' := Lib.hid ci
      have cs' := Lib.hid cs
      have cj' := Lib.hid cj
      have hra' := Lib.hid hra
      have hrb' := Lib.hid hrb
      have hv2' := Lib.hid hv2
      have hml' := Lib.hid hml
      have hna' := Lib.hid hna
      have hnb' := Lib.hid hnb
      have hB06' := Lib.hid hB06
      clear ci cs cj hra hrb hv2 hml hna hnb hB06
      go_wp2_with fail
      refine (ci'.out w6 (Below.refl _ _)).mono ?_
      rintro e w7 ⟨v7, rfl, ho7, hB7⟩
      go_wp2_with fail
      refine (cs'.out w7 hB7).mono ?_
      rintro e w8 ⟨v8, rfl, ho8, hB8⟩
      have hr7 := ho7.read.below hB8
      have hr8 := ho8.read
      have hB68 := hB7.trans (hB8.mono hB7.size)
      obtain ⟨ao7, cap7, rfl, -⟩ := hr7.form
      obtain ⟨ao8, cap8, rfl, -⟩ := hr8.form
      obtain ⟨M, hM⟩ : ∃ M, mm.length = M := ⟨_, rfl⟩
      rw [hM] at hr7 hr8 ⊢
      have cq := pSameRats_same _ _ mm w8 hr7 hr8 hml'.out
      clear ho7 ho8 hB7 hB8 ci' cs'
      have hr7' := Lib.hid hr7
      have hr8' := Lib.hid hr8
      have hB68' := Lib.hid hB68
      have hM' := Lib.hid hM
      have cq' := Lib.hid cq
      clear hr7 hr8 hB68 hM cq
      go_upto_region 21 with fail
      go_cut [133] from 125 to 132 (fun s wx => s = .bool false ∧ Below w8.heap.size w8 wx)
      case first => as_aux_lemma =>
        go_wp2_with fail
        refine (cq'.out).mono ?_
        rintro e w9 ⟨rfl, hB9⟩
        have hB9' := Lib.hid hB9
        clear hB9
        cases one
        all_goals
          go_wp2_with fail
          go_meet
          exact ⟨rfl, hB9'.out⟩
      case rest => as_aux_lemma =>
        obtain ⟨rfl, hB9⟩ := hcut
        obtain ⟨w9, rfl⟩ : ∃ wo : World, wo = wc := ⟨_, rfl⟩
        clear cq' hr7'
        have hB69 := hB68'.out.trans (hB9.mono hB68'.out.size)
        have hB9' := Lib.hid hB9
        have hB69' := Lib.hid hB69
        clear hB9 hB69
        go_upto_if 134 with fail
        go_cut [] from 135 to 174 (fun wx => Below w8.heap.size w8 wx)
        case first => as_aux_lemma =>
          cases one
          · go_wp2_with fail
            go_meet
            exact hB9'.out
          · have hin := merge_has hv2'.out
            go_wp2_with fail
            refine (cj'.out w9 hB69'.out).mono ?_
            rintro e wA ⟨vz, rfl, hoz, hBA⟩
            have hr8A := (hr8'.out.below hB9'.out).below hBA
            have hrz := hoz.read
            obtain ⟨aoz, capz, rfl, -⟩ := hrz.form
            rw [hM'.out] at hrz ⊢
            have cq2 := pSameRats_same _ _ mm wA hrz hr8A hml'.out
            have hbA := hB9'.out.trans (hBA.mono hB9'.out.size)
            have hb6A := hB69'.out.trans (hBA.mono hB69'.out.size)
            clear hoz hrz hBA
            have cq2' := Lib.hid cq2
            have hr8A' := Lib.hid hr8A
            have hbA' := Lib.hid hbA
            have hb6A' := Lib.hid hb6A
            have hin' := Lib.hid hin
            clear cq2 hr8A hbA hb6A hin
            go_wp2_with fail
            refine (cq2'.out).mono ?_
            rintro e wB ⟨rfl, hBB⟩
            have hbB := hbA'.out.trans (hBB.mono hbA'.out.size)
            have hb6B := hb6A'.out.trans (hBB.mono hb6A'.out.size)
            have hr8B := hr8A'.out.below hBB
            have hraB := (hra'.out.below hb6B).below ((Below.refl wB.heap.size wB).alloc (Nat.le_refl _) (.cells #[] 50))
            have hgE := GrowR.empty (w := wB) (B := wB.heap.size) (Nat.le_refl _)
            have hbE : Below wB.heap.size wB (wB.alloc (.cells #[] 50)) := (Below.refl _ _).alloc (Nat.le_refl _) _
            clear hBB
            have hbB' := Lib.hid hbB
            have hb6B' := Lib.hid hb6B
            have hr8B' := Lib.hid hr8B
            clear hbB hb6B hr8B
            go_wp2_with (at_builtin; refine wpList_append_rats rfl _ _ rfl wB.heap.size _ _ [] a rfl rfl hgE hraB (by rw [hna'.out]; simp only [List.length_nil]; omega) (by simp) ?_)
            intro vc wC hgC hgrC
            have hbC := hgE.belowB hbE (Nat.le_refl _) (by simp) hgrC
            have hrbC := (hrb'.out.below hb6B'.out).below hbC
            clear hgE hbE hraB hgrC
            replace hgC : GrowR wC wB.heap.size vc a := hgC
            obtain ⟨aoc, capc, rfl⟩ : ∃ ao cap, vc = .slice ao na cap := by
              obtain ⟨ao, cap, e, _⟩ := hgC.read.form
              rw [hna'.out] at e
              exact ⟨ao, cap, e⟩
            have hbC' := Lib.hid hbC
            clear hbC
            go_wp2_with (at_builtin; refine wpList_append_rats rfl _ _ rfl wB.heap.size (.slice aoc na capc) (.slice aob nb capb) a b rfl rfl hgC hrbC (by rw [hna'.out, hnb'.out]; omega) hbC'.out.size ?_)
            intro vd wD hgD hgrD
            have hbD := hgC.belowB hbC'.out (Nat.le_refl _) hbC'.out.size hgrD
            have hrD := hgD.read
            have hr8D := hr8B'.out.below hbD
            have hb8D := hbB'.out.trans (hbD.mono hbB'.out.size)
            clear hgC hgrD hgD hrbC
            obtain ⟨aod, capd, rfl, -, -, HD⟩ := hrD.form
            obtain ⟨_, _, e8, -, -, H8⟩ := hr8D.form
            obtain ⟨rfl, -, rfl⟩ := Value.slice.inj e8
            obtain ⟨K, hK⟩ : ∃ K, (a ++ b).length = K := ⟨_, rfl⟩
            have hKl : K ≤ 24 := by rw [← hK, List.length_append, hna'.out, hnb'.out]; omega
            rw [hK] at HD ⊢
            rw [hM'.out] at H8
            have hM9 : M ≤ 9 := by
              have := merge_part_ok hv2'.out
              rw [← hM'.out]; exact this.2.2
            clear hrD hr8D e8 hbD hbC'
            have HD' := Lib.hid HD
            have H8' := Lib.hid H8
            have hK' := Lib.hid hK
            have hb8D' := Lib.hid hb8D
            clear HD H8 hK hb8D
            go_wp2_with fail
            go_loopw [155] (fun i wr => ∃ k : Nat, k ≤ K ∧ i = .int .i64 k ∧ Below wD.heap.size wD wr) (fun i _ => K - (intOf i).toNat)
            case atStart => exact ⟨0, Nat.zero_le _, rfl, Below.refl _ _⟩
            case round => as_aux_lemma =>
              obtain ⟨k, hk, rfl, hB⟩ := hrel
              obtain ⟨wE, rfl⟩ : ∃ wo : World, wo = wr := ⟨_, rfl⟩
              by_cases hlt : k < K
              · obtain ⟨bd, od, rfl, c0, c1⟩ := HD'.out k hlt
                replace c0 := bkeep hB c0
                replace c1 := bkeep hB c1
                have hany := any_in (hin'.out (nthR (a ++ b) k) (by rw [nthR_eq (by rw [hK'.out]; exact hlt)]; exact List.getElem_mem _))
                have hstp := fun i (h : i < M) => any_step (m := mm) (i := i) (by rw [hM'.out]; exact h) (nthR (a ++ b) k)
                rw [hM'.out] at hany
                obtain ⟨⟨x0, x1⟩, hx⟩ : ∃ x, nthR (a ++ b) k = x := ⟨_, rfl⟩
                rw [hx] at c0 c1 hany hstp
                simp only at c0 c1
                obtain ⟨F, hF⟩ : ∃ F : Nat → Bool, ∀ i, ((mm.take i).any fun y => decide ((x0, x1) = y)) = F i := ⟨_, fun _ => rfl⟩
                simp only [hF] at hany hstp
                have hF0 : F 0 = false := by rw [← hF]; rfl
                obtain ⟨wF, hwF⟩ : ∃ W, wE.alloc (.cells #[.int .i64 x0, .int .i64 x1] 50) = W := ⟨_, rfl⟩
                have hBEF : Below wE.heap.size wE wF := by rw [← hwF]; exact (Below.refl _ _).alloc (Nat.le_refl _) _
                have hXF : BoxO wF wE.heap.size x0 x1 := by rw [← hwF]; exact BoxO.new _ _ _ _
                have hbF := hB.trans (hBEF.mono hB.size)
                have q1 : (0 : Int) ≤ (k : Int) := by omega
                have q2 : (k : Int) < (K : Int) := by omega
                clear hF hB hBEF
                have hwF' := Lib.hid hwF
                have hXF' := Lib.hid hXF
                have hbF' := Lib.hid hbF
                have hany' := Lib.hid hany
                have hstp' := Lib.hid hstp
                have hF0' := Lib.hid hF0
                have hx' := Lib.hid hx
                clear hwF hXF hbF hany hstp hF0 hx
                go_wp2_with fail
                rw [hwF'.out]
                clear c0 c1
                go_wp2_with fail
                go_loopw [25, 161] (fun f i wr => ∃ j : Nat, j ≤ M ∧ i = .int .i64 j ∧ f = .bool (F j) ∧ Below wF.heap.size wF wr) (fun _ i _ => M - (intOf i).toNat)
                case atStart => exact ⟨0, Nat.zero_le _, rfl, by rw [hF0'.out], Below.refl _ _⟩
                case round => as_aux_lemma =>
                  obtain ⟨j, hj, rfl, rfl, hBi⟩ := hrel
                  obtain ⟨wG, rfl⟩ : ∃ wo : World, wo = wr := ⟨_, rfl⟩
                  by_cases hlt2 : j < M
                  · obtain ⟨b8, o8, rfl, d0, d1⟩ := H8'.out j hlt2
                    replace d0 := bkeep (hbF'.out.trans (hBi.mono hbF'.out.size)) d0
                    replace d1 := bkeep (hbF'.out.trans (hBi.mono hbF'.out.size)) d1
                    have hst1 := hstp'.out j hlt2
                    obtain ⟨⟨y0, y1⟩, hy⟩ : ∃ y, nthR mm j = y := ⟨_, rfl⟩
                    rw [hy] at d0 d1 hst1
                    simp only at d0 d1
                    obtain ⟨f0, f1, -, -⟩ := hXF'.out.below hBi
                    obtain ⟨wH, hwH⟩ : ∃ W, wG.alloc (.cells #[.int .i64 y0, .int .i64 y1] 50) = W := ⟨_, rfl⟩
                    have hBGH : Below wG.heap.size wG wH := by rw [← hwH]; exact (Below.refl _ _).alloc (Nat.le_refl _) _
                    have hsEG : wE.heap.size < wG.heap.size := World.block_lt_of_cell? wG _ f0
                    have hbH := hBi.trans (hBGH.mono hBi.size)
                    have q3 : (0 : Int) ≤ (j : Int) := by omega
                    have q4 : (j : Int) < (M : Int) := by omega
                    obtain ⟨FJ, hFJ⟩ : ∃ FJ, F j = FJ := ⟨_, rfl⟩
                    rw [hFJ] at hst1 ⊢
                    clear hBi hBGH
                    have hwH' := Lib.hid hwH
                    have hbH' := Lib.hid hbH
                    have hst1' := Lib.hid hst1
                    have hy' := Lib.hid hy
                    have hFJ' := Lib.hid hFJ
                    clear hwH hbH hst1 hy hFJ
                    cases FJ
                    · by_cases e1 : x0 = y0
                      · by_cases e2 : x1 = y1
                        · have hs2 := hst1'.out
                          rw [decide_eq_true (by rw [e1, e2])] at hs2
                          subst e1
                          subst e2
                          have hs2' := Lib.hid hs2
                          clear hs2
                          go_wp2_with fail
                          rw [hwH'.out]
                          clear d0 d1
                          go_wp2_with fail
                          go_roundw
                          case rel => exact ⟨j + 1, by omega, by go_num, by rw [hs2'.out]; rfl, hbH'.out⟩
                          case measure => simp [intOf]; omega
                        · have hs2 := hst1'.out
                          rw [decide_eq_false (fun e => e2 (Prod.mk.inj e).2)] at hs2
                          have e3 : ¬ y1 = x1 := fun e => e2 e.symm
                          subst e1
                          have hs2' := Lib.hid hs2
                          clear hs2
                          go_wp2_with fail
                          rw [hwH'.out]
                          clear d0 d1
                          go_wp2_with fail
                          go_roundw
                          case rel => exact ⟨j + 1, by omega, by go_num, by rw [hs2'.out]; rfl, hbH'.out⟩
                          case measure => simp [intOf]; omega
                      · have hs2 := hst1'.out
                        rw [decide_eq_false (fun e => e1 (Prod.mk.inj e).1)] at hs2
                        have e3 : ¬ y0 = x0 := fun e => e1 e.symm
                        have hs2' := Lib.hid hs2
                        clear hs2
                        go_wp2_with fail
                        rw [hwH'.out]
                        clear d0 d1
                        go_wp2_with fail
                        go_roundw
                        case rel => exact ⟨j + 1, by omega, by go_num, by rw [hs2'.out]; rfl, hbH'.out⟩
                        case measure => simp [intOf]; omega
                    · have hs2 := hst1'.out
                      rw [Bool.true_or] at hs2
                      have hs2' := Lib.hid hs2
                      clear hs2
                      go_wp2_with fail
                      rw [hwH'.out]
                      clear d0 d1
                      go_wp2_with fail
                      go_roundw
                      case rel => exact ⟨j + 1, by omega, by go_num, by rw [hs2'.out], hbH'.out⟩
                      case measure => simp [intOf]; omega
                  · obtain rfl : j = M := by omega
                    have hbE := hbF'.out.trans (hBi.mono hbF'.out.size)
                    rw [hany'.out]
                    clear hBi
                    have hbE' := Lib.hid hbE
                    clear hbE
                    go_wp2_with fail
                    go_roundw
                    case rel => exact ⟨k + 1, by omega, by go_num, hbE'.out⟩
                    case measure => simp [intOf]; omega
              · obtain rfl : k = K := by omega
                have hbZ := hb8D'.out.trans (hB.mono hb8D'.out.size)
                clear hB
                have hbZ' := Lib.hid hbZ
                clear hbZ
                go_wp2_with fail
                go_meet
                exact hbZ'.out
        case rest => as_aux_lemma =>
          obtain ⟨w10, rfl⟩ : ∃ wo : World, wo = wc := ⟨_, rfl⟩
          have hB010 := hB06'.out.trans ((hB68'.out.trans (hcut.mono hB68'.out.size)).mono hB06'.out.size)
          clear hcut hB9' hB69' hr8' cj' hra' hrb' hv2' hml' hna' hnb' hM' hB68' hB06'
          have cD := DrawStatesOf_any _ _ w10 (h1.out.below hB010)
          have cD' := Lib.hid cD
          have hB010' := Lib.hid hB010
          clear cD hB010
          go_wp2_with fail
          refine (cD'.out).mono ?_
          rintro e w11 ⟨vu, u, ⟨x0, x1⟩, rfl, ⟨hru, hlu, -⟩, hix, hB11⟩
          obtain ⟨aou, capu, rfl, -⟩ := hru.form
          obtain ⟨nu, hnu⟩ : ∃ nu, u.length = nu := ⟨_, rfl⟩
          obtain ⟨w12, hw12⟩ : ∃ W, w11.alloc (.cells #[.int .i64 x0, .int .i64 x1] 50) = W := ⟨_, rfl⟩
          have hB1112 : Below w11.heap.size w11 w12 := by rw [← hw12]; exact (Below.refl _ _).alloc (Nat.le_refl _) _
          have hX12 : BoxO w12 w11.heap.size x0 x1 := by rw [← hw12]; exact BoxO.new _ _ _ _
          have hru12 := hru.below hB1112
          have ci := fun w' (hB : Below w12.heap.size w12 w') => implStatesOf_any _ u (x0, x1) w' (hru12.below hB) (show u.length ≤ _ by omega) hix
          have cs := fun w' (hB : Below w12.heap.size w12 w') => specStatesOf_any _ u (x0, x1) w' (hru12.below hB) (show u.length ≤ _ by omega) hix
          obtain ⟨⟨ss, three⟩, hv3⟩ : ∃ r, StatesOf_v u (x0, x1) = r := ⟨_, rfl⟩
          rw [hv3] at ci cs
          have hsl : ss.length ≤ 1099511627776 := by have := StatesOf_len u (x0, x1); rw [hv3] at this; exact this
          rw [hnu] at hru12 hlu ci cs ⊢
          have hB012 := hB010'.out.trans ((hB11.trans (hB1112.mono hB11.size)).mono hB010'.out.size)
          obtain ⟨e0, e1, -, -⟩ := hX12
          clear hB11 hB1112 hru hB010' cD'
          have ci' := Lib.hid ci
          have cs' := Lib.hid cs
          have hru12' := Lib.hid hru12
          have hv3' := Lib.hid hv3
          have hsl' := Lib.hid hsl
          have hnu' := Lib.hid hnu
          have hw12' := Lib.hid hw12
          have hB012' := Lib.hid hB012
          clear ci cs hru12 hv3 hsl hnu hw12 hB012
          go_wp2_with fail
          rw [hw12'.out]
          go_wp2_with fail
          refine (ci'.out w12 (Below.refl _ _)).mono ?_
          rintro e w13 ⟨v13, rfl, ho13, hB13⟩
          replace e0 := bkeep hB13 e0
          replace e1 := bkeep hB13 e1
          go_wp2_with fail
          refine (cs'.out w13 hB13).mono ?_
          rintro e w14 ⟨v14, rfl, ho14, hB14⟩
          replace e0 := bkeep hB14 e0
          replace e1 := bkeep hB14 e1
          have hr13 := ho13.read.below hB14
          have hr14 := ho14.read
          have hB1214 := hB13.trans (hB14.mono hB13.size)
          obtain ⟨ao13, cap13, rfl⟩ : ∃ ao cap, v13 = .slice ao ss.length cap := by
            obtain ⟨ao, cap, e, _⟩ := hr13
            exact ⟨ao, cap, e⟩
          obtain ⟨ao14, cap14, rfl⟩ : ∃ ao cap, v14 = .slice ao ss.length cap := by
            obtain ⟨ao, cap, e, _⟩ := hr14
            exact ⟨ao, cap, e⟩
          obtain ⟨S, hS⟩ : ∃ S, ss.length = S := ⟨_, rfl⟩
          rw [hS] at hr13 hr14 ⊢
          have cq := sameInts_same _ _ ss w14 hr13 hr14 hsl'.out
          clear ho13 ho14 hB13 hB14 ci' cs' hr13
          have hr14' := Lib.hid hr14
          have hB1214' := Lib.hid hB1214
          have hS' := Lib.hid hS
          have cq' := Lib.hid cq
          clear hr14 hB1214 hS cq
          go_upto_region 42 with fail
          go_cut [200] from 192 to 199 (fun s wx => s = .bool false ∧ Below w14.heap.size w14 wx)
          case first => as_aux_lemma =>
            go_wp2_with fail
            refine (cq'.out).mono ?_
            rintro e w15 ⟨rfl, hB15⟩
            have hB15' := Lib.hid hB15
            clear hB15
            cases three
            all_goals
              go_wp2_with fail
              go_meet
              exact ⟨rfl, hB15'.out⟩
          case rest => as_aux_lemma =>
            obtain ⟨rfl, hB15⟩ := hcut
            obtain ⟨w15, rfl⟩ : ∃ wo : World, wo = wc := ⟨_, rfl⟩
            replace e0 := bkeep hB15 e0
            replace e1 := bkeep hB15 e1
            clear cq'
            have hB15' := Lib.hid hB15
            clear hB15
            go_upto_if 201 with fail
            go_cut [] from 202 to 229 (fun wx => Below w14.heap.size w14 wx)
            case first => as_aux_lemma =>
              cases three
              · go_wp2_with fail
                go_meet
                exact hB15'.out
              · obtain ⟨hpu, hxu, hs1, hs2, hst⟩ := states_are hv3'.out
                have hgu := partB_bd hpu
                have hbx : BdR x0 x1 := unitR_bd hxu
                rw [hS'.out] at hs1 hs2 hst
                rw [hnu'.out] at hgu
                obtain ⟨_, _, eS, -, -, HS⟩ := hr14'.out.below hB15'.out
                obtain ⟨rfl, -, rfl⟩ := Value.slice.inj eS
                rw [hS'.out] at HS
                obtain ⟨_, _, eu, -, -, HU⟩ := ((hru12'.out.below hB1214'.out).below hB15'.out).form
                obtain ⟨rfl, -, rfl⟩ := Value.slice.inj eu
                rw [hnu'.out] at HU
                have q1 : ¬ (S : Int) < 1 := by omega
                have q2 : ¬ (S : Int) > 2 := by omega
                clear eS eu hs1
                have HS' := Lib.hid HS
                have HU' := Lib.hid HU
                have hgu' := Lib.hid hgu
                have hst' := Lib.hid hst
                have hbx' := Lib.hid hbx
                clear HS HU hgu hst hbx
                go_wp2_with fail
                go_loopw [212] (fun i wr => ∃ j : Nat, j ≤ S ∧ i = .int .i64 j ∧ Below w15.heap.size w15 wr) (fun i _ => S - (intOf i).toNat)
                case atStart => exact ⟨0, Nat.zero_le _, rfl, Below.refl _ _⟩
                case round => as_aux_lemma =>
                  obtain ⟨j, hj, rfl, hB⟩ := hrel
                  obtain ⟨w16, rfl⟩ : ∃ wo : World, wo = wr := ⟨_, rfl⟩
                  by_cases hlt : j < S
                  · obtain ⟨bs, os, rfl, c0⟩ := HS'.out j hlt
                    obtain ⟨i, hi, hi2, hstb⟩ := hst'.out j hlt
                    rw [hi] at c0
                    have hi3 : i + 1 < nu := by rw [hnu'.out] at hi2; exact hi2
                    obtain ⟨bu, ou, rfl, z0, z1⟩ := HU'.out i (by omega)
                    obtain ⟨bu', ou', eu, z2, z3⟩ := HU'.out (i + 1) hi3
                    cases eu
                    have hb1 := hgu'.out i (by omega)
                    have hb2 := hgu'.out (i + 1) hi3
                    unfold stB at hstb
                    rw [Bool.and_eq_true, Bool.not_eq_true', Bool.not_eq_true'] at hstb
                    obtain ⟨l1, l2⟩ := hstb
                    obtain ⟨⟨p0, p1⟩, hp⟩ : ∃ p, nthR u i = p := ⟨_, rfl⟩
                    obtain ⟨⟨r0, r1⟩, hr⟩ : ∃ r, nthR u (i + 1) = r := ⟨_, rfl⟩
                    rw [hp] at z0 z1 hb1 l1
                    rw [hr] at z2 z3 hb2 l2
                    simp only at z0 z1 z2 z3 hb1 hb2 l1 l2
                    have cp := fun w' => pWithin_yes ((p0, p1), (r0, r1)) (x0, x1) w' hb1 hb2 hbx'.out l1 l2
                    replace c0 := bkeep hB c0
                    replace z0 := bkeep hB z0
                    replace z1 := bkeep hB z1
                    replace z2 := bkeep hB z2
                    replace z3 := bkeep hB z3
                    replace e0 := bkeep hB e0
                    replace e1 := bkeep hB e1
                    obtain ⟨i2, hi4⟩ : ∃ i2, i + 1 = i2 := ⟨_, rfl⟩
                    rw [hi4] at z2 z3
                    have at' : ∀ w', Below w16.heap.size w16 w' → (w'.cell? ⟨bu, ou + i * 2, none⟩ = some (.int .i64 p0) ∧ w'.cell? ⟨bu, ou + i * 2 + 1, none⟩ = some (.int .i64 p1)) ∧ (w'.cell? ⟨bu, ou + i2 * 2, none⟩ = some (.int .i64 r0) ∧ w'.cell? ⟨bu, ou + i2 * 2 + 1, none⟩ = some (.int .i64 r1)) ∧ w'.cell? ⟨w11.heap.size, 0, none⟩ = some (.int .i64 x0) ∧ w'.cell? ⟨w11.heap.size, 1, none⟩ = some (.int .i64 x1) := fun w' h => ⟨⟨bkeep h z0, bkeep h z1⟩, ⟨bkeep h z2, bkeep h z3⟩, bkeep h e0, bkeep h e1⟩
                    have hdA : Below w16.heap.size w16 w16.drew := (Below.refl _ _).drew
                    have g1 : IntKind.i64.wrap ((i : Int) + 1) = (i2 : Int) := by rw [IntKind.wrap_i64]; omega
                    have g2 : (0 : Int) ≤ (i2 : Int) := by omega
                    have g3 : (i2 : Int) < (nu : Int) := by omega
                    have g4 : i2 < nu := by omega
                    have g5 : (0 : Int) ≤ (i : Int) := by omega
                    have g6 : (i : Int) < (nu : Int) := by omega
                    have g7 : (0 : Int) ≤ (j : Int) := by omega
                    have g8 : (j : Int) < (S : Int) := by omega
                    clear z0 z1 z2 z3 hb1 hb2 l1 l2 hi2
                    have at'' := Lib.hid at'
                    have cp' := Lib.hid cp
                    have hi' := Lib.hid hi
                    have hi4' := Lib.hid hi4
                    have hp' := Lib.hid hp
                    have hr' := Lib.hid hr
                    have hB' := Lib.hid hB
                    clear at' cp hi hi4 hp hr hB
                    go_wp2_with fail
                    refine wp_region_held_drew (S := (fun w' => (w'.cell? ⟨bu, ou + i * 2, none⟩ = some (.int .i64 p0) ∧ w'.cell? ⟨bu, ou + i * 2 + 1, none⟩ = some (.int .i64 p1)) ∧ (w'.cell? ⟨bu, ou + i2 * 2, none⟩ = some (.int .i64 r0) ∧ w'.cell? ⟨bu, ou + i2 * 2 + 1, none⟩ = some (.int .i64 r1)) ∧ w'.cell? ⟨w11.heap.size, 0, none⟩ = some (.int .i64 x0) ∧ w'.cell? ⟨w11.heap.size, 1, none⟩ = some (.int .i64 x1))) (by kernel_rfl) (by (try dsimp only); (first | exact at''.out _ hdA | exact at''.out _ hdB)) (fun hHeld => ?_)
                    refine ly_q 0 (v := ?_) hHeld ?_
                    try simp only [Act.put, lyA, lyB, lyC]
                    refine ly_q 1 (v := ?_) hHeld ?_
                    try simp only [Act.put, lyA, lyB, lyC]
                    refine ly_q 2 (v := ?_) hHeld ?_
                    try simp only [Act.put, lyA, lyB, lyC]
                    refine ly_q 3 (v := ?_) hHeld ?_
                    try simp only [Act.put, lyA, lyB, lyC]
                    refine ly_q 4 (v := ?_) hHeld ?_
                    try simp only [Act.put, lyA, lyB, lyC]
                    refine ly_q 5 (v := ?_) hHeld ?_
                    try simp only [Act.put, lyA, lyB, lyC]
                    refine ly_q 6 (v := ?_) hHeld ?_
                    try simp only [Act.put, lyA, lyB, lyC]
                    refine ly_q 7 (v := ?_) hHeld ?_
                    try simp only [Act.put, lyA, lyB, lyC]
                    refine ly_q 8 (v := ?_) hHeld ?_
                    try simp only [Act.put, lyA, lyB, lyC]
                    refine ly_q 9 (v := ?_) hHeld ?_
                    try simp only [Act.put, lyA, lyB, lyC]
                    refine ly_q 10 (v := ?_) hHeld ?_
                    try simp only [Act.put, lyA, lyB, lyC]
                    refine ly_a 11 (fun KK hKK => ?_)
                    go_simp
                    refine (cp'.out _).mono ?_
                    rintro e wK ⟨rfl, hBK⟩
                    have hdB := hdA.trans (hBK.mono hdA.size)
                    try dsimp only
                    refine hKK.out _ _ (by (try dsimp only); (first | exact at''.out _ hdA | exact at''.out _ hdB)) (fun hHeld => ?_)
                    clear hKK KK
                    try simp only [Act.put, lyA, lyB, lyC]
                    refine ly_q 12 (v := ?_) hHeld ?_
                    try simp only [Act.put, lyA, lyB, lyC]
                    refine wpAnyH_done (by kernel_rfl) ?_ _
                    have hb := hB'.out.trans (hdB.mono hB'.out.size)
                    clear hHeld hdA hdB hBK
                    have hb' := Lib.hid hb
                    clear hb
                    go_wp2_with fail
                    go_roundw
                    case rel => exact ⟨j + 1, by omega, by go_num, hb'.out⟩
                    case measure => simp [intOf]; omega
                  · obtain rfl : j = S := by omega
                    have hb := hB15'.out.trans (hB.mono hB15'.out.size)
                    clear hB
                    have hb' := Lib.hid hb
                    clear hb
                    go_wp2_with fail
                    go_meet
                    exact hb'.out
            case rest => as_aux_lemma =>
              obtain ⟨w20, rfl⟩ : ∃ wo : World, wo = wc := ⟨_, rfl⟩
              have hB020 := hB012'.out.trans ((hB1214'.out.trans (hcut.mono hB1214'.out.size)).mono hB012'.out.size)
              clear hcut hB15' hr14' hB1214' hv3' hsl' hnu' hS' hru12' hB012' e0 e1
              have cD := DrawIsLinearMarkov_any _ _ w20 (h1.out.below hB020)
              have cD' := Lib.hid cD
              have hB020' := Lib.hid hB020
              clear cD hB020
              go_wp2_with fail
              refine (cD'.out).mono ?_
              rintro e w21 ⟨vf, f, vc, cs, rfl, ⟨hqf, hlf, -⟩, ⟨hrc, hlc, -⟩, hB21⟩
              have c1 := fun w' (hB : Below w21.heap.size w21 w') => implIsLinearMarkov_any _ f _ cs w' (hqf.below hB) (show f.length ≤ _ by omega) (hrc.below hB) (show cs.length ≤ _ by omega)
              have c2 := fun w' (hB : Below w21.heap.size w21 w') => specIsLinearMarkov_any _ f _ cs w' (hqf.below hB) (show f.length ≤ _ by omega) (hrc.below hB) (show cs.length ≤ _ by omega)
              have c3 := fun w' (hB : Below w21.heap.size w21 w') => implIsMarkov_any _ f _ cs w' (hqf.below hB) (show f.length ≤ _ by omega) (hrc.below hB) (show cs.length ≤ _ by omega)
              have c4 := fun w' (hB : Below w21.heap.size w21 w') => specIsMarkov_any _ f _ cs w' (hqf.below hB) (show f.length ≤ _ by omega) (hrc.below hB) (show cs.length ≤ _ by omega)
              have hlm := fun b (h : IsLinearMarkov_v f cs = (true, b)) => linear_markov h
              obtain ⟨aof, capf, rfl, -⟩ := hqf.form
              obtain ⟨aoc, capc, rfl, -⟩ := hrc.form
              obtain ⟨⟨l5, five⟩, hv5⟩ : ∃ r, IsLinearMarkov_v f cs = r := ⟨_, rfl⟩
              obtain ⟨⟨k7, seven⟩, hv7⟩ : ∃ r, IsMarkov_v f cs = r := ⟨_, rfl⟩
              rw [hv5] at c1 c2 hlm
              rw [hv7] at c3 c4 hlm
              have hkl : l5 = true → k7 = true := fun h => hlm five (by rw [h])
              have hB021 := hB020'.out.trans (hB21.mono hB020'.out.size)
              obtain ⟨nf, hnf⟩ : ∃ nf, f.length = nf := ⟨_, rfl⟩
              obtain ⟨nc, hnc⟩ : ∃ nc, cs.length = nc := ⟨_, rfl⟩
              rw [hnf, hnc] at c1 c2 c3 c4
              rw [hnf, hnc]
              clear hqf hrc hB21 hlm hB020' cD' hlf hlc hv5 hv7 hnf hnc
              have c1' := Lib.hid c1
              have c2' := Lib.hid c2
              have c3' := Lib.hid c3
              have c4' := Lib.hid c4
              have hkl' := Lib.hid hkl
              have hB021' := Lib.hid hB021
              clear c1 c2 c3 c4 hkl hB021
              go_wp2_with fail
              refine (c1'.out w21 (Below.refl _ _)).mono ?_
              rintro e w22 ⟨rfl, hB22⟩
              go_wp2_with fail
              refine (c2'.out w22 hB22).mono ?_
              rintro e w23 ⟨rfl, hB23⟩
              have hB2 := hB22.trans (hB23.mono hB22.size)
              go_wp2_with fail
              refine (c3'.out w23 hB2).mono ?_
              rintro e w24 ⟨rfl, hB24⟩
              have hB3 := hB2.trans (hB24.mono hB2.size)
              go_wp2_with fail
              refine (c4'.out w24 hB3).mono ?_
              rintro e w25 ⟨rfl, hB25⟩
              have hB4 := hB021'.out.trans ((hB3.trans (hB25.mono hB3.size)).mono hB021'.out.size)
              clear hB22 hB23 hB24 hB25 hB2 hB3
              have hB4' := Lib.hid hB4
              clear hB4
              cases l5
              · cases five
                all_goals
                  go_wp2
                  go_ret
                  exact ⟨by first | rfl | simp, hB4'.out⟩
              · obtain rfl : k7 = true := hkl'.out rfl
                cases five
                all_goals
                  go_wp2
                  go_ret
                  exact ⟨by first | rfl | simp, hB4'.out⟩

set_option maxRecDepth 100000 in
theorem lawPartitions_over (ao0 : Option Addr) (n0 cap0 : Nat) (ao1 : Option Addr) (n1 cap1 : Nat) (w : World) (hn0 : n0 ≤ 140737488355328) (hn1 : n1 ≤ 140737488355328) (hl : ¬ n0 + n1 ≤ 1048576) :
    Calls Tryz.prog 6 #[.slice ao0 n0 cap0, .slice ao1 n1 cap1] w (Ret (.bool true) w) := by
  have cb := big_yes ao0 n0 cap0 ao1 n1 cap1 w hn0 hn1 hl
  have cb' := Lib.hid cb
  clear cb
  go_enter Tryz.func6, Tryz.ntmps6
  go_wp2_with fail
  refine (cb'.out).mono ?_
  rintro e w_ ⟨rfl, rfl⟩
  go_wp2
  go_ret
  exact ⟨rfl, Below.refl _ _⟩

theorem lawPartitions_any (a0 a1 : Value) (w : World) (h0 : CodeX w a0) (h1 : CodeX w a1) :
    Calls Tryz.prog 6 #[a0, a1] w (Ret (.bool true) w) := by
  obtain ⟨ao0, n0, cap0, rfl, hn0, h0⟩ := h0
  obtain ⟨ao1, n1, cap1, rfl, hn1, h1⟩ := h1
  by_cases hl : n0 + n1 ≤ 1048576
  · exact lawPartitions_main ao0 n0 cap0 ao1 n1 cap1 w (Lib.hid (h0 (by omega))) (Lib.hid (h1 (by omega))) hl
  · exact lawPartitions_over ao0 n0 cap0 ao1 n1 cap1 w hn0 hn1 hl

open Go.ChangeShapes Go.WideShapes Go.ChangeAt in
set_option maxRecDepth 100000 in
theorem lawPartitions_lifted (os : Os) (started : os.Started) (H : Type) (enc : TypeId × Value → H) :
    ReturnsInHanded {} Tryz.checked os 6 .any (Rows.fnPartitionsSpec.pre6 enc Tryz.prog Tryz.f6 Rows.fnPartitionsRow.domain false) (Rows.fnPartitionsSpec.post enc Tryz.prog Tryz.f6 false true false false) := by
  refine returnsInHanded_of_change_sized (C := Tryz.checked) Tryz.own started (by kernel_rfl) Tryz.func6
    (ChangeSpec.witness6 (enc := enc) (C := Tryz.checked) false ⟨#[], #[.slice none 0 0, .slice none 0 0], []⟩ 8 (by kernel_rfl) (by kernel_rfl) (by kernel_rfl) (by kernel_rfl)) ?_
  intro W base args ds gs before hval0 hW _ hsz0 _
  have hsz : (DataW.weightsEach Tryz.prog (Tryz.f6.params.toList ++ Rows.fnPartitionsSpec.plain.varTypes Tryz.prog) (ds ++ gs)).all (· ≤ reachBytes) = true := hsz0
  clear hsz0
  have hval : ∀ (j : Nat) t v, Tryz.f6.params[j]? = some t → args[j]? = some v → Value.okWide Tryz.prog W .any base t v := hval0
  have hW' := hW
  obtain ⟨p, q, hA0, hV, rfl, _, _⟩ := hW
  have hA : DataW.TrodAll enc Tryz.prog W 0 (fun _ => true) true Tryz.f6.params.toList args.toList ds p := hA0
  have hA' := hA
  rw [Tryz.params6] at hA hval hsz
  obtain ⟨v0, v1, d0, d1, p0, p1, rfl, rfl, rfl, h0, h1⟩ := trodAll_two hA
  obtain ⟨rfl, rfl⟩ := trodVars_none hV
  refine (lawPartitions_any v0 v1 W (open_codeX (hval 0 44 v0 rfl rfl) h0 fun _ _ e => by subst e; exact sized_slice hsz (j := 0) rfl rfl Tryz.underlying44) (open_codeX (hval 1 44 v1 rfl rfl) h1 fun _ _ e => by subst e; exact sized_slice hsz (j := 1) rfl rfl Tryz.underlying44)).mono fun e W' ⟨he, hB⟩ => ?_
  subst he
  exact law_post hW' rfl hA' (by rw [Tryz.params6]; decide +kernel) rfl rfl rfl rfl hB

theorem fnPartitions_holds : Rows.FnPartitionsSaid :=
  OpenClaim.holds_of_wide 6 Tryz.f6 rfl rfl rfl rfl rfl rfl rfl ⟨rfl, rfl, rfl, rfl, rfl⟩ rfl rfl rfl rfl rfl (by kernel_rfl) Tryz.func6 (by kernel_rfl)
    (of_decide_eq_true (by kernel_rfl)) (by unfold Func.isWrapper; rw [if_neg (of_decide_eq_false (by kernel_rfl))]; exact ⟨rfl, rfl⟩)
    (fun os started H enc _ => lawPartitions_lifted os started H enc)

#print axioms fnPartitions_holds
end Go.Proofs.YtnggopbehohjnaaGreat

/- The reference's list of the fractions whose value is a given one. No conditions but valid maps. -/
import Derived.Test.YtjkgilenhoomoaaGreatPkI
import Derived.Test.YtjkgilenhoomoaaGreatPkJ
import Derived.Test.YtjkgilenhoomoaaGreatPkF
import Derived.Deep.Cut
import Derived.Deep.CutRange
import Derived.Deep.CutBlock
namespace Go.Proofs.YtjkgilenhoomoaaGreat
open Go.RowKit
set_option maxRecDepth 100000

set_option linter.unusedSimpArgs false in
set_option maxRecDepth 10000 in
set_option maxHeartbeats 4000000 in
theorem imBefore_any (v : Value) (f : List Quad) (y : Int × Int) (w : World) (hv : QuadV w v f) (hf : MapP f) (hy : goodR y.1 y.2 = true) :
    Calls Tryz.prog 28 #[v, .agg #[.int .i64 y.1, .int .i64 y.2]] w (RetOB HasO (if befOk f y f.length = true then (befR f y, true) else ([], false)) w) := by
  have hgc := fun i (hi : i < f.length) => hf.coord i hi
  obtain ⟨ao, cap, rfl, _, _, H⟩ := hv.form
  have hl12 := hf.len
  obtain ⟨n, hn⟩ : ∃ n, f.length = n := ⟨_, rfl⟩
  rw [hn] at H hl12 ⊢
  obtain ⟨w1, hw1⟩ : ∃ W, w.alloc (.cells #[.int .i64 y.1, .int .i64 y.2] 42) = W := ⟨_, rfl⟩
  have hB1 : Below w.heap.size w w1 := by rw [← hw1]; exact (Below.refl _ _).alloc (Nat.le_refl _) _
  have x0 : w1.cell? ⟨w.heap.size, 0, none⟩ = some (.int .i64 y.1) := by rw [← hw1]; simp [go_sem]
  have x1 : w1.cell? ⟨w.heap.size, 1, none⟩ = some (.int .i64 y.2) := by rw [← hw1]; simp [go_sem]
  have hs1 : w1.heap.size = w.heap.size + 1 := by rw [← hw1]; simp
  obtain ⟨V, hV⟩ : ∃ V, (if befOk f y n = true then (befR f y, true) else (([] : List (Int × Int)), false)) = V := ⟨_, rfl⟩
  rw [hV]
  have hlaw := fun k h => spL_law hf hy k h
  have hos := befOk_step f y
  have hbad := fun (k : Nat) (h : k < f.length) hc hb => befOk_false (f := f) (y := y) (k := k) h hc hb
  have hput := fun l hr hm => befR_put hf (y := y) (l := l) hr hm
  have hsp : ∀ k, spL f y (k + 1) = putIf (crossB (nth4 f k) (nth4 f (k + 1)) y) (putIf (decide (cY (nth4 f (k + 1)) y = 0)) (putIf (decide (cY (nth4 f k) y = 0)) (spL f y k) (nth4 f k).1) (nth4 f (k + 1)).1) (backZ (nth4 f k) (nth4 f (k + 1)) y) := fun _ => rfl
  have hS0 : spL f y 0 = [] := rfl
  have hO1 : befOk f y 1 = true := by rw [befOk_step f y 0]; rfl
  rw [hn] at hlaw hbad hput
  generalize spL f y = SP at *
  generalize befOk f y = BO at *
  generalize befR f y = BR at *
  have H' := Lib.hid H
  have hn' := Lib.hid hn
  have hw1' := Lib.hid hw1
  have x0' := Lib.hid x0
  have x1' := Lib.hid x1
  have hgc' := Lib.hid hgc
  have hV' := Lib.hid hV
  have hlaw' := Lib.hid hlaw
  have hos' := Lib.hid hos
  have hbad' := Lib.hid hbad
  have hput' := Lib.hid hput
  have hsp' := Lib.hid hsp
  have hS0' := Lib.hid hS0
  have hO1' := Lib.hid hO1
  clear H hn hw1 x0 x1 hgc hV hlaw hos hbad hput hsp hS0 hO1
  go_enter Tryz.func28, Tryz.ntmps28
  go_wp2
  rw [hw1'.out]
  go_loopw [6, 7] (fun o i wr => ∃ k : Nat, k + 1 ≤ n ∧ i = .int .i64 ((k : Int) + 1) ∧ HasR wr w1.heap.size o (SP k) ∧ BO (k + 1) = true ∧ Below w1.heap.size w1 wr) (fun _ i _ => n - (intOf i).toNat)
  case atStart => exact ⟨0, by omega, rfl, by rw [hS0'.out]; exact HasR.nil _ _, hO1'.out, Below.refl _ _⟩
  case round =>
    obtain ⟨k, hk, rfl, hl, hok, hB⟩ := hrel
    by_cases hlt : k + 1 < n
    · obtain ⟨b, off, rfl, p0, p1, p2, p3⟩ := H'.out k (by omega)
      obtain ⟨_, _, e', q0, q1, q2, q3⟩ := H'.out (k + 1) hlt
      cases e'
      have hbb := hB1.trans (hB.mono hB1.size)
      replace p0 := bkeep hbb p0
      replace p1 := bkeep hbb p1
      replace p2 := bkeep hbb p2
      replace p3 := bkeep hbb p3
      replace q0 := bkeep hbb q0
      replace q1 := bkeep hbb q1
      replace q2 := bkeep hbb q2
      replace q3 := bkeep hbb q3
      obtain ⟨P, hP⟩ : ∃ P, nth4 f k = P := ⟨_, rfl⟩
      obtain ⟨Q, hQ⟩ : ∃ Q, nth4 f (k + 1) = Q := ⟨_, rfl⟩
      rw [hP] at p0 p1 p2 p3
      rw [hQ] at q0 q1 q2 q3
      obtain ⟨j, hj⟩ : ∃ j : Nat, j = k + 1 := ⟨_, rfl⟩
      rw [← hj] at hlt q0 q1 q2 q3 hQ
      rw [show (k : Int) + 1 = (j : Int) by omega]
      obtain ⟨⟨a0, a1⟩, ⟨a2, a3⟩⟩ := P
      obtain ⟨⟨b0, b1⟩, ⟨b2, b3⟩⟩ := Q
      simp only at p0 p1 p2 p3 q0 q1 q2 q3
      have g1 : (0 : Int) ≤ (k : Int) := by omega
      have g2 : (k : Int) < (n : Int) := by omega
      have g3 : (j : Int) < (n : Int) := by omega
      have g7 : (0 : Int) ≤ (j : Int) := by omega
      have g4 : IntKind.i64.wrap ((j : Int) - 1) = (k : Int) := by rw [IntKind.wrap_i64]; omega
      have g5 : IntKind.i64.wrap (k : Int) = (k : Int) := by rw [IntKind.wrap_i64]; omega
      have g6 : k < n := by omega
      have l0 : b < wr.heap.size := World.block_lt_of_cell? _ _ p0
      have l1 : ¬ b = wr.heap.size := by omega
      have l2 : ¬ b = wr.heap.size + 1 := by omega
      have l3 : b < wr.heap.size + 1 := by omega
      have l4 : b < wr.heap.size + 1 + 1 := by omega
      have e0 := bkeep hB x0'.out
      have e1 := bkeep hB x1'.out
      have hgA := unitR_good (coordR_unit (hgc'.out k (by rw [hn'.out]; omega)).1)
      have hgB := unitR_good (coordR_unit (hgc'.out j (by rw [hn'.out]; omega)).1)
      rw [hP] at hgA
      rw [hQ] at hgB
      have hgP := unitR_good (coordR_unit (hgc'.out k (by rw [hn'.out]; omega)).2)
      have hgQ := unitR_good (coordR_unit (hgc'.out j (by rw [hn'.out]; omega)).2)
      rw [hP] at hgP
      rw [hQ] at hgQ
      have hl' := Lib.hid hl
      have hok' := Lib.hid hok
      have hP' := Lib.hid hP
      have hQ' := Lib.hid hQ
      have hj' := Lib.hid hj
      clear hl hok hP hQ hj
      go_upto_region 5 with fail
      go_cut [8, 9] from 20 to 28 (fun s8 s9 wx => ∃ g8 g9 : Nat, s8 = .pointer (some ⟨g8, 0, none⟩) ∧ s9 = .pointer (some ⟨g9, 0, none⟩) ∧ (wr.heap.size ≤ g8 ∧ wr.heap.size ≤ g9) ∧ Below wr.heap.size wr wx ∧
        (wx.cell? ⟨g8, 0, none⟩ = some (.int .i64 a0) ∧ wx.cell? ⟨g8, 1, none⟩ = some (.int .i64 a1) ∧ wx.cell? ⟨g8, 2, none⟩ = some (.int .i64 a2) ∧ wx.cell? ⟨g8, 3, none⟩ = some (.int .i64 a3)) ∧
        (wx.cell? ⟨g9, 0, none⟩ = some (.int .i64 b0) ∧ wx.cell? ⟨g9, 1, none⟩ = some (.int .i64 b1) ∧ wx.cell? ⟨g9, 2, none⟩ = some (.int .i64 b2) ∧ wx.cell? ⟨g9, 3, none⟩ = some (.int .i64 b3)))
      case first =>
        go_region
        all_goals
          go_wp2
          go_meet
          exact ⟨_, _, rfl, rfl, ⟨by omega, by omega⟩, (((Below.refl _ _).alloc (Nat.le_refl _) _).alloc (by simp) _).drew, by simp [go_sem], by simp [go_sem]⟩
      case rest =>
      obtain ⟨g8, g9, rfl, rfl, ⟨hg8, hg9⟩, hBx, ⟨s0, s1, s2, s3⟩, t0, t1, t2, t3⟩ := hcut
      obtain ⟨wo, rfl⟩ : ∃ wo : World, wo = wc := ⟨_, rfl⟩
      have e0 := bkeep hBx e0
      have e1 := bkeep hBx e1
      have cP := fun w' => raCmp_any a2 a3 y.1 y.2 w' (good_bd (r := (a2, a3)) hgP) (good_bd hy)
      have cQ := fun w' => raCmp_any b2 b3 y.1 y.2 w' (good_bd (r := (b2, b3)) hgQ) (good_bd hy)
      have hcP : cmpN a2 a3 y.1 y.2 = cY (nth4 f k) y := by rw [hP'.out]; rfl
      have hcQ : cmpN b2 b3 y.1 y.2 = cY (nth4 f j) y := by rw [hQ'.out]; rfl
      rw [hcP] at cP
      rw [hcQ] at cQ
      have at' : ∀ w', Below wo.heap.size wo w' → (w'.cell? ⟨g8, 0, none⟩ = some (.int .i64 a0) ∧ w'.cell? ⟨g8, 1, none⟩ = some (.int .i64 a1) ∧ w'.cell? ⟨g8, 2, none⟩ = some (.int .i64 a2) ∧ w'.cell? ⟨g8, 3, none⟩ = some (.int .i64 a3)) ∧ (w'.cell? ⟨g9, 0, none⟩ = some (.int .i64 b0) ∧ w'.cell? ⟨g9, 1, none⟩ = some (.int .i64 b1) ∧ w'.cell? ⟨g9, 2, none⟩ = some (.int .i64 b2) ∧ w'.cell? ⟨g9, 3, none⟩ = some (.int .i64 b3)) ∧ w'.cell? ⟨w.heap.size, 0, none⟩ = some (.int .i64 y.1) ∧ w'.cell? ⟨w.heap.size, 1, none⟩ = some (.int .i64 y.2) :=
        fun w' h => ⟨⟨bkeep h s0, bkeep h s1, bkeep h s2, bkeep h s3⟩, ⟨bkeep h t0, bkeep h t1, bkeep h t2, bkeep h t3⟩, bkeep h e0, bkeep h e1⟩
      have hd : Below wo.heap.size wo wo.drew := (Below.refl _ _).drew
      clear s0 s1 s2 s3 t0 t1 t2 t3 e0 e1
      obtain ⟨C1, hC1⟩ : ∃ C, cY (nth4 f k) y = C := ⟨_, rfl⟩
      obtain ⟨C2, hC2⟩ : ∃ C, cY (nth4 f j) y = C := ⟨_, rfl⟩
      rw [hC1] at cP
      rw [hC2] at cQ
      have hlc := hl'.out.below hBx
      have hLk := (hlaw'.out k (by omega)).1
      have hLn := (hlaw'.out k (by omega)).2.1
      have cP' := Lib.hid cP
      have cQ' := Lib.hid cQ
      have at'' := Lib.hid at'
      have hC1' := Lib.hid hC1
      have hC2' := Lib.hid hC2
      have hlc' := Lib.hid hlc
      have hLk' := Lib.hid hLk
      have hLn' := Lib.hid hLn
      clear cP cQ at' hC1 hC2 hlc hLk hLn
      go_wp2_with fail
      refine wp_region_held_drew (S := (fun w' => (w'.cell? ⟨g8, 0, none⟩ = some (.int .i64 a0) ∧ w'.cell? ⟨g8, 1, none⟩ = some (.int .i64 a1) ∧ w'.cell? ⟨g8, 2, none⟩ = some (.int .i64 a2) ∧ w'.cell? ⟨g8, 3, none⟩ = some (.int .i64 a3)) ∧ (w'.cell? ⟨g9, 0, none⟩ = some (.int .i64 b0) ∧ w'.cell? ⟨g9, 1, none⟩ = some (.int .i64 b1) ∧ w'.cell? ⟨g9, 2, none⟩ = some (.int .i64 b2) ∧ w'.cell? ⟨g9, 3, none⟩ = some (.int .i64 b3)) ∧ w'.cell? ⟨w.heap.size, 0, none⟩ = some (.int .i64 y.1) ∧ w'.cell? ⟨w.heap.size, 1, none⟩ = some (.int .i64 y.2))) (by kernel_rfl) (by (try dsimp only); (first | exact at''.out _ hd | exact at''.out _ hd5 | exact at''.out _ hd6)) (fun hHeld => ?_)
      refine ly_q 0 (v := ?_) hHeld ?_
      try simp only [Act.put, lyA, lyB, lyC]
      refine ly_q 1 (v := ?_) hHeld ?_
      try simp only [Act.put, lyA, lyB, lyC]
      refine ly_q 2 (v := ?_) hHeld ?_
      try simp only [Act.put, lyA, lyB, lyC]
      refine ly_q 4 (v := ?_) hHeld ?_
      try simp only [Act.put, lyA, lyB, lyC]
      refine ly_q 5 (v := ?_) hHeld ?_
      try simp only [Act.put, lyA, lyB, lyC]
      refine ly_q 6 (v := ?_) hHeld ?_
      try simp only [Act.put, lyA, lyB, lyC]
      refine ly_a 3 (fun KK hKK => ?_)
      go_simp
      refine (cP'.out _).mono ?_
      rintro e w5 ⟨rfl, hB5⟩
      have hd5 := hd.trans (hB5.mono hd.size)
      try dsimp only
      refine hKK.out _ _ (by (try dsimp only); (first | exact at''.out _ hd | exact at''.out _ hd5 | exact at''.out _ hd6)) (fun hHeld => ?_)
      clear hKK KK
      try simp only [Act.put, lyA, lyB, lyC]
      refine ly_a 7 (fun KK hKK => ?_)
      go_simp
      refine (cQ'.out _).mono ?_
      rintro e w6 ⟨rfl, hB6⟩
      have hd6 := hd5.trans (hB6.mono hd5.size)
      try dsimp only
      refine hKK.out _ _ (by (try dsimp only); (first | exact at''.out _ hd | exact at''.out _ hd5 | exact at''.out _ hd6)) (fun hHeld => ?_)
      clear hKK KK
      try simp only [Act.put, lyA, lyB, lyC]
      refine ly_q 8 (v := ?_) hHeld ?_
      try simp only [Act.put, lyA, lyB, lyC]
      refine ly_q 9 (v := ?_) hHeld ?_
      try simp only [Act.put, lyA, lyB, lyC]
      refine wpAnyH_done (by kernel_rfl) ?_ _
      clear hHeld
      have hl6 := hlc'.out.below hd6
      have hsx : w1.heap.size ≤ wo.heap.size := Nat.le_trans hB.size hBx.size
      have hl6' := Lib.hid hl6
      clear hl6
      go_upto_if 38 with fail
      go_cut [6, 38] from 39 to 42 (fun s _ wx => HasR wx w1.heap.size s (putIf (decide (C1 = 0)) (SP k) (a0, a1)) ∧ Below wo.heap.size wo wx)
      case first =>
        by_cases hz : C1 = 0
        · have hde : decide (C1 = 0) = true := decide_eq_true hz
          have hzi : (C1 == 0) = true := by simp [hz]
          obtain ⟨⟨s0, s1, s2, s3⟩, ⟨t0, t1, t2, t3⟩, e0, e1⟩ := at''.out _ hd6
          have hsz := Nat.le_trans hsx hd6.size
          have cp := fun v hv => imPut_has w1.heap.size v (SP k) (a0, a1) _ hv hsz (by have := hLn'.out; omega) hgA hLk'.out.good
          have hO : putIf (decide (C1 = 0)) (SP k) (a0, a1) = putR (SP k) (a0, a1) := by unfold putIf; rw [if_pos hde]
          have cp' := Lib.hid cp
          have hO' := Lib.hid hO
          have hz' := Lib.hid hz
          clear cp hO hz
          go_wp2_with fail
          refine (cp'.out _ hl6'.out).mono ?_
          rintro e w7 ⟨v7, rfl, hv7, hB7⟩
          rw [← hO'.out] at hv7
          have hd7 := hd6.trans (hB7.mono hd6.size)
          have hv7' := Lib.hid hv7
          have hd7' := Lib.hid hd7
          clear hv7 hd7
          go_wp2
          go_meet
          exact ⟨hv7'.out, hd7'.out⟩
        · have hO : putIf (decide (C1 = 0)) (SP k) (a0, a1) = SP k := by unfold putIf; rw [if_neg (by simp [hz])]
          have hl7 := hl6'.out
          rw [← hO] at hl7
          have hO' := Lib.hid hO
          have hl7' := Lib.hid hl7
          clear hO hl7
          go_wp2
          go_meet
          exact ⟨hl7'.out, hd6⟩
      case rest =>
      obtain ⟨hl7, hd7⟩ := hcut
      have hG1 := hLk'.out.putIf (x := (a0, a1)) hgA (decide (C1 = 0))
      have hl7' := Lib.hid hl7
      have hG1' := Lib.hid hG1
      clear hl7 hG1
      go_upto_if 44 with fail
      go_cut [6, 44] from 45 to 48 (fun s _ wx => HasR wx w1.heap.size s (putIf (decide (C2 = 0)) (putIf (decide (C1 = 0)) (SP k) (a0, a1)) (b0, b1)) ∧ Below wo.heap.size wo wx)
      case first =>
        by_cases hz : C2 = 0
        · have hde : decide (C2 = 0) = true := decide_eq_true hz
          have hzi : (C2 == 0) = true := by simp [hz]
          obtain ⟨⟨s0, s1, s2, s3⟩, ⟨t0, t1, t2, t3⟩, e0, e1⟩ := at''.out _ hd7
          have hsz := Nat.le_trans hsx hd7.size
          have cp := fun v hv => imPut_has w1.heap.size v (putIf (decide (C1 = 0)) (SP k) (a0, a1)) (b0, b1) _ hv hsz (by have := hLn'.out; have := hG1'.out.2.2; omega) hgB hG1'.out.1.good
          have hO : putIf (decide (C2 = 0)) (putIf (decide (C1 = 0)) (SP k) (a0, a1)) (b0, b1) = putR (putIf (decide (C1 = 0)) (SP k) (a0, a1)) (b0, b1) := by rw [hde]; rfl
          have cp' := Lib.hid cp
          have hO' := Lib.hid hO
          have hz' := Lib.hid hz
          clear cp hO hz
          go_wp2_with fail
          refine (cp'.out _ hl7'.out).mono ?_
          rintro e w7 ⟨v7, rfl, hv7, hB7⟩
          rw [← hO'.out] at hv7
          have hd8 := hd7.trans (hB7.mono hd7.size)
          have hv7' := Lib.hid hv7
          have hd8' := Lib.hid hd8
          clear hv7 hd8
          go_wp2
          go_meet
          exact ⟨hv7'.out, hd8'.out⟩
        · have hO : putIf (decide (C2 = 0)) (putIf (decide (C1 = 0)) (SP k) (a0, a1)) (b0, b1) = putIf (decide (C1 = 0)) (SP k) (a0, a1) := by rw [decide_eq_false hz]; rfl
          have hl8 := hl7'.out
          rw [← hO] at hl8
          have hO' := Lib.hid hO
          have hl8' := Lib.hid hl8
          clear hO hl8
          go_wp2
          go_meet
          exact ⟨hl8'.out, hd7⟩
      case rest =>
      obtain ⟨hl8, hd8⟩ := hcut
      have hG2 := hG1'.out.1.putIf (x := (b0, b1)) hgB (decide (C2 = 0))
      have hb1 := cmpN_bd (nth4 f k).2.1 (nth4 f k).2.2 y.1 y.2
      have hb2 := cmpN_bd (nth4 f j).2.1 (nth4 f j).2.2 y.1 y.2
      have hb1' : -1 ≤ C1 ∧ C1 ≤ 1 := by rw [← hC1'.out]; exact hb1
      have hb2' : -1 ≤ C2 ∧ C2 ≤ 1 := by rw [← hC2'.out]; exact hb2
      have hM := mul_bd1 hb1' hb2'
      have hwm : IntKind.i64.wrap (C1 * C2) = C1 * C2 := by rw [IntKind.wrap_i64]; omega
      have hX : crossB (nth4 f k) (nth4 f j) y = decide (C1 * C2 < 0) := by unfold crossB; rw [hC1'.out, hC2'.out]
      have hca : crAt f y j = decide (C1 * C2 < 0) := by
        have h1 : j - 1 = k := by have := hj'.out; omega
        have h2 : 0 < j := by have := hj'.out; omega
        unfold crAt
        rw [h1, hX, decide_eq_true h2, Bool.true_and]
      have hsp1 := hsp'.out k
      rw [← hj'.out, hX, hC1'.out, hC2'.out, hP'.out, hQ'.out] at hsp1
      have hos1 := hos'.out j
      have hbd1 := hbad'.out j hlt
      have hjk : j - 1 = k := by have := hj'.out; omega
      rw [hca, hjk, hP'.out, hQ'.out] at hos1 hbd1
      have hok2 : BO j = true := by rw [hj'.out]; exact hok'.out
      rw [hok2, Bool.true_and] at hos1
      have hbf := hB.trans ((hBx.trans (hd8.mono hBx.size)).mono hB.size)
      have hjw : IntKind.i64.wrap ((j : Int) + 1) = (j : Int) + 1 := by rw [IntKind.wrap_i64]; omega
      clear hb1 hb2 hb1' hb2' hok2
      by_cases hx : C1 * C2 < 0
      · have kP := hgc'.out k (by rw [hn'.out]; omega)
        have kQ := hgc'.out j (by rw [hn'.out]; omega)
        have hrs := hf.rise k (by rw [hn'.out, ← hj'.out]; omega)
        rw [← hj'.out] at hrs
        have hs0 := cross_slope kP.1 kP.2 kQ.1 kQ.2 hrs (by rw [hX, decide_eq_true hx])
        have cb := fun w' => imBack_any (nth4 f k) (nth4 f j) y w' kP.1 kP.2 kQ.1 kQ.2 hrs hy hs0
        have hbk := backR_ok (nth4 f k) (nth4 f j) y
        have hbv := fun h => backR_val (p := nth4 f k) (q := nth4 f j) (y := y) h
        have hbg := backZ_good (nth4 f k) (nth4 f j) y
        rw [hP'.out, hQ'.out] at cb hbk hbv hbg
        rw [decide_eq_true hx] at hsp1 hos1 hbd1
        generalize backR ((a0, a1), (a2, a3)) ((b0, b1), (b2, b3)) y = RR at *
        generalize backOk ((a0, a1), (a2, a3)) ((b0, b1), (b2, b3)) y = OK at *
        generalize backZ ((a0, a1), (a2, a3)) ((b0, b1), (b2, b3)) y = Z at *
        obtain ⟨⟨r0, r1⟩, ro⟩ := RR
        obtain ⟨z0, z1⟩ := Z
        simp only at hbk hbv cb hbg
        subst hbk
        obtain ⟨⟨s0, s1, s2, s3⟩, ⟨t0, t1, t2, t3⟩, e0, e1⟩ := at''.out _ hd8
        have hlt9 : wo.heap.size ≤ wc.heap.size := hd8.size
        have hng : ¬ (0 : Int) ≤ C1 * C2 := by omega
        clear hca hX hM hrs hs0 kP kQ
        cases ro
        · have hV2 := hV'.out
          rw [hbd1 rfl rfl, if_neg (by decide)] at hV2
          subst hV2
          clear hsp1 hos1 hbd1 hbv
          have cb' := Lib.hid cb
          have hl8' := Lib.hid hl8
          have hG2' := Lib.hid hG2
          have hbf' := Lib.hid hbf
          clear cb hl8 hG2 hbf
          go_wp2_with fail
          refine (cb'.out _).mono ?_
          rintro e w9 ⟨rfl, hB9⟩
          have hb9 := hB1.trans ((hbf'.out.trans (hB9.mono hbf'.out.size)).mono hB1.size)
          have hb10 := fun o => hb9.alloc hb9.size o
          clear hB9 hb9
          have hb10' := Lib.hid hb10
          clear hb10
          go_wp2
          go_ret2
          exact ⟨_, rfl, HasR.nil _ _, hb10'.out _⟩
        · obtain ⟨rfl, rfl⟩ := Prod.mk.inj (hbv rfl)
          have hsz9 := Nat.le_trans hsx hd8.size
          have hLn2 := hLn'.out
          have hLe := hG1'.out.2.2
          have hLf := hG2.2.2
          have hS : SP j = putR (putIf (decide (C2 = 0)) (putIf (decide (C1 = 0)) (SP k) (a0, a1)) (b0, b1)) (r0, r1) := by rw [hsp1]; rfl
          have hO : BO (j + 1) = true := by rw [hos1]; rfl
          have hLg := hG2.1.good
          generalize putIf (decide (C2 = 0)) (putIf (decide (C1 = 0)) (SP k) (a0, a1)) (b0, b1) = LL at *
          have hLL : LL.length ≤ 1099511627776 := by omega
          clear hsp1 hos1 hbd1 hbv hG2 hG1' hLn2 hLe hLf
          have cb' := Lib.hid cb
          have hl8' := Lib.hid hl8
          have hbf' := Lib.hid hbf
          have hS' := Lib.hid hS
          have hO' := Lib.hid hO
          have hLL' := Lib.hid hLL
          have hLg' := Lib.hid hLg
          clear cb hl8 hbf hS hO hLL hLg
          go_wp2_with fail
          refine (cb'.out _).mono ?_
          rintro e w9 ⟨rfl, hB9⟩
          obtain ⟨v2, hv2⟩ : ∃ W, w9.alloc (.cells #[.int .i64 r0, .int .i64 r1] 42) = W := ⟨_, rfl⟩
          have hk2 : Below wc.heap.size wc v2 := by rw [← hv2]; exact hB9.alloc hB9.size _
          have m0 : v2.cell? ⟨w9.heap.size, 0, none⟩ = some (.int .i64 r0) := by rw [← hv2]; simp [go_sem]
          have m1 : v2.cell? ⟨w9.heap.size, 1, none⟩ = some (.int .i64 r1) := by rw [← hv2]; simp [go_sem]
          have hl10 := hl8'.out.below hk2
          have hb10 := hbf'.out.trans (hk2.mono hbf'.out.size)
          have cp := imPut_has w1.heap.size u6 LL (r0, r1) v2 hl10 hb10.size hLL'.out hbg hLg'.out
          clear hB9 hk2 hl10 s0 s1 s2 s3 t0 t1 t2 t3 e0 e1
          have hv2' := Lib.hid hv2
          have hb10' := Lib.hid hb10
          have cp' := Lib.hid cp
          clear hv2 hb10 cp
          go_wp2_with fail
          rw [hv2'.out]
          go_wp2_with fail
          refine cp'.out.mono ?_
          rintro e w11 ⟨v11, rfl, hv11, hB11⟩
          rw [← hS'.out] at hv11
          have hb11 := hb10'.out.trans (hB11.mono hb10'.out.size)
          clear hB11 m0 m1
          have hv11' := Lib.hid hv11
          have hb11' := Lib.hid hb11
          clear hv11 hb11
          go_wp2
          go_roundw
          case rel => exact ⟨j, by omega, by go_num, hv11'.out, hO'.out, hb11'.out⟩
          case measure => simp [intOf]; omega
      · have hge : (0 : Int) ≤ C1 * C2 := by omega
        have hS : SP j = putIf (decide (C2 = 0)) (putIf (decide (C1 = 0)) (SP k) (a0, a1)) (b0, b1) := by rw [hsp1, decide_eq_false hx]; rfl
        have hO : BO (j + 1) = true := by rw [hos1, decide_eq_false hx]; rfl
        have hl9 := hl8
        rw [← hS] at hl9
        clear hsp1 hos1 hbd1 hca hX hM
        have hl8' := Lib.hid hl8
        have hG2' := Lib.hid hG2
        have hl9' := Lib.hid hl9
        have hS' := Lib.hid hS
        have hO' := Lib.hid hO
        have hbf' := Lib.hid hbf
        clear hl8 hG2 hl9 hS hO hbf
        go_wp2
        go_roundw
        case rel => exact ⟨j, by omega, by go_num, hl9'.out, hO'.out, hbf'.out⟩
        case measure => simp [intOf]; omega
    · obtain rfl : n = k + 1 := by omega
      have hle := hput'.out (SP k) (hlaw'.out k (by omega)).1.rise ((hlaw'.out k (by omega)).2.2 (by omega))
      have hV2 := hV'.out
      rw [if_pos hok] at hV2
      subst hV2
      have ho := hl.mono hB1.size
      rw [hle] at ho
      have hbb := hB1.trans (hB.mono hB1.size)
      clear hl H'
      have ho' := Lib.hid ho
      have hbb' := Lib.hid hbb
      clear ho hbb
      go_wp2
      go_ret2
      exact ⟨_, rfl, ho'.out, hbb'.out⟩
end Go.Proofs.YtjkgilenhoomoaaGreat

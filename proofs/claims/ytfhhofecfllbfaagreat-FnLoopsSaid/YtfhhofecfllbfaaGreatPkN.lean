/- Several texts in one: Runs Chain ChFaults OrRun ChRuns RunsThrough ChainFns. No conditions but those that each theorem states. -/
import Derived.Test.YtfhhofecfllbfaaGreatPkK
import Derived.Deep.RegionHeld3
import Derived.BigQuiet
import Derived.Test.YtfhhofecfllbfaaGreatPkL
import Derived.Test.YtfhhofecfllbfaaGreatPkG
import Derived.Test.YtfhhofecfllbfaaGreatPkH
namespace Go.Proofs.YtfhhofecfllbfaaGreat
open Go.RowKit
set_option maxRecDepth 100000
set_option linter.unusedSimpArgs false in
set_option maxRecDepth 10000 in
set_option maxHeartbeats 4000000 in
theorem runsThrough_any (v u : Value) (f l : List Quad) (x : Int × Int) (w : World) (hv : QuadV w v f) (hu : QuadV w u l) (hf : MapP f) (hl : ivsB l = true) (hx : unitR x.1 x.2 = true) :
  Calls Tryz.prog 58 #[v, u, .agg #[.int .i64 x.1, .int .i64 x.2]] w (Ret (.tuple #[.bool (runs_v f l x).1, .bool (runs_v f l x).2]) w) := by
 obtain ⟨hl1, hl2⟩ := ivsB_true hl
 have c0 := fun w' (hB : Below w.heap.size w w') => orbit_any v f x l.length w' (hv.below hB) hf hx (by omega)
 have hNle := runN_le f x l.length
 have hpu := fun k (h : ∀ j, j < k → atOk f (pz f x j) = true) => pz_unit hf hx k h
 have hok := fun j (h : j < runN f x l.length) => runN_ok f x l.length j h
 have hLn := orbL_len f x l.length
 have hat : ∀ i, i ≤ runN f x l.length → nthR (orbL f x l.length) i = pz f x i := fun i hi => nthR_ptL hi
 have cI := fun (k : Nat) (w' : World) (h : k < l.length) (h2 : k < runN f x l.length) => isIn_any (nth4 l k) (pz f x k) w' (unit_bd (ivB_true (hl2 k h)).1) (unit_bd (ivB_true (hl2 k h)).2.1) (unit_bd (hpu k fun j hj => hok j (by omega)))
 have hst := allIn_step f l x
 have hfl := fun k (h : k < l.length) hb => allIn_false (f := f) (l := l) (x := x) h hb
 have h00 : allIn f l x 0 = true := rfl
 have hV : runs_v f l x = if runN f x l.length < l.length then (false, false) else if allIn f l x l.length = true then (decide (pz f x l.length = x), true) else (false, true) := rfl
 rw [hV]
 clear hV hpu hok hl hl2
 obtain ⟨n, hn⟩ : ∃ n, l.length = n := ⟨_, rfl⟩
 rw [hn] at c0 hNle hLn hat cI hfl hl1 ⊢
 generalize orbL f x n = OL at *
 generalize runN f x n = N at *
 generalize allIn f l x = AI at *
 generalize pz f x = pp at *
 obtain ⟨V, hV⟩ : ∃ V, (if N < n then (false, false) else if AI n = true then (decide (pp n = x), true) else (false, true)) = V := ⟨_, rfl⟩
 rw [hV]
 obtain ⟨x0, x1⟩ := x
 simp only at c0
 obtain ⟨w0, hw0⟩ : ∃ W, w.alloc (.cells #[.int .i64 x0, .int .i64 x1] 42) = W := ⟨_, rfl⟩
 have hB0 : Below w.heap.size w w0 := by rw [← hw0]; exact (Below.refl _ _).alloc (Nat.le_refl _) _
 have e0 : w0.cell? ⟨w.heap.size, 0, none⟩ = some (.int .i64 x0) := by rw [← hw0]; simp [go_sem]
 have e1 : w0.cell? ⟨w.heap.size, 1, none⟩ = some (.int .i64 x1) := by rw [← hw0]; simp [go_sem]
 obtain ⟨ao, cap, rfl, _, _, H⟩ := hu.form
 rw [hn] at H ⊢
 clear hu
 have c0' := Lib.hid c0; have hLn' := Lib.hid hLn; have hat' := Lib.hid hat; have cI' := Lib.hid cI; have hst' := Lib.hid hst; have hfl' := Lib.hid hfl; have h00' := Lib.hid h00; have hV' := Lib.hid hV; have hw0' := Lib.hid hw0; have hn' := Lib.hid hn; have H' := Lib.hid H; clear c0 hLn hat cI hst hfl h00 hV hw0 hn H
 show Calls _ _ #[_, _, .agg #[.int .i64 x0, .int .i64 x1]] w _
 go_enter Tryz.func58, Tryz.ntmps58
 go_wp2_with fail
 rw [hw0'.out]
 go_wp2_with fail
 refine (c0'.out _ hB0).mono ?_
 rintro e w1 ⟨v1, rfl, hv1, hB1⟩
 have hb1 := hB0.trans (hB1.mono hB0.size)
 replace e0 := bkeep hB1 e0
 replace e1 := bkeep hB1 e1
 obtain ⟨ao1, cap1, rfl, _, _, H1⟩ := hv1.read.form
 rw [hLn'.out] at H1 ⊢
 clear hv1 hB1 hB0
 have H1' := Lib.hid H1; clear H1
 have hV := hV'.out
 by_cases hN : N < n
 ·rw [if_pos hN] at hV
  have hle : ((N + 1 : Nat) : Int) ≤ (n : Int) := by omega
  subst hV
  have hb1' := Lib.hid hb1; clear hb1
  go_wp2
  go_ret2
  exact ⟨rfl, hb1'.out⟩
 ·rw [if_neg hN] at hV
  obtain rfl : N = n := by omega
  obtain ⟨m, hm⟩ : ∃ m, N + 1 = m := ⟨_, rfl⟩
  rw [hm] at H1' ⊢
  have hle : decide (m ≤ N) = false := decide_eq_false (by omega)
  clear hV
  have hb1' := Lib.hid hb1; clear hb1
  go_wp2
  go_loopw [23] (fun i wr => ∃ k : Nat, k ≤ N ∧ i = .int .i64 k ∧ AI k = true ∧ Below w1.heap.size w1 wr) (fun i _ => N - (intOf i).toNat)
  case atStart => exact ⟨0, Nat.zero_le _, rfl, h00'.out, Below.refl _ _⟩
  case round =>
   obtain ⟨k, hk, rfl, hai, hB⟩ := hrel
   by_cases hlt : k < N
   ·obtain ⟨b, off, rfl, p0, p1, p2, p3⟩ := H'.out k hlt
    obtain ⟨b1, off1, rfl, q0, q1⟩ := H1'.out k (by omega)
    rw [hat'.out k (by omega)] at q0 q1
    replace p0 := bkeep hB (bkeep hb1'.out p0)
    replace p1 := bkeep hB (bkeep hb1'.out p1)
    replace p2 := bkeep hB (bkeep hb1'.out p2)
    replace p3 := bkeep hB (bkeep hb1'.out p3)
    replace q0 := bkeep hB q0
    replace q1 := bkeep hB q1
    have cI1 := fun w' => cI'.out k w' hlt hlt
    have hst1 := hst'.out k
    rw [hai, Bool.true_and] at hst1
    have hfl1 := hfl'.out k hlt
    generalize inI (nth4 l k) (pp k) = I at *
    generalize nth4 l k = r at *
    generalize pp k = y at *
    obtain ⟨⟨a0, a1⟩, ⟨a2, a3⟩⟩ := r
    obtain ⟨y0, y1⟩ := y
    simp only at p0 p1 p2 p3 q0 q1 cI1
    have hsr := hB.size
    obtain ⟨w4, hw4⟩ : ∃ W, wr.alloc (.cells #[.int .i64 a0, .int .i64 a1, .int .i64 a2, .int .i64 a3] 44) = W := ⟨_, rfl⟩
    have hB4 : Below wr.heap.size wr w4 := by rw [← hw4]; exact (Below.refl _ _).alloc (Nat.le_refl _) _
    have i0 : w4.cell? ⟨wr.heap.size, 0, none⟩ = some (.int .i64 a0) := by rw [← hw4]; simp [go_sem]
    have i1 : w4.cell? ⟨wr.heap.size, 1, none⟩ = some (.int .i64 a1) := by rw [← hw4]; simp [go_sem]
    have i2 : w4.cell? ⟨wr.heap.size, 2, none⟩ = some (.int .i64 a2) := by rw [← hw4]; simp [go_sem]
    have i3 : w4.cell? ⟨wr.heap.size, 3, none⟩ = some (.int .i64 a3) := by rw [← hw4]; simp [go_sem]
    replace q0 := bkeep hB4 q0
    replace q1 := bkeep hB4 q1
    have hd : Below w4.heap.size w4 w4.drew := (Below.refl _ _).drew
    have at' : ∀ w' : World, Below w4.heap.size w4 w' → ((w'.cell? ⟨wr.heap.size, 0, none⟩ = some (.int .i64 a0) ∧ w'.cell? ⟨wr.heap.size, 1, none⟩ = some (.int .i64 a1) ∧ w'.cell? ⟨wr.heap.size, 2, none⟩ = some (.int .i64 a2) ∧ w'.cell? ⟨wr.heap.size, 3, none⟩ = some (.int .i64 a3)) ∧ w'.cell? ⟨b1, off1 + k * 2, none⟩ = some (.int .i64 y0) ∧ w'.cell? ⟨b1, off1 + k * 2 + 1, none⟩ = some (.int .i64 y1)) :=
     fun w' h => ⟨⟨bkeep h i0, bkeep h i1, bkeep h i2, bkeep h i3⟩, bkeep h q0, bkeep h q1⟩
    have g1 : (0 : Int) ≤ (k : Int) := by omega
    have g2 : (k : Int) < (m : Int) := by omega
    have g3 : k < m := by omega
    have hb4 := hB.trans (hB4.mono hsr)
    clear i0 i1 i2 i3 q0 q1 hB4 hB
    have cI1' := Lib.hid cI1; have hst1' := Lib.hid hst1; have hfl1' := Lib.hid hfl1; have hai' := Lib.hid hai; have at'' := Lib.hid at'; have hw4' := Lib.hid hw4; have hb4' := Lib.hid hb4; have hm' := Lib.hid hm; clear cI1 hst1 hfl1 hai at' hw4 hb4 hm
    go_wp2_with fail
    rw [hw4'.out]
    go_wp2_with fail
    refine wp_region_held_drew (S := (fun w' => ((w'.cell? ⟨wr.heap.size, 0, none⟩ = some (.int .i64 a0) ∧ w'.cell? ⟨wr.heap.size, 1, none⟩ = some (.int .i64 a1) ∧ w'.cell? ⟨wr.heap.size, 2, none⟩ = some (.int .i64 a2) ∧ w'.cell? ⟨wr.heap.size, 3, none⟩ = some (.int .i64 a3)) ∧ w'.cell? ⟨b1, off1 + k * 2, none⟩ = some (.int .i64 y0) ∧ w'.cell? ⟨b1, off1 + k * 2 + 1, none⟩ = some (.int .i64 y1)))) (by kernel_rfl) (by (try dsimp only); exact at''.out _ ‹_›) (fun hHeld => ?_)
    refine ly_s 0 hHeld ?_
    refine ly_s 1 hHeld ?_
    refine ly_s 2 hHeld ?_
    refine ly_s 3 hHeld ?_
    refine ly_s 4 hHeld ?_
    refine ly_a 5 (fun KK hKK => ?_)
    go_simp
    refine (cI1'.out _).mono ?_
    rintro e w5 ⟨rfl, hB5⟩
    have hd5 := hd.trans (hB5.mono hd.size)
    try dsimp only
    refine hKK.out _ _ (by (try dsimp only); exact at''.out _ ‹_›) (fun hHeld => ?_)
    clear hKK KK
    try simp only [Act.put, lyA, lyB, lyC]
    refine ly_s 6 hHeld ?_
    refine wpAnyH_done (by kernel_rfl) ?_ _
    have hb5 := hb4'.out.trans (hd5.mono hb4'.out.size)
    clear hHeld hd hd5 hB5
    have hb5' := Lib.hid hb5; clear hb5
    cases I
    ·have hV2 := hV'.out
     rw [if_neg (by omega), if_neg (by rw [hfl1'.out (by first | rfl | trivial)]; decide)] at hV2
     subst hV2
     go_wp2
     go_ret2
     exact ⟨rfl, hb1'.out.trans (hb5'.out.mono hb1'.out.size)⟩
    ·go_wp2
     go_roundw
     case rel =>
      exact ⟨k + 1, by omega, by go_num, hst1'.out, hb5'.out⟩
     case measure => simp [intOf]; omega
   ·obtain rfl : k = N := by omega
    obtain ⟨b1, off1, rfl, q0, q1⟩ := H1'.out k (by omega)
    rw [hat'.out k (by omega)] at q0 q1
    replace q0 := bkeep hB q0
    replace q1 := bkeep hB q1
    replace e0 := bkeep hB e0
    replace e1 := bkeep hB e1
    have hV2 := hV'.out
    rw [if_neg (by omega), if_pos hai] at hV2
    have g1 : (0 : Int) ≤ (k : Int) := by omega
    have g2 : (k : Int) < (m : Int) := by omega
    have g3 : k < m := by omega
    have hbe := hb1'.out.trans (hB.mono hb1'.out.size)
    generalize pp k = y at *
    obtain ⟨y0, y1⟩ := y
    simp only at q0 q1
    clear hB hai
    by_cases h0 : y0 = x0
    ·by_cases h1 : y1 = x1
     ·subst h0 h1
      rw [decide_eq_true rfl] at hV2
      subst hV2
      have hbe' := Lib.hid hbe; have hm' := Lib.hid hm; clear hbe hm
      go_wp2_with fail
      go_region
      go_wp2
      go_ret2
      exact ⟨rfl, hbe'.out.drew⟩
     ·rw [decide_eq_false (by simp [h1])] at hV2
      subst h0 hV2
      have hbe' := Lib.hid hbe; have hm' := Lib.hid hm; clear hbe hm
      go_wp2_with fail
      go_region
      go_wp2
      go_ret2
      exact ⟨rfl, hbe'.out.drew⟩
    ·rw [decide_eq_false (by simp [h0])] at hV2
     subst hV2
     have hbe' := Lib.hid hbe; have hm' := Lib.hid hm; clear hbe hm
     go_wp2_with fail
     go_region
     go_wp2
     go_ret2
     exact ⟨rfl, hbe'.out.drew⟩
def nxt (n k : Nat) : Nat := (k + 1) % n
theorem nxt_lt {n k : Nat} (h : k < n) : nxt n k < n := Nat.mod_lt _ (by omega)
def cfK (f l : List Quad) : Nat → List Int
 | 0 => []
 | k + 1 => if covB f (nth4 l k) (nth4 l (nxt l.length k)) = true then cfK f l k else cfK f l k ++ [(k : Int)]
theorem cfK_len (f l : List Quad) (k : Nat) : (cfK f l k).length ≤ k := by
 induction k with
 | zero => exact Nat.le_refl _
 | succ k ih =>
   unfold cfK
   split
   ·omega
   ·rw [List.length_append]; simp; exact ih
def ckK (f l : List Quad) (k : Nat) : Bool := (List.range k).all fun i => imgOk f (nth4 l i).1 (nth4 l i).2
theorem ckK_step (f l : List Quad) (k : Nat) : ckK f l (k + 1) = (ckK f l k && imgOk f (nth4 l k).1 (nth4 l k).2) := by simp [ckK, List.range_succ, List.all_append]
theorem ckK_false {f l : List Quad} {k n : Nat} (h : k < n) (hb : imgOk f (nth4 l k).1 (nth4 l k).2 = false) : ckK f l n = false := by
 unfold ckK
 rw [List.all_eq_false]
 exact ⟨k, List.mem_range.2 h, by rw [hb]; simp⟩
def cf_v (f l : List Quad) : List Int × Bool := if ckK f l l.length = true then (cfK f l l.length, true) else ([], false)
def ChainFaults_v (f l : List Quad) : List Int × Bool := if mapB f = true ∧ ivsB l = true then cf_v f l else ([], false)
theorem ChainFaults_len (f l : List Quad) : (ChainFaults_v f l).1.length ≤ 1099511627776 := by
 unfold ChainFaults_v cf_v
 split
 ·rename_i h
  have := (ivsB_true h.2).1
  split
  ·have := cfK_len f l l.length
   show (cfK f l l.length).length ≤ _
   omega
  ·simp
 ·simp
set_option linter.unusedSimpArgs false in
set_option maxRecDepth 10000 in
set_option maxHeartbeats 4000000 in
theorem chainFaults_in (v u : Value) (f l : List Quad) (w : World) (hv : QuadV w v f) (hu : QuadV w u l) (hf : MapP f) (hl : ivsB l = true)
  (c1 : Calls Tryz.prog 55 #[v, u] w (Ret (.bool true) w)) :
  Calls Tryz.prog 104 #[v, u] w (RetOB Own (cf_v f l) w) := by
 obtain ⟨hl1, hl2⟩ := ivsB_true hl
 have hnx : ∀ k, k < l.length → nxt l.length k < l.length := fun k h => nxt_lt h
 have cc := fun (k : Nat) (g : Nat) (bd : Bool) (w' : World) (hB : Below w.heap.size w w') (hg : w.heap.size ≤ g) (h : k < l.length) (hc : CalcAt w' g bd) =>
  covers_any g bd v f (nth4 l k) (nth4 l (nxt l.length k)) w w' hv hB hg hf (ivB_true (hl2 k h)).1 (ivB_true (hl2 k h)).2.1 (ivB_true (hl2 _ (hnx k h))).1 (ivB_true (hl2 _ (hnx k h))).2.1 hc
 have hck := ckK_step f l
 have h00 : ckK f l 0 = true := rfl
 have hcf : ∀ k, cfK f l (k + 1) = if covB f (nth4 l k) (nth4 l (nxt l.length k)) = true then cfK f l k else cfK f l k ++ [(k : Int)] := fun k => rfl
 have hcl := cfK_len f l
 have hc0 : cfK f l 0 = [] := rfl
 have hV : cf_v f l = if ckK f l l.length = true then (cfK f l l.length, true) else ([], false) := rfl
 rw [hV]
 clear hV hl2 hl hf
 obtain ⟨n, hn⟩ : ∃ n, l.length = n := ⟨_, rfl⟩
 rw [hn] at cc hcf hnx hl1 ⊢
 generalize cfK f l = CF at *
 generalize ckK f l = CK at *
 obtain ⟨OK, hOK⟩ : ∃ OK : Nat → Bool, ∀ k, imgOk f (nth4 l k).1 (nth4 l k).2 = OK k := ⟨_, fun _ => rfl⟩
 obtain ⟨CB, hCB⟩ : ∃ CB : Nat → Bool, ∀ k, covB f (nth4 l k) (nth4 l (nxt n k)) = CB k := ⟨_, fun _ => rfl⟩
 simp only [hOK, hCB] at cc hck hcf
 clear hOK hCB
 obtain ⟨V, hV⟩ : ∃ V, (if CK n = true then (CF n, true) else ([], false)) = V := ⟨_, rfl⟩
 rw [hV]
 obtain ⟨ao, cap, rfl, _, _, H⟩ := hu.form
 rw [hn] at H c1 ⊢
 clear hu hv
 have cc' := Lib.hid cc; have hck' := Lib.hid hck; have h00' := Lib.hid h00; have hcf' := Lib.hid hcf; have hcl' := Lib.hid hcl; have hc0' := Lib.hid hc0; have hV' := Lib.hid hV; have hn' := Lib.hid hn; have H' := Lib.hid H; have c1' := Lib.hid c1; clear cc hck h00 hcf hcl hc0 hV hn H c1
 go_enter Tryz.func104, Tryz.ntmps104
 go_wp2_with fail
 refine (c1'.out).mono ?_
 rintro e w1 ⟨rfl, hB1⟩
 obtain ⟨wc, hwc⟩ : ∃ W, w1.alloc (.cells #[.bool false] 92) = W := ⟨_, rfl⟩
 have hBc : Below w1.heap.size w1 wc := by rw [← hwc]; exact (Below.refl _ _).alloc (Nat.le_refl _) _
 have hcA : CalcAt wc w1.heap.size false := by rw [← hwc]; refine ⟨?_, ?_⟩ <;> simp [go_sem]
 have hbc := hB1.trans (hBc.mono hB1.size)
 have hs1 := hB1.size
 have hsc : wc.heap.size = w1.heap.size + 1 := by rw [← hwc]; simp
 obtain ⟨g, hg⟩ : ∃ g, w1.heap.size = g := ⟨_, rfl⟩
 rw [hg] at hcA hs1 hsc
 clear hB1 hBc
 have hwc' := Lib.hid hwc; have hbc' := Lib.hid hbc; have hcA' := Lib.hid hcA; clear hwc hbc hcA
 go_wp2
 rw [hwc'.out]
 go_loopw [7, 16] (fun o i wr => ∃ k : Nat, k ≤ n ∧ i = .int .i64 k ∧ Grow wr (g + 1) o (CF k) ∧ CalcAt wr g (!(CK k)) ∧ Below w.heap.size w wr ∧ g + 1 ≤ wr.heap.size) (fun _ i _ => n - (intOf i).toNat)
 case atStart => exact ⟨0, Nat.zero_le _, rfl, by rw [hc0'.out]; exact Grow.nil _ _, by rw [h00'.out]; exact hcA'.out, hbc'.out, by omega⟩
 case round =>
  obtain ⟨k, hk, rfl, hgr, hcr, hbr, hsr⟩ := hrel
  by_cases hlt : k < n
  ·obtain ⟨b, off, rfl, p0, p1, p2, p3⟩ := H'.out k hlt
   obtain ⟨m, hm⟩ : ∃ m, nxt n k = m := ⟨_, rfl⟩
   have hml : m < n := by rw [← hm]; exact hnx k hlt
   obtain ⟨_, _, e, q0, q1, q2, q3⟩ := H'.out m hml
   cases e
   have cc1 := fun w' hB hc => cc'.out k g (!(CK k)) w' hB hs1 hlt hc
   rw [hm] at cc1
   have hlb : ∀ {o : Nat} {x : Value}, w.cell? ⟨b, o, none⟩ = some x → b ≠ g := fun h e => by have := World.block_lt_of_cell? w _ h; simp only at this; omega
   have hbg := hlb p0
   clear hlb
   replace p0 := bkeep hbr p0
   replace p1 := bkeep hbr p1
   replace p2 := bkeep hbr p2
   replace p3 := bkeep hbr p3
   replace q0 := bkeep hbr q0
   replace q1 := bkeep hbr q1
   replace q2 := bkeep hbr q2
   replace q3 := bkeep hbr q3
   have hck1 := hck'.out k
   have hcf1 := hcf'.out k
   generalize nth4 l k = P at *
   generalize nth4 l m = Q at *
   generalize OK k = ok at *
   generalize CB k = cb at *
   have hn0 : n ≠ 0 := by omega
   have hrem : Int.tmod ((k : Int) + 1) (n : Int) = (m : Int) := by
    rw [← hm, show ((k : Int) + 1) = ((k + 1 : Nat) : Int) by omega]
    rfl
   obtain ⟨⟨a0, a1⟩, ⟨a2, a3⟩⟩ := P
   obtain ⟨⟨b0, b1⟩, ⟨b2, b3⟩⟩ := Q
   simp only at p0 p1 p2 p3 q0 q1 q2 q3 cc1
   obtain ⟨w4, hw4⟩ : ∃ W, wr.alloc (.cells #[.int .i64 a0, .int .i64 a1, .int .i64 a2, .int .i64 a3] 44) = W := ⟨_, rfl⟩
   have hB4 : Below wr.heap.size wr w4 := by rw [← hw4]; exact (Below.refl _ _).alloc (Nat.le_refl _) _
   have i0 : w4.cell? ⟨wr.heap.size, 0, none⟩ = some (.int .i64 a0) := by rw [← hw4]; simp [go_sem]
   have i1 : w4.cell? ⟨wr.heap.size, 1, none⟩ = some (.int .i64 a1) := by rw [← hw4]; simp [go_sem]
   have i2 : w4.cell? ⟨wr.heap.size, 2, none⟩ = some (.int .i64 a2) := by rw [← hw4]; simp [go_sem]
   have i3 : w4.cell? ⟨wr.heap.size, 3, none⟩ = some (.int .i64 a3) := by rw [← hw4]; simp [go_sem]
   have hr4 : w4.heap.size = wr.heap.size + 1 := by rw [← hw4]; simp
   replace q0 := bkeep hB4 q0
   replace q1 := bkeep hB4 q1
   replace q2 := bkeep hB4 q2
   replace q3 := bkeep hB4 q3
   have hb4 := hbr.trans (hB4.mono hbr.size)
   have hcd : CalcAt w4.drew g (!(CK k)) := (hcr.below hB4).drew
   have hbd : Below w.heap.size w w4.drew := hb4.drew
   have hgr4 := hgr.below hB4
   have hrg1 : (some g : Option Nat) ≠ some wr.heap.size := fun e => by have := Option.some.inj e; omega
   have hrg2 : (some g : Option Nat) ≠ some b := fun e => hbg (Option.some.inj e).symm
   have hgd : w4.grownBy w4.drew (some g) := gdrew (World.grownBy.refl _ _)
   have at' : ∀ w', w4.grownBy w' (some g) → (w'.cell? ⟨wr.heap.size, 0, none⟩ = some (.int .i64 a0) ∧ w'.cell? ⟨wr.heap.size, 1, none⟩ = some (.int .i64 a1) ∧ w'.cell? ⟨wr.heap.size, 2, none⟩ = some (.int .i64 a2) ∧ w'.cell? ⟨wr.heap.size, 3, none⟩ = some (.int .i64 a3)) ∧ w'.cell? ⟨b, off + m * 4, none⟩ = some (.int .i64 b0) ∧ w'.cell? ⟨b, off + m * 4 + 1, none⟩ = some (.int .i64 b1) ∧ w'.cell? ⟨b, off + m * 4 + 2, none⟩ = some (.int .i64 b2) ∧ w'.cell? ⟨b, off + m * 4 + 3, none⟩ = some (.int .i64 b3) :=
    fun w' h => ⟨⟨gcell h i0 hrg1, gcell h i1 hrg1, gcell h i2 hrg1, gcell h i3 hrg1⟩, gcell h q0 hrg2, gcell h q1 hrg2, gcell h q2 hrg2, gcell h q3 hrg2⟩
   have g1 : (0 : Int) ≤ (m : Int) := by omega
   have g2 : (m : Int) < (n : Int) := by omega
   have cc2 := cc1 _ hbd hcd
   have hwi : IntKind.i64.wrap ((k : Int) + 1) = (k : Int) + 1 := by rw [IntKind.wrap_i64]; omega
   clear i0 i1 i2 i3 q0 q1 q2 q3 hB4 hgr hcr cc1 hcd hb4 hbr
   have cc2' := Lib.hid cc2; have hck1' := Lib.hid hck1; have hcf1' := Lib.hid hcf1; have at'' := Lib.hid at'; have hw4' := Lib.hid hw4; have hgr4' := Lib.hid hgr4; have hm' := Lib.hid hm; clear cc2 hck1 hcf1 at' hw4 hgr4 hm
   go_wp2_with fail
   rw [hw4'.out]
   clear p0 p1 p2 p3
   go_wp2_with fail
   refine wp_region_held_drew (S := (fun w' => (w'.cell? ⟨wr.heap.size, 0, none⟩ = some (.int .i64 a0) ∧ w'.cell? ⟨wr.heap.size, 1, none⟩ = some (.int .i64 a1) ∧ w'.cell? ⟨wr.heap.size, 2, none⟩ = some (.int .i64 a2) ∧ w'.cell? ⟨wr.heap.size, 3, none⟩ = some (.int .i64 a3)) ∧ w'.cell? ⟨b, off + m * 4, none⟩ = some (.int .i64 b0) ∧ w'.cell? ⟨b, off + m * 4 + 1, none⟩ = some (.int .i64 b1) ∧ w'.cell? ⟨b, off + m * 4 + 2, none⟩ = some (.int .i64 b2) ∧ w'.cell? ⟨b, off + m * 4 + 3, none⟩ = some (.int .i64 b3))) (by kernel_rfl) (by (try dsimp only); exact at''.out _ ‹_›) (fun hHeld => ?_)
   refine ly_s 0 hHeld ?_
   refine ly_s 1 hHeld ?_
   refine ly_s 2 hHeld ?_
   refine ly_s 3 hHeld ?_
   refine ly_s 4 hHeld ?_
   refine ly_s 5 hHeld ?_
   refine ly_s 6 hHeld ?_
   refine ly_s 7 hHeld ?_
   refine ly_s 8 hHeld ?_
   refine ly_s 9 hHeld ?_
   refine ly_a 10 (fun KK hKK => ?_)
   go_simp
   refine (cc2'.out).mono ?_
   rintro e w5 ⟨rfl, hg5, hc5⟩
   have hgd2 := hgd.trans hg5
   try dsimp only
   refine hKK.out _ _ (by (try dsimp only); exact at''.out _ ‹_›) (fun hHeld => ?_)
   clear hKK KK
   try simp only [Act.put, lyA, lyB, lyC]
   refine ly_s 11 hHeld ?_
   refine wpAnyH_done (by kernel_rfl) ?_ _
   clear hHeld
   have hb5 : Below w.heap.size w w5 := hbd.grown hg5 hbd.size (fun j hj => by have := Option.some.inj hj; omega)
   have hgr5 : Grow w5 (g + 1) u7 (CF k) := (hgr4'.out.drew).keptC hg5 (Nat.lt_succ_self _)
   have hc6 : CalcAt w5 g (!(CK (k + 1))) := by rw [hck1'.out, Bool.not_and]; exact hc5
   have hs5 := hg5.size
   have hs6 : g + 1 ≤ w5.heap.size := by
    have : w4.drew.heap.size = w4.heap.size := rfl
    omega
   clear hgd hgd2 hg5 hc5 hbd
   have hcl1 := hcl'.out k
   cases cb
   ·have e2 : CF (k + 1) = CF k ++ [(k : Int)] := by rw [hcf1'.out]; rfl
    have hb5' := Lib.hid hb5; have hgr5' := Lib.hid hgr5; have hc6' := Lib.hid hc6; have e2' := Lib.hid e2; have hcl1' := Lib.hid hcl1; clear hb5 hgr5 hc6 e2 hcl1
    go_wp2_with (at_builtin; refine wpList_append_int rfl _ _ rfl (g + 1) u7 (CF k) (k : Int) 1 rfl rfl hgr5'.out (by have := hcl1'.out; omega) (by omega) ?_)
    intro v' w6 hown hgrow
    have hb6 := hgr5'.out.belowB hb5'.out (by omega) (by omega) hgrow
    have hc7 := hc6'.out.grown hgrow (fun e => by have := (World.ownsRow.lt hgr5'.out g e).1; omega)
    have hs7 := hgrow.size
    clear hgrow
    have hown' := Lib.hid hown; have hb6' := Lib.hid hb6; have hc7' := Lib.hid hc7; clear hown hb6 hc7
    go_wp2
    go_roundw
    case rel => exact ⟨k + 1, by omega, by go_num, by rw [e2'.out]; exact hown'.out, hc7'.out, hb6'.out, by omega⟩
    case measure => simp [intOf]; omega
   ·have e2 : CF (k + 1) = CF k := by rw [hcf1'.out]; rfl
    have hb5' := Lib.hid hb5; have hgr5' := Lib.hid hgr5; have hc6' := Lib.hid hc6; have e2' := Lib.hid e2; clear hb5 hgr5 hc6 e2
    go_wp2
    go_roundw
    case rel => exact ⟨k + 1, by omega, by go_num, by rw [e2'.out]; exact hgr5'.out, hc6'.out, hb5'.out, hs6⟩
    case measure => simp [intOf]; omega
  ·obtain rfl : k = n := by omega
   have hV := hV'.out
   have hp := hcr.cell
   have hgro := hgr.own
   generalize CK k = ck at *
   clear hcr hgr H'
   cases ck
   ·rw [if_neg (by decide)] at hV
    subst hV
    have hbr' := Lib.hid hbr; have hgro' := Lib.hid hgro; clear hbr hgro
    go_wp2
    go_ret2
    exact ⟨_, rfl, Own.nil _ _ _, hbr'.out⟩
   ·rw [if_pos rfl] at hV
    subst hV
    have hbr' := Lib.hid hbr; have hgro' := Lib.hid hgro; clear hbr hgro
    go_wp2
    go_ret2
    exact ⟨_, rfl, hgro'.out.mono (by omega) (Nat.le_refl _), hbr'.out⟩
set_option linter.unusedSimpArgs false in
set_option maxRecDepth 10000 in
set_option maxHeartbeats 4000000 in
theorem chFaults_any (v u : Value) (f l : List Quad) (w : World) (hv : QuadV w v f) (hu : QuadV w u l) (hf : MapP f) (hl : ivsB l = true) :
  Calls Tryz.prog 157 #[v, u] w (RetOB Own (cf_v f l) w) := by
 obtain ⟨hl1, hl2⟩ := ivsB_true hl
 have hnx : ∀ k, k < l.length → nxt l.length k < l.length := fun k h => nxt_lt h
 have cc := fun (k : Nat) (w' : World) (hB : Below w.heap.size w w') (h : k < l.length) =>
  ivCovers_any v f (nth4 l k) (nth4 l (nxt l.length k)) w' (hv.below hB) hf (ivB_true (hl2 k h)).1 (ivB_true (hl2 k h)).2.1 (ivB_true (hl2 _ (hnx k h))).1 (ivB_true (hl2 _ (hnx k h))).2.1
 have hck := ckK_step f l
 have h00 : ckK f l 0 = true := rfl
 have hcf : ∀ k, cfK f l (k + 1) = if covB f (nth4 l k) (nth4 l (nxt l.length k)) = true then cfK f l k else cfK f l k ++ [(k : Int)] := fun k => rfl
 have hcl := cfK_len f l
 have hc0 : cfK f l 0 = [] := rfl
 have hV : cf_v f l = if ckK f l l.length = true then (cfK f l l.length, true) else ([], false) := rfl
 have hno := fun k (h : k < l.length) hb => ckK_false (f := f) (l := l) h hb
 have hR : ∀ k j, covR f (nth4 l k) (nth4 l j) = if imgOk f (nth4 l k).1 (nth4 l k).2 = true then (covB f (nth4 l k) (nth4 l j), true) else (false, false) := fun k j => rfl
 rw [hV]
 simp only [hR] at cc
 clear hV hl2 hl hf hR
 obtain ⟨n, hn⟩ : ∃ n, l.length = n := ⟨_, rfl⟩
 rw [hn] at cc hcf hnx hl1 hno ⊢
 generalize cfK f l = CF at *
 generalize ckK f l = CK at *
 obtain ⟨OK, hOK⟩ : ∃ OK : Nat → Bool, ∀ k, imgOk f (nth4 l k).1 (nth4 l k).2 = OK k := ⟨_, fun _ => rfl⟩
 obtain ⟨CB, hCB⟩ : ∃ CB : Nat → Bool, ∀ k, covB f (nth4 l k) (nth4 l (nxt n k)) = CB k := ⟨_, fun _ => rfl⟩
 simp only [hOK, hCB] at cc hck hcf hno
 clear hOK hCB
 obtain ⟨V, hV⟩ : ∃ V, (if CK n = true then (CF n, true) else ([], false)) = V := ⟨_, rfl⟩
 rw [hV]
 obtain ⟨ao, cap, rfl, _, _, H⟩ := hu.form
 rw [hn] at H ⊢
 clear hu hv
 have cc' := Lib.hid cc; have hck' := Lib.hid hck; have h00' := Lib.hid h00; have hcf' := Lib.hid hcf; have hcl' := Lib.hid hcl; have hc0' := Lib.hid hc0; have hV' := Lib.hid hV; have hn' := Lib.hid hn; have H' := Lib.hid H; have hno' := Lib.hid hno; clear cc hck h00 hcf hcl hc0 hV hn H hno
 go_enter Tryz.func157, Tryz.ntmps157
 go_wp2
 go_loopw [6, 13] (fun o i wr => ∃ k : Nat, k ≤ n ∧ i = .int .i64 k ∧ Grow wr w.heap.size o (CF k) ∧ CK k = true ∧ Below w.heap.size w wr) (fun _ i _ => n - (intOf i).toNat)
 case atStart => exact ⟨0, Nat.zero_le _, rfl, by rw [hc0'.out]; exact Grow.nil _ _, h00'.out, Below.refl _ _⟩
 case round =>
  obtain ⟨k, hk, rfl, hgr, hcr, hbr⟩ := hrel
  by_cases hlt : k < n
  ·obtain ⟨b, off, rfl, p0, p1, p2, p3⟩ := H'.out k hlt
   obtain ⟨m, hm⟩ : ∃ m, nxt n k = m := ⟨_, rfl⟩
   have hml : m < n := by rw [← hm]; exact hnx k hlt
   obtain ⟨_, _, e, q0, q1, q2, q3⟩ := H'.out m hml
   cases e
   have cc1 := fun w' hB => cc'.out k w' hB hlt
   rw [hm] at cc1
   replace p0 := bkeep hbr p0
   replace p1 := bkeep hbr p1
   replace p2 := bkeep hbr p2
   replace p3 := bkeep hbr p3
   replace q0 := bkeep hbr q0
   replace q1 := bkeep hbr q1
   replace q2 := bkeep hbr q2
   replace q3 := bkeep hbr q3
   have hck1 := hck'.out k
   have hcf1 := hcf'.out k
   have hno1 := hno'.out k hlt
   have hcl1 := hcl'.out k
   rw [hcr, Bool.true_and] at hck1
   generalize nth4 l k = P at *
   generalize nth4 l m = Q at *
   generalize OK k = ok at *
   generalize CB k = cb at *
   have hn0 : n ≠ 0 := by omega
   have hrem : Int.tmod ((k : Int) + 1) (n : Int) = (m : Int) := by
    rw [← hm, show ((k : Int) + 1) = ((k + 1 : Nat) : Int) by omega]
    rfl
   obtain ⟨⟨a0, a1⟩, ⟨a2, a3⟩⟩ := P
   obtain ⟨⟨b0, b1⟩, ⟨b2, b3⟩⟩ := Q
   simp only at p0 p1 p2 p3 q0 q1 q2 q3 cc1
   obtain ⟨w4, hw4⟩ : ∃ W, wr.alloc (.cells #[.int .i64 a0, .int .i64 a1, .int .i64 a2, .int .i64 a3] 44) = W := ⟨_, rfl⟩
   have hB4 : Below wr.heap.size wr w4 := by rw [← hw4]; exact (Below.refl _ _).alloc (Nat.le_refl _) _
   have i0 : w4.cell? ⟨wr.heap.size, 0, none⟩ = some (.int .i64 a0) := by rw [← hw4]; simp [go_sem]
   have i1 : w4.cell? ⟨wr.heap.size, 1, none⟩ = some (.int .i64 a1) := by rw [← hw4]; simp [go_sem]
   have i2 : w4.cell? ⟨wr.heap.size, 2, none⟩ = some (.int .i64 a2) := by rw [← hw4]; simp [go_sem]
   have i3 : w4.cell? ⟨wr.heap.size, 3, none⟩ = some (.int .i64 a3) := by rw [← hw4]; simp [go_sem]
   replace q0 := bkeep hB4 q0
   replace q1 := bkeep hB4 q1
   replace q2 := bkeep hB4 q2
   replace q3 := bkeep hB4 q3
   have hb4 := hbr.trans (hB4.mono hbr.size)
   have hbd : Below w.heap.size w w4.drew := hb4.drew
   have hgr4 := hgr.below hB4
   have hd : Below w4.heap.size w4 w4.drew := (Below.refl _ _).drew
   have hs4 := hb4.size
   have at' : ∀ w', Below w4.heap.size w4 w' → (w'.cell? ⟨wr.heap.size, 0, none⟩ = some (.int .i64 a0) ∧ w'.cell? ⟨wr.heap.size, 1, none⟩ = some (.int .i64 a1) ∧ w'.cell? ⟨wr.heap.size, 2, none⟩ = some (.int .i64 a2) ∧ w'.cell? ⟨wr.heap.size, 3, none⟩ = some (.int .i64 a3)) ∧ w'.cell? ⟨b, off + m * 4, none⟩ = some (.int .i64 b0) ∧ w'.cell? ⟨b, off + m * 4 + 1, none⟩ = some (.int .i64 b1) ∧ w'.cell? ⟨b, off + m * 4 + 2, none⟩ = some (.int .i64 b2) ∧ w'.cell? ⟨b, off + m * 4 + 3, none⟩ = some (.int .i64 b3) :=
    fun w' h => ⟨⟨bkeep h i0, bkeep h i1, bkeep h i2, bkeep h i3⟩, bkeep h q0, bkeep h q1, bkeep h q2, bkeep h q3⟩
   have g1 : (0 : Int) ≤ (m : Int) := by omega
   have g2 : (m : Int) < (n : Int) := by omega
   have cc2 := cc1 _ hbd
   have hwi : IntKind.i64.wrap ((k : Int) + 1) = (k : Int) + 1 := by rw [IntKind.wrap_i64]; omega
   clear i0 i1 i2 i3 q0 q1 q2 q3 hB4 hgr cc1 hbd
   cases ok
   ·have e2 : CK n = false := hno1 rfl
    rw [if_neg (by decide)] at cc2
    clear hno1 hck1 hcf1
    have cc2' := Lib.hid cc2; have at'' := Lib.hid at'; have hw4' := Lib.hid hw4; have hgr4' := Lib.hid hgr4; have hm' := Lib.hid hm; have e2' := Lib.hid e2; have hcr' := Lib.hid hcr; clear cc2 at' hw4 hgr4 hm e2 hcr
    go_wp2_with fail
    rw [hw4'.out]
    clear p0 p1 p2 p3
    go_wp2_with fail
    refine wp_region_held_drew (S := (fun w' => (w'.cell? ⟨wr.heap.size, 0, none⟩ = some (.int .i64 a0) ∧ w'.cell? ⟨wr.heap.size, 1, none⟩ = some (.int .i64 a1) ∧ w'.cell? ⟨wr.heap.size, 2, none⟩ = some (.int .i64 a2) ∧ w'.cell? ⟨wr.heap.size, 3, none⟩ = some (.int .i64 a3)) ∧ w'.cell? ⟨b, off + m * 4, none⟩ = some (.int .i64 b0) ∧ w'.cell? ⟨b, off + m * 4 + 1, none⟩ = some (.int .i64 b1) ∧ w'.cell? ⟨b, off + m * 4 + 2, none⟩ = some (.int .i64 b2) ∧ w'.cell? ⟨b, off + m * 4 + 3, none⟩ = some (.int .i64 b3))) (by kernel_rfl) (by (try dsimp only); exact at''.out _ ‹_›) (fun hHeld => ?_)
    refine ly_s 0 hHeld ?_
    refine ly_s 1 hHeld ?_
    refine ly_s 2 hHeld ?_
    refine ly_s 3 hHeld ?_
    refine ly_s 4 hHeld ?_
    refine ly_s 5 hHeld ?_
    refine ly_s 6 hHeld ?_
    refine ly_s 7 hHeld ?_
    refine ly_s 8 hHeld ?_
    refine ly_s 9 hHeld ?_
    refine ly_a 10 (fun KK hKK => ?_)
    go_simp
    refine (cc2'.out).mono ?_
    rintro e w5 ⟨rfl, hB5⟩
    have hd2 := hd.trans (hB5.mono hd.size)
    try dsimp only
    refine hKK.out _ _ (by (try dsimp only); exact at''.out _ ‹_›) (fun hHeld => ?_)
    clear hKK KK
    try simp only [Act.put, lyA, lyB, lyC]
    refine ly_s 11 hHeld ?_
    refine ly_s 12 hHeld ?_
    refine ly_s 13 hHeld ?_
    refine ly_s 14 hHeld ?_
    refine ly_s 15 hHeld ?_
    refine wpAnyH_done (by kernel_rfl) ?_ _
    have hb5 := hb4.trans (hd2.mono hb4.size)
    clear hHeld hd hd2 hB5 hb4 hgr4'
    have hV := hV'.out
    rw [if_neg (by rw [e2'.out]; decide)] at hV
    subst hV
    have hb5' := Lib.hid hb5; clear hb5
    go_wp2
    go_ret2
    exact ⟨_, rfl, Own.nil _ _ _, hb5'.out⟩
   ·rw [if_pos rfl] at cc2
    clear hno1
    have cc2' := Lib.hid cc2; have at'' := Lib.hid at'; have hw4' := Lib.hid hw4; have hgr4' := Lib.hid hgr4; have hm' := Lib.hid hm; have hck1' := Lib.hid hck1; have hcr' := Lib.hid hcr; have hcf1' := Lib.hid hcf1; have hcl1' := Lib.hid hcl1; clear cc2 at' hw4 hgr4 hm hck1 hcr hcf1 hcl1
    go_wp2_with fail
    rw [hw4'.out]
    clear p0 p1 p2 p3
    go_wp2_with fail
    refine wp_region_held_drew (S := (fun w' => (w'.cell? ⟨wr.heap.size, 0, none⟩ = some (.int .i64 a0) ∧ w'.cell? ⟨wr.heap.size, 1, none⟩ = some (.int .i64 a1) ∧ w'.cell? ⟨wr.heap.size, 2, none⟩ = some (.int .i64 a2) ∧ w'.cell? ⟨wr.heap.size, 3, none⟩ = some (.int .i64 a3)) ∧ w'.cell? ⟨b, off + m * 4, none⟩ = some (.int .i64 b0) ∧ w'.cell? ⟨b, off + m * 4 + 1, none⟩ = some (.int .i64 b1) ∧ w'.cell? ⟨b, off + m * 4 + 2, none⟩ = some (.int .i64 b2) ∧ w'.cell? ⟨b, off + m * 4 + 3, none⟩ = some (.int .i64 b3))) (by kernel_rfl) (by (try dsimp only); exact at''.out _ ‹_›) (fun hHeld => ?_)
    refine ly_s 0 hHeld ?_
    refine ly_s 1 hHeld ?_
    refine ly_s 2 hHeld ?_
    refine ly_s 3 hHeld ?_
    refine ly_s 4 hHeld ?_
    refine ly_s 5 hHeld ?_
    refine ly_s 6 hHeld ?_
    refine ly_s 7 hHeld ?_
    refine ly_s 8 hHeld ?_
    refine ly_s 9 hHeld ?_
    refine ly_a 10 (fun KK hKK => ?_)
    go_simp
    refine (cc2'.out).mono ?_
    rintro e w5 ⟨rfl, hB5⟩
    have hd2 := hd.trans (hB5.mono hd.size)
    try dsimp only
    refine hKK.out _ _ (by (try dsimp only); exact at''.out _ ‹_›) (fun hHeld => ?_)
    clear hKK KK
    try simp only [Act.put, lyA, lyB, lyC]
    refine ly_s 11 hHeld ?_
    refine ly_s 12 hHeld ?_
    refine ly_s 13 hHeld ?_
    refine ly_s 14 hHeld ?_
    refine ly_s 15 hHeld ?_
    refine wpAnyH_done (by kernel_rfl) ?_ _
    have hb5 := hb4.trans (hd2.mono hb4.size)
    have hgr5 := hgr4'.out.below hd2
    have hs5 := hb5.size
    clear hHeld hd hd2 hB5 hb4 hgr4'
    cases cb
    ·have e2 : CF (k + 1) = CF k ++ [(k : Int)] := by rw [hcf1'.out]; rfl
     have hb5' := Lib.hid hb5; have hgr5' := Lib.hid hgr5; have e2' := Lib.hid e2; clear hb5 hgr5 e2
     go_wp2_with (at_builtin; refine wpList_append_int rfl _ _ rfl w.heap.size u6 (CF k) (k : Int) 1 rfl rfl hgr5'.out (by have := hcl1'.out; omega) hs5 ?_)
     intro v' w6 hown hgrow
     have hb6 := hgr5'.out.belowB hb5'.out (Nat.le_refl _) hs5 hgrow
     clear hgrow
     have hown' := Lib.hid hown; have hb6' := Lib.hid hb6; clear hown hb6
     go_wp2
     go_roundw
     case rel => exact ⟨k + 1, by omega, by go_num, by rw [e2'.out]; exact hown'.out, hck1'.out, hb6'.out⟩
     case measure => simp [intOf]; omega
    ·have e2 : CF (k + 1) = CF k := by rw [hcf1'.out]; rfl
     have hb5' := Lib.hid hb5; have hgr5' := Lib.hid hgr5; have e2' := Lib.hid e2; clear hb5 hgr5 e2
     go_wp2
     go_roundw
     case rel => exact ⟨k + 1, by omega, by go_num, by rw [e2'.out]; exact hgr5'.out, hck1'.out, hb5'.out⟩
     case measure => simp [intOf]; omega
  ·obtain rfl : k = n := by omega
   have hV := hV'.out
   have hgro := hgr.own
   rw [if_pos hcr] at hV
   subst hV
   clear hcr hgr H'
   have hbr' := Lib.hid hbr; have hgro' := Lib.hid hgro; clear hbr hgro
   go_wp2
   go_ret2
   exact ⟨_, rfl, hgro'.out, hbr'.out⟩
def lenV : Value → Nat | .slice _ n _ => n | _ => 0
set_option linter.unusedSimpArgs false in
set_option maxRecDepth 10000 in
set_option maxHeartbeats 4000000 in
theorem orRun_any (v : Value) (f : List Quad) (x : Int × Int) (n : Nat) (w : World) (hv : QuadV w v f) (hf : MapP f) (hx : unitR x.1 x.2 = true) (hn : n ≤ 1048576) :
  Calls Tryz.prog 111 #[v, .agg #[.int .i64 x.1, .int .i64 x.2], .int .i64 n] w (RetO OwnR (orbL f x n) w) := by
 have cv1 := fun (k : Nat) (w' : World) (hb : Below w.heap.size w w') (hu : unitR (pz f x k).1 (pz f x k).2 = true) (h : atOk f (pz f x k) = true) => imAt_any v f (pz f x k) w' (hv.below hb) hf hu
 have cv0 := fun (k : Nat) (w' : World) (hb : Below w.heap.size w w') (hu : unitR (pz f x k).1 (pz f x k).2 = true) (h : atOk f (pz f x k) = false) => imAt_any v f (pz f x k) w' (hv.below hb) hf hu
 have cv1 : ∀ (k : Nat) (w' : World), Below w.heap.size w w' → unitR (pz f x k).1 (pz f x k).2 = true → atOk f (pz f x k) = true → Calls Tryz.prog 129 #[v, .agg #[.int .i64 (pz f x k).1, .int .i64 (pz f x k).2]] w' (Ret (.tuple #[.agg #[.int .i64 (pz f x (k + 1)).1, .int .i64 (pz f x (k + 1)).2], .bool true]) w') := by
  intro k w' hb hu h
  have := cv1 k w' hb hu h
  rw [atR_ok h] at this
  exact this
 have cv0 : ∀ (k : Nat) (w' : World), Below w.heap.size w w' → unitR (pz f x k).1 (pz f x k).2 = true → atOk f (pz f x k) = false → Calls Tryz.prog 129 #[v, .agg #[.int .i64 (pz f x k).1, .int .i64 (pz f x k).2]] w' (Ret (.tuple #[.agg #[.int .i64 0, .int .i64 0], .bool false]) w') := by
  intro k w' hb hu h
  have := cv0 k w' hb hu h
  rw [atR_bad h] at this
  exact this
 have hau := fun k (h1 : unitR (pz f x k).1 (pz f x k).2 = true) (h2 : atOk f (pz f x k) = true) => at_unit hf h1 h2
 change ∀ k, _ → _ → unitR (pz f x (k + 1)).1 (pz f x (k + 1)).2 = true at hau
 have rg := fun k (h : k < n) (h2 : atOk f (pz f x k) = true) => runF_go (n := n) h h2
 have rs := fun k (h : k < n) (h2 : atOk f (pz f x k) = false) => runF_stop (n := n) h h2
 have re : runF f x (n - n) n = n := runF_end n
 have hN : runF f x (n - 0) 0 = runN f x n := rfl
 have hl := ptL_len f x
 have hs := ptL_step f x
 have hat := fun k => nthR_ptL (f := f) (x := x) (Nat.le_refl k)
 have h0 := ptL_zero f x
 have hp0 : pz f x 0 = x := rfl
 have hO : orbL f x n = ptL f x (runN f x n) := rfl
 rw [hO]
 clear hO
 obtain ⟨OK, hOK⟩ : ∃ OK : Nat → Bool, ∀ k, atOk f (pz f x k) = OK k := ⟨_, fun _ => rfl⟩
 simp only [hOK] at cv1 cv0 hau rg rs
 generalize pz f x = pp at *
 generalize ptL f x = L at *
 generalize runN f x n = N at *
 generalize runF f x = RF at *
 clear hOK hf
 rename_i hOLD1 hOLD2
 clear hOLD1 hOLD2
 obtain ⟨x0, x1⟩ := x
 simp only at hx
 obtain ⟨w1, hw1⟩ : ∃ W, (w.alloc (.cells #[.int .i64 x0, .int .i64 x1] 42)).alloc (.cells #[.int .i64 x0, .int .i64 x1] 42) = W := ⟨_, rfl⟩
 have hB : Below w.heap.size w w1 := by rw [← hw1]; exact ((Below.refl _ _).alloc (Nat.le_refl _) _).alloc (by simp) _
 have hg : GrowR w1 (w.heap.size + 1) (.slice (some ⟨w.heap.size + 1, 0, none⟩) 1 1) (L 0) := by
  have := GrowR.lit (w.alloc (.cells #[.int .i64 x0, .int .i64 x1] 42)) (x0, x1)
  rw [h0, ← hw1]
  simpa using this
 have cv1' := Lib.hid cv1; have cv0' := Lib.hid cv0; have hau' := Lib.hid hau; have rg' := Lib.hid rg; have rs' := Lib.hid rs; have re' := Lib.hid re; have hl' := Lib.hid hl; have hs' := Lib.hid hs; have h0' := Lib.hid h0; have hw1' := Lib.hid hw1; have hx' := Lib.hid hx; have hN' := Lib.hid hN; have hat' := Lib.hid hat; clear cv1 cv0 hau rg rs re hl hs h0 hw1 hx hN hat
 have hp0' := Lib.hid hp0; have hg' := Lib.hid hg; have hv' := Lib.hid hv; clear hp0 hg hv
 show Calls _ _ #[_, .agg #[.int .i64 x0, .int .i64 x1], _] w _
 go_enter Tryz.func111, Tryz.ntmps111
 go_wp2_with fail
 rw [hw1'.out]
 go_wp2
 go_loopw [7] (fun o wr => ∃ k : Nat, k ≤ n ∧ GrowR wr (w.heap.size + 1) o (L k) ∧ unitR (pp k).1 (pp k).2 = true ∧ RF (n - k) k = N ∧ Below w.heap.size w wr) (fun o _ => n + 1 - lenV o)
 case atStart => exact ⟨0, Nat.zero_le _, hg'.out, by rw [hp0'.out]; exact hx'.out, hN'.out, hB⟩
 case round =>
  obtain ⟨k, hk, hg, hu, hR, hBr⟩ := hrel
  clear hg' hp0' hw1' hB hx'
  have hlen := hl'.out k
  have hsr := hBr.size
  obtain ⟨ao, cap, rfl, hcc, hcap, H⟩ := hg.read.form
  obtain ⟨m, hm⟩ : ∃ m, (L k).length = m := ⟨_, rfl⟩
  rw [hm] at hlen hg H hcc
  rw [hm]
  by_cases hlt : k < n
  ·obtain ⟨b, off, rfl, p0, p1⟩ := H k (by omega)
   rw [hat'.out k] at p0 p1
   have cb1 := cv1'.out k wr hBr hu
   have cb0 := cv0'.out k wr hBr hu
   have hau1 := hau'.out k hu
   have rg1 := rg'.out k hlt
   have rs1 := rs'.out k hlt
   have hs1 := hs'.out k
   have g1 : IntKind.i64.wrap ((m : Int) - 1) = (k : Int) := by rw [IntKind.wrap_i64]; omega
   have g2 : (0 : Int) ≤ (k : Int) := by omega
   have g3 : (k : Int) < (m : Int) := by omega
   have g4 : k < m := by omega
   generalize OK k = ok at *
   generalize pp k = y at *
   obtain ⟨z, hz5⟩ : ∃ z, pp (k + 1) = z := ⟨_, rfl⟩
   rw [hz5] at cb1 hau1 hs1
   obtain ⟨y0, y1⟩ := y
   obtain ⟨z0, z1⟩ := z
   simp only at p0 p1 cb1 cb0 hu hau1
   have hle : (m : Int) ≤ (n : Int) := by omega
   clear H
   have hau1' := Lib.hid hau1; have rg1' := Lib.hid rg1; have rs1' := Lib.hid rs1; have hs1' := Lib.hid hs1; have hR' := Lib.hid hR; have hlen' := Lib.hid hlen; have hz5' := Lib.hid hz5; have hg' := Lib.hid hg; have hm' := Lib.hid hm; have hcc' := Lib.hid hcc; have hcap' := Lib.hid hcap; clear hau1 rg1 rs1 hs1 hR hlen hz5 hg hm hcc hcap
   cases ok
   ·have cb := cb0 rfl
    clear cb0 cb1
    have cb' := Lib.hid cb; clear cb
    go_wp2_with fail
    go_wp2_with fail
    refine (cb'.out).mono ?_
    rintro e w2 ⟨rfl, hB2⟩
    have hNk : N = k := by rw [← hR'.out]; exact rs1'.out (by first | rfl | trivial)
    have hB3 : Below wr.heap.size wr (w2.alloc (.cells #[.int .i64 0, .int .i64 0] 42)) := hB2.alloc hB2.size _
    have hge := (hg'.out.below hB3).own
    have hge2 : OwnR (w2.alloc (.cells #[.int .i64 0, .int .i64 0] 42)) (w.heap.size + 1) _ (.slice (some ⟨b, off, none⟩) m cap) (L k) := hge
    have hBe := hBr.trans (hB3.mono hsr)
    clear hB2 hB3 hBr hge
    have hge2' := Lib.hid hge2; have hBe' := Lib.hid hBe; have hNk' := Lib.hid hNk; clear hge2 hBe hNk
    go_wp2
    go_ret
    exact ⟨_, rfl, by rw [hNk'.out]; exact hge2'.out.mono (by omega) (Nat.le_refl _), hBe'.out⟩
   ·have cb := cb1 rfl
    clear cb0 cb1
    have cb' := Lib.hid cb; clear cb
    go_wp2_with fail
    go_wp2_with fail
    refine (cb'.out).mono ?_
    rintro e w2 ⟨rfl, hB2⟩
    obtain ⟨w3, hw3⟩ : ∃ W, w2.alloc (.cells #[.int .i64 z0, .int .i64 z1] 42) = W := ⟨_, rfl⟩
    have hB3 : Below wr.heap.size wr w3 := by rw [← hw3]; exact hB2.alloc hB2.size _
    have hge : GrowR w3 (w.heap.size + 1) (.slice (some ⟨b, off, none⟩) m cap) (L k) := hg'.out.below hB3
    have hBe := hBr.trans (hB3.mono hsr)
    have hsz3 : w2.heap.size + 1 = w3.heap.size := by rw [← hw3]; simp
    have hs2 := hB2.size
    have hs3 : w.heap.size + 1 ≤ w3.heap.size := by omega
    clear hB2 hB3 hBr
    have hge' := Lib.hid hge; have hBe' := Lib.hid hBe; have hw3' := Lib.hid hw3; have hsz3' := Lib.hid hsz3; clear hge hBe hw3 hsz3
    go_wp2_with (at_builtin; rw [hw3'.out, hsz3'.out]; refine wpList_append_rat rfl _ _ rfl (w.heap.size + 1) (.slice (some ⟨b, off, none⟩) m cap) (L k) z0 z1 1 rfl rfl hge'.out (by rw [hm'.out]; omega) hs3 ?_)
    intro v' w' hown' hgrow
    have hB5 := hge'.out.belowB hBe'.out (Nat.le_succ _) (by omega) hgrow
    have hau2 := hau1'.out (by first | rfl | trivial)
    have hlen2 : lenV v' = (L (k + 1)).length := by
     have h2 : GrowR w' (w.heap.size + 1) v' (L (k + 1)) := by rw [hs1'.out]; exact hown'
     obtain ⟨_, _, rfl, _⟩ := h2.read.form
     rfl
    clear hgrow
    have hB5' := Lib.hid hB5; have hlen2' := Lib.hid hlen2; have hown'' := Lib.hid hown'; clear hB5 hlen2 hown'
    go_wp2
    go_roundw
    case rel => exact ⟨k + 1, by omega, by rw [hs1'.out]; exact hown''.out, by rw [hz5'.out]; exact hau2, by rw [rg1'.out (by first | rfl | trivial)]; exact hR'.out, hB5'.out⟩
    case measure =>
     have h3 := hlen2'.out
     rw [hl'.out] at h3
     have h4 := hlen'.out
     show n + 1 - lenV v' < n + 1 - m
     omega
  ·have hke : k = n := by omega
   subst hke
   have hNk : N = k := by rw [← hR]; exact re'.out
   have ho := hg.own
   have hle : ¬ (m : Int) ≤ (k : Int) := by omega
   clear H hcc hcap hlen hm
   have ho' := Lib.hid ho; have hNk' := Lib.hid hNk; have hBr' := Lib.hid hBr; have hg' := Lib.hid hg; clear ho hNk hBr hg
   go_wp2
   go_ret
   exact ⟨_, rfl, by rw [hNk'.out]; exact ho'.out.mono (by omega) (Nat.le_refl _), hBr'.out⟩
set_option linter.unusedSimpArgs false in
set_option maxRecDepth 10000 in
set_option maxHeartbeats 4000000 in
theorem chRuns_any (v u : Value) (f l : List Quad) (x : Int × Int) (w : World) (hv : QuadV w v f) (hu : QuadV w u l) (hf : MapP f) (hl : ivsB l = true) (hx : unitR x.1 x.2 = true) :
  Calls Tryz.prog 52 #[v, u, .agg #[.int .i64 x.1, .int .i64 x.2]] w (Ret (.tuple #[.bool (runs_v f l x).1, .bool (runs_v f l x).2]) w) := by
 obtain ⟨hl1, hl2⟩ := ivsB_true hl
 have c0 := fun w' (hB : Below w.heap.size w w') => orRun_any v f x l.length w' (hv.below hB) hf hx (by omega)
 have hNle := runN_le f x l.length
 have hpu := fun k (h : ∀ j, j < k → atOk f (pz f x j) = true) => pz_unit hf hx k h
 have hok := fun j (h : j < runN f x l.length) => runN_ok f x l.length j h
 have hLn := orbL_len f x l.length
 have hat : ∀ i, i ≤ runN f x l.length → nthR (orbL f x l.length) i = pz f x i := fun i hi => nthR_ptL hi
 have cI1 := fun (k : Nat) (w' : World) (h : k < l.length) (h2 : k < runN f x l.length) => raCmp_any (pz f x k).1 (pz f x k).2 (nth4 l k).1.1 (nth4 l k).1.2 w' (unit_bd (hpu k fun j hj => hok j (by omega))) (unit_bd (ivB_true (hl2 k h)).1)
 have cI2 := fun (k : Nat) (w' : World) (h : k < l.length) (h2 : k < runN f x l.length) => raCmp_any (nth4 l k).2.1 (nth4 l k).2.2 (pz f x k).1 (pz f x k).2 w' (unit_bd (ivB_true (hl2 k h)).2.1) (unit_bd (hpu k fun j hj => hok j (by omega)))
 have hin : ∀ k, inI (nth4 l k) (pz f x k) = (!(decide (cmpN (pz f x k).1 (pz f x k).2 (nth4 l k).1.1 (nth4 l k).1.2 < 0)) && !(decide (cmpN (nth4 l k).2.1 (nth4 l k).2.2 (pz f x k).1 (pz f x k).2 < 0))) := fun k => by rw [cmpN_lt, cmpN_lt]; rfl
 have hst := allIn_step f l x
 have hfl := fun k (h : k < l.length) hb => allIn_false (f := f) (l := l) (x := x) h hb
 have h00 : allIn f l x 0 = true := rfl
 have hV : runs_v f l x = if runN f x l.length < l.length then (false, false) else if allIn f l x l.length = true then (decide (pz f x l.length = x), true) else (false, true) := rfl
 rw [hV]
 clear hV hpu hok hl hl2
 obtain ⟨n, hn⟩ : ∃ n, l.length = n := ⟨_, rfl⟩
 rw [hn] at c0 hNle hLn hat cI1 cI2 hfl hl1 ⊢
 generalize orbL f x n = OL at *
 generalize runN f x n = N at *
 generalize allIn f l x = AI at *
 generalize pz f x = pp at *
 obtain ⟨V, hV⟩ : ∃ V, (if N < n then (false, false) else if AI n = true then (decide (pp n = x), true) else (false, true)) = V := ⟨_, rfl⟩
 rw [hV]
 obtain ⟨x0, x1⟩ := x
 simp only at c0
 obtain ⟨w0, hw0⟩ : ∃ W, w.alloc (.cells #[.int .i64 x0, .int .i64 x1] 42) = W := ⟨_, rfl⟩
 have hB0 : Below w.heap.size w w0 := by rw [← hw0]; exact (Below.refl _ _).alloc (Nat.le_refl _) _
 have e0 : w0.cell? ⟨w.heap.size, 0, none⟩ = some (.int .i64 x0) := by rw [← hw0]; simp [go_sem]
 have e1 : w0.cell? ⟨w.heap.size, 1, none⟩ = some (.int .i64 x1) := by rw [← hw0]; simp [go_sem]
 obtain ⟨ao, cap, rfl, _, _, H⟩ := hu.form
 rw [hn] at H ⊢
 clear hu
 have c0' := Lib.hid c0; have hLn' := Lib.hid hLn; have hat' := Lib.hid hat; have cI1' := Lib.hid cI1; have cI2' := Lib.hid cI2; have hin' := Lib.hid hin; have hst' := Lib.hid hst; have hfl' := Lib.hid hfl; have h00' := Lib.hid h00; have hV' := Lib.hid hV; have hw0' := Lib.hid hw0; have hn' := Lib.hid hn; have H' := Lib.hid H; clear c0 hLn hat cI1 cI2 hin hst hfl h00 hV hw0 hn H
 show Calls _ _ #[_, _, .agg #[.int .i64 x0, .int .i64 x1]] w _
 go_enter Tryz.func52, Tryz.ntmps52
 go_wp2_with fail
 rw [hw0'.out]
 go_wp2_with fail
 refine (c0'.out _ hB0).mono ?_
 rintro e w1 ⟨v1, rfl, hv1, hB1⟩
 have hb1 := hB0.trans (hB1.mono hB0.size)
 replace e0 := bkeep hB1 e0
 replace e1 := bkeep hB1 e1
 obtain ⟨ao1, cap1, rfl, _, _, H1⟩ := hv1.read.form
 rw [hLn'.out] at H1 ⊢
 clear hv1 hB1 hB0
 have H1' := Lib.hid H1; clear H1
 have hV := hV'.out
 by_cases hN : N < n
 ·rw [if_pos hN] at hV
  have hle : ((N + 1 : Nat) : Int) ≤ (n : Int) := by omega
  subst hV
  have hb1' := Lib.hid hb1; clear hb1
  go_wp2
  go_ret2
  exact ⟨rfl, hb1'.out⟩
 ·rw [if_neg hN] at hV
  obtain rfl : N = n := by omega
  obtain ⟨m, hm⟩ : ∃ m, N + 1 = m := ⟨_, rfl⟩
  rw [hm] at H1' ⊢
  have hle : decide (m ≤ N) = false := decide_eq_false (by omega)
  clear hV
  have hb1' := Lib.hid hb1; clear hb1
  go_wp2
  go_loopw [23] (fun i wr => ∃ k : Nat, k ≤ N ∧ i = .int .i64 k ∧ AI k = true ∧ Below w1.heap.size w1 wr) (fun i _ => N - (intOf i).toNat)
  case atStart => exact ⟨0, Nat.zero_le _, rfl, h00'.out, Below.refl _ _⟩
  case round =>
   obtain ⟨k, hk, rfl, hai, hB⟩ := hrel
   by_cases hlt : k < N
   ·obtain ⟨b, off, rfl, p0, p1, p2, p3⟩ := H'.out k hlt
    obtain ⟨b1, off1, rfl, q0, q1⟩ := H1'.out k (by omega)
    rw [hat'.out k (by omega)] at q0 q1
    replace p0 := bkeep hB (bkeep hb1'.out p0)
    replace p1 := bkeep hB (bkeep hb1'.out p1)
    replace p2 := bkeep hB (bkeep hb1'.out p2)
    replace p3 := bkeep hB (bkeep hb1'.out p3)
    replace q0 := bkeep hB q0
    replace q1 := bkeep hB q1
    have cJ1 := fun w' => cI1'.out k w' hlt hlt
    have cJ2 := fun w' => cI2'.out k w' hlt hlt
    have hin1 := hin'.out k
    have hst1 := hst'.out k
    rw [hai, Bool.true_and] at hst1
    have hfl1 := hfl'.out k hlt
    rw [hin1] at hst1 hfl1
    clear hin1
    generalize cmpN (pp k).1 (pp k).2 (nth4 l k).1.1 (nth4 l k).1.2 = C1 at *
    generalize cmpN (nth4 l k).2.1 (nth4 l k).2.2 (pp k).1 (pp k).2 = C2 at *
    generalize nth4 l k = r at *
    generalize pp k = y at *
    obtain ⟨⟨a0, a1⟩, ⟨a2, a3⟩⟩ := r
    obtain ⟨y0, y1⟩ := y
    simp only at p0 p1 p2 p3 q0 q1 cJ1 cJ2
    have hsr := hB.size
    obtain ⟨w4, hw4⟩ : ∃ W, wr.alloc (.cells #[.int .i64 a0, .int .i64 a1, .int .i64 a2, .int .i64 a3] 44) = W := ⟨_, rfl⟩
    have hB4 : Below wr.heap.size wr w4 := by rw [← hw4]; exact (Below.refl _ _).alloc (Nat.le_refl _) _
    have i0 : w4.cell? ⟨wr.heap.size, 0, none⟩ = some (.int .i64 a0) := by rw [← hw4]; simp [go_sem]
    have i1 : w4.cell? ⟨wr.heap.size, 1, none⟩ = some (.int .i64 a1) := by rw [← hw4]; simp [go_sem]
    have i2 : w4.cell? ⟨wr.heap.size, 2, none⟩ = some (.int .i64 a2) := by rw [← hw4]; simp [go_sem]
    have i3 : w4.cell? ⟨wr.heap.size, 3, none⟩ = some (.int .i64 a3) := by rw [← hw4]; simp [go_sem]
    replace q0 := bkeep hB4 q0
    replace q1 := bkeep hB4 q1
    have hd : Below w4.heap.size w4 w4.drew := (Below.refl _ _).drew
    have at' : ∀ w' : World, Below w4.heap.size w4 w' → ((w'.cell? ⟨wr.heap.size, 0, none⟩ = some (.int .i64 a0) ∧ w'.cell? ⟨wr.heap.size, 1, none⟩ = some (.int .i64 a1) ∧ w'.cell? ⟨wr.heap.size, 2, none⟩ = some (.int .i64 a2) ∧ w'.cell? ⟨wr.heap.size, 3, none⟩ = some (.int .i64 a3)) ∧ w'.cell? ⟨b1, off1 + k * 2, none⟩ = some (.int .i64 y0) ∧ w'.cell? ⟨b1, off1 + k * 2 + 1, none⟩ = some (.int .i64 y1)) :=
     fun w' h => ⟨⟨bkeep h i0, bkeep h i1, bkeep h i2, bkeep h i3⟩, bkeep h q0, bkeep h q1⟩
    have g1 : (0 : Int) ≤ (k : Int) := by omega
    have g2 : (k : Int) < (m : Int) := by omega
    have g3 : k < m := by omega
    have hb4 := hB.trans (hB4.mono hsr)
    clear i0 i1 i2 i3 q0 q1 hB4 hB
    have cJ1' := Lib.hid cJ1; have cJ2' := Lib.hid cJ2; have hai' := Lib.hid hai; have at'' := Lib.hid at'; have hw4' := Lib.hid hw4; have hb4' := Lib.hid hb4; have hm' := Lib.hid hm; clear cJ1 cJ2 hai at' hw4 hb4 hm
    by_cases hC1 : C1 < 0
    ·have hfl2 : AI N = false := hfl1 (by rw [decide_eq_true hC1]; rfl)
     clear hst1 hfl1
     go_wp2_with fail
     rw [hw4'.out]
     go_wp2_with fail
     refine wp_region_held_drew (S := (fun w' => ((w'.cell? ⟨wr.heap.size, 0, none⟩ = some (.int .i64 a0) ∧ w'.cell? ⟨wr.heap.size, 1, none⟩ = some (.int .i64 a1) ∧ w'.cell? ⟨wr.heap.size, 2, none⟩ = some (.int .i64 a2) ∧ w'.cell? ⟨wr.heap.size, 3, none⟩ = some (.int .i64 a3)) ∧ w'.cell? ⟨b1, off1 + k * 2, none⟩ = some (.int .i64 y0) ∧ w'.cell? ⟨b1, off1 + k * 2 + 1, none⟩ = some (.int .i64 y1)))) (by kernel_rfl) (by (try dsimp only); exact at''.out _ ‹_›) (fun hHeld => ?_)
     refine ly_s 0 hHeld ?_
     refine ly_s 1 hHeld ?_
     refine ly_s 2 hHeld ?_
     refine ly_s 3 hHeld ?_
     refine ly_s 4 hHeld ?_
     refine ly_s 5 hHeld ?_
     refine ly_a 6 (fun KK hKK => ?_)
     go_simp
     refine (cJ1'.out _).mono ?_
     rintro e w5 ⟨rfl, hB5⟩
     have hd5 := hd.trans (hB5.mono hd.size)
     try dsimp only
     refine hKK.out _ _ (by (try dsimp only); exact at''.out _ ‹_›) (fun hHeld => ?_)
     clear hKK KK
     try simp only [Act.put, lyA, lyB, lyC]
     refine ly_s 7 (v := .bool true) (hy := by intro wS hSw; (try dsimp only at hSw); go_simp; all_goals (simp [hC1])) hHeld ?_
     refine ly_s 8 hHeld ?_
     refine ly_f 9 hHeld ?_
     refine ly_f 10 hHeld ?_
     refine ly_f 11 hHeld ?_
     refine ly_f 12 hHeld ?_
     refine ly_f 13 hHeld ?_
     refine ly_f 14 hHeld ?_
     refine ly_f 15 hHeld ?_
     refine ly_f 16 hHeld ?_
     refine ly_s 17 hHeld ?_
     refine wpAnyH_done (by kernel_rfl) ?_ _
     have hb5 := hb4'.out.trans (hd5.mono hb4'.out.size)
     clear hHeld
     have hb5' := Lib.hid hb5; clear hb5
     have hV2 := hV'.out
     rw [if_neg (by omega), if_neg (by rw [hfl2]; decide)] at hV2
     subst hV2
     go_wp2
     go_ret2
     exact ⟨rfl, hb1'.out.trans (hb5'.out.mono hb1'.out.size)⟩
    ·by_cases hC2 : C2 < 0
     ·have hfl2 : AI N = false := hfl1 (by rw [decide_eq_false hC1, decide_eq_true hC2]; rfl)
      clear hst1 hfl1
      go_wp2_with fail
      rw [hw4'.out]
      go_wp2_with fail
      refine wp_region_held_drew (S := (fun w' => ((w'.cell? ⟨wr.heap.size, 0, none⟩ = some (.int .i64 a0) ∧ w'.cell? ⟨wr.heap.size, 1, none⟩ = some (.int .i64 a1) ∧ w'.cell? ⟨wr.heap.size, 2, none⟩ = some (.int .i64 a2) ∧ w'.cell? ⟨wr.heap.size, 3, none⟩ = some (.int .i64 a3)) ∧ w'.cell? ⟨b1, off1 + k * 2, none⟩ = some (.int .i64 y0) ∧ w'.cell? ⟨b1, off1 + k * 2 + 1, none⟩ = some (.int .i64 y1)))) (by kernel_rfl) (by (try dsimp only); exact at''.out _ ‹_›) (fun hHeld => ?_)
      refine ly_s 0 hHeld ?_
      refine ly_s 1 hHeld ?_
      refine ly_s 2 hHeld ?_
      refine ly_s 3 hHeld ?_
      refine ly_s 4 hHeld ?_
      refine ly_s 5 hHeld ?_
      refine ly_a 6 (fun KK hKK => ?_)
      go_simp
      refine (cJ1'.out _).mono ?_
      rintro e w5 ⟨rfl, hB5⟩
      have hd5 := hd.trans (hB5.mono hd.size)
      try dsimp only
      refine hKK.out _ _ (by (try dsimp only); exact at''.out _ ‹_›) (fun hHeld => ?_)
      clear hKK KK
      try simp only [Act.put, lyA, lyB, lyC]
      refine ly_s 7 (v := .bool false) (hy := by intro wS hSw; (try dsimp only at hSw); go_simp; all_goals (simp [hC1])) hHeld ?_
      refine ly_s 8 hHeld ?_
      refine ly_s 9 hHeld ?_
      refine ly_s 10 hHeld ?_
      refine ly_s 11 hHeld ?_
      refine ly_s 12 hHeld ?_
      refine ly_s 13 hHeld ?_
      refine ly_s 14 hHeld ?_
      refine ly_a 15 (fun KK hKK => ?_)
      go_simp
      refine (cJ2'.out _).mono ?_
      rintro e w6 ⟨rfl, hB6⟩
      have hd6 := hd5.trans (hB6.mono hd5.size)
      try dsimp only
      refine hKK.out _ _ (by (try dsimp only); exact at''.out _ ‹_›) (fun hHeld => ?_)
      clear hKK KK
      try simp only [Act.put, lyA, lyB, lyC]
      refine ly_s 16 (v := .bool true) (hy := by intro wS hSw; (try dsimp only at hSw); go_simp; all_goals (simp [hC2])) hHeld ?_
      refine ly_s 17 hHeld ?_
      refine wpAnyH_done (by kernel_rfl) ?_ _
      have hb5 := hb4'.out.trans (hd6.mono hb4'.out.size)
      clear hHeld
      have hb5' := Lib.hid hb5; clear hb5
      have hV2 := hV'.out
      rw [if_neg (by omega), if_neg (by rw [hfl2]; decide)] at hV2
      subst hV2
      go_wp2
      go_ret2
      exact ⟨rfl, hb1'.out.trans (hb5'.out.mono hb1'.out.size)⟩
     ·have hst2 : AI (k + 1) = true := by rw [hst1, decide_eq_false hC1, decide_eq_false hC2]; rfl
      clear hst1 hfl1
      have hst2' := Lib.hid hst2; clear hst2
      go_wp2_with fail
      rw [hw4'.out]
      go_wp2_with fail
      refine wp_region_held_drew (S := (fun w' => ((w'.cell? ⟨wr.heap.size, 0, none⟩ = some (.int .i64 a0) ∧ w'.cell? ⟨wr.heap.size, 1, none⟩ = some (.int .i64 a1) ∧ w'.cell? ⟨wr.heap.size, 2, none⟩ = some (.int .i64 a2) ∧ w'.cell? ⟨wr.heap.size, 3, none⟩ = some (.int .i64 a3)) ∧ w'.cell? ⟨b1, off1 + k * 2, none⟩ = some (.int .i64 y0) ∧ w'.cell? ⟨b1, off1 + k * 2 + 1, none⟩ = some (.int .i64 y1)))) (by kernel_rfl) (by (try dsimp only); exact at''.out _ ‹_›) (fun hHeld => ?_)
      refine ly_s 0 hHeld ?_
      refine ly_s 1 hHeld ?_
      refine ly_s 2 hHeld ?_
      refine ly_s 3 hHeld ?_
      refine ly_s 4 hHeld ?_
      refine ly_s 5 hHeld ?_
      refine ly_a 6 (fun KK hKK => ?_)
      go_simp
      refine (cJ1'.out _).mono ?_
      rintro e w5 ⟨rfl, hB5⟩
      have hd5 := hd.trans (hB5.mono hd.size)
      try dsimp only
      refine hKK.out _ _ (by (try dsimp only); exact at''.out _ ‹_›) (fun hHeld => ?_)
      clear hKK KK
      try simp only [Act.put, lyA, lyB, lyC]
      refine ly_s 7 (v := .bool false) (hy := by intro wS hSw; (try dsimp only at hSw); go_simp; all_goals (simp [hC1])) hHeld ?_
      refine ly_s 8 hHeld ?_
      refine ly_s 9 hHeld ?_
      refine ly_s 10 hHeld ?_
      refine ly_s 11 hHeld ?_
      refine ly_s 12 hHeld ?_
      refine ly_s 13 hHeld ?_
      refine ly_s 14 hHeld ?_
      refine ly_a 15 (fun KK hKK => ?_)
      go_simp
      refine (cJ2'.out _).mono ?_
      rintro e w6 ⟨rfl, hB6⟩
      have hd6 := hd5.trans (hB6.mono hd5.size)
      try dsimp only
      refine hKK.out _ _ (by (try dsimp only); exact at''.out _ ‹_›) (fun hHeld => ?_)
      clear hKK KK
      try simp only [Act.put, lyA, lyB, lyC]
      refine ly_s 16 (v := .bool false) (hy := by intro wS hSw; (try dsimp only at hSw); go_simp; all_goals (simp [hC2])) hHeld ?_
      refine ly_s 17 hHeld ?_
      refine wpAnyH_done (by kernel_rfl) ?_ _
      have hb5 := hb4'.out.trans (hd6.mono hb4'.out.size)
      clear hHeld
      have hb5' := Lib.hid hb5; clear hb5
      go_wp2
      go_roundw
      case rel => exact ⟨k + 1, by omega, by go_num, hst2'.out, hb5'.out⟩
      case measure => simp [intOf]; omega
   ·obtain rfl : k = N := by omega
    obtain ⟨b1, off1, rfl, q0, q1⟩ := H1'.out k (by omega)
    rw [hat'.out k (by omega)] at q0 q1
    replace q0 := bkeep hB q0
    replace q1 := bkeep hB q1
    replace e0 := bkeep hB e0
    replace e1 := bkeep hB e1
    have hV2 := hV'.out
    rw [if_neg (by omega), if_pos hai] at hV2
    have g1 : (0 : Int) ≤ (k : Int) := by omega
    have g2 : (k : Int) < (m : Int) := by omega
    have g3 : k < m := by omega
    have hbe := hb1'.out.trans (hB.mono hb1'.out.size)
    generalize pp k = y at *
    obtain ⟨y0, y1⟩ := y
    simp only at q0 q1
    clear hB hai
    by_cases h0 : y0 = x0
    ·by_cases h1 : y1 = x1
     ·subst h0 h1
      rw [decide_eq_true rfl] at hV2
      subst hV2
      have hbe' := Lib.hid hbe; have hm' := Lib.hid hm; clear hbe hm
      go_wp2_with fail
      go_region
      go_wp2
      go_ret2
      exact ⟨rfl, hbe'.out.drew⟩
     ·rw [decide_eq_false (by simp [h1])] at hV2
      subst h0 hV2
      have hbe' := Lib.hid hbe; have hm' := Lib.hid hm; clear hbe hm
      go_wp2_with fail
      go_region
      go_wp2
      go_ret2
      exact ⟨rfl, hbe'.out.drew⟩
    ·rw [decide_eq_false (by simp [h0])] at hV2
     subst hV2
     have hbe' := Lib.hid hbe; have hm' := Lib.hid hm; clear hbe hm
     go_wp2_with fail
     go_region
     go_wp2
     go_ret2
     exact ⟨rfl, hbe'.out.drew⟩
theorem asked_isMap_any (v u : Value) (f l : List Quad) (w : World) (hv : QuadV w v f) (hu : QuadV w u l) (hm : f.length ≤ 1099511627776) (hn : l.length ≤ 1099511627776) :
  Calls Tryz.prog 55 #[v, u] w (Ret (.bool (mapB f && ivsB l)) w) := by
 have c1 := isMap_any v f w hv hm
 have c2 := fun w' (hB : Below w.heap.size w w') => areIntervals_any u l w' (hu.below hB) hn
 generalize mapB f = M at *
 generalize ivsB l = I at *
 clear hv hu
 have c1' := Lib.hid c1; have c2' := Lib.hid c2; clear c1 c2
 go_enter Tryz.func55, Tryz.ntmps55
 go_wp2_with fail
 refine (c1'.out).mono ?_
 rintro e w1 ⟨rfl, hB1⟩
 cases M
 ·go_wp2
  go_ret
  exact ⟨rfl, hB1⟩
 ·have hs1 := hB1.size
  go_wp2_with fail
  refine (c2'.out _ hB1).mono ?_
  rintro e w2 ⟨rfl, hB2⟩
  have hb2 := hB1.trans (hB2.mono hs1)
  go_wp2
  go_ret
  exact ⟨rfl, hb2⟩
theorem asked_imGood_any (v u : Value) (f l : List Quad) (w : World) (hv : QuadV w v f) (hu : QuadV w u l) (hm : f.length ≤ 1099511627776) (hn : l.length ≤ 1099511627776) :
  Calls Tryz.prog 49 #[v, u] w (Ret (.bool (mapB f && ivsB l)) w) := by
 have c1 := imGood_any v f w hv hm
 have c2 := fun w' (hB : Below w.heap.size w w') => ivList_any u l w' (hu.below hB) hn
 generalize mapB f = M at *
 generalize ivsB l = I at *
 clear hv hu
 have c1' := Lib.hid c1; have c2' := Lib.hid c2; clear c1 c2
 go_enter Tryz.func49, Tryz.ntmps49
 go_wp2_with fail
 refine (c1'.out).mono ?_
 rintro e w1 ⟨rfl, hB1⟩
 cases M
 ·go_wp2
  go_ret
  exact ⟨rfl, hB1⟩
 ·have hs1 := hB1.size
  go_wp2_with fail
  refine (c2'.out _ hB1).mono ?_
  rintro e w2 ⟨rfl, hB2⟩
  have hb2 := hB1.trans (hB2.mono hs1)
  go_wp2
  go_ret
  exact ⟨rfl, hb2⟩
set_option maxHeartbeats 800000 in
theorem implRunsThrough_any (v : Value) (f : List Quad) (u : Value) (l : List Quad) (x : Int × Int) (w : World) (hv : QuadV w v f) (hm : szPointS f ≤ 1099511627776) (hu : QuadV w u l) (hn : szIntervalS l ≤ 1099511627776) (_hi : I64R x) :
  Calls Tryz.prog 41 #[v, u, .agg #[.int .i64 x.1, .int .i64 x.2]] w (Ret (.tuple #[.bool (RunsThrough_v f l x).1, .bool (RunsThrough_v f l x).2]) w) := by
 have c1 := fun w' (hB : Below w.heap.size w w') => asked_isMap_any v u f l w' (hv.below hB) (hu.below hB) hm hn
 have c2 := fun w' => isUnit_any x.1 x.2 w'
 have c3 := fun w' (hB : Below w.heap.size w w') (h1 : (mapB f && ivsB l) = true) (h2 : unitR x.1 x.2 = true) => runsThrough_any v u f l x w' (hv.below hB) (hu.below hB) (mapB_true (by rw [Bool.and_eq_true] at h1; exact h1.1)) (by rw [Bool.and_eq_true] at h1; exact h1.2) h2
 have e1 : (mapB f && ivsB l) = true → unitR x.1 x.2 = true → RunsThrough_v f l x = runs_v f l x := fun h1 h2 => by
  rw [Bool.and_eq_true] at h1
  unfold RunsThrough_v
  rw [if_pos ⟨h1.1, h1.2, h2⟩]
 have e2 : ¬ ((mapB f && ivsB l) = true ∧ unitR x.1 x.2 = true) → RunsThrough_v f l x = (false, false) := fun h => by
  unfold RunsThrough_v
  rw [if_neg (fun h' => h ⟨by rw [h'.1, h'.2.1]; rfl, h'.2.2⟩)]
 generalize RunsThrough_v f l x = R at *
 generalize runs_v f l x = L at *
 generalize (mapB f && ivsB l) = M at *
 generalize unitR x.1 x.2 = U at *
 clear hv hu
 obtain ⟨x0, x1⟩ := x
 simp only at c2 c3
 obtain ⟨w0, hw0⟩ : ∃ W, w.alloc (.cells #[.int .i64 x0, .int .i64 x1] 42) = W := ⟨_, rfl⟩
 have hB0 : Below w.heap.size w w0 := by rw [← hw0]; exact (Below.refl _ _).alloc (Nat.le_refl _) _
 have hx0 : w0.cell? ⟨w.heap.size, 0, none⟩ = some (.int .i64 x0) := by rw [← hw0]; simp [go_sem]
 have hx1 : w0.cell? ⟨w.heap.size, 1, none⟩ = some (.int .i64 x1) := by rw [← hw0]; simp [go_sem]
 have c1' := Lib.hid c1; have c2' := Lib.hid c2; have c3' := Lib.hid c3; have e1' := Lib.hid e1; have e2' := Lib.hid e2; have hw0' := Lib.hid hw0; clear c1 c2 c3 e1 e2 hw0
 show Calls _ _ #[_, _, .agg #[.int .i64 x0, .int .i64 x1]] w _
 cases M
 ·have hR : R = (false, false) := e2'.out (by simp)
  subst hR
  clear e1' e2' c3' c2'
  go_enter Tryz.func41, Tryz.ntmps41
  go_wp2_with fail
  rw [hw0'.out]
  go_wp2_with fail
  refine (c1'.out _ hB0).mono ?_
  rintro e w1 ⟨rfl, hB1⟩
  have hb1 := hB0.trans (hB1.mono hB0.size)
  go_wp2
  go_ret2
  exact ⟨rfl, hb1⟩
 ·cases U
  ·have hR : R = (false, false) := e2'.out (by simp)
   subst hR
   clear e1' e2' c3'
   go_enter Tryz.func41, Tryz.ntmps41
   go_wp2_with fail
   rw [hw0'.out]
   go_wp2_with fail
   refine (c1'.out _ hB0).mono ?_
   rintro e w1 ⟨rfl, hB1⟩
   have hb1 := hB0.trans (hB1.mono hB0.size)
   replace hx0 := bkeep hB1 hx0
   replace hx1 := bkeep hB1 hx1
   clear hB1
   go_wp2_with fail
   refine (c2'.out _).mono ?_
   rintro e w2 ⟨rfl, hB2⟩
   have hb2 := hb1.trans (hB2.mono hb1.size)
   go_wp2
   go_ret2
   exact ⟨rfl, hb2⟩
  ·have hR : R = L := e1'.out rfl rfl
   subst hR
   have c4 := fun w' h => c3'.out w' h rfl rfl
   clear e1' e2' c3'
   obtain ⟨r1, r2⟩ := R
   have c4' := Lib.hid c4; clear c4
   go_enter Tryz.func41, Tryz.ntmps41
   go_wp2_with fail
   rw [hw0'.out]
   go_wp2_with fail
   refine (c1'.out _ hB0).mono ?_
   rintro e w1 ⟨rfl, hB1⟩
   have hb1 := hB0.trans (hB1.mono hB0.size)
   replace hx0 := bkeep hB1 hx0
   replace hx1 := bkeep hB1 hx1
   clear hB1
   go_wp2_with fail
   refine (c2'.out _).mono ?_
   rintro e w2 ⟨rfl, hB2⟩
   have hb2 := hb1.trans (hB2.mono hb1.size)
   replace hx0 := bkeep hB2 hx0
   replace hx1 := bkeep hB2 hx1
   clear hB2
   go_wp2_with fail
   refine (c4'.out _ hb2).mono ?_
   rintro e w3 ⟨rfl, hB3⟩
   have hb3 := hb2.trans (hB3.mono hb2.size)
   go_wp2
   go_ret2
   exact ⟨rfl, hb3⟩
set_option maxHeartbeats 800000 in
theorem specRunsThrough_any (v : Value) (f : List Quad) (u : Value) (l : List Quad) (x : Int × Int) (w : World) (hv : QuadV w v f) (hm : szPointS f ≤ 1099511627776) (hu : QuadV w u l) (hn : szIntervalS l ≤ 1099511627776) (_hi : I64R x) :
  Calls Tryz.prog 47 #[v, u, .agg #[.int .i64 x.1, .int .i64 x.2]] w (Ret (.tuple #[.bool (RunsThrough_v f l x).1, .bool (RunsThrough_v f l x).2]) w) := by
 have c1 := fun w' (hB : Below w.heap.size w w') => asked_imGood_any v u f l w' (hv.below hB) (hu.below hB) hm hn
 have c2 := fun w' => raUnit_any x.1 x.2 w'
 have c3 := fun w' (hB : Below w.heap.size w w') (h1 : (mapB f && ivsB l) = true) (h2 : unitR x.1 x.2 = true) => chRuns_any v u f l x w' (hv.below hB) (hu.below hB) (mapB_true (by rw [Bool.and_eq_true] at h1; exact h1.1)) (by rw [Bool.and_eq_true] at h1; exact h1.2) h2
 have e1 : (mapB f && ivsB l) = true → unitR x.1 x.2 = true → RunsThrough_v f l x = runs_v f l x := fun h1 h2 => by
  rw [Bool.and_eq_true] at h1
  unfold RunsThrough_v
  rw [if_pos ⟨h1.1, h1.2, h2⟩]
 have e2 : ¬ ((mapB f && ivsB l) = true ∧ unitR x.1 x.2 = true) → RunsThrough_v f l x = (false, false) := fun h => by
  unfold RunsThrough_v
  rw [if_neg (fun h' => h ⟨by rw [h'.1, h'.2.1]; rfl, h'.2.2⟩)]
 generalize RunsThrough_v f l x = R at *
 generalize runs_v f l x = L at *
 generalize (mapB f && ivsB l) = M at *
 generalize unitR x.1 x.2 = U at *
 clear hv hu
 obtain ⟨x0, x1⟩ := x
 simp only at c2 c3
 obtain ⟨w0, hw0⟩ : ∃ W, w.alloc (.cells #[.int .i64 x0, .int .i64 x1] 42) = W := ⟨_, rfl⟩
 have hB0 : Below w.heap.size w w0 := by rw [← hw0]; exact (Below.refl _ _).alloc (Nat.le_refl _) _
 have hx0 : w0.cell? ⟨w.heap.size, 0, none⟩ = some (.int .i64 x0) := by rw [← hw0]; simp [go_sem]
 have hx1 : w0.cell? ⟨w.heap.size, 1, none⟩ = some (.int .i64 x1) := by rw [← hw0]; simp [go_sem]
 have c1' := Lib.hid c1; have c2' := Lib.hid c2; have c3' := Lib.hid c3; have e1' := Lib.hid e1; have e2' := Lib.hid e2; have hw0' := Lib.hid hw0; clear c1 c2 c3 e1 e2 hw0
 show Calls _ _ #[_, _, .agg #[.int .i64 x0, .int .i64 x1]] w _
 cases M
 ·have hR : R = (false, false) := e2'.out (by simp)
  subst hR
  clear e1' e2' c3' c2'
  go_enter Tryz.func47, Tryz.ntmps47
  go_wp2_with fail
  rw [hw0'.out]
  go_wp2_with fail
  refine (c1'.out _ hB0).mono ?_
  rintro e w1 ⟨rfl, hB1⟩
  have hb1 := hB0.trans (hB1.mono hB0.size)
  go_wp2
  go_ret2
  exact ⟨rfl, hb1⟩
 ·cases U
  ·have hR : R = (false, false) := e2'.out (by simp)
   subst hR
   clear e1' e2' c3'
   go_enter Tryz.func47, Tryz.ntmps47
   go_wp2_with fail
   rw [hw0'.out]
   go_wp2_with fail
   refine (c1'.out _ hB0).mono ?_
   rintro e w1 ⟨rfl, hB1⟩
   have hb1 := hB0.trans (hB1.mono hB0.size)
   replace hx0 := bkeep hB1 hx0
   replace hx1 := bkeep hB1 hx1
   clear hB1
   go_wp2_with fail
   refine (c2'.out _).mono ?_
   rintro e w2 ⟨rfl, hB2⟩
   have hb2 := hb1.trans (hB2.mono hb1.size)
   go_wp2
   go_ret2
   exact ⟨rfl, hb2⟩
  ·have hR : R = L := e1'.out rfl rfl
   subst hR
   have c4 := fun w' h => c3'.out w' h rfl rfl
   clear e1' e2' c3'
   obtain ⟨r1, r2⟩ := R
   have c4' := Lib.hid c4; clear c4
   go_enter Tryz.func47, Tryz.ntmps47
   go_wp2_with fail
   rw [hw0'.out]
   go_wp2_with fail
   refine (c1'.out _ hB0).mono ?_
   rintro e w1 ⟨rfl, hB1⟩
   have hb1 := hB0.trans (hB1.mono hB0.size)
   replace hx0 := bkeep hB1 hx0
   replace hx1 := bkeep hB1 hx1
   clear hB1
   go_wp2_with fail
   refine (c2'.out _).mono ?_
   rintro e w2 ⟨rfl, hB2⟩
   have hb2 := hb1.trans (hB2.mono hb1.size)
   replace hx0 := bkeep hB2 hx0
   replace hx1 := bkeep hB2 hx1
   clear hB2
   go_wp2_with fail
   refine (c4'.out _ hb2).mono ?_
   rintro e w3 ⟨rfl, hB3⟩
   have hb3 := hb2.trans (hB3.mono hb2.size)
   go_wp2
   go_ret2
   exact ⟨rfl, hb3⟩
theorem chain_no {f l : List Quad} (h : ¬ (mapB f = true ∧ ivsB l = true)) : (mapB f && ivsB l) = false := by
 rw [← Bool.not_eq_true, Bool.and_eq_true]; exact h
theorem ChainFaults_yes {f l : List Quad} (h : mapB f = true ∧ ivsB l = true) : ChainFaults_v f l = cf_v f l := by unfold ChainFaults_v; rw [if_pos h]
theorem ChainFaults_no {f l : List Quad} (h : ¬ (mapB f = true ∧ ivsB l = true)) : ChainFaults_v f l = ([], false) := by unfold ChainFaults_v; rw [if_neg h]
def lpB (r : List Int × Bool) : Bool × Bool := if r.2 = true then (decide (r.1.length = 0), true) else (false, false)
def IsLoopOf_v (f l : List Quad) : Bool × Bool := lpB (ChainFaults_v f l)
theorem chainFaults_any (v : Value) (f : List Quad) (u : Value) (l : List Quad) (w : World) (hv : QuadV w v f) (hm : szPointS f ≤ 1099511627776) (hu : QuadV w u l) (hn : szIntervalS l ≤ 1099511627776) :
  Calls Tryz.prog 104 #[v, u] w (RetOB Own (ChainFaults_v f l) w) := by
 have c1 := asked_isMap_any v u f l w hv hu hm hn
 by_cases h : mapB f = true ∧ ivsB l = true
 ·rw [ChainFaults_yes h]
  rw [h.1, h.2] at c1
  exact chainFaults_in v u f l w hv hu (mapB_true h.1) h.2 c1
 ·rw [ChainFaults_no h]
  rw [chain_no h] at c1
  clear hv hu h
  have c1' := Lib.hid c1; clear c1
  go_enter Tryz.func104, Tryz.ntmps104
  go_wp2_with fail
  refine (c1'.out).mono ?_
  rintro e w1 ⟨rfl, hB1⟩
  go_wp2
  go_ret2
  exact ⟨_, rfl, Own.nil _ _ _, hB1⟩
theorem IntsV.head {w : World} {v : Value} {xs : List Int} (h : IntsV w v xs) : ∃ ao cap, v = .slice ao xs.length cap ∧ (0 < xs.length → ∃ b off, ao = some ⟨b, off, none⟩ ∧ w.cell? ⟨b, off, none⟩ = some (.int .i64 (nth xs 0))) := by
 obtain ⟨ao, cap, rfl, _, _, H⟩ := h
 exact ⟨ao, cap, rfl, fun h0 => H 0 h0⟩
set_option maxHeartbeats 800000 in
theorem implIsLoopOf_of (v u : Value) (R : List Int × Bool) (w : World) (hlen : R.1.length ≤ 1099511627776)
  (c1 : Calls Tryz.prog 104 #[v, u] w (RetOB Own R w)) :
  Calls Tryz.prog 45 #[v, u] w (Ret (.tuple #[.bool (lpB R).1, .bool (lpB R).2]) w) := by
 obtain ⟨L, B⟩ := R
 simp only at hlen
 have c1' := Lib.hid c1; clear c1
 cases B
 ·have hR : lpB (L, false) = (false, false) := rfl
  rw [hR]
  go_enter Tryz.func45, Tryz.ntmps45
  go_wp2_with fail
  refine (c1'.out).mono ?_
  rintro e w1 ⟨s, rfl, hs, hB1⟩
  clear hs
  go_wp2
  go_ret2
  exact ⟨rfl, hB1⟩
 ·have hR : lpB (L, true) = (decide (L.length = 0), true) := rfl
  rw [hR]
  clear hR
  go_enter Tryz.func45, Tryz.ntmps45
  go_wp2_with fail
  refine (c1'.out).mono ?_
  rintro e w1 ⟨s, rfl, hs, hB1⟩
  obtain ⟨so, scap, rfl, _⟩ := IntsV.head hs.read
  clear hs
  generalize L.length = m at *
  by_cases h0 : m = 0
  ·subst h0
   go_wp2
   go_ret2
   exact ⟨rfl, hB1⟩
  ·have h1 : decide ((m : Int) = 0) = false := decide_eq_false (by omega)
   go_wp2
   go_ret2
   exact ⟨by first | rfl | (simp [h0]; done), hB1⟩
set_option maxHeartbeats 800000 in
theorem chLoop_of (v u : Value) (R : List Int × Bool) (w : World) (hlen : R.1.length ≤ 1099511627776)
  (c1 : Calls Tryz.prog 157 #[v, u] w (RetOB Own R w)) :
  Calls Tryz.prog 94 #[v, u] w (Ret (.tuple #[.bool (lpB R).1, .bool (lpB R).2]) w) := by
 obtain ⟨L, B⟩ := R
 simp only at hlen
 have c1' := Lib.hid c1; clear c1
 cases B
 ·have hR : lpB (L, false) = (false, false) := rfl
  rw [hR]
  go_enter Tryz.func94, Tryz.ntmps94
  go_wp2_with fail
  refine (c1'.out).mono ?_
  rintro e w1 ⟨s, rfl, hs, hB1⟩
  clear hs
  go_wp2
  go_ret2
  exact ⟨rfl, hB1⟩
 ·have hR : lpB (L, true) = (decide (L.length = 0), true) := rfl
  rw [hR]
  clear hR
  go_enter Tryz.func94, Tryz.ntmps94
  go_wp2_with fail
  refine (c1'.out).mono ?_
  rintro e w1 ⟨s, rfl, hs, hB1⟩
  obtain ⟨so, scap, rfl, _⟩ := IntsV.head hs.read
  clear hs
  generalize L.length = m at *
  by_cases h0 : m = 0
  ·subst h0
   go_wp2
   go_ret2
   exact ⟨rfl, hB1⟩
  ·have h1 : decide ((m : Int) = 0) = false := decide_eq_false (by omega)
   go_wp2
   go_ret2
   exact ⟨by first | rfl | (simp [h0]; done), hB1⟩
theorem implIsLoopOf_any (v : Value) (f : List Quad) (u : Value) (l : List Quad) (w : World) (hv : QuadV w v f) (hm : szPointS f ≤ 1099511627776) (hu : QuadV w u l) (hn : szIntervalS l ≤ 1099511627776) :
  Calls Tryz.prog 45 #[v, u] w (Ret (.tuple #[.bool (IsLoopOf_v f l).1, .bool (IsLoopOf_v f l).2]) w) :=
 implIsLoopOf_of v u _ w (ChainFaults_len f l) (chainFaults_any v f u l w hv hm hu hn)
theorem chLoop_any (v : Value) (f : List Quad) (u : Value) (l : List Quad) (w : World) (hv : QuadV w v f) (hu : QuadV w u l) (hf : MapP f) (hl : ivsB l = true) :
  Calls Tryz.prog 94 #[v, u] w (Ret (.tuple #[.bool (lpB (cf_v f l)).1, .bool (lpB (cf_v f l)).2]) w) := by
 refine chLoop_of v u _ w ?_ (chFaults_any v u f l w hv hu hf hl)
 have := (ivsB_true hl).1
 unfold cf_v
 split
 ·have := cfK_len f l l.length
  show (cfK f l l.length).length ≤ _
  omega
 ·simp
end Go.Proofs.YtfhhofecfllbfaaGreat

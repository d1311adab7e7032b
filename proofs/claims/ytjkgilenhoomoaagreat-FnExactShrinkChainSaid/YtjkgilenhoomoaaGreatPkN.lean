/- Several texts in one: Runs Chain ChFaults OrRun ChRuns RunsThrough ChainFns. No conditions but those that each theorem states. -/
import Derived.Test.YtjkgilenhoomoaaGreatPkK
import Derived.Deep.RegionHeld3
import Derived.BigQuiet
import Derived.Test.YtjkgilenhoomoaaGreatPkL
import Derived.Test.YtjkgilenhoomoaaGreatPkG
import Derived.Test.YtjkgilenhoomoaaGreatPkH

namespace Go.Proofs.YtjkgilenhoomoaaGreat
open Go.RowKit
set_option maxRecDepth 100000


end Go.Proofs.YtjkgilenhoomoaaGreat

namespace Go.Proofs.YtjkgilenhoomoaaGreat
open Go.RowKit
set_option maxRecDepth 100000

/-- The place behind k, round the list. -/
def nxt (n k : Nat) : Nat := (k + 1) % n
theorem nxt_lt {n k : Nat} (h : k < n) : nxt n k < n := Nat.mod_lt _ (by omega)
/-- Those of the first k intervals that do not cover the next one. -/
def cfK (f l : List Quad) : Nat → List Int
  | 0 => []
  | k + 1 => if covB f (nth4 l k) (nth4 l (nxt l.length k)) = true then cfK f l k else cfK f l k ++ [(k : Int)]
theorem cfK_len (f l : List Quad) (k : Nat) : (cfK f l k).length ≤ k := by
  induction k with
  | zero => exact Nat.le_refl _
  | succ k ih =>
    unfold cfK
    split
    · omega
    · rw [List.length_append]; simp; exact ih
/-- The images of the first k intervals are told. -/
def ckK (f l : List Quad) (k : Nat) : Bool := (List.range k).all fun i => imgOk f (nth4 l i).1 (nth4 l i).2
theorem ckK_step (f l : List Quad) (k : Nat) : ckK f l (k + 1) = (ckK f l k && imgOk f (nth4 l k).1 (nth4 l k).2) := by simp [ckK, List.range_succ, List.all_append]
theorem ckK_false {f l : List Quad} {k n : Nat} (h : k < n) (hb : imgOk f (nth4 l k).1 (nth4 l k).2 = false) : ckK f l n = false := by
  unfold ckK
  rw [List.all_eq_false]
  exact ⟨k, List.mem_range.2 h, by rw [hb]; simp⟩
def cf_v (f l : List Quad) : List Int × Bool := if ckK f l l.length = true then (cfK f l l.length, true) else ([], false)
def ChainFaults_v (f l : List Quad) : List Int × Bool := if mapB f = true ∧ ivsB l = true then cf_v f l else ([], false)
theorem ChainFaults_len (f l : List Quad) : (ChainFaults_v f l).1.length ≤ 1099511627776 := by
  unfold ChainFaults_v cf_v
  split
  · rename_i h
    have := (ivsB_true h.2).1
    split
    · have := cfK_len f l l.length
      show (cfK f l l.length).length ≤ _
      omega
    · simp
  · simp

set_option linter.unusedSimpArgs false in
set_option maxRecDepth 10000 in
set_option maxHeartbeats 4000000 in
theorem chainFaults_in (v u : Value) (f l : List Quad) (w : World) (hv : QuadV w v f) (hu : QuadV w u l) (hf : MapP f) (hl : ivsB l = true)
    (c1 : Calls Tryz.prog 49 #[v, u] w (Ret (.bool true) w)) :
    Calls Tryz.prog 33 #[v, u] w (RetOB Own (cf_v f l) w) := by
  obtain ⟨hl1, hl2⟩ := ivsB_true hl
  have hnx : ∀ k, k < l.length → nxt l.length k < l.length := fun k h => nxt_lt h
  have cc := fun (k : Nat) (g : Nat) (bd : Bool) (w' : World) (hB : Below w.heap.size w w') (hg : w.heap.size ≤ g) (h : k < l.length) (hc : CalcAt w' g bd) =>
    covers_any g bd v f (nth4 l k) (nth4 l (nxt l.length k)) w w' hv hB hg hf (ivB_true (hl2 k h)).1 (ivB_true (hl2 k h)).2.1 (ivB_true (hl2 _ (hnx k h))).1 (ivB_true (hl2 _ (hnx k h))).2.1 hc
  have hck := ckK_step f l
  have h00 : ckK f l 0 = true := rfl
  have hcf : ∀ k, cfK f l (k + 1) = if covB f (nth4 l k) (nth4 l (nxt l.length k)) = true then cfK f l k else cfK f l k ++ [(k : Int)] := fun k => rfl
  have hcl := cfK_len f l
  have hc0 : cfK f l 0 = [] := rfl
  have hV : cf_v f l = if ckK f l l.length = true then (cfK f l l.length, true) else ([], false) := rfl
  rw [hV]
  clear hV hl2 hl hf
  obtain ⟨n, hn⟩ : ∃ n, l.length = n := ⟨_, rfl⟩
  rw [hn] at cc hcf hnx hl1 ⊢
  generalize cfK f l = CF at *
  generalize ckK f l = CK at *
  obtain ⟨OK, hOK⟩ : ∃ OK : Nat → Bool, ∀ k, imgOk f (nth4 l k).1 (nth4 l k).2 = OK k := ⟨_, fun _ => rfl⟩
  obtain ⟨CB, hCB⟩ : ∃ CB : Nat → Bool, ∀ k, covB f (nth4 l k) (nth4 l (nxt n k)) = CB k := ⟨_, fun _ => rfl⟩
  simp only [hOK, hCB] at cc hck hcf
  clear hOK hCB
  obtain ⟨V, hV⟩ : ∃ V, (if CK n = true then (CF n, true) else ([], false)) = V := ⟨_, rfl⟩
  rw [hV]
  obtain ⟨ao, cap, rfl, _, _, H⟩ := hu.form
  rw [hn] at H c1 ⊢
  clear hu hv
  have cc' := Lib.hid cc
  have hck' := Lib.hid hck
  have h00' := Lib.hid h00
  have hcf' := Lib.hid hcf
  have hcl' := Lib.hid hcl
  have hc0' := Lib.hid hc0
  have hV' := Lib.hid hV
  have hn' := Lib.hid hn
  have H' := Lib.hid H
  have c1' := Lib.hid c1
  clear cc hck h00 hcf hcl hc0 hV hn H c1
  go_enter Tryz.func33, Tryz.ntmps33
  go_wp2_with fail
  refine (c1'.out).mono ?_
  rintro e w1 ⟨rfl, hB1⟩
  obtain ⟨wc, hwc⟩ : ∃ W, w1.alloc (.cells #[.bool false] 59) = W := ⟨_, rfl⟩
  have hBc : Below w1.heap.size w1 wc := by rw [← hwc]; exact (Below.refl _ _).alloc (Nat.le_refl _) _
  have hcA : CalcAt wc w1.heap.size false := by rw [← hwc]; refine ⟨?_, ?_⟩ <;> simp [go_sem]
  have hbc := hB1.trans (hBc.mono hB1.size)
  have hs1 := hB1.size
  have hsc : wc.heap.size = w1.heap.size + 1 := by rw [← hwc]; simp
  obtain ⟨g, hg⟩ : ∃ g, w1.heap.size = g := ⟨_, rfl⟩
  rw [hg] at hcA hs1 hsc
  clear hB1 hBc
  have hwc' := Lib.hid hwc
  have hbc' := Lib.hid hbc
  have hcA' := Lib.hid hcA
  clear hwc hbc hcA
  go_wp2
  rw [hwc'.out]
  go_loopw [7, 16] (fun o i wr => ∃ k : Nat, k ≤ n ∧ i = .int .i64 k ∧ Grow wr (g + 1) o (CF k) ∧ CalcAt wr g (!(CK k)) ∧ Below w.heap.size w wr ∧ g + 1 ≤ wr.heap.size) (fun _ i _ => n - (intOf i).toNat)
  case atStart => exact ⟨0, Nat.zero_le _, rfl, by rw [hc0'.out]; exact Grow.nil _ _, by rw [h00'.out]; exact hcA'.out, hbc'.out, by omega⟩
  case round =>
    obtain ⟨k, hk, rfl, hgr, hcr, hbr, hsr⟩ := hrel
    by_cases hlt : k < n
    · obtain ⟨b, off, rfl, p0, p1, p2, p3⟩ := H'.out k hlt
      obtain ⟨m, hm⟩ : ∃ m, nxt n k = m := ⟨_, rfl⟩
      have hml : m < n := by rw [← hm]; exact hnx k hlt
      obtain ⟨_, _, e, q0, q1, q2, q3⟩ := H'.out m hml
      cases e
      have cc1 := fun w' hB hc => cc'.out k g (!(CK k)) w' hB hs1 hlt hc
      rw [hm] at cc1
      have hlb : ∀ {o : Nat} {x : Value}, w.cell? ⟨b, o, none⟩ = some x → b ≠ g := fun h e => by have := World.block_lt_of_cell? w _ h; simp only at this; omega
      have hbg := hlb p0
      clear hlb
      replace p0 := bkeep hbr p0
      replace p1 := bkeep hbr p1
      replace p2 := bkeep hbr p2
      replace p3 := bkeep hbr p3
      replace q0 := bkeep hbr q0
      replace q1 := bkeep hbr q1
      replace q2 := bkeep hbr q2
      replace q3 := bkeep hbr q3
      have hck1 := hck'.out k
      have hcf1 := hcf'.out k
      generalize nth4 l k = P at *
      generalize nth4 l m = Q at *
      generalize OK k = ok at *
      generalize CB k = cb at *
      have hn0 : n ≠ 0 := by omega
      have hrem : Int.tmod ((k : Int) + 1) (n : Int) = (m : Int) := by
        rw [← hm, show ((k : Int) + 1) = ((k + 1 : Nat) : Int) by omega]
        rfl
      obtain ⟨⟨a0, a1⟩, ⟨a2, a3⟩⟩ := P
      obtain ⟨⟨b0, b1⟩, ⟨b2, b3⟩⟩ := Q
      simp only at p0 p1 p2 p3 q0 q1 q2 q3 cc1
      obtain ⟨w4, hw4⟩ : ∃ W, wr.alloc (.cells #[.int .i64 a0, .int .i64 a1, .int .i64 a2, .int .i64 a3] 44) = W := ⟨_, rfl⟩
      have hB4 : Below wr.heap.size wr w4 := by rw [← hw4]; exact (Below.refl _ _).alloc (Nat.le_refl _) _
      have i0 : w4.cell? ⟨wr.heap.size, 0, none⟩ = some (.int .i64 a0) := by rw [← hw4]; simp [go_sem]
      have i1 : w4.cell? ⟨wr.heap.size, 1, none⟩ = some (.int .i64 a1) := by rw [← hw4]; simp [go_sem]
      have i2 : w4.cell? ⟨wr.heap.size, 2, none⟩ = some (.int .i64 a2) := by rw [← hw4]; simp [go_sem]
      have i3 : w4.cell? ⟨wr.heap.size, 3, none⟩ = some (.int .i64 a3) := by rw [← hw4]; simp [go_sem]
      have hr4 : w4.heap.size = wr.heap.size + 1 := by rw [← hw4]; simp
      replace q0 := bkeep hB4 q0
      replace q1 := bkeep hB4 q1
      replace q2 := bkeep hB4 q2
      replace q3 := bkeep hB4 q3
      have hb4 := hbr.trans (hB4.mono hbr.size)
      have hcd : CalcAt w4.drew g (!(CK k)) := (hcr.below hB4).drew
      have hbd : Below w.heap.size w w4.drew := hb4.drew
      have hgr4 := hgr.below hB4
      have hrg1 : (some g : Option Nat) ≠ some wr.heap.size := fun e => by have := Option.some.inj e; omega
      have hrg2 : (some g : Option Nat) ≠ some b := fun e => hbg (Option.some.inj e).symm
      have hgd : w4.grownBy w4.drew (some g) := gdrew (World.grownBy.refl _ _)
      have at' : ∀ w', w4.grownBy w' (some g) → (w'.cell? ⟨wr.heap.size, 0, none⟩ = some (.int .i64 a0) ∧ w'.cell? ⟨wr.heap.size, 1, none⟩ = some (.int .i64 a1) ∧ w'.cell? ⟨wr.heap.size, 2, none⟩ = some (.int .i64 a2) ∧ w'.cell? ⟨wr.heap.size, 3, none⟩ = some (.int .i64 a3)) ∧ w'.cell? ⟨b, off + m * 4, none⟩ = some (.int .i64 b0) ∧ w'.cell? ⟨b, off + m * 4 + 1, none⟩ = some (.int .i64 b1) ∧ w'.cell? ⟨b, off + m * 4 + 2, none⟩ = some (.int .i64 b2) ∧ w'.cell? ⟨b, off + m * 4 + 3, none⟩ = some (.int .i64 b3) :=
        fun w' h => ⟨⟨gcell h i0 hrg1, gcell h i1 hrg1, gcell h i2 hrg1, gcell h i3 hrg1⟩, gcell h q0 hrg2, gcell h q1 hrg2, gcell h q2 hrg2, gcell h q3 hrg2⟩
      have g1 : (0 : Int) ≤ (m : Int) := by omega
      have g2 : (m : Int) < (n : Int) := by omega
      have cc2 := cc1 _ hbd hcd
      have hwi : IntKind.i64.wrap ((k : Int) + 1) = (k : Int) + 1 := by rw [IntKind.wrap_i64]; omega
      clear i0 i1 i2 i3 q0 q1 q2 q3 hB4 hgr hcr cc1 hcd hb4 hbr
      have cc2' := Lib.hid cc2
      have hck1' := Lib.hid hck1
      have hcf1' := Lib.hid hcf1
      have at'' := Lib.hid at'
      have hw4' := Lib.hid hw4
      have hgr4' := Lib.hid hgr4
      have hm' := Lib.hid hm
      clear cc2 hck1 hcf1 at' hw4 hgr4 hm
      go_wp2_with fail
      rw [hw4'.out]
      clear p0 p1 p2 p3
      go_wp2_with fail
      refine wp_region_held_drew (S := (fun w' => (w'.cell? ⟨wr.heap.size, 0, none⟩ = some (.int .i64 a0) ∧ w'.cell? ⟨wr.heap.size, 1, none⟩ = some (.int .i64 a1) ∧ w'.cell? ⟨wr.heap.size, 2, none⟩ = some (.int .i64 a2) ∧ w'.cell? ⟨wr.heap.size, 3, none⟩ = some (.int .i64 a3)) ∧ w'.cell? ⟨b, off + m * 4, none⟩ = some (.int .i64 b0) ∧ w'.cell? ⟨b, off + m * 4 + 1, none⟩ = some (.int .i64 b1) ∧ w'.cell? ⟨b, off + m * 4 + 2, none⟩ = some (.int .i64 b2) ∧ w'.cell? ⟨b, off + m * 4 + 3, none⟩ = some (.int .i64 b3))) (by kernel_rfl) (by (try dsimp only); (first | exact at''.out _ hgd | exact at''.out _ hgd2)) (fun hHeld => ?_)
      refine ly_q 0 (v := ?_) hHeld ?_
      try simp only [Act.put, lyA, lyB, lyC]
      refine ly_q 1 (v := ?_) hHeld ?_
      try simp only [Act.put, lyA, lyB, lyC]
      refine ly_q 2 (v := ?_) hHeld ?_
      try simp only [Act.put, lyA, lyB, lyC]
      refine ly_q 3 (v := ?_) hHeld ?_
      try simp only [Act.put, lyA, lyB, lyC]
      refine ly_q 4 (v := ?_) hHeld ?_
      try simp only [Act.put, lyA, lyB, lyC]
      refine ly_q 5 (v := ?_) hHeld ?_
      try simp only [Act.put, lyA, lyB, lyC]
      refine ly_q 6 (v := ?_) hHeld ?_
      try simp only [Act.put, lyA, lyB, lyC]
      refine ly_q 7 (v := ?_) hHeld ?_
      try simp only [Act.put, lyA, lyB, lyC]
      refine ly_q 8 (v := ?_) hHeld ?_
      try simp only [Act.put, lyA, lyB, lyC]
      refine ly_q 9 (v := ?_) hHeld ?_
      try simp only [Act.put, lyA, lyB, lyC]
      refine ly_a 10 (fun KK hKK => ?_)
      go_simp
      refine (cc2'.out).mono ?_
      rintro e w5 ⟨rfl, hg5, hc5⟩
      have hgd2 := hgd.trans hg5
      try dsimp only
      refine hKK.out _ _ (by (try dsimp only); (first | exact at''.out _ hgd | exact at''.out _ hgd2)) (fun hHeld => ?_)
      clear hKK KK
      try simp only [Act.put, lyA, lyB, lyC]
      refine ly_q 11 (v := ?_) hHeld ?_
      try simp only [Act.put, lyA, lyB, lyC]
      refine wpAnyH_done (by kernel_rfl) ?_ _
      clear hHeld
      have hb5 : Below w.heap.size w w5 := hbd.grown hg5 hbd.size (fun j hj => by have := Option.some.inj hj; omega)
      have hgr5 : Grow w5 (g + 1) u7 (CF k) := (hgr4'.out.drew).keptC hg5 (Nat.lt_succ_self _)
      have hc6 : CalcAt w5 g (!(CK (k + 1))) := by rw [hck1'.out, Bool.not_and]; exact hc5
      have hs5 := hg5.size
      have hs6 : g + 1 ≤ w5.heap.size := by
        have : w4.drew.heap.size = w4.heap.size := rfl
        omega
      clear hgd hgd2 hg5 hc5 hbd
      have hcl1 := hcl'.out k
      cases cb
      · have e2 : CF (k + 1) = CF k ++ [(k : Int)] := by rw [hcf1'.out]; rfl
        have hb5' := Lib.hid hb5
        have hgr5' := Lib.hid hgr5
        have hc6' := Lib.hid hc6
        have e2' := Lib.hid e2
        have hcl1' := Lib.hid hcl1
        clear hb5 hgr5 hc6 e2 hcl1
        go_wp2_with (at_builtin; refine wpList_append_int rfl _ _ rfl (g + 1) u7 (CF k) (k : Int) 1 rfl rfl hgr5'.out (by have := hcl1'.out; omega) (by omega) ?_)
        intro v' w6 hown hgrow
        have hb6 := hgr5'.out.belowB hb5'.out (by omega) (by omega) hgrow
        have hc7 := hc6'.out.grown hgrow (fun e => by have := (World.ownsRow.lt hgr5'.out g e).1; omega)
        have hs7 := hgrow.size
        clear hgrow
        have hown' := Lib.hid hown
        have hb6' := Lib.hid hb6
        have hc7' := Lib.hid hc7
        clear hown hb6 hc7
        go_wp2
        go_roundw
        case rel => exact ⟨k + 1, by omega, by go_num, by rw [e2'.out]; exact hown'.out, hc7'.out, hb6'.out, by omega⟩
        case measure => simp [intOf]; omega
      · have e2 : CF (k + 1) = CF k := by rw [hcf1'.out]; rfl
        have hb5' := Lib.hid hb5
        have hgr5' := Lib.hid hgr5
        have hc6' := Lib.hid hc6
        have e2' := Lib.hid e2
        clear hb5 hgr5 hc6 e2
        go_wp2
        go_roundw
        case rel => exact ⟨k + 1, by omega, by go_num, by rw [e2'.out]; exact hgr5'.out, hc6'.out, hb5'.out, hs6⟩
        case measure => simp [intOf]; omega
    · obtain rfl : k = n := by omega
      have hV := hV'.out
      have hp := hcr.cell
      have hgro := hgr.own
      generalize CK k = ck at *
      clear hcr hgr H'
      cases ck
      · rw [if_neg (by decide)] at hV
        subst hV
        have hbr' := Lib.hid hbr
        have hgro' := Lib.hid hgro
        clear hbr hgro
        go_wp2
        go_ret2
        exact ⟨_, rfl, Own.nil _ _ _, hbr'.out⟩
      · rw [if_pos rfl] at hV
        subst hV
        have hbr' := Lib.hid hbr
        have hgro' := Lib.hid hgro
        clear hbr hgro
        go_wp2
        go_ret2
        exact ⟨_, rfl, hgro'.out.mono (by omega) (Nat.le_refl _), hbr'.out⟩

end Go.Proofs.YtjkgilenhoomoaaGreat

namespace Go.Proofs.YtjkgilenhoomoaaGreat
open Go.RowKit
set_option maxRecDepth 100000

set_option linter.unusedSimpArgs false in
set_option maxRecDepth 10000 in
set_option maxHeartbeats 4000000 in
theorem chFaults_any (v u : Value) (f l : List Quad) (w : World) (hv : QuadV w v f) (hu : QuadV w u l) (hf : MapP f) (hl : ivsB l = true) :
    Calls Tryz.prog 16 #[v, u] w (RetOB Own (cf_v f l) w) := by
  obtain ⟨hl1, hl2⟩ := ivsB_true hl
  have hnx : ∀ k, k < l.length → nxt l.length k < l.length := fun k h => nxt_lt h
  have cc := fun (k : Nat) (w' : World) (hB : Below w.heap.size w w') (h : k < l.length) =>
    ivCovers_any v f (nth4 l k) (nth4 l (nxt l.length k)) w' (hv.below hB) hf (ivB_true (hl2 k h)).1 (ivB_true (hl2 k h)).2.1 (ivB_true (hl2 _ (hnx k h))).1 (ivB_true (hl2 _ (hnx k h))).2.1
  have hck := ckK_step f l
  have h00 : ckK f l 0 = true := rfl
  have hcf : ∀ k, cfK f l (k + 1) = if covB f (nth4 l k) (nth4 l (nxt l.length k)) = true then cfK f l k else cfK f l k ++ [(k : Int)] := fun k => rfl
  have hcl := cfK_len f l
  have hc0 : cfK f l 0 = [] := rfl
  have hV : cf_v f l = if ckK f l l.length = true then (cfK f l l.length, true) else ([], false) := rfl
  have hno := fun k (h : k < l.length) hb => ckK_false (f := f) (l := l) h hb
  have hR : ∀ k j, covR f (nth4 l k) (nth4 l j) = if imgOk f (nth4 l k).1 (nth4 l k).2 = true then (covB f (nth4 l k) (nth4 l j), true) else (false, false) := fun k j => rfl
  rw [hV]
  simp only [hR] at cc
  clear hV hl2 hl hf hR
  obtain ⟨n, hn⟩ : ∃ n, l.length = n := ⟨_, rfl⟩
  rw [hn] at cc hcf hnx hl1 hno ⊢
  generalize cfK f l = CF at *
  generalize ckK f l = CK at *
  obtain ⟨OK, hOK⟩ : ∃ OK : Nat → Bool, ∀ k, imgOk f (nth4 l k).1 (nth4 l k).2 = OK k := ⟨_, fun _ => rfl⟩
  obtain ⟨CB, hCB⟩ : ∃ CB : Nat → Bool, ∀ k, covB f (nth4 l k) (nth4 l (nxt n k)) = CB k := ⟨_, fun _ => rfl⟩
  simp only [hOK, hCB] at cc hck hcf hno
  clear hOK hCB
  obtain ⟨V, hV⟩ : ∃ V, (if CK n = true then (CF n, true) else ([], false)) = V := ⟨_, rfl⟩
  rw [hV]
  obtain ⟨ao, cap, rfl, _, _, H⟩ := hu.form
  rw [hn] at H ⊢
  clear hu hv
  have cc' := Lib.hid cc
  have hck' := Lib.hid hck
  have h00' := Lib.hid h00
  have hcf' := Lib.hid hcf
  have hcl' := Lib.hid hcl
  have hc0' := Lib.hid hc0
  have hV' := Lib.hid hV
  have hn' := Lib.hid hn
  have H' := Lib.hid H
  have hno' := Lib.hid hno
  clear cc hck h00 hcf hcl hc0 hV hn H hno
  go_enter Tryz.func16, Tryz.ntmps16
  go_wp2
  go_loopw [6, 13] (fun o i wr => ∃ k : Nat, k ≤ n ∧ i = .int .i64 k ∧ Grow wr w.heap.size o (CF k) ∧ CK k = true ∧ Below w.heap.size w wr) (fun _ i _ => n - (intOf i).toNat)
  case atStart => exact ⟨0, Nat.zero_le _, rfl, by rw [hc0'.out]; exact Grow.nil _ _, h00'.out, Below.refl _ _⟩
  case round =>
    obtain ⟨k, hk, rfl, hgr, hcr, hbr⟩ := hrel
    by_cases hlt : k < n
    · obtain ⟨b, off, rfl, p0, p1, p2, p3⟩ := H'.out k hlt
      obtain ⟨m, hm⟩ : ∃ m, nxt n k = m := ⟨_, rfl⟩
      have hml : m < n := by rw [← hm]; exact hnx k hlt
      obtain ⟨_, _, e, q0, q1, q2, q3⟩ := H'.out m hml
      cases e
      have cc1 := fun w' hB => cc'.out k w' hB hlt
      rw [hm] at cc1
      replace p0 := bkeep hbr p0
      replace p1 := bkeep hbr p1
      replace p2 := bkeep hbr p2
      replace p3 := bkeep hbr p3
      replace q0 := bkeep hbr q0
      replace q1 := bkeep hbr q1
      replace q2 := bkeep hbr q2
      replace q3 := bkeep hbr q3
      have hck1 := hck'.out k
      have hcf1 := hcf'.out k
      have hno1 := hno'.out k hlt
      have hcl1 := hcl'.out k
      rw [hcr, Bool.true_and] at hck1
      generalize nth4 l k = P at *
      generalize nth4 l m = Q at *
      generalize OK k = ok at *
      generalize CB k = cb at *
      have hn0 : n ≠ 0 := by omega
      have hrem : Int.tmod ((k : Int) + 1) (n : Int) = (m : Int) := by
        rw [← hm, show ((k : Int) + 1) = ((k + 1 : Nat) : Int) by omega]
        rfl
      obtain ⟨⟨a0, a1⟩, ⟨a2, a3⟩⟩ := P
      obtain ⟨⟨b0, b1⟩, ⟨b2, b3⟩⟩ := Q
      simp only at p0 p1 p2 p3 q0 q1 q2 q3 cc1
      obtain ⟨w4, hw4⟩ : ∃ W, wr.alloc (.cells #[.int .i64 a0, .int .i64 a1, .int .i64 a2, .int .i64 a3] 44) = W := ⟨_, rfl⟩
      have hB4 : Below wr.heap.size wr w4 := by rw [← hw4]; exact (Below.refl _ _).alloc (Nat.le_refl _) _
      have i0 : w4.cell? ⟨wr.heap.size, 0, none⟩ = some (.int .i64 a0) := by rw [← hw4]; simp [go_sem]
      have i1 : w4.cell? ⟨wr.heap.size, 1, none⟩ = some (.int .i64 a1) := by rw [← hw4]; simp [go_sem]
      have i2 : w4.cell? ⟨wr.heap.size, 2, none⟩ = some (.int .i64 a2) := by rw [← hw4]; simp [go_sem]
      have i3 : w4.cell? ⟨wr.heap.size, 3, none⟩ = some (.int .i64 a3) := by rw [← hw4]; simp [go_sem]
      replace q0 := bkeep hB4 q0
      replace q1 := bkeep hB4 q1
      replace q2 := bkeep hB4 q2
      replace q3 := bkeep hB4 q3
      have hb4 := hbr.trans (hB4.mono hbr.size)
      have hbd : Below w.heap.size w w4.drew := hb4.drew
      have hgr4 := hgr.below hB4
      have hd : Below w4.heap.size w4 w4.drew := (Below.refl _ _).drew
      have hs4 := hb4.size
      have at' : ∀ w', Below w4.heap.size w4 w' → (w'.cell? ⟨wr.heap.size, 0, none⟩ = some (.int .i64 a0) ∧ w'.cell? ⟨wr.heap.size, 1, none⟩ = some (.int .i64 a1) ∧ w'.cell? ⟨wr.heap.size, 2, none⟩ = some (.int .i64 a2) ∧ w'.cell? ⟨wr.heap.size, 3, none⟩ = some (.int .i64 a3)) ∧ w'.cell? ⟨b, off + m * 4, none⟩ = some (.int .i64 b0) ∧ w'.cell? ⟨b, off + m * 4 + 1, none⟩ = some (.int .i64 b1) ∧ w'.cell? ⟨b, off + m * 4 + 2, none⟩ = some (.int .i64 b2) ∧ w'.cell? ⟨b, off + m * 4 + 3, none⟩ = some (.int .i64 b3) :=
        fun w' h => ⟨⟨bkeep h i0, bkeep h i1, bkeep h i2, bkeep h i3⟩, bkeep h q0, bkeep h q1, bkeep h q2, bkeep h q3⟩
      have g1 : (0 : Int) ≤ (m : Int) := by omega
      have g2 : (m : Int) < (n : Int) := by omega
      have cc2 := cc1 _ hbd
      have hwi : IntKind.i64.wrap ((k : Int) + 1) = (k : Int) + 1 := by rw [IntKind.wrap_i64]; omega
      clear i0 i1 i2 i3 q0 q1 q2 q3 hB4 hgr cc1 hbd
      cases ok
      · have e2 : CK n = false := hno1 rfl
        rw [if_neg (by decide)] at cc2
        clear hno1 hck1 hcf1
        have cc2' := Lib.hid cc2
        have at'' := Lib.hid at'
        have hw4' := Lib.hid hw4
        have hgr4' := Lib.hid hgr4
        have hm' := Lib.hid hm
        have e2' := Lib.hid e2
        have hcr' := Lib.hid hcr
        clear cc2 at' hw4 hgr4 hm e2 hcr
        go_wp2_with fail
        rw [hw4'.out]
        clear p0 p1 p2 p3
        go_wp2_with fail
        refine wp_region_held_drew (S := (fun w' => (w'.cell? ⟨wr.heap.size, 0, none⟩ = some (.int .i64 a0) ∧ w'.cell? ⟨wr.heap.size, 1, none⟩ = some (.int .i64 a1) ∧ w'.cell? ⟨wr.heap.size, 2, none⟩ = some (.int .i64 a2) ∧ w'.cell? ⟨wr.heap.size, 3, none⟩ = some (.int .i64 a3)) ∧ w'.cell? ⟨b, off + m * 4, none⟩ = some (.int .i64 b0) ∧ w'.cell? ⟨b, off + m * 4 + 1, none⟩ = some (.int .i64 b1) ∧ w'.cell? ⟨b, off + m * 4 + 2, none⟩ = some (.int .i64 b2) ∧ w'.cell? ⟨b, off + m * 4 + 3, none⟩ = some (.int .i64 b3))) (by kernel_rfl) (by (try dsimp only); (first | exact at''.out _ hd | exact at''.out _ hd2)) (fun hHeld => ?_)
        refine ly_q 0 (v := ?_) hHeld ?_
        try simp only [Act.put, lyA, lyB, lyC]
        refine ly_q 1 (v := ?_) hHeld ?_
        try simp only [Act.put, lyA, lyB, lyC]
        refine ly_q 2 (v := ?_) hHeld ?_
        try simp only [Act.put, lyA, lyB, lyC]
        refine ly_q 3 (v := ?_) hHeld ?_
        try simp only [Act.put, lyA, lyB, lyC]
        refine ly_q 4 (v := ?_) hHeld ?_
        try simp only [Act.put, lyA, lyB, lyC]
        refine ly_q 5 (v := ?_) hHeld ?_
        try simp only [Act.put, lyA, lyB, lyC]
        refine ly_q 6 (v := ?_) hHeld ?_
        try simp only [Act.put, lyA, lyB, lyC]
        refine ly_q 7 (v := ?_) hHeld ?_
        try simp only [Act.put, lyA, lyB, lyC]
        refine ly_q 8 (v := ?_) hHeld ?_
        try simp only [Act.put, lyA, lyB, lyC]
        refine ly_q 9 (v := ?_) hHeld ?_
        try simp only [Act.put, lyA, lyB, lyC]
        refine ly_a 10 (fun KK hKK => ?_)
        go_simp
        refine (cc2'.out).mono ?_
        rintro e w5 ⟨rfl, hB5⟩
        have hd2 := hd.trans (hB5.mono hd.size)
        try dsimp only
        refine hKK.out _ _ (by (try dsimp only); (first | exact at''.out _ hd | exact at''.out _ hd2)) (fun hHeld => ?_)
        clear hKK KK
        try simp only [Act.put, lyA, lyB, lyC]
        refine ly_q 11 (v := ?_) hHeld ?_
        try simp only [Act.put, lyA, lyB, lyC]
        refine ly_q 12 (v := ?_) hHeld ?_
        try simp only [Act.put, lyA, lyB, lyC]
        refine ly_q 13 (v := ?_) hHeld ?_
        try simp only [Act.put, lyA, lyB, lyC]
        refine ly_q 14 (v := ?_) hHeld ?_
        try simp only [Act.put, lyA, lyB, lyC]
        refine ly_q 15 (v := ?_) hHeld ?_
        try simp only [Act.put, lyA, lyB, lyC]
        refine wpAnyH_done (by kernel_rfl) ?_ _
        have hb5 := hb4.trans (hd2.mono hb4.size)
        clear hHeld hd hd2 hB5 hb4 hgr4'
        have hV := hV'.out
        rw [if_neg (by rw [e2'.out]; decide)] at hV
        subst hV
        have hb5' := Lib.hid hb5
        clear hb5
        go_wp2
        go_ret2
        exact ⟨_, rfl, Own.nil _ _ _, hb5'.out⟩
      · rw [if_pos rfl] at cc2
        clear hno1
        have cc2' := Lib.hid cc2
        have at'' := Lib.hid at'
        have hw4' := Lib.hid hw4
        have hgr4' := Lib.hid hgr4
        have hm' := Lib.hid hm
        have hck1' := Lib.hid hck1
        have hcr' := Lib.hid hcr
        have hcf1' := Lib.hid hcf1
        have hcl1' := Lib.hid hcl1
        clear cc2 at' hw4 hgr4 hm hck1 hcr hcf1 hcl1
        go_wp2_with fail
        rw [hw4'.out]
        clear p0 p1 p2 p3
        go_wp2_with fail
        refine wp_region_held_drew (S := (fun w' => (w'.cell? ⟨wr.heap.size, 0, none⟩ = some (.int .i64 a0) ∧ w'.cell? ⟨wr.heap.size, 1, none⟩ = some (.int .i64 a1) ∧ w'.cell? ⟨wr.heap.size, 2, none⟩ = some (.int .i64 a2) ∧ w'.cell? ⟨wr.heap.size, 3, none⟩ = some (.int .i64 a3)) ∧ w'.cell? ⟨b, off + m * 4, none⟩ = some (.int .i64 b0) ∧ w'.cell? ⟨b, off + m * 4 + 1, none⟩ = some (.int .i64 b1) ∧ w'.cell? ⟨b, off + m * 4 + 2, none⟩ = some (.int .i64 b2) ∧ w'.cell? ⟨b, off + m * 4 + 3, none⟩ = some (.int .i64 b3))) (by kernel_rfl) (by (try dsimp only); (first | exact at''.out _ hd | exact at''.out _ hd2)) (fun hHeld => ?_)
        refine ly_q 0 (v := ?_) hHeld ?_
        try simp only [Act.put, lyA, lyB, lyC]
        refine ly_q 1 (v := ?_) hHeld ?_
        try simp only [Act.put, lyA, lyB, lyC]
        refine ly_q 2 (v := ?_) hHeld ?_
        try simp only [Act.put, lyA, lyB, lyC]
        refine ly_q 3 (v := ?_) hHeld ?_
        try simp only [Act.put, lyA, lyB, lyC]
        refine ly_q 4 (v := ?_) hHeld ?_
        try simp only [Act.put, lyA, lyB, lyC]
        refine ly_q 5 (v := ?_) hHeld ?_
        try simp only [Act.put, lyA, lyB, lyC]
        refine ly_q 6 (v := ?_) hHeld ?_
        try simp only [Act.put, lyA, lyB, lyC]
        refine ly_q 7 (v := ?_) hHeld ?_
        try simp only [Act.put, lyA, lyB, lyC]
        refine ly_q 8 (v := ?_) hHeld ?_
        try simp only [Act.put, lyA, lyB, lyC]
        refine ly_q 9 (v := ?_) hHeld ?_
        try simp only [Act.put, lyA, lyB, lyC]
        refine ly_a 10 (fun KK hKK => ?_)
        go_simp
        refine (cc2'.out).mono ?_
        rintro e w5 ⟨rfl, hB5⟩
        have hd2 := hd.trans (hB5.mono hd.size)
        try dsimp only
        refine hKK.out _ _ (by (try dsimp only); (first | exact at''.out _ hd | exact at''.out _ hd2)) (fun hHeld => ?_)
        clear hKK KK
        try simp only [Act.put, lyA, lyB, lyC]
        refine ly_q 11 (v := ?_) hHeld ?_
        try simp only [Act.put, lyA, lyB, lyC]
        refine ly_q 12 (v := ?_) hHeld ?_
        try simp only [Act.put, lyA, lyB, lyC]
        refine ly_q 13 (v := ?_) hHeld ?_
        try simp only [Act.put, lyA, lyB, lyC]
        refine ly_q 14 (v := ?_) hHeld ?_
        try simp only [Act.put, lyA, lyB, lyC]
        refine ly_q 15 (v := ?_) hHeld ?_
        try simp only [Act.put, lyA, lyB, lyC]
        refine wpAnyH_done (by kernel_rfl) ?_ _
        have hb5 := hb4.trans (hd2.mono hb4.size)
        have hgr5 := hgr4'.out.below hd2
        have hs5 := hb5.size
        clear hHeld hd hd2 hB5 hb4 hgr4'
        cases cb
        · have e2 : CF (k + 1) = CF k ++ [(k : Int)] := by rw [hcf1'.out]; rfl
          have hb5' := Lib.hid hb5
          have hgr5' := Lib.hid hgr5
          have e2' := Lib.hid e2
          clear hb5 hgr5 e2
          go_wp2_with (at_builtin; refine wpList_append_int rfl _ _ rfl w.heap.size u6 (CF k) (k : Int) 1 rfl rfl hgr5'.out (by have := hcl1'.out; omega) hs5 ?_)
          intro v' w6 hown hgrow
          have hb6 := hgr5'.out.belowB hb5'.out (Nat.le_refl _) hs5 hgrow
          clear hgrow
          have hown' := Lib.hid hown
          have hb6' := Lib.hid hb6
          clear hown hb6
          go_wp2
          go_roundw
          case rel => exact ⟨k + 1, by omega, by go_num, by rw [e2'.out]; exact hown'.out, hck1'.out, hb6'.out⟩
          case measure => simp [intOf]; omega
        · have e2 : CF (k + 1) = CF k := by rw [hcf1'.out]; rfl
          have hb5' := Lib.hid hb5
          have hgr5' := Lib.hid hgr5
          have e2' := Lib.hid e2
          clear hb5 hgr5 e2
          go_wp2
          go_roundw
          case rel => exact ⟨k + 1, by omega, by go_num, by rw [e2'.out]; exact hgr5'.out, hck1'.out, hb5'.out⟩
          case measure => simp [intOf]; omega
    · obtain rfl : k = n := by omega
      have hV := hV'.out
      have hgro := hgr.own
      rw [if_pos hcr] at hV
      subst hV
      clear hcr hgr H'
      have hbr' := Lib.hid hbr
      have hgro' := Lib.hid hgro
      clear hbr hgro
      go_wp2
      go_ret2
      exact ⟨_, rfl, hgro'.out, hbr'.out⟩

end Go.Proofs.YtjkgilenhoomoaaGreat

namespace Go.Proofs.YtjkgilenhoomoaaGreat
open Go.RowKit

def lenV : Value → Nat | .slice _ n _ => n | _ => 0


end Go.Proofs.YtjkgilenhoomoaaGreat

namespace Go.Proofs.YtjkgilenhoomoaaGreat
open Go.RowKit
set_option maxRecDepth 100000


end Go.Proofs.YtjkgilenhoomoaaGreat

namespace Go.Proofs.YtjkgilenhoomoaaGreat
open Go.RowKit

theorem asked_isMap_any (v u : Value) (f l : List Quad) (w : World) (hv : QuadV w v f) (hu : QuadV w u l) (hm : f.length ≤ 1099511627776) (hn : l.length ≤ 1099511627776) :
    Calls Tryz.prog 49 #[v, u] w (Ret (.bool (mapB f && ivsB l)) w) := by
  have c1 := isMap_any v f w hv hm
  have c2 := fun w' (hB : Below w.heap.size w w') => areIntervals_any u l w' (hu.below hB) hn
  generalize mapB f = M at *
  generalize ivsB l = I at *
  clear hv hu
  have c1' := Lib.hid c1
  have c2' := Lib.hid c2
  clear c1 c2
  go_enter Tryz.func49, Tryz.ntmps49
  go_wp2_with fail
  refine (c1'.out).mono ?_
  rintro e w1 ⟨rfl, hB1⟩
  cases M
  · go_wp2
    go_ret
    exact ⟨rfl, hB1⟩
  · have hs1 := hB1.size
    go_wp2_with fail
    refine (c2'.out _ hB1).mono ?_
    rintro e w2 ⟨rfl, hB2⟩
    have hb2 := hB1.trans (hB2.mono hs1)
    go_wp2
    go_ret
    exact ⟨rfl, hb2⟩
theorem asked_imGood_any (v u : Value) (f l : List Quad) (w : World) (hv : QuadV w v f) (hu : QuadV w u l) (hm : f.length ≤ 1099511627776) (hn : l.length ≤ 1099511627776) :
    Calls Tryz.prog 15 #[v, u] w (Ret (.bool (mapB f && ivsB l)) w) := by
  have c1 := imGood_any v f w hv hm
  have c2 := fun w' (hB : Below w.heap.size w w') => ivList_any u l w' (hu.below hB) hn
  generalize mapB f = M at *
  generalize ivsB l = I at *
  clear hv hu
  have c1' := Lib.hid c1
  have c2' := Lib.hid c2
  clear c1 c2
  go_enter Tryz.func15, Tryz.ntmps15
  go_wp2_with fail
  refine (c1'.out).mono ?_
  rintro e w1 ⟨rfl, hB1⟩
  cases M
  · go_wp2
    go_ret
    exact ⟨rfl, hB1⟩
  · have hs1 := hB1.size
    go_wp2_with fail
    refine (c2'.out _ hB1).mono ?_
    rintro e w2 ⟨rfl, hB2⟩
    have hb2 := hB1.trans (hB2.mono hs1)
    go_wp2
    go_ret
    exact ⟨rfl, hb2⟩


end Go.Proofs.YtjkgilenhoomoaaGreat

namespace Go.Proofs.YtjkgilenhoomoaaGreat
open Go.RowKit

theorem chain_no {f l : List Quad} (h : ¬ (mapB f = true ∧ ivsB l = true)) : (mapB f && ivsB l) = false := by
  rw [← Bool.not_eq_true, Bool.and_eq_true]; exact h
theorem ChainFaults_yes {f l : List Quad} (h : mapB f = true ∧ ivsB l = true) : ChainFaults_v f l = cf_v f l := by unfold ChainFaults_v; rw [if_pos h]
theorem ChainFaults_no {f l : List Quad} (h : ¬ (mapB f = true ∧ ivsB l = true)) : ChainFaults_v f l = ([], false) := by unfold ChainFaults_v; rw [if_neg h]

/-- No fault but the last one's. -/
def chB (r : List Int × Bool) (n : Nat) : Bool × Bool := if r.2 = true then (decide (r.1.length = 0) || decide (nth r.1 0 = (n : Int) - 1), true) else (false, false)
def lpB (r : List Int × Bool) : Bool × Bool := if r.2 = true then (decide (r.1.length = 0), true) else (false, false)
def IsChain_v (f l : List Quad) : Bool × Bool := chB (ChainFaults_v f l) l.length
def IsLoopOf_v (f l : List Quad) : Bool × Bool := lpB (ChainFaults_v f l)

theorem chainFaults_any (v : Value) (f : List Quad) (u : Value) (l : List Quad) (w : World) (hv : QuadV w v f) (hm : szPointS f ≤ 1099511627776) (hu : QuadV w u l) (hn : szIntervalS l ≤ 1099511627776) :
    Calls Tryz.prog 33 #[v, u] w (RetOB Own (ChainFaults_v f l) w) := by
  have c1 := asked_isMap_any v u f l w hv hu hm hn
  by_cases h : mapB f = true ∧ ivsB l = true
  · rw [ChainFaults_yes h]
    rw [h.1, h.2] at c1
    exact chainFaults_in v u f l w hv hu (mapB_true h.1) h.2 c1
  · rw [ChainFaults_no h]
    rw [chain_no h] at c1
    clear hv hu h
    have c1' := Lib.hid c1
    clear c1
    go_enter Tryz.func33, Tryz.ntmps33
    go_wp2_with fail
    refine (c1'.out).mono ?_
    rintro e w1 ⟨rfl, hB1⟩
    go_wp2
    go_ret2
    exact ⟨_, rfl, Own.nil _ _ _, hB1⟩
/-- The first cell of a list that is not empty; its length. -/
theorem IntsV.head {w : World} {v : Value} {xs : List Int} (h : IntsV w v xs) : ∃ ao cap, v = .slice ao xs.length cap ∧ (0 < xs.length → ∃ b off, ao = some ⟨b, off, none⟩ ∧ w.cell? ⟨b, off, none⟩ = some (.int .i64 (nth xs 0))) := by
  obtain ⟨ao, cap, rfl, _, _, H⟩ := h
  exact ⟨ao, cap, rfl, fun h0 => H 0 h0⟩

set_option maxHeartbeats 800000 in
theorem implIsChain_any (v : Value) (f : List Quad) (u : Value) (l : List Quad) (w : World) (hv : QuadV w v f) (hm : szPointS f ≤ 1099511627776) (hu : QuadV w u l) (hn : szIntervalS l ≤ 1099511627776) :
    Calls Tryz.prog 20 #[v, u] w (Ret (.tuple #[.bool (IsChain_v f l).1, .bool (IsChain_v f l).2]) w) := by
  have c1 := chainFaults_any v f u l w hv hm hu hn
  unfold IsChain_v
  have hlen := ChainFaults_len f l
  replace hn : l.length ≤ 1099511627776 := hn
  obtain ⟨ao, cap, rfl, _, _, _⟩ := hu.form
  generalize ChainFaults_v f l = R at *
  generalize l.length = n at *
  obtain ⟨L, B⟩ := R
  simp only at hlen
  clear hv hu
  have hwi : IntKind.i64.wrap ((n : Int) - 1) = (n : Int) - 1 := by rw [IntKind.wrap_i64]; omega
  have c1' := Lib.hid c1
  clear c1
  cases B
  · have hR : chB (L, false) n = (false, false) := rfl
    rw [hR]
    go_enter Tryz.func20, Tryz.ntmps20
    go_wp2_with fail
    refine (c1'.out).mono ?_
    rintro e w1 ⟨s, rfl, hs, hB1⟩
    clear hs
    go_wp2
    go_ret2
    exact ⟨rfl, hB1⟩
  · have hR : chB (L, true) n = (decide (L.length = 0) || decide (nth L 0 = (n : Int) - 1), true) := rfl
    rw [hR]
    clear hR
    generalize hz : nth L 0 = z at *
    by_cases h0 : L.length = 0
    · rw [decide_eq_true h0, Bool.true_or]
      go_enter Tryz.func20, Tryz.ntmps20
      go_wp2_with fail
      refine (c1'.out).mono ?_
      rintro e w1 ⟨s, rfl, hs, hB1⟩
      obtain ⟨so, scap, rfl, _⟩ := IntsV.head hs.read
      rw [h0]
      clear hs h0
      go_wp2
      go_ret2
      exact ⟨rfl, hB1⟩
    · rw [decide_eq_false h0, Bool.false_or]
      obtain ⟨m, hm0⟩ : ∃ m, L.length = m + 1 := ⟨L.length - 1, by omega⟩
      by_cases h1 : z = (n : Int) - 1
      · rw [decide_eq_true h1]
        have hd0 : decide ((m + 1 : Nat) = 0) = false := rfl
        have h0' := Lib.hid h0
        have hd0' := Lib.hid hd0
        clear h0 hd0
        go_enter Tryz.func20, Tryz.ntmps20
        go_wp2_with fail
        refine (c1'.out).mono ?_
        rintro e w1 ⟨s, rfl, hs, hB1⟩
        obtain ⟨so, scap, rfl, hh⟩ := IntsV.head hs.read
        obtain ⟨b, off, rfl, hc⟩ := hh (by rw [hm0]; omega)
        rw [hz] at hc
        rw [hm0]
        clear hs hh
        have hm0' := Lib.hid hm0
        have hz' := Lib.hid hz
        clear hm0 hz
        go_wp2
        go_ret2
        exact ⟨by first | (simp; done) | (simp; omega), hB1⟩
      · rw [decide_eq_false h1]
        have h0' := Lib.hid h0
        clear h0
        go_enter Tryz.func20, Tryz.ntmps20
        go_wp2_with fail
        refine (c1'.out).mono ?_
        rintro e w1 ⟨s, rfl, hs, hB1⟩
        obtain ⟨so, scap, rfl, hh⟩ := IntsV.head hs.read
        obtain ⟨b, off, rfl, hc⟩ := hh (by rw [hm0]; omega)
        rw [hz] at hc
        rw [hm0]
        clear hs hh
        have hm0' := Lib.hid hm0
        have hz' := Lib.hid hz
        clear hm0 hz
        go_wp2
        go_ret2
        exact ⟨by first | (simp; done) | (simp; omega), hB1⟩

end Go.Proofs.YtjkgilenhoomoaaGreat

/- The program's laps. No conditions but valid maps. -/
import Derived.Test.YtnggopbehohjnaaGreatLapLaw
import Derived.Test.YtnggopbehohjnaaGreatPkA
namespace Go.Proofs.YtnggopbehohjnaaGreat
open Go.RowKit
set_option maxRecDepth 100000

/-- A slice literal of three ints. -/
theorem RowAt.lit3 (w : World) (x y z : Int) : RowAt (w.alloc (.cells #[.int .i64 x, .int .i64 y, .int .i64 z] 3)) w.heap.size w.heap.size 3 3 [x, y, z] :=
  World.ownsRow_lit (base := w.heap.size) (e := 3) (size := 1) w #[.int .i64 x, .int .i64 y, .int .i64 z] 3 (Nat.le_refl _) (by decide) rfl
theorem lst_row3 (k : Nat) (s : Int) : lst 3 (row3 k s) = [(k : Int), (k : Int) + 1, s] := rfl

set_option linter.unusedSimpArgs false in
set_option maxRecDepth 10000 in
set_option maxHeartbeats 4000000 in
theorem laps_any (v : Value) (f : List Quad) (w : World) (hv : QuadV w v f) (hf : MapP f) :
    Calls Tryz.prog 174 #[v] w (RetM (lpc (sgS f) (f.length - 1)) 3 (lpT (sgS f) (f.length - 1)) w) := by
  have hl := hf.len
  have c1 := slopes_any v f w hv hf
  have hsn : (slL f).length = f.length - 1 := slK_len f _
  have hat : ∀ i, i < f.length - 1 → nthR (slL f) i = slopeR (nth4 f i) (nth4 f (i + 1)) := fun i h => nthR_slK f h
  have hgd : ∀ i, i < f.length - 1 → goodR (nthR (slL f) i).1 (nthR (slL f) i).2 = true := fun i h => by rw [hat i h]; exact slope_good hf (by omega)
  have hS : ∀ i, i < f.length - 1 → sgn (nthR (slL f) i).1 = sgS f i := fun i h => by rw [hat i h]; rfl
  have cs0 := fun (i : Nat) (w' : World) (h : i < f.length - 1) => sign_any (nthR (slL f) i) w' (good_bd (hgd i h))
  have cs : ∀ (i : Nat) (w' : World), i < f.length - 1 → Calls Tryz.prog 236 #[.agg #[.int .i64 (nthR (slL f) i).1, .int .i64 (nthR (slL f) i).2]] w' (Ret (.int .i64 (sgS f i)) w') := fun i w' h => by
    have := cs0 i w' h
    rw [hS i h] at this; exact this
  clear cs0
  have hn1 : 0 < f.length - 1 := by omega
  have hnl : f.length - 1 ≤ 11 := by omega
  generalize sgS f = S at *
  generalize slL f = SL at *
  generalize f.length - 1 = n at *
  clear hat hgd hS hf hv
  have hcp := fun j => lpc_pos S (j := j)
  have hcl := lpc_le S
  have hlast := fun j => lpT_last S (j := j)
  have hsame := fun j => lpT_same (S := S) (j := j)
  have hnew := fun j => lpT_new (S := S) (j := j)
  have hcsame := fun j => lpc_same (S := S) (j := j)
  have hcnew := fun j => lpc_new (S := S) (j := j)
  have hc0 : lpc S 0 = 0 := rfl
  have h3 := fun k => lst_row3 k (S k)
  generalize lpc S = C at *
  generalize lpT S = T at *
  have c1' := Lib.hid c1
  have cs' := Lib.hid cs
  have hcp' := Lib.hid hcp
  have hcl' := Lib.hid hcl
  have hlast' := Lib.hid hlast
  have hsame' := Lib.hid hsame
  have hnew' := Lib.hid hnew
  have hcsame' := Lib.hid hcsame
  have hcnew' := Lib.hid hcnew
  have hc0' := Lib.hid hc0
  have h3' := Lib.hid h3
  clear c1 cs hcp hcl hlast hsame hnew hcsame hcnew hc0 h3
  go_enter Tryz.func174, Tryz.ntmps174
  go_wp2_with fail
  refine (c1'.out).mono ?_
  rintro e w1 ⟨sv, rfl, hsv, hB1⟩
  obtain ⟨so, scap, rfl, _, _, H⟩ := hsv.read.form
  rw [hsn] at H ⊢
  clear hsv
  have H' := Lib.hid H
  have hsn' := Lib.hid hsn
  clear H hsn
  go_wp2
  go_loopw [3, 10] (fun o i wr => ∃ (k : Nat) (rb rc : Nat → Nat), k ≤ n ∧ i = .int .i64 k ∧ GrowT wr w1.heap.size wr.heap.size o (C k) 3 rb rc (T k) ∧ (k = 0 → o = .slice none 0 0) ∧ Below w1.heap.size w1 wr) (fun _ i _ => n - (intOf i).toNat)
  case atStart => exact ⟨0, fun _ => 0, fun _ => 0, Nat.zero_le _, rfl, by rw [hc0'.out]; exact GrowT.nil _ _ _ _ _ _ _, fun _ => rfl, Below.refl _ _⟩
  case round =>
    obtain ⟨k, rb, rc, hk, rfl, hp, ho, hB⟩ := hrel
    obtain ⟨wo, rfl⟩ : ∃ wo : World, wo = wr := ⟨_, rfl⟩
    by_cases hlt : k < n
    · obtain ⟨b, off, rfl, p0, p1⟩ := H'.out k hlt
      replace p0 := bkeep hB p0
      replace p1 := bkeep hB p1
      have cs1 := fun w' => cs'.out k w' hlt
      generalize nthR SL k = P at *
      obtain ⟨s0, s1⟩ := P
      simp only at p0 p1 cs1
      have hso := hB.size
      obtain ⟨w4, hw4⟩ : ∃ W, wo.alloc (.cells #[.int .i64 s0, .int .i64 s1] 50) = W := ⟨_, rfl⟩
      have hB4 : Below wo.heap.size wo w4 := by rw [← hw4]; exact (Below.refl _ _).alloc (Nat.le_refl _) _
      have i0 : w4.cell? ⟨wo.heap.size, 0, none⟩ = some (.int .i64 s0) := by rw [← hw4]; simp [go_sem]
      have i1 : w4.cell? ⟨wo.heap.size, 1, none⟩ = some (.int .i64 s1) := by rw [← hw4]; simp [go_sem]
      have hb4 := hB.trans (hB4.mono hso)
      have hs4 : wo.heap.size ≤ w4.heap.size := hB4.size
      have hgw : IntKind.i64.wrap ((k : Int) + 1) = (k : Int) + 1 := by rw [IntKind.wrap_i64]; omega
      have hd : Below w4.heap.size w4 w4.drew := (Below.refl _ _).drew
      rcases Nat.eq_zero_or_pos k with h0 | h0
      · obtain rfl := ho h0
        have e1 := hcnew'.out k (fun h => by omega)
        have e2 := hnew'.out k (fun h => by omega)
        have hCq : C k = 0 := by rw [h0]; exact hc0'.out
        rw [hCq] at hp
        have hp4 := hp.kept hB4
        have at' : ∀ w', Below w4.heap.size w4 w' → w'.cell? ⟨wo.heap.size, 0, none⟩ = some (.int .i64 s0) ∧ w'.cell? ⟨wo.heap.size, 1, none⟩ = some (.int .i64 s1) :=
          fun w' h => ⟨bkeep h i0, bkeep h i1⟩
        clear i0 i1 hp hB4 hB ho
        have e1' := Lib.hid e1
        have e2' := Lib.hid e2
        have at'' := Lib.hid at'
        have hp4' := Lib.hid hp4
        have hb4' := Lib.hid hb4
        have cs1' := Lib.hid cs1
        have hw4' := Lib.hid hw4
        have hCq' := Lib.hid hCq
        have h0' := Lib.hid h0
        clear e1 e2 at' hp4 hb4 cs1 hw4 hCq h0
        go_wp2_with fail
        rw [hw4'.out]
        clear p0 p1
        go_wp2_with fail
        refine wp_region_held_drew (S := (fun w' => w'.cell? ⟨wo.heap.size, 0, none⟩ = some (.int .i64 s0) ∧ w'.cell? ⟨wo.heap.size, 1, none⟩ = some (.int .i64 s1))) (by kernel_rfl) (by (try dsimp only); (first | exact at''.out _ hd)) (fun hHeld => ?_)
        refine ly_q 0 (v := ?_) hHeld ?_
        try simp only [Act.put, lyA, lyB, lyC]
        refine ly_q 1 (v := .bool false) (hy := by intro wS hSw; (try dsimp only at hSw); go_simp; all_goals (first | (simp; done) | (with_reducible rfl))) hHeld ?_
        try simp only [Act.put, lyA, lyB, lyC]
        refine ly_q 2 (v := ?_) hHeld ?_
        try simp only [Act.put, lyA, lyB, lyC]
        refine ly_off 3 hHeld ?_
        try simp only [Act.put, lyA, lyB, lyC]
        refine ly_off 4 hHeld ?_
        try simp only [Act.put, lyA, lyB, lyC]
        refine ly_off 5 hHeld ?_
        try simp only [Act.put, lyA, lyB, lyC]
        refine ly_off 6 hHeld ?_
        try simp only [Act.put, lyA, lyB, lyC]
        refine ly_off 7 hHeld ?_
        try simp only [Act.put, lyA, lyB, lyC]
        refine ly_off 8 hHeld ?_
        try simp only [Act.put, lyA, lyB, lyC]
        refine ly_off 9 hHeld ?_
        try simp only [Act.put, lyA, lyB, lyC]
        refine ly_off 10 hHeld ?_
        try simp only [Act.put, lyA, lyB, lyC]
        refine ly_off 11 hHeld ?_
        try simp only [Act.put, lyA, lyB, lyC]
        refine ly_q 12 (v := ?_) hHeld ?_
        try simp only [Act.put, lyA, lyB, lyC]
        refine wpAnyH_done (by kernel_rfl) ?_ _
        have hb5 := hb4'.out.drew
        have hs5 : wo.heap.size ≤ w4.drew.heap.size := hs4
        obtain ⟨i0, i1⟩ := at''.out _ hd
        clear hHeld hd hb4' at''
        go_wp2_with fail
        refine (cs1'.out _).mono ?_
        rintro e w8 ⟨rfl, hB8⟩
        obtain ⟨w9, hw9⟩ : ∃ W, w8.alloc (.cells #[.int .i64 k, .int .i64 ((k : Int) + 1), .int .i64 (S k)] 3) = W := ⟨_, rfl⟩
        have hBr : Below w8.heap.size w8 w9 := by rw [← hw9]; exact (Below.refl _ _).alloc (Nat.le_refl _) _
        have hb8 := hb5.trans (hB8.mono hb5.size)
        have hs8 := Nat.le_trans hs5 hB8.size
        have hb9 := hb8.trans (hBr.mono hb8.size)
        have hrow : RowAt w9 w1.heap.size w8.heap.size 3 3 (lst 3 (row3 k (S k))) := by
          have := RowAt.lit3 w8 (k : Int) ((k : Int) + 1) (S k)
          rw [← h3'.out k, hw9] at this
          exact this.mono hb8.size
        have hz9 : w8.heap.size + 1 = w9.heap.size := by rw [← hw9]; simp
        have hp9 : GrowT w9 w1.heap.size wo.heap.size (.slice none 0 0) 0 3 rb rc (T k) := ((hp4'.out.kept ((Below.refl _ _).drew)).kept (hB8.mono hs5)).kept (hBr.mono (Nat.le_trans hs5 hB8.size))
        have hs9 := hb9.size
        clear hB8 hBr hb8 hb5
        have hw9' := Lib.hid hw9
        have hz9' := Lib.hid hz9
        have hrow' := Lib.hid hrow
        have hb9' := Lib.hid hb9
        clear hw9 hz9 hrow hb9
        go_wp2_with (at_builtin; rw [hw9'.out, hz9'.out]; refine wpList_append_row rfl _ _ rfl w1.heap.size wo.heap.size (.slice none 0 0) 0 3 w8.heap.size 3 1 rb rc (T k) (row3 k (S k)) rfl rfl hp9 hrow'.out hs8 (by omega) hs9 ?_)
        intro v' w' hp' hg'
        have hb10 := hb9'.out.grown hg' hs9 (fun j hj => (World.ownsRow.lt hp9.outer j hj).1)
        clear hg' hp9
        have hp'' := Lib.hid hp'
        have hb10' := Lib.hid hb10
        clear hp' hb10
        go_wp2
        go_roundw
        case rel =>
          refine ⟨k + 1, (fun i => if i = 0 then w8.heap.size else rb i), (fun i => if i = 0 then 3 else rc i), by omega, by go_num, ?_, fun h => absurd h (Nat.succ_ne_zero k), hb10'.out⟩
          rw [e1'.out, e2'.out, hCq'.out]
          exact hp''.out.congr (fun i j _ _ => by split <;> rfl)
        case measure => simp [intOf]; omega
      · clear ho
        have hq1 := hcp'.out k h0
        have hql := hcl'.out k
        obtain ⟨g, cap, rfl, hM⟩ := hp.form hq1
        have hM4 := hM.below hB4 (Nat.le_refl _)
        obtain ⟨q, hq⟩ : ∃ q, C k - 1 = q := ⟨_, rfl⟩
        obtain ⟨Q, hCq⟩ : ∃ Q, C k = Q := ⟨_, rfl⟩
        have hqQ : Q = q + 1 := by omega
        have hQl : Q ≤ 1099511627776 := by omega
        have hl1 := hlast'.out k h0
        rw [hq] at hl1
        rw [hCq] at hM4 ⊢
        have g1 : IntKind.i64.wrap ((Q : Int) - 1) = (q : Int) := by rw [IntKind.wrap_i64]; omega
        have g2 : (0 : Int) ≤ (q : Int) := by omega
        have g3 : (q : Int) < (Q : Int) := by omega
        have g4 : q < Q := by omega
        have hp4 := hM4.ptr (i := q) g4
        have hc4 := hM4.cell (i := q) (j := 2) g4 (by decide)
        rw [hl1] at hc4
        have at' : ∀ w', Below w4.heap.size w4 w' → (w'.cell? ⟨wo.heap.size, 0, none⟩ = some (.int .i64 s0) ∧ w'.cell? ⟨wo.heap.size, 1, none⟩ = some (.int .i64 s1)) ∧ w'.cell? ⟨g, q, none⟩ = some (.slice (some ⟨rb q, 0, none⟩) 3 (rc q)) ∧ w'.cell? ⟨rb q, 2, none⟩ = some (.int .i64 (S (k - 1))) :=
          fun w' h => ⟨⟨bkeep h i0, bkeep h i1⟩, bkeep h hp4, bkeep h hc4⟩
        clear i0 i1 hp4 hc4 hp hM hB4 hB
        by_cases hsg : S (k - 1) = S k
        · have e1 := hcsame'.out k ⟨h0, hsg⟩
          have e2 := hsame'.out k ⟨h0, hsg⟩
          rw [hq] at e2
          have e1' := Lib.hid e1
          have e2' := Lib.hid e2
          have at'' := Lib.hid at'
          have hM4' := Lib.hid hM4
          have hb4' := Lib.hid hb4
          have cs1' := Lib.hid cs1
          have hw4' := Lib.hid hw4
          have hCq' := Lib.hid hCq
          have hq' := Lib.hid hq
          have hl1' := Lib.hid hl1
          have hsg' := Lib.hid hsg
          have hqQ' := Lib.hid hqQ
          clear e1 e2 at' hM4 hb4 cs1 hw4 hCq hq hl1 hsg hqQ
          go_wp2_with fail
          rw [hw4'.out]
          clear p0 p1
          go_wp2_with fail
          refine wp_region_held_drew (S := (fun w' => (w'.cell? ⟨wo.heap.size, 0, none⟩ = some (.int .i64 s0) ∧ w'.cell? ⟨wo.heap.size, 1, none⟩ = some (.int .i64 s1)) ∧ w'.cell? ⟨g, q, none⟩ = some (.slice (some ⟨rb q, 0, none⟩) 3 (rc q)) ∧ w'.cell? ⟨rb q, 2, none⟩ = some (.int .i64 (S (k - 1))))) (by kernel_rfl) (by (try dsimp only); (first | exact at''.out _ hd | exact at''.out _ hd2)) (fun hHeld => ?_)
          refine ly_q 0 (v := ?_) hHeld ?_
          try simp only [Act.put, lyA, lyB, lyC]
          refine ly_q 1 (v := .bool true) (hy := by intro wS hSw; (try dsimp only at hSw); go_simp; all_goals (first | (simp; done) | (with_reducible rfl))) hHeld ?_
          try simp only [Act.put, lyA, lyB, lyC]
          refine ly_q 2 (v := ?_) hHeld ?_
          try simp only [Act.put, lyA, lyB, lyC]
          refine ly_q 3 (v := ?_) hHeld ?_
          try simp only [Act.put, lyA, lyB, lyC]
          refine ly_q 4 (v := ?_) hHeld ?_
          try simp only [Act.put, lyA, lyB, lyC]
          refine ly_q 5 (v := ?_) hHeld ?_
          try simp only [Act.put, lyA, lyB, lyC]
          refine ly_q 6 (v := ?_) hHeld ?_
          try simp only [Act.put, lyA, lyB, lyC]
          refine ly_q 7 (v := ?_) hHeld ?_
          try simp only [Act.put, lyA, lyB, lyC]
          refine ly_q 8 (v := ?_) hHeld ?_
          try simp only [Act.put, lyA, lyB, lyC]
          refine ly_q 9 (v := ?_) hHeld ?_
          try simp only [Act.put, lyA, lyB, lyC]
          refine ly_a 10 (fun KK hKK => ?_)
          go_simp
          refine (cs1'.out _).mono ?_
          rintro e w5 ⟨rfl, hB5⟩
          have hd2 := hd.trans (hB5.mono hd.size)
          try dsimp only
          refine hKK.out _ _ (by (try dsimp only); (first | exact at''.out _ hd | exact at''.out _ hd2)) (fun hHeld => ?_)
          clear hKK KK
          try simp only [Act.put, lyA, lyB, lyC]
          refine ly_q 11 (v := .bool true) (hy := by intro wS hSw; (try dsimp only at hSw); go_simp; all_goals (first | (simp [hsg'.out]; done) | (with_reducible rfl))) hHeld ?_
          try simp only [Act.put, lyA, lyB, lyC]
          refine ly_q 12 (v := ?_) hHeld ?_
          try simp only [Act.put, lyA, lyB, lyC]
          refine wpAnyH_done (by kernel_rfl) ?_ _
          have hb5 := hb4'.out.trans (hd2.mono hb4'.out.size)
          have hM5 := hM4'.out.below hd2 hs4
          have hs5 := Nat.le_trans hs4 hd2.size
          have hp5 := hM5.ptr (i := q) g4
          have hf5 := hM5.frozen (i := q) g4 1
          have hc5 := hM5.cell (i := q) (j := 1) g4 (by decide)
          obtain ⟨hr1, hr2⟩ := hM5.block (i := q) g4
          have hM6 := hM5.stored (i := q) g4 1 ((k : Int) + 1)
          have hb6 := hb5.setCell (p := ⟨rb q, 1, none⟩) (by show w1.heap.size ≤ rb q; omega) (.int .i64 ((k : Int) + 1))
          clear hHeld hd2 hB5 hM4' hb4' hb5 hM5 at''
          have hM6' := Lib.hid hM6
          have hb6' := Lib.hid hb6
          clear hM6 hb6
          go_wp2
          go_roundw
          case rel =>
            refine ⟨k + 1, rb, rc, by omega, by go_num, ?_, fun h => absurd h (Nat.succ_ne_zero k), hb6'.out⟩
            rw [e1'.out, e2'.out, hCq'.out]
            exact (hM6'.out.mono (Nat.le_refl _) (by simpa [World.setCell] using hs5)).grow
          case measure => simp [intOf]; omega
        · have e1 := hcnew'.out k (fun h => hsg h.2)
          have e2 := hnew'.out k (fun h => hsg h.2)
          have e1' := Lib.hid e1
          have e2' := Lib.hid e2
          have at'' := Lib.hid at'
          have hM4' := Lib.hid hM4
          have hb4' := Lib.hid hb4
          have cs1' := Lib.hid cs1
          have hw4' := Lib.hid hw4
          have hCq' := Lib.hid hCq
          have hq' := Lib.hid hq
          have hl1' := Lib.hid hl1
          have hsg' := Lib.hid hsg
          have hqQ' := Lib.hid hqQ
          clear e1 e2 at' hM4 hb4 cs1 hw4 hCq hq hl1 hsg hqQ
          go_wp2_with fail
          rw [hw4'.out]
          clear p0 p1
          go_wp2_with fail
          refine wp_region_held_drew (S := (fun w' => (w'.cell? ⟨wo.heap.size, 0, none⟩ = some (.int .i64 s0) ∧ w'.cell? ⟨wo.heap.size, 1, none⟩ = some (.int .i64 s1)) ∧ w'.cell? ⟨g, q, none⟩ = some (.slice (some ⟨rb q, 0, none⟩) 3 (rc q)) ∧ w'.cell? ⟨rb q, 2, none⟩ = some (.int .i64 (S (k - 1))))) (by kernel_rfl) (by (try dsimp only); (first | exact at''.out _ hd | exact at''.out _ hd2)) (fun hHeld => ?_)
          refine ly_q 0 (v := ?_) hHeld ?_
          try simp only [Act.put, lyA, lyB, lyC]
          refine ly_q 1 (v := .bool true) (hy := by intro wS hSw; (try dsimp only at hSw); go_simp; all_goals (first | (simp; done) | (with_reducible rfl))) hHeld ?_
          try simp only [Act.put, lyA, lyB, lyC]
          refine ly_q 2 (v := ?_) hHeld ?_
          try simp only [Act.put, lyA, lyB, lyC]
          refine ly_q 3 (v := ?_) hHeld ?_
          try simp only [Act.put, lyA, lyB, lyC]
          refine ly_q 4 (v := ?_) hHeld ?_
          try simp only [Act.put, lyA, lyB, lyC]
          refine ly_q 5 (v := ?_) hHeld ?_
          try simp only [Act.put, lyA, lyB, lyC]
          refine ly_q 6 (v := ?_) hHeld ?_
          try simp only [Act.put, lyA, lyB, lyC]
          refine ly_q 7 (v := ?_) hHeld ?_
          try simp only [Act.put, lyA, lyB, lyC]
          refine ly_q 8 (v := ?_) hHeld ?_
          try simp only [Act.put, lyA, lyB, lyC]
          refine ly_q 9 (v := ?_) hHeld ?_
          try simp only [Act.put, lyA, lyB, lyC]
          refine ly_a 10 (fun KK hKK => ?_)
          go_simp
          refine (cs1'.out _).mono ?_
          rintro e w5 ⟨rfl, hB5⟩
          have hd2 := hd.trans (hB5.mono hd.size)
          try dsimp only
          refine hKK.out _ _ (by (try dsimp only); (first | exact at''.out _ hd | exact at''.out _ hd2)) (fun hHeld => ?_)
          clear hKK KK
          try simp only [Act.put, lyA, lyB, lyC]
          refine ly_q 11 (v := .bool false) (hy := by intro wS hSw; (try dsimp only at hSw); go_simp; all_goals (first | (simp [hsg'.out]; done) | (with_reducible rfl))) hHeld ?_
          try simp only [Act.put, lyA, lyB, lyC]
          refine ly_q 12 (v := ?_) hHeld ?_
          try simp only [Act.put, lyA, lyB, lyC]
          refine wpAnyH_done (by kernel_rfl) ?_ _
          have hb5 := hb4'.out.trans (hd2.mono hb4'.out.size)
          have hM5 := hM4'.out.below hd2 hs4
          have hs5 := Nat.le_trans hs4 hd2.size
          obtain ⟨⟨i0, i1⟩, _, _⟩ := at''.out _ hd2
          clear hHeld hd2 hB5 hM4' hb4' at''
          go_wp2_with fail
          refine (cs1'.out _).mono ?_
          rintro e w8 ⟨rfl, hB8⟩
          obtain ⟨w9, hw9⟩ : ∃ W, w8.alloc (.cells #[.int .i64 k, .int .i64 ((k : Int) + 1), .int .i64 (S k)] 3) = W := ⟨_, rfl⟩
          have hBr : Below w8.heap.size w8 w9 := by rw [← hw9]; exact (Below.refl _ _).alloc (Nat.le_refl _) _
          have hb8 := hb5.trans (hB8.mono hb5.size)
          have hs8 := Nat.le_trans hs5 hB8.size
          have hb9 := hb8.trans (hBr.mono hb8.size)
          have hrow : RowAt w9 w1.heap.size w8.heap.size 3 3 (lst 3 (row3 k (S k))) := by
            have := RowAt.lit3 w8 (k : Int) ((k : Int) + 1) (S k)
            rw [← h3'.out k, hw9] at this
            exact this.mono hb8.size
          have hz9 : w8.heap.size + 1 = w9.heap.size := by rw [← hw9]; simp
          have hp9 : GrowT w9 w1.heap.size wo.heap.size (.slice (some ⟨g, 0, none⟩) Q cap) Q 3 rb rc (T k) := ((hM5.below hB8 hs5).grow).kept (hBr.mono (Nat.le_trans hs5 hB8.size))
          have hs9 := hb9.size
          clear hB8 hBr hb8 hb5
          have hw9' := Lib.hid hw9
          have hz9' := Lib.hid hz9
          have hrow' := Lib.hid hrow
          have hb9' := Lib.hid hb9
          clear hw9 hz9 hrow hb9
          go_wp2_with (at_builtin; rw [hw9'.out, hz9'.out]; refine wpList_append_row rfl _ _ rfl w1.heap.size wo.heap.size (.slice (some ⟨g, 0, none⟩) Q cap) Q 3 w8.heap.size 3 1 rb rc (T k) (row3 k (S k)) rfl rfl hp9 hrow'.out hs8 hQl hs9 ?_)
          intro v' w' hp' hg'
          have hb10 := hb9'.out.grown hg' hs9 (fun j hj => (World.ownsRow.lt hp9.outer j hj).1)
          clear hg' hp9
          have hp'' := Lib.hid hp'
          have hb10' := Lib.hid hb10
          clear hp' hb10
          go_wp2
          go_roundw
          case rel =>
            refine ⟨k + 1, (fun i => if i = Q then w8.heap.size else rb i), (fun i => if i = Q then 3 else rc i), by omega, by go_num, ?_, fun h => absurd h (Nat.succ_ne_zero k), hb10'.out⟩
            rw [e1'.out, e2'.out, hCq'.out]
            exact hp''.out.congr (fun i j _ _ => by split <;> rfl)
          case measure => simp [intOf]; omega
    · obtain rfl : k = n := by omega
      obtain ⟨gg, gcap, rfl, hall⟩ := hp.form (hcp'.out k (by omega))
      have hb := hB1.trans (hB.mono hB1.size)
      have hM := hall.mono hB1.size (Nat.le_refl _)
      clear hp hall H' ho
      have hb' := Lib.hid hb
      have hM' := Lib.hid hM
      clear hb hM
      go_wp2
      go_ret
      exact ⟨_, _, _, _, rfl, hM'.out, hb'.out⟩
set_option linter.unusedSimpArgs false in
set_option maxRecDepth 10000 in
set_option maxHeartbeats 4000000 in
theorem imLaps_any (v : Value) (f : List Quad) (w : World) (hv : QuadV w v f) (hf : MapP f) :
    Calls Tryz.prog 260 #[v] w (RetM (lpc (sgS f) (f.length - 1)) 3 (lpT (sgS f) (f.length - 1)) w) := by
  have hl := hf.len
  have c1 := imSlopes_any v f w hv hf
  have hsn : (slL f).length = f.length - 1 := slK_len f _
  have hat : ∀ i, i < f.length - 1 → nthR (slL f) i = slopeR (nth4 f i) (nth4 f (i + 1)) := fun i h => nthR_slK f h
  have hS : ∀ i, i < f.length - 1 → sgn (nthR (slL f) i).1 = sgS f i := fun i h => by rw [hat i h]; rfl
  have cs : ∀ (i : Nat) (w' : World), i < f.length - 1 → Calls Tryz.prog 213 #[.int .i64 (nthR (slL f) i).1] w' (Same (.int .i64 (sgS f i)) w') := fun i w' h => by
    have := l1Sign_any (nthR (slL f) i).1 w'
    rw [hS i h] at this; exact this
  have hn1 : 0 < f.length - 1 := by omega
  have hnl : f.length - 1 ≤ 11 := by omega
  generalize sgS f = S at *
  generalize slL f = SL at *
  generalize f.length - 1 = n at *
  clear hat hS hf hv
  have hcp := fun j => lpc_pos S (j := j)
  have hcl := lpc_le S
  have hlast := fun j => lpT_last S (j := j)
  have hsame := fun j => lpT_same (S := S) (j := j)
  have hnew := fun j => lpT_new (S := S) (j := j)
  have hcsame := fun j => lpc_same (S := S) (j := j)
  have hcnew := fun j => lpc_new (S := S) (j := j)
  have hc0 : lpc S 0 = 0 := rfl
  have h3 := fun k => lst_row3 k (S k)
  generalize lpc S = C at *
  generalize lpT S = T at *
  have c1' := Lib.hid c1
  have cs' := Lib.hid cs
  have hcp' := Lib.hid hcp
  have hcl' := Lib.hid hcl
  have hlast' := Lib.hid hlast
  have hsame' := Lib.hid hsame
  have hnew' := Lib.hid hnew
  have hcsame' := Lib.hid hcsame
  have hcnew' := Lib.hid hcnew
  have hc0' := Lib.hid hc0
  have h3' := Lib.hid h3
  clear c1 cs hcp hcl hlast hsame hnew hcsame hcnew hc0 h3
  go_enter Tryz.func260, Tryz.ntmps260
  go_wp2_with fail
  refine (c1'.out).mono ?_
  rintro e w1 ⟨sv, rfl, hsv, hB1⟩
  obtain ⟨so, scap, rfl, _, _, H⟩ := hsv.read.form
  rw [hsn] at H ⊢
  clear hsv
  have H' := Lib.hid H
  have hsn' := Lib.hid hsn
  clear H hsn
  go_wp2
  go_loopw [3, 11] (fun o i wr => ∃ (k : Nat) (rb rc : Nat → Nat), k ≤ n ∧ i = .int .i64 k ∧ GrowT wr w1.heap.size wr.heap.size o (C k) 3 rb rc (T k) ∧ (k = 0 → o = .slice none 0 0) ∧ Below w1.heap.size w1 wr) (fun _ i _ => n - (intOf i).toNat)
  case atStart => exact ⟨0, fun _ => 0, fun _ => 0, Nat.zero_le _, rfl, by rw [hc0'.out]; exact GrowT.nil _ _ _ _ _ _ _, fun _ => rfl, Below.refl _ _⟩
  case round =>
    obtain ⟨k, rb, rc, hk, rfl, hp, ho, hB⟩ := hrel
    obtain ⟨wo, rfl⟩ : ∃ wo : World, wo = wr := ⟨_, rfl⟩
    by_cases hlt : k < n
    · obtain ⟨b, off, rfl, p0, p1⟩ := H'.out k hlt
      replace p0 := bkeep hB p0
      replace p1 := bkeep hB p1
      have cs1 := fun w' => cs'.out k w' hlt
      generalize nthR SL k = P at *
      obtain ⟨s0, s1⟩ := P
      simp only at p0 p1 cs1
      have hso := hB.size
      obtain ⟨w4, hw4⟩ : ∃ W, wo.alloc (.cells #[.int .i64 s0, .int .i64 s1] 50) = W := ⟨_, rfl⟩
      have hB4 : Below wo.heap.size wo w4 := by rw [← hw4]; exact (Below.refl _ _).alloc (Nat.le_refl _) _
      have i0 : w4.cell? ⟨wo.heap.size, 0, none⟩ = some (.int .i64 s0) := by rw [← hw4]; simp [go_sem]
      have i1 : w4.cell? ⟨wo.heap.size, 1, none⟩ = some (.int .i64 s1) := by rw [← hw4]; simp [go_sem]
      have hb4 := hB.trans (hB4.mono hso)
      have hs4 : wo.heap.size ≤ w4.heap.size := hB4.size
      have hgw : IntKind.i64.wrap ((k : Int) + 1) = (k : Int) + 1 := by rw [IntKind.wrap_i64]; omega
      rcases Nat.eq_zero_or_pos k with h0 | h0
      · obtain rfl := ho h0
        have e1 := hcnew'.out k (fun h => by omega)
        have e2 := hnew'.out k (fun h => by omega)
        have hCq : C k = 0 := by rw [h0]; exact hc0'.out
        rw [hCq] at hp
        have hp4 := hp.kept hB4
        clear hp hB4 hB ho
        have e1' := Lib.hid e1
        have e2' := Lib.hid e2
        have hp4' := Lib.hid hp4
        have hb4' := Lib.hid hb4
        have cs1' := Lib.hid cs1
        have hw4' := Lib.hid hw4
        have hCq' := Lib.hid hCq
        have h0' := Lib.hid h0
        clear e1 e2 hp4 hb4 cs1 hw4 hCq h0
        go_wp2_with fail
        rw [hw4'.out]
        clear p0 p1
        go_wp2_with fail
        refine (cs1'.out _).mono ?_
        rintro e w_ ⟨rfl, rfl⟩
        obtain ⟨w9, hw9⟩ : ∃ W, w4.alloc (.cells #[.int .i64 k, .int .i64 ((k : Int) + 1), .int .i64 (S k)] 3) = W := ⟨_, rfl⟩
        have hBr : Below w4.heap.size w4 w9 := by rw [← hw9]; exact (Below.refl _ _).alloc (Nat.le_refl _) _
        have hb8 := hb4'.out
        have hs8 := hs4
        have hb9 := hb8.trans (hBr.mono hb8.size)
        have hrow : RowAt w9 w1.heap.size w4.heap.size 3 3 (lst 3 (row3 k (S k))) := by
          have := RowAt.lit3 w4 (k : Int) ((k : Int) + 1) (S k)
          rw [← h3'.out k, hw9] at this
          exact this.mono hb8.size
        have hz9 : w4.heap.size + 1 = w9.heap.size := by rw [← hw9]; simp
        have hp9 : GrowT w9 w1.heap.size wo.heap.size (.slice none 0 0) 0 3 rb rc (T k) := hp4'.out.kept (hBr.mono hs4)
        have hs9 := hb9.size
        clear hBr hb8 hb4'
        have hw9' := Lib.hid hw9
        have hz9' := Lib.hid hz9
        have hrow' := Lib.hid hrow
        have hb9' := Lib.hid hb9
        clear hw9 hz9 hrow hb9
        go_wp2_with (at_builtin; rw [hw9'.out, hz9'.out]; refine wpList_append_row rfl _ _ rfl w1.heap.size wo.heap.size (.slice none 0 0) 0 3 w4.heap.size 3 1 rb rc (T k) (row3 k (S k)) rfl rfl hp9 hrow'.out hs8 (by omega) hs9 ?_)
        intro v' w' hp' hg'
        have hb10 := hb9'.out.grown hg' hs9 (fun j hj => (World.ownsRow.lt hp9.outer j hj).1)
        clear hg' hp9
        have hp'' := Lib.hid hp'
        have hb10' := Lib.hid hb10
        clear hp' hb10
        go_wp2
        go_roundw
        case rel =>
          refine ⟨k + 1, (fun i => if i = 0 then w4.heap.size else rb i), (fun i => if i = 0 then 3 else rc i), by omega, by go_num, ?_, fun h => absurd h (Nat.succ_ne_zero k), hb10'.out⟩
          rw [e1'.out, e2'.out, hCq'.out]
          exact hp''.out.congr (fun i j _ _ => by split <;> rfl)
        case measure => simp [intOf]; omega
      · clear ho
        have hq1 := hcp'.out k h0
        have hql := hcl'.out k
        obtain ⟨g, cap, rfl, hM⟩ := hp.form hq1
        have hM4 := hM.below hB4 (Nat.le_refl _)
        obtain ⟨q, hq⟩ : ∃ q, C k - 1 = q := ⟨_, rfl⟩
        obtain ⟨Q, hCq⟩ : ∃ Q, C k = Q := ⟨_, rfl⟩
        have hqQ : Q = q + 1 := by omega
        have hQl : Q ≤ 1099511627776 := by omega
        have hl1 := hlast'.out k h0
        rw [hq] at hl1
        rw [hCq] at hM4 ⊢
        have g1 : IntKind.i64.wrap ((Q : Int) - 1) = (q : Int) := by rw [IntKind.wrap_i64]; omega
        have g2 : (0 : Int) ≤ (q : Int) := by omega
        have g3 : (q : Int) < (Q : Int) := by omega
        have g4 : q < Q := by omega
        have hp4 := hM4.ptr (i := q) g4
        have hc4 := hM4.cell (i := q) (j := 2) g4 (by decide)
        rw [hl1] at hc4
        clear i1 hp hM hB4 hB
        by_cases hsg : S (k - 1) = S k
        · rw [hsg] at hc4
          have e1 := hcsame'.out k ⟨h0, hsg⟩
          have e2 := hsame'.out k ⟨h0, hsg⟩
          rw [hq] at e2
          have e1' := Lib.hid e1
          have e2' := Lib.hid e2
          have hM4' := Lib.hid hM4
          have hb4' := Lib.hid hb4
          have cs1' := Lib.hid cs1
          have hw4' := Lib.hid hw4
          have hCq' := Lib.hid hCq
          have hq' := Lib.hid hq
          have hl1' := Lib.hid hl1
          have hqQ' := Lib.hid hqQ
          clear e1 e2 hM4 hb4 cs1 hw4 hCq hq hl1 hqQ
          go_wp2_with fail
          rw [hw4'.out]
          clear p0 p1
          go_wp2_with fail
          refine (cs1'.out _).mono ?_
          rintro e w_ ⟨rfl, rfl⟩
          have hb5 := hb4'.out
          have hM5 := hM4'.out
          have hs5 := hs4
          have hp5 := hM5.ptr (i := q) g4
          have hf5 := hM5.frozen (i := q) g4 1
          have hc5 := hM5.cell (i := q) (j := 1) g4 (by decide)
          obtain ⟨hr1, hr2⟩ := hM5.block (i := q) g4
          have hM6 := hM5.stored (i := q) g4 1 ((k : Int) + 1)
          have hb6 := hb5.setCell (p := ⟨rb q, 1, none⟩) (by show w1.heap.size ≤ rb q; omega) (.int .i64 ((k : Int) + 1))
          clear hM4' hb4' hb5 hM5
          have hM6' := Lib.hid hM6
          have hb6' := Lib.hid hb6
          clear hM6 hb6
          go_wp2
          go_roundw
          case rel =>
            refine ⟨k + 1, rb, rc, by omega, by go_num, ?_, fun h => absurd h (Nat.succ_ne_zero k), hb6'.out⟩
            rw [e1'.out, e2'.out, hCq'.out]
            exact (hM6'.out.mono (Nat.le_refl _) (by simpa [World.setCell] using hs5)).grow
          case measure => simp [intOf]; omega
        · have e1 := hcnew'.out k (fun h => hsg h.2)
          have e2 := hnew'.out k (fun h => hsg h.2)
          have e1' := Lib.hid e1
          have e2' := Lib.hid e2
          have hM4' := Lib.hid hM4
          have hb4' := Lib.hid hb4
          have cs1' := Lib.hid cs1
          have hw4' := Lib.hid hw4
          have hCq' := Lib.hid hCq
          have hq' := Lib.hid hq
          have hl1' := Lib.hid hl1
          have hqQ' := Lib.hid hqQ
          clear e1 e2 hM4 hb4 cs1 hw4 hCq hq hl1 hqQ
          go_wp2_with fail
          rw [hw4'.out]
          clear p0 p1
          go_wp2_with fail
          refine (cs1'.out _).mono ?_
          rintro e w_ ⟨rfl, rfl⟩
          have hM5 := hM4'.out
          obtain ⟨w9, hw9⟩ : ∃ W, w4.alloc (.cells #[.int .i64 k, .int .i64 ((k : Int) + 1), .int .i64 (S k)] 3) = W := ⟨_, rfl⟩
          have hBr : Below w4.heap.size w4 w9 := by rw [← hw9]; exact (Below.refl _ _).alloc (Nat.le_refl _) _
          have hb8 := hb4'.out
          have hs8 := hs4
          have hb9 := hb8.trans (hBr.mono hb8.size)
          have hrow : RowAt w9 w1.heap.size w4.heap.size 3 3 (lst 3 (row3 k (S k))) := by
            have := RowAt.lit3 w4 (k : Int) ((k : Int) + 1) (S k)
            rw [← h3'.out k, hw9] at this
            exact this.mono hb8.size
          have hz9 : w4.heap.size + 1 = w9.heap.size := by rw [← hw9]; simp
          have hp9 : GrowT w9 w1.heap.size wo.heap.size (.slice (some ⟨g, 0, none⟩) Q cap) Q 3 rb rc (T k) := (hM5.grow).kept (hBr.mono hs4)
          have hs9 := hb9.size
          clear hBr hb8 hM4' hM5 hb4'
          have hw9' := Lib.hid hw9
          have hz9' := Lib.hid hz9
          have hrow' := Lib.hid hrow
          have hb9' := Lib.hid hb9
          clear hw9 hz9 hrow hb9
          go_wp2_with (at_builtin; rw [hw9'.out, hz9'.out]; refine wpList_append_row rfl _ _ rfl w1.heap.size wo.heap.size (.slice (some ⟨g, 0, none⟩) Q cap) Q 3 w4.heap.size 3 1 rb rc (T k) (row3 k (S k)) rfl rfl hp9 hrow'.out hs8 hQl hs9 ?_)
          intro v' w' hp' hg'
          have hb10 := hb9'.out.grown hg' hs9 (fun j hj => (World.ownsRow.lt hp9.outer j hj).1)
          clear hg' hp9
          have hp'' := Lib.hid hp'
          have hb10' := Lib.hid hb10
          clear hp' hb10
          go_wp2
          go_roundw
          case rel =>
            refine ⟨k + 1, (fun i => if i = Q then w4.heap.size else rb i), (fun i => if i = Q then 3 else rc i), by omega, by go_num, ?_, fun h => absurd h (Nat.succ_ne_zero k), hb10'.out⟩
            rw [e1'.out, e2'.out, hCq'.out]
            exact hp''.out.congr (fun i j _ _ => by split <;> rfl)
          case measure => simp [intOf]; omega
    · obtain rfl : k = n := by omega
      obtain ⟨gg, gcap, rfl, hall⟩ := hp.form (hcp'.out k (by omega))
      have hb := hB1.trans (hB.mono hB1.size)
      have hM := hall.mono hB1.size (Nat.le_refl _)
      clear hp hall H' ho
      have hb' := Lib.hid hb
      have hM' := Lib.hid hM
      clear hb hM
      go_wp2
      go_ret
      exact ⟨_, _, _, _, rfl, hM'.out, hb'.out⟩

end Go.Proofs.YtnggopbehohjnaaGreat

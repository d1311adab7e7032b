/- The program's shrunk interval. No conditions but valid maps and intervals. -/
import Derived.Test.YtjkgilenhoomoaaGreatPkM
namespace Go.Proofs.YtjkgilenhoomoaaGreat
open Go.RowKit
set_option maxRecDepth 100000

set_option linter.unusedSimpArgs false in
set_option maxRecDepth 10000 in
set_option maxHeartbeats 6000000 in
theorem cshrink_any (g : Nat) (v : Value) (f : List Quad) (i k : Quad) (w0 w : World) (hv : QuadV w0 v f) (hb0 : Below w0.heap.size w0 w) (hg0 : w0.heap.size ≤ g) (hf : MapP f) (hi : ivB i = true) (hk : ivB k = true) (hc : CalcAt w g false) :
    Calls Tryz.prog 22 #[.pointer (some ⟨g, 0, none⟩), v, quadV i, quadV k] w (RetC g (!(shrV f i k).2) (quadV (shrV f i k).1) w) := by
  obtain ⟨i1, i2, _⟩ := ivB_true hi
  obtain ⟨k1, k2, _⟩ := ivB_true hk
  have cA := fun (w' : World) hB hc => before_any g false v f k.1 w0 w' hv hB hg0 hf (unitR_good k1) hc
  have cB := fun (w' : World) hB hc => before_any g (false || !(befOk f k.1 f.length)) v f k.2 w0 w' hv hB hg0 hf (unitR_good k2) hc
  have cV := fun (b : Bool) (x : Int × Int) (w' : World) hx hB hc => cvalue_any g b v f x w0 w' hv hB hg0 hf hx hc
  have cE := fun (y : Int × Int) (b : Nat) (w' : World) h => shrink1_any k y b w' h
  have lenA := befR_len f k.1
  have lenB := befR_len f k.2
  have hl12 := hf.len.2
  have hin1 := fun x => befR_unit hf (unitR_good k1) x
  have hin2 := fun x => befR_unit hf (unitR_good k2) x
  have hRaw := fun n h => shrRaw_eq f i k (n := n) h
  have hPs := fun j h => shrP_step (i := i) (L := befR f k.1 ++ befR f k.2) (k := j) h
  have hPl := shrP_len i (befR f k.1 ++ befR f k.2)
  have hEs := shrE_step f i k
  have hEl := shrE_len f i k
  have hB0 : shrB f i k 0 = (false || !(befOk f k.1 f.length) || !(befOk f k.2 f.length)) := rfl
  have hBs : ∀ m, shrB f i k (m + 1) = (shrB f i k m || !(atOk f (endN i m))) := fun _ => rfl
  have hB2 := shrB_two f i k
  have hgd := shrRaw_good hf hi (k := k)
  have hso := fun ys hp hm => shrL_sorted hf hi (k := k) (ys := ys) hp hm
  have hat := fun ho x hx => shr_mem hf hi hk ho (x := x) hx
  have hlen : (shrL f i k).length ≤ 1099511627776 := by
    have h1 := mergeL_len0 (shrRaw f i k) []
    have h2 : shrL f i k = mergeL [] (shrRaw f i k) := rfl
    have h3 : (shrRaw f i k).length ≤ 100 := by
      unfold shrRaw
      rw [List.length_append]
      have h4 := List.length_filter_le (inI i) (befR f k.1 ++ befR f k.2)
      rw [List.length_append] at h4
      have h5 := shrE_len f i k 2
      rw [shrE_two] at h5
      omega
    rw [h2]
    simp only [List.length_nil] at h1
    omega
  obtain ⟨V, hV⟩ : ∃ V, shrV f i k = V := ⟨_, rfl⟩
  have hVbad := fun h => shrV_bad (f := f) (i := i) (k := k) h
  have hVok : shrOk f i k = true → shrV f i k = shrF (shrL f i k) (fstN (shrD f (shrL f i k)) ((shrL f i k).length - 1) 1) := fun h => shrV_ok h
  have hDm : ∀ m, shrD f (shrL f i k) (m + 1) = !(decide (atZ f (nthR (shrL f i k) m) = atZ f (nthR (shrL f i k) (m + 1)))) := fun _ => rfl
  rw [hV] at hVbad hVok ⊢
  have hlx := fun (x : Int × Int) w' (hx : unitR x.1 x.2 = true) => less_any x.1 x.2 i.1.1 i.1.2 w' (unit_bd hx) (unit_bd i1)
  have hly := fun (x : Int × Int) w' (hx : unitR x.1 x.2 = true) => less_any i.2.1 i.2.2 x.1 x.2 w' (unit_bd i2) (unit_bd hx)
  have hI : ∀ x, inI i x = (!(ltB x.1 x.2 i.1.1 i.1.2) && !(ltB i.2.1 i.2.2 x.1 x.2)) := fun _ => rfl
  have hgl := hc.lt
  have hw0 := hb0.size
  generalize shrRaw f i k = RW at *
  generalize shrL f i k = SL at *
  have hE0 : shrE f i k 0 = [] := rfl
  generalize shrE f i k = EL at *
  generalize shrB f i k = FB at *
  generalize shrOk f i k = OK at *
  generalize shrD f SL = DD at *
  obtain ⟨LA, hLA⟩ : ∃ l, befR f k.1 = l := ⟨_, rfl⟩
  obtain ⟨LB, hLB⟩ : ∃ l, befR f k.2 = l := ⟨_, rfl⟩
  rw [hLA] at cA lenA hin1 hRaw hPs hPl
  rw [hLB] at cB lenB hin2 hRaw hPs hPl
  obtain ⟨L, hL⟩ : ∃ l, LA ++ LB = l := ⟨_, rfl⟩
  rw [hL] at hRaw hPs hPl
  obtain ⟨n, hn⟩ : ∃ n, L.length = n := ⟨_, rfl⟩
  have hnn : n ≤ 1000 := by rw [← hn, ← hL, List.length_append]; omega
  have hLu : ∀ j, j < n → unitR (nthR L j).1 (nthR L j).2 = true := fun j hj => by
    have hm : nthR L j ∈ LA ++ LB := by rw [hL, nthR_eq (by omega)]; exact List.getElem_mem _
    rcases List.mem_append.1 hm with h | h
    · exact hin1 _ h
    · exact hin2 _ h
  rw [hn] at hPs hPl
  have hP0 : shrP i L 0 = [] := by unfold shrP; simp
  generalize shrP i L = PL at *
  clear hin1 hin2
  obtain ⟨bA, hbA⟩ : ∃ b, befOk f k.1 f.length = b := ⟨_, rfl⟩
  obtain ⟨bB, hbB⟩ : ∃ b, befOk f k.2 f.length = b := ⟨_, rfl⟩
  rw [hbA] at cA cB hB0
  rw [hbB] at cB hB0
  obtain ⟨⟨p0, p1⟩, ⟨p2, p3⟩⟩ := i
  obtain ⟨⟨q0, q1⟩, ⟨q2, q3⟩⟩ := k
  simp only at cA cB hlx hly hI i1 i2
  obtain ⟨w1, hw1⟩ : ∃ W, ((w.alloc (.cells #[.int .i64 p0, .int .i64 p1, .int .i64 p2, .int .i64 p3] 44)).alloc (.cells #[.int .i64 q0, .int .i64 q1, .int .i64 q2, .int .i64 q3] 44)).alloc (.cells #[.int .i64 0, .int .i64 0, .int .i64 0, .int .i64 0] 44) = W := ⟨_, rfl⟩
  have hB1 : Below w.heap.size w w1 := by rw [← hw1]; exact (((Below.refl _ _).alloc (Nat.le_refl _) _).alloc (by simp) _).alloc (by simp; omega) _
  have hz1 : w1.heap.size = w.heap.size + 3 := by rw [← hw1]; simp
  have xi : BoxQ w1 w.heap.size ((p0, p1), (p2, p3)) := by rw [← hw1]; refine ⟨?_, ?_, ?_, ?_⟩ <;> simp [go_sem]
  have xk : BoxQ w1 (w.heap.size + 1) ((q0, q1), (q2, q3)) := by rw [← hw1]; refine ⟨?_, ?_, ?_, ?_⟩ <;> simp [go_sem]
  have xr : BoxW w1 (w.heap.size + 1 + 1) ((0, 0), (0, 0)) := by rw [← hw1]; refine ⟨⟨?_, ?_, ?_, ?_⟩, ?_, ?_, ?_, ?_⟩ <;> simp [go_sem]
  have hg1 := bgrow hB1 (some g)
  have hc1 := hc.below hB1
  have hcd := hc1.drew
  have hgd1 : w1.grownBy w1.drew (some g) := bgrow ((Below.refl w1.heap.size w1).drew) _
  have hb1 : Below w0.heap.size w0 w1.drew := quad_stays hv hb0 hg0 (hg1.trans hgd1)
  have hst : ∀ w', w1.grownBy w' (some g) → Below w0.heap.size w0 w' := fun w' h => quad_stays hv hb0 hg0 (hg1.trans h)
  have hng : ∀ j, w.heap.size ≤ j → (some g : Option Nat) ≠ some j := fun j hj e => by have := Option.some.inj e; omega
  have at' : ∀ w', w1.grownBy w' (some g) → BoxQ w' (w.heap.size + 1) ((q0, q1), (q2, q3)) := fun w' h => xk.grown h (hng _ (by omega))
  have hsz1 : g < w1.heap.size := by omega
  clear hB1
  have hE0' := Lib.hid hE0
  have cA' := Lib.hid cA
  have cB' := Lib.hid cB
  have cV' := Lib.hid cV
  have cE' := Lib.hid cE
  have hRaw' := Lib.hid hRaw
  have hPs' := Lib.hid hPs
  have hPl' := Lib.hid hPl
  have hEs' := Lib.hid hEs
  have hEl' := Lib.hid hEl
  have hB0' := Lib.hid hB0
  have hBs' := Lib.hid hBs
  have hB2' := Lib.hid hB2
  have hgd' := Lib.hid hgd
  have hso' := Lib.hid hso
  have hat' := Lib.hid hat
  have hlen' := Lib.hid hlen
  have hVbad' := Lib.hid hVbad
  have hVok' := Lib.hid hVok
  have hDm' := Lib.hid hDm
  have hlx' := Lib.hid hlx
  have hly' := Lib.hid hly
  have hI' := Lib.hid hI
  have hw1' := Lib.hid hw1
  have xi' := Lib.hid xi
  have xr' := Lib.hid xr
  have hL' := Lib.hid hL
  have hn' := Lib.hid hn
  have hLu' := Lib.hid hLu
  have hP0' := Lib.hid hP0
  have hst' := Lib.hid hst
  have hng' := Lib.hid hng
  have at'' := Lib.hid at'
  have hLA' := Lib.hid hLA
  have hLB' := Lib.hid hLB
  have hi' := Lib.hid hi
  have hk' := Lib.hid hk
  have hV' := Lib.hid hV
  clear hE0 cA cB cV cE hRaw hPs hPl hEs hEl hB0 hBs hB2 hgd hso hat hlen hVbad hVok hDm hlx hly hI hw1 xi xr hL hn hLu hP0 hst hng at' hLA hLB hi hk hV
  show Calls _ _ #[_, _, .agg #[.int .i64 p0, .int .i64 p1, .int .i64 p2, .int .i64 p3], .agg #[.int .i64 q0, .int .i64 q1, .int .i64 q2, .int .i64 q3]] w _
  go_enter Tryz.func22, Tryz.ntmps22
  go_wp2_with fail
  rw [hw1'.out]
  refine wp_region_held_drew (S := (fun w' => w'.cell? ⟨w.heap.size + 1, 0, none⟩ = some (.int .i64 q0) ∧ w'.cell? ⟨w.heap.size + 1, 1, none⟩ = some (.int .i64 q1) ∧ w'.cell? ⟨w.heap.size + 1, 2, none⟩ = some (.int .i64 q2) ∧ w'.cell? ⟨w.heap.size + 1, 3, none⟩ = some (.int .i64 q3))) (by kernel_rfl) (by (try dsimp only); (first | exact at''.out _ hgd1 | exact at''.out _ hgd2 | exact at''.out _ hgd3 | exact hcells)) (fun hHeld => ?_)
  refine ly_q 0 (v := ?_) hHeld ?_
  try simp only [Act.put, lyA, lyB, lyC]
  refine ly_q 1 (v := ?_) hHeld ?_
  try simp only [Act.put, lyA, lyB, lyC]
  refine ly_q 2 (v := ?_) hHeld ?_
  try simp only [Act.put, lyA, lyB, lyC]
  refine ly_q 3 (v := ?_) hHeld ?_
  try simp only [Act.put, lyA, lyB, lyC]
  refine ly_q 5 (v := ?_) hHeld ?_
  try simp only [Act.put, lyA, lyB, lyC]
  refine ly_q 6 (v := ?_) hHeld ?_
  try simp only [Act.put, lyA, lyB, lyC]
  refine ly_q 7 (v := ?_) hHeld ?_
  try simp only [Act.put, lyA, lyB, lyC]
  refine ly_q 8 (v := ?_) hHeld ?_
  try simp only [Act.put, lyA, lyB, lyC]
  refine ly_q 12 (v := ?_) hHeld ?_
  try simp only [Act.put, lyA, lyB, lyC]
  refine ly_a 4 (fun KK hKK => ?_)
  go_simp
  refine (cA'.out _ hb1 hcd).mono ?_
  rintro e w2 ⟨r1, rfl, hh1, hg2, hc2⟩
  have hgd2 := hgd1.trans hg2
  have hb2 := hst'.out _ hgd2
  try dsimp only
  refine hKK.out _ _ (by (try dsimp only); (first | exact at''.out _ hgd1 | exact at''.out _ hgd2 | exact at''.out _ hgd3 | exact hcells)) (fun hHeld => ?_)
  clear hKK KK
  try simp only [Act.put, lyA, lyB, lyC]
  refine ly_a 9 (fun KK hKK => ?_)
  go_simp
  refine (cB'.out _ hb2 hc2).mono ?_
  rintro e w3 ⟨r2, rfl, hh2, hg3, hc3⟩
  have hgd3 := hgd2.trans hg3
  have hh1k : GrowR w3 w1.heap.size r1 LA := GrowR.kept hh1.2 hg3 hsz1
  have hs3 := hgd3.size
  try dsimp only
  refine hKK.out _ _ (by (try dsimp only); (first | exact at''.out _ hgd1 | exact at''.out _ hgd2 | exact at''.out _ hgd3 | exact hcells)) (fun hHeld => ?_)
  clear hKK KK
  try simp only [Act.put, lyA, lyB, lyC]
  refine ly_a 10 (fun KK hKK => ?_)
  refine wp_append_ratsU _ _ rfl w1.heap.size r1 r2 LA LB rfl rfl hh1k hh2.2.read (by omega) hs3 ?_
  intro v5 w5 hg5 hgrow5
  have hcells := (at''.out _ hgd3).grown hgrow5 (fun e => by have := (World.ownsRow.lt hh1k _ e).1; omega)
  rw [hL'.out] at hg5
  have H5 := hg5.read.form
  rw [hn'.out] at H5
  obtain ⟨ao5, cap5, rfl, _, _, H5⟩ := H5
  try dsimp only
  refine hKK.out _ _ (by (try dsimp only); (first | exact at''.out _ hgd1 | exact at''.out _ hgd2 | exact at''.out _ hgd3 | exact hcells)) (fun hHeld => ?_)
  clear hKK KK
  try simp only [Act.put, lyA, lyB, lyC]
  refine ly_q 11 (v := ?_) hHeld ?_
  try simp only [Act.put, lyA, lyB, lyC]
  refine wpAnyH_done (by kernel_rfl) ?_ _
  clear hHeld
  have hob5 : ∀ j, r1.ownBlock = some j → w1.heap.size ≤ j := fun j e => (World.ownsRow.lt hh1k j e).1
  have hg6 : w1.grownBy w5 (some g) := hgd3.andThen hgrow5 (fun j hj => .inl (hob5 j hj))
  have hc5 : CalcAt w5 g (FB 0) := by rw [hB0'.out]; exact hc3.grown hgrow5 (fun e => by have := hob5 g e; omega)
  have xi5 := xi'.out.grown hg6 (hng'.out _ (Nat.le_refl _))
  have xk5 := at''.out _ hg6
  have xr5 := xr'.out.grown hg6 (hng'.out _ (by omega))
  have hs5 := hg6.size
  clear hcells hgrow5 hc3 hgd3 hs3 hgd2 hgd1 hb2 hb1 hh1 hh2 hh1k hg2 hg3 hc2 hcd hc1 hg5 xi' hB0' cA' cB' xk hob5
  have hsw5 : w.heap.size + 2 < w5.heap.size := by omega
  have hgw5 : g < w5.heap.size := by omega
  have H5' := Lib.hid H5
  have hg6' := Lib.hid hg6
  have hc5' := Lib.hid hc5
  have xi5' := Lib.hid xi5
  have xk5' := Lib.hid xk5
  have xr5' := Lib.hid xr5
  have hz1' := Lib.hid hz1
  clear H5 hg6 hc5 xi5 xk5 xr5 hz1
  go_wp2
  go_loopw [10, 29] (fun o i wr => ∃ j : Nat, j ≤ n ∧ i = .int .i64 j ∧ HasR wr w5.heap.size o (PL j) ∧ Below w5.heap.size w5 wr) (fun _ i _ => n - (intOf i).toNat)
  case atStart => exact ⟨0, Nat.zero_le _, rfl, by rw [hP0'.out]; exact HasR.nil _ _, Below.refl _ _⟩
  case round =>
    obtain ⟨j, hj, rfl, ho, hB⟩ := hrel
    have hsr := hB.size
    by_cases hlt : j < n
    · obtain ⟨b, off, rfl, c0, c1⟩ := H5'.out j hlt
      replace c0 := bkeep hB c0
      replace c1 := bkeep hB c1
      have g0 : (0 : Int) ≤ (j : Int) := by omega
      have g1 : (j : Int) < (n : Int) := by omega
      obtain ⟨y0, y1, y2, y3⟩ := xi5'.out.below hB
      have hu := hLu'.out j hlt
      have hstep := hPs'.out j hlt
      have hPj := hPl'.out j
      obtain ⟨X, hX⟩ : ∃ X, nthR L j = X := ⟨_, rfl⟩
      rw [hX] at c0 c1 hu hstep
      have cl := fun w' => hlx'.out X w' hu
      have cm := fun w' => hly'.out X w' hu
      rw [hI'.out X] at hstep
      obtain ⟨x0, x1⟩ := X
      simp only at c0 c1 cl cm hstep y0 y1 y2 y3
      generalize ltB x0 x1 p0 p1 = T1 at cl hstep
      generalize ltB p2 p3 x0 x1 = T2 at cm hstep
      have hlw : w.heap.size < wr.heap.size := by omega
      obtain ⟨w6, hw6⟩ : ∃ W, wr.alloc (.cells #[.int .i64 x0, .int .i64 x1] 42) = W := ⟨_, rfl⟩
      have hB6 : Below wr.heap.size wr w6 := by rw [← hw6]; exact (Below.refl _ _).alloc (Nat.le_refl _) _
      have hb6 := hB.trans (hB6.mono hsr)
      have ho6 := ho.below hB6
      have e0 : w6.cell? ⟨wr.heap.size, 0, none⟩ = some (.int .i64 x0) := by rw [← hw6]; simp [go_sem]
      have e1 : w6.cell? ⟨wr.heap.size, 1, none⟩ = some (.int .i64 x1) := by rw [← hw6]; simp [go_sem]
      have z2 := bkeep hB6 y2
      have z3 := bkeep hB6 y3
      clear hB6 ho y2 y3
      have hX' := Lib.hid hX
      have hstep' := Lib.hid hstep
      have cl' := Lib.hid cl
      have cm' := Lib.hid cm
      have hw6' := Lib.hid hw6
      have hb6' := Lib.hid hb6
      have ho6' := Lib.hid ho6
      have e0' := Lib.hid e0
      have e1' := Lib.hid e1
      have z2' := Lib.hid z2
      have z3' := Lib.hid z3
      have hPj' := Lib.hid hPj
      clear hX hstep cl cm hw6 hb6 ho6 e0 e1 z2 z3 hPj
      go_wp2_with fail
      rw [hw6'.out]
      clear c0 c1 y0 y1
      go_wp2_with fail
      refine (cl'.out _).mono ?_
      rintro e w7 ⟨rfl, hB7⟩
      have hb7 := hb6'.out.trans (hB7.mono hb6'.out.size)
      have ho7 := ho6'.out.below hB7
      have e0 := bkeep hB7 e0'.out
      have e1 := bkeep hB7 e1'.out
      have z2 := bkeep hB7 z2'.out
      have z3 := bkeep hB7 z3'.out
      clear hB7 ho6' hb6' e0' e1' z2' z3'
      cases T1
      · have hb7' := Lib.hid hb7
        have ho7' := Lib.hid ho7
        clear hb7 ho7
        go_wp2_with fail
        refine (cm'.out _).mono ?_
        rintro e w8 ⟨rfl, hB8⟩
        have hb8 := hb7'.out.trans (hB8.mono hb7'.out.size)
        have ho8 := ho7'.out.below hB8
        have e0 := bkeep hB8 e0
        have e1 := bkeep hB8 e1
        have hs8 := hb8.size
        clear hB8 ho7' hb7' z2 z3
        cases T2
        · have hP : PL (j + 1) = PL j ++ [(x0, x1)] := hstep'.out
          have hPk : (PL j).length ≤ 1099511627776 := by have := hPj'.out; omega
          have hb8' := Lib.hid hb8
          have ho8' := Lib.hid ho8
          have hP' := Lib.hid hP
          have hPk' := Lib.hid hPk
          clear hb8 ho8 hP hPk
          go_wp2_with (at_builtin; refine wpList_append_rat rfl _ _ rfl w5.heap.size u10 (PL j) x0 x1 1 rfl rfl ho8'.out.2 hPk'.out hs8 ?_)
          intro v9 w9 hown hgrow
          have hb9 := GrowR.belowB ho8'.out.2 hb8'.out (Nat.le_refl _) hs8 hgrow
          have hh9 : HasR w9 w5.heap.size v9 (PL (j + 1)) := by rw [hP'.out]; exact ⟨fun h => absurd h (by simp), hown⟩
          clear hown hgrow e0 e1
          have hb9' := Lib.hid hb9
          have hh9' := Lib.hid hh9
          clear hb9 hh9
          go_wp2
          go_roundw
          case rel => exact ⟨j + 1, by omega, by go_num, hh9'.out, hb9'.out⟩
          case measure => simp [intOf]; omega
        · have hP : PL (j + 1) = PL j := hstep'.out
          rw [← hP] at ho8
          clear e0 e1 hP
          have hb8' := Lib.hid hb8
          have ho8' := Lib.hid ho8
          clear hb8 ho8
          go_wp2
          go_roundw
          case rel => exact ⟨j + 1, by omega, by go_num, ho8'.out, hb8'.out⟩
          case measure => simp [intOf]; omega
      · have hP : PL (j + 1) = PL j := hstep'.out
        rw [← hP] at ho7
        clear e0 e1 z2 z3 hP
        have hb7' := Lib.hid hb7
        have ho7' := Lib.hid ho7
        clear hb7 ho7
        go_wp2
        go_roundw
        case rel => exact ⟨j + 1, by omega, by go_num, ho7'.out, hb7'.out⟩
        case measure => simp [intOf]; omega
    · obtain rfl : j = n := by omega
      obtain ⟨y0, y1, y2, y3⟩ := xi5'.out.below hB
      simp only at y0 y1 y2 y3
      have hgr := hg6'.out.trans (bgrow hB (some g))
      have hcr := hc5'.out.below hB
      have hgw : g < wr.heap.size := by omega
      obtain ⟨w7, hw7⟩ : ∃ W, wr.alloc (.cells #[.int .i64 p0, .int .i64 p1, .int .i64 p2, .int .i64 p3] 42) = W := ⟨_, rfl⟩
      have hB7 : Below wr.heap.size wr w7 := by rw [← hw7]; exact (Below.refl _ _).alloc (Nat.le_refl _) _
      have hc7 := hcr.below hB7
      have hg7 := hgr.trans (bgrow hB7 (some g))
      have ho7 := ho.below hB7
      have xa : w7.cell? ⟨wr.heap.size, 0, none⟩ = some (.int .i64 p0) ∧ w7.cell? ⟨wr.heap.size, 1, none⟩ = some (.int .i64 p1) ∧ w7.cell? ⟨wr.heap.size, 2, none⟩ = some (.int .i64 p2) ∧ w7.cell? ⟨wr.heap.size, 3, none⟩ = some (.int .i64 p3) := by rw [← hw7]; refine ⟨?_, ?_, ?_, ?_⟩ <;> simp [go_sem]
      have hob : ∀ jj, u10.ownBlock = some jj → jj ≠ wr.heap.size := fun jj e => by have := (World.ownsRow.lt ho.2 jj e).2; omega
      have hg5w : w5.grownBy w7 (some g) := (bgrow hB (some g)).trans (bgrow hB7 (some g))
      obtain ⟨ab, hab⟩ : ∃ b, wr.heap.size = b := ⟨_, rfl⟩
      have habl : ab < w7.heap.size := by rw [← hab, ← hw7]; simp
      rw [hab] at xa hob hgw
      clear hB7 hcr hgr ho hB H5' hPs' hlx' hly' hI' hLu'
      have hw7' := Lib.hid hw7
      have hc7' := Lib.hid hc7
      have hg7' := Lib.hid hg7
      have ho7' := Lib.hid ho7
      have xa' := Lib.hid xa
      have hob' := Lib.hid hob
      have hg5w' := Lib.hid hg5w
      clear hw7 hc7 hg7 ho7 xa hob hg5w
      go_wp2
      rw [hw7'.out]
      clear y0 y1 y2 y3
      go_loopw [10, 56] (fun o i W => ∃ m : Nat, m ≤ 2 ∧ i = .int .i64 m ∧ HasR W w5.heap.size o (PL j ++ EL m) ∧ w5.grownBy W (some g) ∧ CalcAt W g (FB m) ∧ w7.heap.size ≤ W.heap.size ∧ (m = 0 → ∀ jj, o.ownBlock = some jj → jj ≠ ab) ∧ (m ≤ 1 → W.cell? ⟨ab, 0, none⟩ = some (.int .i64 p0) ∧ W.cell? ⟨ab, 1, none⟩ = some (.int .i64 p1) ∧ W.cell? ⟨ab, 2, none⟩ = some (.int .i64 p2) ∧ W.cell? ⟨ab, 3, none⟩ = some (.int .i64 p3))) (fun _ i _ => 2 - (intOf i).toNat)
      case atStart => exact ⟨0, by omega, rfl, by rw [hE0'.out, List.append_nil]; exact ho7'.out, hg5w'.out, hc7'.out, Nat.le_refl _, fun _ => hob'.out, fun _ => xa'.out⟩
      case round =>
        obtain ⟨m, hm, rfl, ho, hgz, hcz, hsz, hob, hxa⟩ := hrel
        by_cases hlt2 : m < 2
        · obtain ⟨X, hX⟩ : ∃ X, endN ((p0, p1), (p2, p3)) m = X := ⟨_, rfl⟩
          have hxm := hxa (by omega)
          have hXc : wr.cell? ⟨ab, m * 2, none⟩ = some (.int .i64 X.1) ∧ wr.cell? ⟨ab, m * 2 + 1, none⟩ = some (.int .i64 X.2) ∧ unitR X.1 X.2 = true := by
            rw [← hX]
            rcases (by omega : m = 0 ∨ m = 1) with rfl | rfl
            · exact ⟨hxm.1, hxm.2.1, i1⟩
            · exact ⟨hxm.2.2.1, hxm.2.2.2, i2⟩
          obtain ⟨xa0, xa1, hu⟩ := hXc
          have hEs1 := hEs'.out m
          have hBs1 := hBs'.out m
          have hEl1 := hEl'.out m
          rw [hX] at hEs1 hBs1
          have hs7 : ab < wr.heap.size := by have := World.block_lt_of_cell? _ _ hxm.1; exact this
          have hsz2 := hgz.size
          have hlen1 : (PL j ++ EL m).length ≤ 1099511627776 := by have := hPl'.out j; rw [List.length_append]; omega
          obtain ⟨w8, hw8⟩ : ∃ W, wr.alloc (.cells #[.int .i64 X.1, .int .i64 X.2] 42) = W := ⟨_, rfl⟩
          have hB8 : Below wr.heap.size wr w8 := by rw [← hw8]; exact (Below.refl _ _).alloc (Nat.le_refl _) _
          have hg8 := hgz.trans (bgrow hB8 (some g))
          have hc8 := hcz.below hB8
          have ho8 := ho.below hB8
          have cv := cV'.out (FB m) X w8 hu (hst'.out _ (hg6'.out.trans hg8)) hc8
          rw [← hBs1] at cv
          have e0 : w8.cell? ⟨wr.heap.size, 0, none⟩ = some (.int .i64 X.1) := by rw [← hw8]; simp [go_sem]
          have e1 : w8.cell? ⟨wr.heap.size, 1, none⟩ = some (.int .i64 X.2) := by rw [← hw8]; simp [go_sem]
          have hx8 : m = 0 → w8.cell? ⟨ab, 0, none⟩ = some (.int .i64 p0) ∧ w8.cell? ⟨ab, 1, none⟩ = some (.int .i64 p1) ∧ w8.cell? ⟨ab, 2, none⟩ = some (.int .i64 p2) ∧ w8.cell? ⟨ab, 3, none⟩ = some (.int .i64 p3) := fun _ => ⟨bkeep hB8 hxm.1, bkeep hB8 hxm.2.1, bkeep hB8 hxm.2.2.1, bkeep hB8 hxm.2.2.2⟩
          obtain ⟨Y, hY⟩ : ∃ Y, atZ f X = Y := ⟨_, rfl⟩
          rw [hY] at cv hEs1
          have cc := fun w' h => cE'.out Y (w.heap.size + 1) w' h
          obtain ⟨T, hT⟩ : ∃ T, isEndB ((q0, q1), (q2, q3)) Y = T := ⟨_, rfl⟩
          rw [hT] at hEs1 cc
          have h80 := hB8.size
          obtain ⟨x0, x1⟩ := X
          obtain ⟨z0, z1⟩ := Y
          simp only at xa0 xa1 cv cc e0 e1 hEs1
          have g0 : (0 : Int) ≤ (m : Int) := by omega
          have g1 : (m : Int) < 2 := by omega
          clear hB8 hc8 hxm hxa hcz hgz ho
          have hX' := Lib.hid hX
          have hEs1' := Lib.hid hEs1
          have hBs1' := Lib.hid hBs1
          have hEl1' := Lib.hid hEl1
          have cv' := Lib.hid cv
          have cc' := Lib.hid cc
          have hw8' := Lib.hid hw8
          have hg8' := Lib.hid hg8
          have ho8' := Lib.hid ho8
          have e0' := Lib.hid e0
          have e1' := Lib.hid e1
          have hx8' := Lib.hid hx8
          have hob' := Lib.hid hob
          have hY' := Lib.hid hY
          have hT' := Lib.hid hT
          have hlen1' := Lib.hid hlen1
          have hu' := Lib.hid hu
          clear hX hEs1 hBs1 hEl1 cv cc hw8 hg8 ho8 e0 e1 hx8 hob hY hT hlen1 hu
          go_wp2_with fail
          rw [hw8'.out]
          clear xa0 xa1
          go_wp2_with fail
          refine (cv'.out).mono ?_
          rintro e w9 ⟨rfl, hg9, hc9⟩
          have hg10 := hg8'.out.trans hg9
          have ho9 := ho8'.out.kept hg9 hgw5
          have nz : (some g : Option Nat) ≠ some wr.heap.size := fun e => by have := Option.some.inj e; omega
          have na : (some g : Option Nat) ≠ some ab := fun e => by have := Option.some.inj e; omega
          have e0 := gcell hg9 e0'.out nz
          have e1 := gcell hg9 e1'.out nz
          have hx9 : m = 0 → w9.cell? ⟨ab, 0, none⟩ = some (.int .i64 p0) ∧ w9.cell? ⟨ab, 1, none⟩ = some (.int .i64 p1) ∧ w9.cell? ⟨ab, 2, none⟩ = some (.int .i64 p2) ∧ w9.cell? ⟨ab, 3, none⟩ = some (.int .i64 p3) := fun h => ⟨gcell hg9 (hx8'.out h).1 na, gcell hg9 (hx8'.out h).2.1 na, gcell hg9 (hx8'.out h).2.2.1 na, gcell hg9 (hx8'.out h).2.2.2 na⟩
          have cc := cc'.out w9 (xk5'.out.grown hg10 (hng'.out _ (by omega)))
          have h90 := hg9.size
          clear hg9 ho8' hg8' e0' e1' hx8' cc' cv' nz na
          have hg10' := Lib.hid hg10
          have hc9' := Lib.hid hc9
          have ho9' := Lib.hid ho9
          have hx9' := Lib.hid hx9
          have e0' := Lib.hid e0
          have e1' := Lib.hid e1
          have cc' := Lib.hid cc
          clear hg10 hc9 ho9 hx9 e0 e1 cc
          go_wp2_with fail
          refine (cc'.out).mono ?_
          rintro e w10 ⟨rfl, hB10⟩
          have hg11 := hg10'.out.trans (bgrow hB10 (some g))
          have hc10 := hc9'.out.below hB10
          have ho10 := ho9'.out.below hB10
          have e0 := bkeep hB10 e0'.out
          have e1 := bkeep hB10 e1'.out
          have hx10 : m = 0 → w10.cell? ⟨ab, 0, none⟩ = some (.int .i64 p0) ∧ w10.cell? ⟨ab, 1, none⟩ = some (.int .i64 p1) ∧ w10.cell? ⟨ab, 2, none⟩ = some (.int .i64 p2) ∧ w10.cell? ⟨ab, 3, none⟩ = some (.int .i64 p3) := fun h => ⟨bkeep hB10 (hx9'.out h).1, bkeep hB10 (hx9'.out h).2.1, bkeep hB10 (hx9'.out h).2.2.1, bkeep hB10 (hx9'.out h).2.2.2⟩
          have h100 := hB10.size
          clear hB10 ho9' hg10' e0' e1' hx9' cc' hc9'
          cases T
          · have hE : EL (m + 1) = EL m := hEs1'.out
            rw [← hE] at ho10
            clear e0 e1 hE
            have hg11' := Lib.hid hg11
            have hc10' := Lib.hid hc10
            have ho10' := Lib.hid ho10
            have hx10' := Lib.hid hx10
            clear hg11 hc10 ho10 hx10
            go_wp2
            go_roundw
            case rel => exact ⟨m + 1, by omega, by go_num, ho10'.out, hg11'.out, hc10'.out, by omega, fun h => absurd h (by omega), fun h => hx10'.out (by omega)⟩
            case measure => simp [intOf]; omega
          · have hE : PL j ++ EL (m + 1) = PL j ++ EL m ++ [(x0, x1)] := by rw [hEs1'.out, if_pos rfl, List.append_assoc]
            have hsx : w5.heap.size ≤ w10.heap.size := hg11.size
            have hg11' := Lib.hid hg11
            have hc10' := Lib.hid hc10
            have ho10' := Lib.hid ho10
            have hx10' := Lib.hid hx10
            have hE' := Lib.hid hE
            clear hg11 hc10 ho10 hx10 hE
            go_wp2_with (at_builtin; refine wpList_append_rat rfl _ _ rfl w5.heap.size u10 (PL j ++ EL m) x0 x1 1 rfl rfl ho10'.out.2 hlen1'.out hsx ?_)
            intro v11 w11 hown hgrow
            have hbo : ∀ jj, u10.ownBlock = some jj → w5.heap.size ≤ jj := fun jj e => (World.ownsRow.lt ho10'.out.2 jj e).1
            have hg12 : w5.grownBy w11 (some g) := hg11'.out.andThen hgrow (fun jj hj => .inl (hbo jj hj))
            have hc11 := hc10'.out.grown hgrow (fun e => by have := hbo g e; omega)
            have hh11 : HasR w11 w5.heap.size v11 (PL j ++ EL (m + 1)) := by rw [hE'.out, List.append_assoc]; exact ⟨fun h => absurd h (by simp), hown⟩
            have hx11 : m = 0 → w11.cell? ⟨ab, 0, none⟩ = some (.int .i64 p0) ∧ w11.cell? ⟨ab, 1, none⟩ = some (.int .i64 p1) ∧ w11.cell? ⟨ab, 2, none⟩ = some (.int .i64 p2) ∧ w11.cell? ⟨ab, 3, none⟩ = some (.int .i64 p3) := fun h => by
              have nb : u10.ownBlock ≠ some ab := fun e => hob'.out h ab e rfl
              exact ⟨gcell hgrow (hx10'.out h).1 nb, gcell hgrow (hx10'.out h).2.1 nb, gcell hgrow (hx10'.out h).2.2.1 nb, gcell hgrow (hx10'.out h).2.2.2 nb⟩
            have h110 := hgrow.size
            clear hown hgrow e0 e1 hbo
            have hg12' := Lib.hid hg12
            have hc11' := Lib.hid hc11
            have hh11' := Lib.hid hh11
            have hx11' := Lib.hid hx11
            clear hg12 hc11 hh11 hx11
            go_wp2
            go_roundw
            case rel => exact ⟨m + 1, by omega, by go_num, hh11'.out, hg12'.out, hc11'.out, by omega, fun h => absurd h (by omega), fun h => hx11'.out (by omega)⟩
            case measure => simp [intOf]; omega
        · obtain rfl : m = 2 := by omega
          have hRW := hRaw'.out j (by rw [hn'.out]; exact Nat.le_refl _)
          have hRl : RW.length ≤ 1099511627776 := by
            have h1 := hPl'.out j
            have h2 := hEl'.out 2
            rw [← hRW, List.length_append]
            omega
          rw [hRW] at ho
          rw [hB2'.out] at hcz
          have cr := rising_has w5.heap.size u10 RW SL wr ho hgd'.out hRl (fun ys hp hm => hso'.out ys hp hm)
          clear ho hxa hob hsz habl hob' xa' hc7' hg7' ho7' hw7' hRW hRl
          have cr' := Lib.hid cr
          have hgz' := Lib.hid hgz
          have hcz' := Lib.hid hcz
          clear cr hgz hcz
          go_wp2_with fail
          refine cr'.out.mono ?_
          rintro e w12 ⟨v12, rfl, hh12, r, hgr, hrb⟩
          have hg12 : w5.grownBy w12 (some g) := hgz'.out.andThen hgr (fun jj hj => .inl (hrb jj hj))
          have hc12 := hcz'.out.grown hgr (fun e => by have := hrb g e; omega)
          have H12 := hh12.2.read.form
          have hbo12 : ∀ jj, v12.ownBlock = some jj → w5.heap.size ≤ jj := fun jj e => (World.ownsRow.lt hh12.2 jj e).1
          obtain ⟨sn, hsn⟩ : ∃ sn, SL.length = sn := ⟨_, rfl⟩
          have hl9 := hlen'.out
          have hg112 := hg6'.out.trans hg12
          have hwg := hg1.trans hg112
          have xr12 := xr5'.out.grown hg12 (hng'.out _ (by omega))
          obtain ⟨rb, hrbe⟩ : ∃ b, w.heap.size + 1 + 1 = b := ⟨_, rfl⟩
          rw [hrbe] at xr12
          have hrbl : w.heap.size ≤ rb := by omega
          have hrg : rb ≠ g := by omega
          have hgrb : ¬ g = rb := by omega
          rw [hsn] at H12 hl9
          obtain ⟨ao, cap, rfl, hcp, _, H⟩ := H12
          have hV0 := hV'.out
          have hVb := hVbad'.out
          have hVo := hVok'.out
          have hatO := hat'.out
          rw [hsn] at hVo
          clear hgr hrb cr' hgz' hcz' hg12 hh12 hVbad' hVok' hV' hV0 hat' hlen'
          have H' := Lib.hid H
          have hsn' := Lib.hid hsn
          have hbo12' := Lib.hid hbo12
          clear H hsn hbo12
          cases OK
          · have hV1 := hVb rfl
            subst hV1
            go_wp2
            go_loopw [15] (fun i W => i = .int .i64 1 ∧ W = w12) (fun _ _ => 0)
            case atStart => exact ⟨rfl, rfl⟩
            case round =>
              obtain ⟨rfl, rfl⟩ := hrel
              have hcw : CalcAt wr g true := hc12
              have hxw := xr12
              have hwr := hwg
              by_cases h1 : 1 < sn
              · have h1' : (1 : Int) < (sn : Int) := by omega
                obtain ⟨u, hu⟩ : ∃ u, set4 (wr.setCell ⟨g, 0, none⟩ (.bool true)) rb ((0, 0), (0, 0)) = u := ⟨_, rfl⟩
                have xm := hxw.mark hrg (.bool true)
                obtain ⟨⟨n0, n1, n2, n3⟩, f0, f1, f2, f3⟩ := id xm
                obtain ⟨⟨b0, b1, b2, b3⟩, _⟩ := xm.set4 ((0, 0), (0, 0))
                have hgf := grow_set4 (grow_mark hwr (.bool true)) hrbl ((0, 0), (0, 0))
                have hcf := (hcw.mark).set4 hrg ((0, 0), (0, 0))
                obtain ⟨m0, m1⟩ := hcw
                rw [hu] at b0 b1 b2 b3 hgf hcf
                unfold set4 at hu
                clear hxw hwr xm
                have hu' := Lib.hid hu
                have b0' := Lib.hid b0
                have b1' := Lib.hid b1
                have b2' := Lib.hid b2
                have b3' := Lib.hid b3
                have hgf' := Lib.hid hgf
                have hcf' := Lib.hid hcf
                clear hu b0 b1 b2 b3 hgf hcf
                go_wp2
                rw [hu'.out]
                exact bodyPost_ret (v := quadV ((0, 0), (0, 0))) (by simp [results, Tryz.results22, go_sem, b0'.out, b1'.out, b2'.out, b3'.out, quadV]) rfl ⟨rfl, hgf'.out, hcf'.out⟩
              · have h1' : ¬ (1 : Int) < (sn : Int) := by omega
                obtain ⟨u, hu⟩ : ∃ u, set4 (wr.setCell ⟨g, 0, none⟩ (.bool true)) rb ((0, 0), (0, 0)) = u := ⟨_, rfl⟩
                have xm := hxw.mark hrg (.bool true)
                obtain ⟨⟨n0, n1, n2, n3⟩, f0, f1, f2, f3⟩ := id xm
                obtain ⟨⟨b0, b1, b2, b3⟩, _⟩ := xm.set4 ((0, 0), (0, 0))
                have hgf := grow_set4 (grow_mark hwr (.bool true)) hrbl ((0, 0), (0, 0))
                have hcf := (hcw.mark).set4 hrg ((0, 0), (0, 0))
                obtain ⟨m0, m1⟩ := hcw
                rw [hu] at b0 b1 b2 b3 hgf hcf
                unfold set4 at hu
                clear hxw hwr xm
                have hu' := Lib.hid hu
                have b0' := Lib.hid b0
                have b1' := Lib.hid b1
                have b2' := Lib.hid b2
                have b3' := Lib.hid b3
                have hgf' := Lib.hid hgf
                have hcf' := Lib.hid hcf
                clear hu b0 b1 b2 b3 hgf hcf
                go_wp2
                rw [hu'.out]
                exact bodyPost_ret (v := quadV ((0, 0), (0, 0))) (by simp [results, Tryz.results22, go_sem, b0'.out, b1'.out, b2'.out, b3'.out, quadV]) rfl ⟨rfl, hgf'.out, hcf'.out⟩
          · have hV1 := hVo rfl
            obtain ⟨RES, hRES⟩ : ∃ R, fstN DD (sn - 1) 1 = R := ⟨_, rfl⟩
            rw [hRES] at hV1
            have hat1 := fun x hx => hatO rfl x hx
            have at3 : ∀ (w' : World) (j : Nat), j < sn → w12.grownBy w' (some g) → ∃ b off, ao = some ⟨b, off, none⟩ ∧ b ≠ g ∧ w'.cell? ⟨b, off + j * 2, none⟩ = some (.int .i64 (nthR SL j).1) ∧ w'.cell? ⟨b, off + j * 2 + 1, none⟩ = some (.int .i64 (nthR SL j).2) := fun w' j hj h => by
              obtain ⟨b, off, rfl, c0, c1⟩ := H'.out j hj
              have hb := hbo12'.out b (by simp [Value.ownBlock])
              have hbg : b ≠ g := by omega
              have hne : (some g : Option Nat) ≠ some b := fun e => hbg (Option.some.inj e).symm
              exact ⟨b, off, rfl, hbg, gcell h c0 hne, gcell h c1 hne⟩
            have hcE : CalcAt w12 g false := hc12
            clear hatO hVo hVb hc12 H' xk5' xi5' hB2' hBs' hEs' hEl' hPl' hE0' hP0' hcp
            have at3' := Lib.hid at3
            have hV1' := Lib.hid hV1
            have hRES' := Lib.hid hRES
            have hat1' := Lib.hid hat1
            have hg112' := Lib.hid hg112
            clear at3 hV1 hRES hat1 hg112
            go_wp2
            go_loopw [15] (fun i W => ∃ m : Nat, i = .int .i64 ((m : Int) + 1) ∧ m ≤ sn ∧ fstN DD (sn - 1 - m) (m + 1) = RES ∧ w12.grownBy W (some g) ∧ CalcAt W g false) (fun i _ => sn + 1 - (intOf i).toNat)
            case atStart => exact ⟨0, rfl, Nat.zero_le _, hRES'.out, World.grownBy.refl _ _, hcE⟩
            case round =>
              obtain ⟨m, rfl, hm, hfst, hgz, hcz⟩ := hrel
              have hxw := xr12.grown hgz (fun e => hrg (Option.some.inj e).symm)
              have hwr := hwg.trans hgz
              by_cases h1 : m + 1 < sn
              · obtain ⟨b, off, rfl, hbg, a0, a1⟩ := at3'.out wr m (by omega) hgz
                obtain ⟨q, hq⟩ : ∃ q : Nat, q = m + 1 := ⟨_, rfl⟩
                rw [show (m : Int) + 1 = (q : Int) by omega]
                rw [← hq] at h1
                have g0 : (0 : Int) ≤ (m : Int) := by omega
                have g1 : (m : Int) < (sn : Int) := by omega
                have g2 : (0 : Int) ≤ (q : Int) := by omega
                have g3 : (q : Int) < (sn : Int) := by omega
                have g4 : IntKind.i64.wrap ((q : Int) - 1) = (m : Int) := by rw [IntKind.wrap_i64]; omega
                have g5 : IntKind.i64.wrap ((q : Int) + 1) = (q : Int) + 1 := by rw [IntKind.wrap_i64]; omega
                have g6 : m < sn := by omega
                have hms : nthR SL m ∈ SL := by rw [nthR_eq (by rw [hsn'.out]; omega)]; exact List.getElem_mem _
                have hqs : nthR SL q ∈ SL := by rw [nthR_eq (by rw [hsn'.out]; omega)]; exact List.getElem_mem _
                obtain ⟨uA, _, oA, _⟩ := hat1'.out _ hms
                obtain ⟨uB, _, oB, _⟩ := hat1'.out _ hqs
                have hD := hDm'.out m
                rw [← hq] at hD
                have hf1 : sn - 1 - m = (sn - 1 - q) + 1 := by omega
                rw [← hq, hf1] at hfst
                have hyes := fun (h : DD q = true) => fstN_yes (D := DD) (r := sn - 1 - q) h
                have hno := fun (h : DD q = false) => fstN_no (D := DD) (r := sn - 1 - q) h
                have cvA := fun w' hB hc => cV'.out false (nthR SL m) w' uA hB hc
                have cvB := fun w' hB hc => cV'.out false (nthR SL q) w' uB hB hc
                rw [oA] at cvA
                rw [oB] at cvB
                have at4 : ∀ w', w12.grownBy w' (some g) → w'.cell? ⟨b, off + m * 2, none⟩ = some (.int .i64 (nthR SL m).1) ∧ w'.cell? ⟨b, off + m * 2 + 1, none⟩ = some (.int .i64 (nthR SL m).2) ∧ w'.cell? ⟨b, off + q * 2, none⟩ = some (.int .i64 (nthR SL q).1) ∧ w'.cell? ⟨b, off + q * 2 + 1, none⟩ = some (.int .i64 (nthR SL q).2) := fun w' h => by
                  obtain ⟨_, _, e, _, x0, x1⟩ := at3'.out w' m g6 h
                  cases e
                  obtain ⟨_, _, e, _, x2, x3⟩ := at3'.out w' q h1 h
                  cases e
                  exact ⟨x0, x1, x2, x3⟩
                obtain ⟨XA, hXA⟩ : ∃ X, nthR SL m = X := ⟨_, rfl⟩
                obtain ⟨XB, hXB⟩ : ∃ X, nthR SL q = X := ⟨_, rfl⟩
                rw [hXA] at cvA hD at4
                rw [hXB] at cvB hD at4
                obtain ⟨YA, hYA⟩ : ∃ X, atZ f XA = X := ⟨_, rfl⟩
                obtain ⟨YB, hYB⟩ : ∃ X, atZ f XB = X := ⟨_, rfl⟩
                rw [hYA] at cvA hD
                rw [hYB] at cvB hD
                obtain ⟨xa0, xa1⟩ := XA
                obtain ⟨xb0, xb1⟩ := XB
                obtain ⟨ya0, ya1⟩ := YA
                obtain ⟨yb0, yb1⟩ := YB
                simp only at cvA cvB at4
                have hgd1 : w12.grownBy wr.drew (some g) := gdrew hgz
                have hb1 := hst'.out _ (hg112'.out.trans hgd1)
                have hcd := hcz.drew
                obtain ⟨hm0, hm1⟩ := hcz
                clear a0 a1 hms hqs uA uB oA oB
                have hq' := Lib.hid hq
                have hfst' := Lib.hid hfst
                have hD' := Lib.hid hD
                have hyes' := Lib.hid hyes
                have hno' := Lib.hid hno
                have cvA' := Lib.hid cvA
                have cvB' := Lib.hid cvB
                have at4' := Lib.hid at4
                have hXA' := Lib.hid hXA
                have hXB' := Lib.hid hXB
                have hYA' := Lib.hid hYA
                have hYB' := Lib.hid hYB
                have hf1' := Lib.hid hf1
                have hxw' := Lib.hid hxw
                have hwr' := Lib.hid hwr
                clear hq hfst hD hyes hno cvA cvB at4 hXA hXB hYA hYB hf1 hxw hwr
                by_cases hAB : ya0 = yb0 ∧ ya1 = yb1
                · obtain ⟨rfl, rfl⟩ := hAB
                  have hDq : DD q = false := by rw [hD'.out]; simp
                  have hfst2 := (hno'.out hDq).symm.trans hfst'.out
                  clear hD' hno' hyes' hfst' hDq hxw' hwr'
                  have hfst2' := Lib.hid hfst2
                  clear hfst2
                  go_wp2_with fail
                  refine wp_region_held_drew (S := (fun w' => w'.cell? ⟨b, off + m * 2, none⟩ = some (.int .i64 xa0) ∧ w'.cell? ⟨b, off + m * 2 + 1, none⟩ = some (.int .i64 xa1) ∧ w'.cell? ⟨b, off + q * 2, none⟩ = some (.int .i64 xb0) ∧ w'.cell? ⟨b, off + q * 2 + 1, none⟩ = some (.int .i64 xb1))) (by kernel_rfl) (by (try dsimp only); (first | exact at4'.out _ hgd1 | exact at4'.out _ hgx | exact at4'.out _ hgy)) (fun hHeld => ?_)
                  refine ly_q 0 (v := ?_) hHeld ?_
                  try simp only [Act.put, lyA, lyB, lyC]
                  refine ly_q 1 (v := ?_) hHeld ?_
                  try simp only [Act.put, lyA, lyB, lyC]
                  refine ly_q 2 (v := ?_) hHeld ?_
                  try simp only [Act.put, lyA, lyB, lyC]
                  refine ly_q 3 (v := ?_) hHeld ?_
                  try simp only [Act.put, lyA, lyB, lyC]
                  refine ly_q 4 (v := ?_) hHeld ?_
                  try simp only [Act.put, lyA, lyB, lyC]
                  refine ly_q 5 (v := ?_) hHeld ?_
                  try simp only [Act.put, lyA, lyB, lyC]
                  refine ly_q 6 (v := ?_) hHeld ?_
                  try simp only [Act.put, lyA, lyB, lyC]
                  refine ly_q 8 (v := ?_) hHeld ?_
                  try simp only [Act.put, lyA, lyB, lyC]
                  refine ly_q 9 (v := ?_) hHeld ?_
                  try simp only [Act.put, lyA, lyB, lyC]
                  refine ly_q 10 (v := ?_) hHeld ?_
                  try simp only [Act.put, lyA, lyB, lyC]
                  refine ly_q 11 (v := ?_) hHeld ?_
                  try simp only [Act.put, lyA, lyB, lyC]
                  refine ly_q 12 (v := ?_) hHeld ?_
                  try simp only [Act.put, lyA, lyB, lyC]
                  refine ly_q 13 (v := ?_) hHeld ?_
                  try simp only [Act.put, lyA, lyB, lyC]
                  refine ly_a 7 (fun KK hKK => ?_)
                  go_simp
                  refine (cvA'.out _ hb1 hcd).mono ?_
                  rintro e w13 ⟨rfl, hg13, hc13⟩
                  have hgx := hgd1.trans hg13
                  have hb2 := hst'.out _ (hg112'.out.trans hgx)
                  try dsimp only
                  refine hKK.out _ _ (by (try dsimp only); (first | exact at4'.out _ hgd1 | exact at4'.out _ hgx | exact at4'.out _ hgy)) (fun hHeld => ?_)
                  clear hKK KK
                  try simp only [Act.put, lyA, lyB, lyC]
                  refine ly_a 14 (fun KK hKK => ?_)
                  go_simp
                  refine (cvB'.out _ hb2 hc13).mono ?_
                  rintro e w14 ⟨rfl, hg14, hc14⟩
                  have hgy := hgx.trans hg14
                  try dsimp only
                  refine hKK.out _ _ (by (try dsimp only); (first | exact at4'.out _ hgd1 | exact at4'.out _ hgx | exact at4'.out _ hgy)) (fun hHeld => ?_)
                  clear hKK KK
                  try simp only [Act.put, lyA, lyB, lyC]
                  refine ly_q 15 (v := .bool false) (hy := by intro wS hSw; (try dsimp only at hSw); go_simp; all_goals (simp)) hHeld ?_
                  try simp only [Act.put, lyA, lyB, lyC]
                  refine wpAnyH_done (by kernel_rfl) ?_ _
                  clear hHeld
                  have hc15 : CalcAt w14 g false := hc14
                  have hgy' := Lib.hid hgy
                  have hc15' := Lib.hid hc15
                  clear hgy hc15
                  go_wp2
                  go_roundw
                  case rel => exact ⟨q, by go_num, by omega, hfst2'.out, hgy'.out, hc15'.out⟩
                  case measure => simp [intOf]; omega
                · have hDq : DD q = true := by rw [hD'.out]; simp only [Bool.not_eq_true', decide_eq_false_iff_not]; exact fun e => hAB (Prod.mk.inj e)
                  have hR := hfst'.out.symm.trans (hyes'.out hDq)
                  have hV2 := hV1'.out
                  rw [hR] at hV2
                  have hqm : q - 1 = m := by have := hq'.out; omega
                  have hV3 : (((xa0, xa1), (xb0, xb1)), true) = V := by
                    rw [hV2, ← hXA'.out, ← hXB'.out]
                    show _ = ((nthR SL (q - 1), nthR SL q), true)
                    rw [hqm]
                  subst hV3
                  clear hV2 hD' hno' hyes' hfst' hDq hR hxw' hwr' hV1'
                  have hne : ¬ ya0 = yb0 ∨ ya0 = yb0 ∧ ¬ ya1 = yb1 := by
                    by_cases h : ya0 = yb0
                    · exact .inr ⟨h, fun e => hAB ⟨h, e⟩⟩
                    · exact .inl h
                  clear hAB
                  go_wp2_with fail
                  refine wp_region_held_drew (S := (fun w' => w'.cell? ⟨b, off + m * 2, none⟩ = some (.int .i64 xa0) ∧ w'.cell? ⟨b, off + m * 2 + 1, none⟩ = some (.int .i64 xa1) ∧ w'.cell? ⟨b, off + q * 2, none⟩ = some (.int .i64 xb0) ∧ w'.cell? ⟨b, off + q * 2 + 1, none⟩ = some (.int .i64 xb1))) (by kernel_rfl) (by (try dsimp only); (first | exact at4'.out _ hgd1 | exact at4'.out _ hgx | exact at4'.out _ hgy)) (fun hHeld => ?_)
                  refine ly_q 0 (v := ?_) hHeld ?_
                  try simp only [Act.put, lyA, lyB, lyC]
                  refine ly_q 1 (v := ?_) hHeld ?_
                  try simp only [Act.put, lyA, lyB, lyC]
                  refine ly_q 2 (v := ?_) hHeld ?_
                  try simp only [Act.put, lyA, lyB, lyC]
                  refine ly_q 3 (v := ?_) hHeld ?_
                  try simp only [Act.put, lyA, lyB, lyC]
                  refine ly_q 4 (v := ?_) hHeld ?_
                  try simp only [Act.put, lyA, lyB, lyC]
                  refine ly_q 5 (v := ?_) hHeld ?_
                  try simp only [Act.put, lyA, lyB, lyC]
                  refine ly_q 6 (v := ?_) hHeld ?_
                  try simp only [Act.put, lyA, lyB, lyC]
                  refine ly_q 8 (v := ?_) hHeld ?_
                  try simp only [Act.put, lyA, lyB, lyC]
                  refine ly_q 9 (v := ?_) hHeld ?_
                  try simp only [Act.put, lyA, lyB, lyC]
                  refine ly_q 10 (v := ?_) hHeld ?_
                  try simp only [Act.put, lyA, lyB, lyC]
                  refine ly_q 11 (v := ?_) hHeld ?_
                  try simp only [Act.put, lyA, lyB, lyC]
                  refine ly_q 12 (v := ?_) hHeld ?_
                  try simp only [Act.put, lyA, lyB, lyC]
                  refine ly_q 13 (v := ?_) hHeld ?_
                  try simp only [Act.put, lyA, lyB, lyC]
                  refine ly_a 7 (fun KK hKK => ?_)
                  go_simp
                  refine (cvA'.out _ hb1 hcd).mono ?_
                  rintro e w13 ⟨rfl, hg13, hc13⟩
                  have hgx := hgd1.trans hg13
                  have hb2 := hst'.out _ (hg112'.out.trans hgx)
                  try dsimp only
                  refine hKK.out _ _ (by (try dsimp only); (first | exact at4'.out _ hgd1 | exact at4'.out _ hgx | exact at4'.out _ hgy)) (fun hHeld => ?_)
                  clear hKK KK
                  try simp only [Act.put, lyA, lyB, lyC]
                  refine ly_a 14 (fun KK hKK => ?_)
                  go_simp
                  refine (cvB'.out _ hb2 hc13).mono ?_
                  rintro e w14 ⟨rfl, hg14, hc14⟩
                  have hgy := hgx.trans hg14
                  try dsimp only
                  refine hKK.out _ _ (by (try dsimp only); (first | exact at4'.out _ hgd1 | exact at4'.out _ hgx | exact at4'.out _ hgy)) (fun hHeld => ?_)
                  clear hKK KK
                  try simp only [Act.put, lyA, lyB, lyC]
                  refine ly_q 15 (v := .bool true) (hy := by intro wS hSw; (try dsimp only at hSw); go_simp; all_goals ((rcases hne with h | ⟨h1, h2⟩ <;> simp [*]))) hHeld ?_
                  try simp only [Act.put, lyA, lyB, lyC]
                  refine wpAnyH_done (by kernel_rfl) ?_ _
                  clear hHeld
                  have hc15 : CalcAt w14 g false := hc14
                  obtain ⟨c0, c1, c2, c3⟩ := at4'.out _ hgy
                  have hxw := xr12.grown hgy (fun e => hrg (Option.some.inj e).symm)
                  obtain ⟨⟨n0, n1, n2, n3⟩, f0, f1, f2, f3⟩ := id hxw
                  have hgf := gdrew (grow_set4 (hwg.trans hgy) hrbl ((xa0, xa1), (xb0, xb1)))
                  have hcf := (hc15.set4 hrg ((xa0, xa1), (xb0, xb1))).drew
                  clear hxw hgy hc15 hgx hgd1 hc13 hc14 hcd hg13 hg14
                  have hgf' := Lib.hid hgf
                  have hcf' := Lib.hid hcf
                  clear hgf hcf
                  go_wp2_with fail
                  go_region
                  all_goals
                    go_wp2
                    exact bodyPost_ret (v := quadV ((xa0, xa1), (xb0, xb1))) (by simp [results, Tryz.results22, go_sem, n0, n1, n2, n3, quadV]) rfl ⟨rfl, hgf'.out, hcf'.out⟩
              · have hR : RES = none := by
                  rw [← hfst, show sn - 1 - m = 0 by omega]; rfl
                have hV2 := hV1'.out
                rw [hR] at hV2
                subst hV2
                have hcw := hcz
                have h1' : ¬ (m : Int) + 1 < (sn : Int) := by omega
                clear hR hfst
                obtain ⟨u, hu⟩ : ∃ u, set4 (wr.setCell ⟨g, 0, none⟩ (.bool true)) rb ((0, 0), (0, 0)) = u := ⟨_, rfl⟩
                have xm := hxw.mark hrg (.bool true)
                obtain ⟨⟨n0, n1, n2, n3⟩, f0, f1, f2, f3⟩ := id xm
                obtain ⟨⟨b0, b1, b2, b3⟩, _⟩ := xm.set4 ((0, 0), (0, 0))
                have hgf := grow_set4 (grow_mark hwr (.bool true)) hrbl ((0, 0), (0, 0))
                have hcf := (hcw.mark).set4 hrg ((0, 0), (0, 0))
                obtain ⟨m0, m1⟩ := hcw
                rw [hu] at b0 b1 b2 b3 hgf hcf
                unfold set4 at hu
                clear hxw hwr xm
                have hu' := Lib.hid hu
                have b0' := Lib.hid b0
                have b1' := Lib.hid b1
                have b2' := Lib.hid b2
                have b3' := Lib.hid b3
                have hgf' := Lib.hid hgf
                have hcf' := Lib.hid hcf
                clear hu b0 b1 b2 b3 hgf hcf
                go_wp2
                rw [hu'.out]
                exact bodyPost_ret (v := quadV ((0, 0), (0, 0))) (by simp [results, Tryz.results22, go_sem, b0'.out, b1'.out, b2'.out, b3'.out, quadV]) rfl ⟨rfl, hgf'.out, hcf'.out⟩
end Go.Proofs.YtjkgilenhoomoaaGreat

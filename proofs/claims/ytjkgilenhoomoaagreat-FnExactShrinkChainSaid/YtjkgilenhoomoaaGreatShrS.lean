/- The reference's shrunk interval. No conditions but valid maps and intervals. -/
import Derived.Test.YtjkgilenhoomoaaGreatBefS
import Derived.Test.YtjkgilenhoomoaaGreatPkM
namespace Go.Proofs.YtjkgilenhoomoaaGreat
open Go.RowKit

theorem merge_snoc (l : List (Int × Int)) (x : Int × Int) : mergeL [] (l ++ [x]) = putR (mergeL [] l) x := by unfold mergeL; rw [List.foldl_append]; rfl
theorem merge_good {l : List (Int × Int)} (h : ∀ x, x ∈ l → goodR x.1 x.2 = true) : ∀ x, x ∈ mergeL [] l → goodR x.1 x.2 = true := fun x hx => by
  have h2 := (merge_rise l (xs := []) List.Pairwise.nil (fun y h => by cases h) h).2 x
  rcases h2.1 hx with a | a
  · cases a
  · exact h x a
theorem merge_len (l : List (Int × Int)) : (mergeL [] l).length ≤ l.length := by
  have h := mergeL_len0 l []
  simpa using h
theorem below_set4 {E : Nat} {w W : World} (h : Below E w W) {b : Nat} (hb : E ≤ b) (q : Quad) : Below E w (set4 W b q) := by
  unfold set4
  exact ((((h.setCell (p := ⟨b, 0, none⟩) hb _).setCell (p := ⟨b, 1, none⟩) hb _).setCell (p := ⟨b, 2, none⟩) hb _).setCell (p := ⟨b, 3, none⟩) hb _)
/-- What the reference returns. -/
def ivR (f : List Quad) (i k : Quad) : Quad × Bool := if imgOk f i.1 i.2 = true ∧ covB f i k = true then shrV f i k else (((0, 0), (0, 0)), false)
set_option linter.unusedSimpArgs false in
set_option maxRecDepth 10000 in
set_option maxHeartbeats 6000000 in
theorem ivShrink_any (v : Value) (f : List Quad) (i k : Quad) (w : World) (hv : QuadV w v f) (hf : MapP f) (hi : ivB i = true) (hk : ivB k = true) :
    Calls Tryz.prog 17 #[v, quadV i, quadV k] w (Ret (.tuple #[quadV (ivR f i k).1, .bool (ivR f i k).2]) w) := by
  obtain ⟨i1, i2, _⟩ := ivB_true hi
  obtain ⟨k1, k2, _⟩ := ivB_true hk
  have cC := fun w' (hB : Below w.heap.size w w') => ivCovers_any v f i k w' (hv.below hB) hf i1 i2 k1 k2
  have cA := fun w' (hB : Below w.heap.size w w') => imBefore_any v f k.1 w' (hv.below hB) hf (unitR_good k1)
  have cB := fun w' (hB : Below w.heap.size w w') => imBefore_any v f k.2 w' (hv.below hB) hf (unitR_good k2)
  have cV := fun (x : Int × Int) w' (hx : unitR x.1 x.2 = true) (ho : atOk f x = true) (hB : Below w.heap.size w w') => by
    have h := imAt_any v f x w' (hv.below hB) hf hx
    rw [atR_ok ho] at h
    exact h
  have lenA := befR_len f k.1
  have lenB := befR_len f k.2
  have hl12 := hf.len.2
  have hin1 := fun x => befR_unit hf (unitR_good k1) x
  have hin2 := fun x => befR_unit hf (unitR_good k2) x
  have hRaw := fun n h => shrRaw_eq f i k (n := n) h
  have hPs := fun j h => shrP_step (i := i) (L := befR f k.1 ++ befR f k.2) (k := j) h
  have hPl := shrP_len i (befR f k.1 ++ befR f k.2)
  have hPg : ∀ j x, x ∈ shrP i (befR f k.1 ++ befR f k.2) j → goodR x.1 x.2 = true := fun j x hx => by
    unfold shrP at hx
    have h1 := List.mem_of_mem_take (List.mem_filter.1 hx).1
    rcases List.mem_append.1 h1 with h | h
    · exact unitR_good (hin1 x h)
    · exact unitR_good (hin2 x h)
  have hEs := shrE_step f i k
  have hEl := shrE_len f i k
  have hE0 : shrE f i k 0 = [] := rfl
  have hEg : ∀ m x, x ∈ shrE f i k m → goodR x.1 x.2 = true := fun m => by
    induction m with
    | zero => intro x hx; cases hx
    | succ m ih =>
      intro x hx
      rw [hEs] at hx
      split at hx
      · rcases List.mem_append.1 hx with h | h
        · exact ih x h
        · rw [List.mem_singleton.1 h]
          unfold endN
          split
          · exact unitR_good i1
          · exact unitR_good i2
      · exact ih x hx
  have hat := fun ho x hx => shr_mem hf hi hk ho (x := x) hx
  have hSL : shrL f i k = mergeL [] (shrRaw f i k) := rfl
  have hDm : ∀ m, shrD f (shrL f i k) (m + 1) = !(decide (atZ f (nthR (shrL f i k) m) = atZ f (nthR (shrL f i k) (m + 1)))) := fun _ => rfl
  obtain ⟨V, hV⟩ : ∃ V, ivR f i k = V := ⟨_, rfl⟩
  have hVno : ∀ {b c}, covR f i k = (b, c) → (c = false ∨ b = false) → (((0, 0), (0, 0)), false) = V := fun {b c} e h => by
    rw [← hV]
    unfold ivR
    rw [if_neg]
    rintro ⟨h1, h2⟩
    unfold covR at e
    rw [if_pos h1, h2] at e
    cases e
    rcases h with h | h <;> cases h
  have hVyes : covR f i k = (true, true) → V = shrV f i k ∧ imgOk f i.1 i.2 = true := fun e => by
    unfold covR at e
    by_cases h1 : imgOk f i.1 i.2 = true
    · rw [if_pos h1] at e
      have h2 : covB f i k = true := by cases h : covB f i k <;> rw [h] at e <;> simp_all
      refine ⟨?_, h1⟩
      rw [← hV]
      unfold ivR
      rw [if_pos ⟨h1, h2⟩]
    · rw [if_neg h1] at e
      cases e
  have hOkS : ∀ x y z, befOk f k.1 f.length = x → befOk f k.2 f.length = y → imgOk f i.1 i.2 = z → shrOk f i k = (x && y && z) := fun x y z h1 h2 h3 => by
    unfold shrOk
    rw [h1, h2, ← h3]
    rfl
  have hVbad := fun h => shrV_bad (f := f) (i := i) (k := k) h
  have hVok : shrOk f i k = true → shrV f i k = shrF (shrL f i k) (fstN (shrD f (shrL f i k)) ((shrL f i k).length - 1) 1) := fun h => shrV_ok h
  have hImg : imgOk f i.1 i.2 = true → atOk f i.1 = true ∧ atOk f i.2 = true := fun h => by unfold imgOk at h; rw [Bool.and_eq_true] at h; exact h
  have hlx := fun (x : Int × Int) w' (hx : unitR x.1 x.2 = true) => raCmp_any i.1.1 i.1.2 x.1 x.2 w' (unit_bd i1) (unit_bd hx)
  have hly := fun (x : Int × Int) w' (hx : unitR x.1 x.2 = true) => raCmp_any x.1 x.2 i.2.1 i.2.2 w' (unit_bd hx) (unit_bd i2)
  have hI : ∀ x, inI i x = (decide (cmpN i.1.1 i.1.2 x.1 x.2 ≤ 0) && decide (cmpN x.1 x.2 i.2.1 i.2.2 ≤ 0)) := fun x => by rw [cmpN_le, cmpN_le]; rfl
  rw [hV]
  clear hV
  obtain ⟨LA, hLA⟩ : ∃ l, befR f k.1 = l := ⟨_, rfl⟩
  obtain ⟨LB, hLB⟩ : ∃ l, befR f k.2 = l := ⟨_, rfl⟩
  rw [hLA] at cA lenA hin1 hRaw hPs hPl hPg
  rw [hLB] at cB lenB hin2 hRaw hPs hPl hPg
  obtain ⟨bA, hbA⟩ : ∃ b, befOk f k.1 f.length = b := ⟨_, rfl⟩
  obtain ⟨bB, hbB⟩ : ∃ b, befOk f k.2 f.length = b := ⟨_, rfl⟩
  rw [hbA] at cA
  rw [hbB] at cB
  have hRA : ∃ l, (if bA = true then (LA, true) else ([], false)) = (l, bA) ∧ (bA = true → l = LA) := by cases bA <;> simp
  have hRB : ∃ l, (if bB = true then (LB, true) else ([], false)) = (l, bB) ∧ (bB = true → l = LB) := by cases bB <;> simp
  obtain ⟨l1, hRA, hl1⟩ := hRA
  obtain ⟨l2, hRB, hl2⟩ := hRB
  rw [hRA] at cA
  rw [hRB] at cB
  have hOk2 := fun z => hOkS bA bB z hbA hbB
  obtain ⟨CR, hCR⟩ : ∃ r, covR f i k = r := ⟨_, rfl⟩
  rw [hCR] at cC hVyes
  obtain ⟨cb, co⟩ := CR
  have hVn := hVno hCR
  clear hVno hCR hOkS hbA hbB hRA hRB
  obtain ⟨L, hL⟩ : ∃ l, LA ++ LB = l := ⟨_, rfl⟩
  rw [hL] at hRaw hPs hPl hPg
  obtain ⟨n, hn⟩ : ∃ n, L.length = n := ⟨_, rfl⟩
  have hnn : n ≤ 1000 := by rw [← hn, ← hL, List.length_append]; omega
  have hLu : ∀ j, j < n → unitR (nthR L j).1 (nthR L j).2 = true := fun j hj => by
    have hm : nthR L j ∈ LA ++ LB := by rw [hL, nthR_eq (by omega)]; exact List.getElem_mem _
    rcases List.mem_append.1 hm with h | h
    · exact hin1 _ h
    · exact hin2 _ h
  rw [hn] at hPs hPl
  have hP0 : shrP i L 0 = [] := by unfold shrP; simp
  generalize shrP i L = PL at *
  generalize shrE f i k = EL at *
  generalize shrRaw f i k = RW at *
  rw [hSL] at hat hDm hVok
  clear hSL
  generalize shrD f (mergeL [] RW) = DD at *
  obtain ⟨S, hS⟩ : ∃ r, shrV f i k = r := ⟨_, rfl⟩
  rw [hS] at hVyes hVbad hVok
  clear hS
  generalize imgOk f i.1 i.2 = IG at *
  generalize shrOk f i k = OK at *
  clear hin1 hin2 hLA hLB
  have hlab : LA.length + LB.length ≤ 1000 := by omega
  obtain ⟨⟨p0, p1⟩, ⟨p2, p3⟩⟩ := i
  obtain ⟨⟨q0, q1⟩, ⟨q2, q3⟩⟩ := k
  simp only at cA cB hlx hly hI i1 i2 hImg
  obtain ⟨w1, hw1⟩ : ∃ W, ((w.alloc (.cells #[.int .i64 p0, .int .i64 p1, .int .i64 p2, .int .i64 p3] 44)).alloc (.cells #[.int .i64 q0, .int .i64 q1, .int .i64 q2, .int .i64 q3] 44)).alloc (.cells #[.int .i64 0, .int .i64 0, .int .i64 0, .int .i64 0] 44) = W := ⟨_, rfl⟩
  have hB1 : Below w.heap.size w w1 := by rw [← hw1]; exact (((Below.refl _ _).alloc (Nat.le_refl _) _).alloc (by simp) _).alloc (by simp; omega) _
  have hz1 : w.heap.size + 2 < w1.heap.size := by rw [← hw1]; simp
  have xi : BoxQ w1 w.heap.size ((p0, p1), (p2, p3)) := by rw [← hw1]; refine ⟨?_, ?_, ?_, ?_⟩ <;> simp [go_sem]
  have xk : BoxQ w1 (w.heap.size + 1) ((q0, q1), (q2, q3)) := by rw [← hw1]; refine ⟨?_, ?_, ?_, ?_⟩ <;> simp [go_sem]
  have xr : BoxW w1 (w.heap.size + 1 + 1) ((0, 0), (0, 0)) := by rw [← hw1]; refine ⟨⟨?_, ?_, ?_, ?_⟩, ?_, ?_, ?_, ?_⟩ <;> simp [go_sem]
  obtain ⟨rb, hrbe⟩ : ∃ b, w.heap.size + 1 + 1 = b := ⟨_, rfl⟩
  rw [hrbe] at xr
  have hrbl : w.heap.size ≤ rb := by omega
  have hrb1 : rb < w1.heap.size := by omega
  obtain ⟨a0, a1, a2, a3⟩ := id xi
  obtain ⟨b0, b1, b2, b3⟩ := id xk
  rw [← hw1] at a0 a1 a2 a3 b0 b1 b2 b3
  have cA' := Lib.hid cA
  have cB' := Lib.hid cB
  have cV' := Lib.hid cV
  have cC' := Lib.hid cC
  have hRaw' := Lib.hid hRaw
  have hPs' := Lib.hid hPs
  have hPl' := Lib.hid hPl
  have hPg' := Lib.hid hPg
  have hEs' := Lib.hid hEs
  have hEl' := Lib.hid hEl
  have hEg' := Lib.hid hEg
  have hE0' := Lib.hid hE0
  have hat' := Lib.hid hat
  have hDm' := Lib.hid hDm
  have hVyes' := Lib.hid hVyes
  have hVn' := Lib.hid hVn
  have hVbad' := Lib.hid hVbad
  have hVok' := Lib.hid hVok
  have hOk2' := Lib.hid hOk2
  have hImg' := Lib.hid hImg
  have hlx' := Lib.hid hlx
  have hly' := Lib.hid hly
  have hI' := Lib.hid hI
  have hw1' := Lib.hid hw1
  have xi' := Lib.hid xi
  have xk' := Lib.hid xk
  have xr' := Lib.hid xr
  have hL' := Lib.hid hL
  have hn' := Lib.hid hn
  have hLu' := Lib.hid hLu
  have hP0' := Lib.hid hP0
  have hl1' := Lib.hid hl1
  have hl2' := Lib.hid hl2
  have hi' := Lib.hid hi
  have hk' := Lib.hid hk
  have hlab' := Lib.hid hlab
  clear cA cB cV cC hRaw hPs hPl hPg hEs hEl hEg hE0 hat hDm hVyes hVn hVbad hVok hOk2 hImg hlx hly hI hw1 xi xk xr hL hn hLu hP0 hl1 hl2 hi hk hlab
  show Calls _ _ #[_, .agg #[.int .i64 p0, .int .i64 p1, .int .i64 p2, .int .i64 p3], .agg #[.int .i64 q0, .int .i64 q1, .int .i64 q2, .int .i64 q3]] w _
  go_enter Tryz.func17, Tryz.ntmps17
  go_wp2_with fail
  rw [hw1'.out]
  clear a0 a1 a2 a3 b0 b1 b2 b3
  go_wp2_with fail
  refine (cC'.out _ hB1).mono ?_
  rintro e w2 ⟨rfl, hB2⟩
  have hb2 := hB1.trans (hB2.mono hB1.size)
  have xi2 := xi'.out.below hB2
  have xk2 := xk'.out.below hB2
  have xr2 := xr'.out.grown (bgrow hB2 none) (by simp)
  have hs2 := hB2.size
  clear hB2 xi' xk' xr' hB1 cC' hw1'
  by_cases hcc : co = false ∨ cb = false
  · have hV2 := hVn'.out hcc
    subst hV2
    have hxw := xr2
    have hbw := hb2
    clear hb2 xr2 xi2 xk2
    rcases hcc with rfl | rfl
    · simp only
      obtain ⟨⟨n0, n1, n2, n3⟩, f0, f1, f2, f3⟩ := id hxw
      have hbf := below_set4 hbw hrbl ((0, 0), (0, 0))
      clear hxw hbw
      have hbf' := Lib.hid hbf
      clear hbf
      go_wp2
      exact bodyPost_ret (v := .tuple #[quadV ((0, 0), (0, 0)), .bool false]) (by simp [results, Tryz.results17, go_sem, n0, n1, n2, n3, quadV]) rfl ⟨rfl, hbf'.out⟩
    · simp only
      cases co
      · obtain ⟨⟨n0, n1, n2, n3⟩, f0, f1, f2, f3⟩ := id hxw
        have hbf := below_set4 hbw hrbl ((0, 0), (0, 0))
        clear hxw hbw
        have hbf' := Lib.hid hbf
        clear hbf
        go_wp2
        exact bodyPost_ret (v := .tuple #[quadV ((0, 0), (0, 0)), .bool false]) (by simp [results, Tryz.results17, go_sem, n0, n1, n2, n3, quadV]) rfl ⟨rfl, hbf'.out⟩
      · obtain ⟨⟨n0, n1, n2, n3⟩, f0, f1, f2, f3⟩ := id hxw
        have hbf := below_set4 hbw hrbl ((0, 0), (0, 0))
        clear hxw hbw
        have hbf' := Lib.hid hbf
        clear hbf
        go_wp2
        exact bodyPost_ret (v := .tuple #[quadV ((0, 0), (0, 0)), .bool false]) (by simp [results, Tryz.results17, go_sem, n0, n1, n2, n3, quadV]) rfl ⟨rfl, hbf'.out⟩
  · obtain ⟨rfl, rfl⟩ : co = true ∧ cb = true := by cases co <;> cases cb <;> simp_all
    obtain ⟨rfl, hIO⟩ := hVyes'.out rfl
    obtain ⟨oI1, oI2⟩ := hImg'.out hIO
    have hOk3 := hOk2'.out _ hIO
    rw [Bool.and_true] at hOk3
    clear hcc hVn' hVyes' hImg' hOk2'
    have xi2q := xi2
    obtain ⟨b0, b1, b2, b3⟩ := id xk2
    simp only at b0 b1 b2 b3
    have hw12 : w1.heap.size ≤ w2.heap.size := hs2
    have hb2' := Lib.hid hb2
    have xi2' := Lib.hid xi2
    have xk2' := Lib.hid xk2
    have xr2' := Lib.hid xr2
    have hOk3' := Lib.hid hOk3
    have oI1' := Lib.hid oI1
    have oI2' := Lib.hid oI2
    have xi2q' := Lib.hid xi2q
    clear hb2 xi2 xk2 xr2 hOk3 oI1 oI2 xi2q
    go_wp2_with fail
    refine (cA'.out _ hb2'.out).mono ?_
    rintro e w3 ⟨r1, rfl, hh1, hB3⟩
    have hb3 := hb2'.out.trans (hB3.mono hb2'.out.size)
    have xi3 := xi2'.out.below hB3
    have xk3 := xk2'.out.below hB3
    have xr3 := xr2'.out.grown (bgrow hB3 none) (by simp)
    have hs3 := hB3.size
    obtain ⟨c0, c1, c2, c3⟩ := id xk3
    simp only at c0 c1 c2 c3
    clear b0 b1 b2 b3 hB3 hb2' xi2' xk2' xr2' cA' xi2q'
    have hb3' := Lib.hid hb3
    have xi3' := Lib.hid xi3
    have xk3' := Lib.hid xk3
    have xr3' := Lib.hid xr3
    have hh1' := Lib.hid hh1
    clear hb3 xi3 xk3 xr3 hh1
    simp only
    go_wp2_with fail
    refine (cB'.out _ hb3'.out).mono ?_
    rintro e w4 ⟨r2, rfl, hh2, hB4⟩
    have hb4 := hb3'.out.trans (hB4.mono hb3'.out.size)
    have xi4 := xi3'.out.below hB4
    have xk4 := xk3'.out.below hB4
    have xr4 := xr3'.out.grown (bgrow hB4 none) (by simp)
    have hh1k : HasR w4 w2.heap.size r1 l1 := HasR.below hh1'.out hB4
    have hs4 := hB4.size
    clear c0 c1 c2 c3 hB4 hb3' xi3' xk3' xr3' cB' hh1'
    simp only
    by_cases hab : bA = false ∨ bB = false
    · have hOkf : OK = false := by rw [hOk3'.out]; rcases hab with rfl | rfl <;> simp
      have hV2 := hVbad'.out hOkf
      subst hV2
      have hxw := xr4
      have hbw := hb4
      clear hb4 xr4 xi4 xk4 hh1k hh2 hOkf hVok' hVbad' hOk3'
      rcases hab with rfl | rfl
      · obtain ⟨⟨n0, n1, n2, n3⟩, f0, f1, f2, f3⟩ := id hxw
        have hbf := below_set4 hbw hrbl ((0, 0), (0, 0))
        clear hxw hbw
        have hbf' := Lib.hid hbf
        clear hbf
        go_wp2
        exact bodyPost_ret (v := .tuple #[quadV ((0, 0), (0, 0)), .bool false]) (by simp [results, Tryz.results17, go_sem, n0, n1, n2, n3, quadV]) rfl ⟨rfl, hbf'.out⟩
      · cases bA
        · obtain ⟨⟨n0, n1, n2, n3⟩, f0, f1, f2, f3⟩ := id hxw
          have hbf := below_set4 hbw hrbl ((0, 0), (0, 0))
          clear hxw hbw
          have hbf' := Lib.hid hbf
          clear hbf
          go_wp2
          exact bodyPost_ret (v := .tuple #[quadV ((0, 0), (0, 0)), .bool false]) (by simp [results, Tryz.results17, go_sem, n0, n1, n2, n3, quadV]) rfl ⟨rfl, hbf'.out⟩
        · obtain ⟨⟨n0, n1, n2, n3⟩, f0, f1, f2, f3⟩ := id hxw
          have hbf := below_set4 hbw hrbl ((0, 0), (0, 0))
          clear hxw hbw
          have hbf' := Lib.hid hbf
          clear hbf
          go_wp2
          exact bodyPost_ret (v := .tuple #[quadV ((0, 0), (0, 0)), .bool false]) (by simp [results, Tryz.results17, go_sem, n0, n1, n2, n3, quadV]) rfl ⟨rfl, hbf'.out⟩
    · obtain ⟨rfl, rfl⟩ : bA = true ∧ bB = true := by cases bA <;> cases bB <;> simp_all
      have hOkt : OK = true := by rw [hOk3'.out]; rfl
      have hV1 := hVok'.out hOkt
      have hat1 := fun x hx => hat'.out hOkt x hx
      obtain rfl := hl1'.out rfl
      obtain rfl := hl2'.out rfl
      clear hab hVok' hVbad' hOk3' hat' hOkt hl1' hl2'
      have hr2 := hh2.2.read
      have hs24 : w2.heap.size ≤ w4.heap.size := by omega
      have hll : l1.length + l2.length ≤ 4398046511104 := by have := hlab'.out; omega
      have hob : ∀ jj, r1.ownBlock = some jj → w2.heap.size ≤ jj := fun jj e => (World.ownsRow.lt hh1k.2 jj e).1
      clear hh2
      have hV1' := Lib.hid hV1
      have hat1' := Lib.hid hat1
      have hb4' := Lib.hid hb4
      have xi4' := Lib.hid xi4
      have xk4' := Lib.hid xk4
      have xr4' := Lib.hid xr4
      have hh1k' := Lib.hid hh1k
      have hr2' := Lib.hid hr2
      have hll' := Lib.hid hll
      have hob' := Lib.hid hob
      clear hV1 hat1 hb4 xi4 xk4 xr4 hh1k hr2 hll hob
      go_wp2_with (at_builtin; refine wpList_append_rats rfl _ _ rfl w2.heap.size r1 r2 l1 l2 rfl rfl hh1k'.out.2 hr2'.out hll'.out hs24 ?_)
      intro v5 w5 hg5 hgrow5
      have hb5 := GrowR.belowB hh1k'.out.2 hb4'.out (by omega) (by omega) hgrow5
      have xi5 := xi4'.out.grown hgrow5 (fun e => by have := hob'.out _ e; omega)
      have xk5 := xk4'.out.grown hgrow5 (fun e => by have := hob'.out _ e; omega)
      have xr5 := xr4'.out.grown hgrow5 (fun e => by have := hob'.out _ e; omega)
      have hs5 := hgrow5.size
      rw [hL'.out] at hg5
      have H5 := hg5.read.form
      rw [hn'.out] at H5
      obtain ⟨ao5, cap5, rfl, _, _, H5⟩ := H5
      clear hgrow5 hg5 hh1k' hr2' hob' hb4' xi4' xk4' xr4' hll'
      have hsw5 : w.heap.size + 2 < w5.heap.size := by omega
      have H5' := Lib.hid H5
      have hb5' := Lib.hid hb5
      have xi5' := Lib.hid xi5
      have xk5' := Lib.hid xk5
      have xr5' := Lib.hid xr5
      clear H5 hb5 xi5 xk5 xr5
      go_wp2
      go_loopw [14, 65] (fun o i W => ∃ j : Nat, j ≤ n ∧ i = .int .i64 j ∧ HasR W w5.heap.size o (mergeL [] (PL j)) ∧ Below w5.heap.size w5 W) (fun _ i _ => n - (intOf i).toNat)
      case atStart => exact ⟨0, Nat.zero_le _, rfl, by rw [hP0'.out]; exact HasR.nil _ _, Below.refl _ _⟩
      case round =>
        obtain ⟨j, hj, rfl, ho, hB⟩ := hrel
        have hsr := hB.size
        by_cases hlt : j < n
        · obtain ⟨b, off, rfl, c0, c1⟩ := H5'.out j hlt
          replace c0 := bkeep hB c0
          replace c1 := bkeep hB c1
          have g0 : (0 : Int) ≤ (j : Int) := by omega
          have g1 : (j : Int) < (n : Int) := by omega
          obtain ⟨y0, y1, y2, y3⟩ := xi5'.out.below hB
          have hu := hLu'.out j hlt
          have hstep := hPs'.out j hlt
          have hPj := merge_len (PL j)
          have hPj2 := hPl'.out j
          have hPg1 := merge_good (hPg'.out j)
          have hsn1 := merge_snoc (PL j) (nthR L j)
          obtain ⟨X, hX⟩ : ∃ X, nthR L j = X := ⟨_, rfl⟩
          rw [hX] at c0 c1 hu hstep hsn1
          have cl := fun w' => hlx'.out X w' hu
          have cm := fun w' => hly'.out X w' hu
          rw [hI'.out X] at hstep
          obtain ⟨x0, x1⟩ := X
          simp only at c0 c1 cl cm hstep y0 y1 y2 y3 hu
          generalize cmpN p0 p1 x0 x1 = T1 at cl hstep
          generalize cmpN x0 x1 p2 p3 = T2 at cm hstep
          have hlw : w.heap.size < wr.heap.size := by omega
          obtain ⟨w6, hw6⟩ : ∃ W, wr.alloc (.cells #[.int .i64 x0, .int .i64 x1] 42) = W := ⟨_, rfl⟩
          have hB6 : Below wr.heap.size wr w6 := by rw [← hw6]; exact (Below.refl _ _).alloc (Nat.le_refl _) _
          have hb6 := hB.trans (hB6.mono hsr)
          have ho6 := ho.below hB6
          have e0 : w6.cell? ⟨wr.heap.size, 0, none⟩ = some (.int .i64 x0) := by rw [← hw6]; simp [go_sem]
          have e1 : w6.cell? ⟨wr.heap.size, 1, none⟩ = some (.int .i64 x1) := by rw [← hw6]; simp [go_sem]
          have z2 := bkeep hB6 y2
          have z3 := bkeep hB6 y3
          clear hB6 ho y2 y3
          have hX' := Lib.hid hX
          have hstep' := Lib.hid hstep
          have cl' := Lib.hid cl
          have cm' := Lib.hid cm
          have hw6' := Lib.hid hw6
          have hb6' := Lib.hid hb6
          have ho6' := Lib.hid ho6
          have e0' := Lib.hid e0
          have e1' := Lib.hid e1
          have z2' := Lib.hid z2
          have z3' := Lib.hid z3
          have hPj' := Lib.hid hPj
          have hPj2' := Lib.hid hPj2
          have hPg1' := Lib.hid hPg1
          have hsn1' := Lib.hid hsn1
          have hu' := Lib.hid hu
          clear hX hstep cl cm hw6 hb6 ho6 e0 e1 z2 z3 hPj hPj2 hPg1 hsn1 hu
          go_wp2_with fail
          rw [hw6'.out]
          clear c0 c1 y0 y1
          go_wp2_with fail
          refine (cl'.out _).mono ?_
          rintro e w7 ⟨rfl, hB7⟩
          have hb7 := hb6'.out.trans (hB7.mono hb6'.out.size)
          have ho7 := ho6'.out.below hB7
          have e0 := bkeep hB7 e0'.out
          have e1 := bkeep hB7 e1'.out
          have z2 := bkeep hB7 z2'.out
          have z3 := bkeep hB7 z3'.out
          clear hB7 ho6' hb6' e0' e1' z2' z3'
          by_cases hT1 : T1 ≤ 0
          · have hb7' := Lib.hid hb7
            have ho7' := Lib.hid ho7
            clear hb7 ho7
            go_wp2_with fail
            refine (cm'.out _).mono ?_
            rintro e w8 ⟨rfl, hB8⟩
            have hb8 := hb7'.out.trans (hB8.mono hb7'.out.size)
            have ho8 := ho7'.out.below hB8
            have e0 := bkeep hB8 e0
            have e1 := bkeep hB8 e1
            have hs8 := hb8.size
            clear hB8 ho7' hb7' z2 z3
            by_cases hT2 : T2 ≤ 0
            · have hP : mergeL [] (PL (j + 1)) = putR (mergeL [] (PL j)) (x0, x1) := by
                rw [hstep'.out, if_pos (by rw [decide_eq_true hT1, decide_eq_true hT2]; rfl)]; exact hsn1'.out
              have hPk : (mergeL [] (PL j)).length ≤ 1099511627776 := by have := hPj'.out; have := hPj2'.out; omega
              have cp := imPut_has w5.heap.size u14 (mergeL [] (PL j)) (x0, x1) w8 ho8 hs8 hPk (unitR_good hu'.out) hPg1'.out
              have hb8' := Lib.hid hb8
              have ho8' := Lib.hid ho8
              have hP' := Lib.hid hP
              have hPk' := Lib.hid hPk
              have cp' := Lib.hid cp
              clear hb8 ho8 hP hPk cp
              go_wp2_with fail
              refine cp'.out.mono ?_
              rintro e w9 ⟨v9, rfl, hh9, hB9⟩
              have hb9 := hb8'.out.trans (hB9.mono hb8'.out.size)
              rw [← hP'.out] at hh9
              clear hB9 e0 e1
              have hb9' := Lib.hid hb9
              have hh9' := Lib.hid hh9
              clear hb9 hh9
              go_wp2
              go_roundw
              case rel => exact ⟨j + 1, by omega, by go_num, hh9'.out, hb9'.out⟩
              case measure => simp [intOf]; omega
            · have hP : PL (j + 1) = PL j := by rw [hstep'.out, if_neg (by rw [decide_eq_false hT2]; simp)]
              rw [← hP] at ho8
              clear e0 e1 hP
              have hb8' := Lib.hid hb8
              have ho8' := Lib.hid ho8
              clear hb8 ho8
              go_wp2
              go_roundw
              case rel => exact ⟨j + 1, by omega, by go_num, ho8'.out, hb8'.out⟩
              case measure => simp [intOf]; omega
          · have hP : PL (j + 1) = PL j := by rw [hstep'.out, if_neg (by rw [decide_eq_false hT1]; simp)]
            rw [← hP] at ho7
            clear e0 e1 z2 z3 hP
            have hb7' := Lib.hid hb7
            have ho7' := Lib.hid ho7
            clear hb7 ho7
            go_wp2
            go_roundw
            case rel => exact ⟨j + 1, by omega, by go_num, ho7'.out, hb7'.out⟩
            case measure => simp [intOf]; omega
        · obtain rfl : j = n := by omega
          obtain ⟨y0, y1, y2, y3⟩ := xi5'.out.below hB
          simp only at y0 y1 y2 y3
          obtain ⟨w7, hw7⟩ : ∃ W, wr.alloc (.cells #[.int .i64 p0, .int .i64 p1, .int .i64 p2, .int .i64 p3] 42) = W := ⟨_, rfl⟩
          have hB7 : Below wr.heap.size wr w7 := by rw [← hw7]; exact (Below.refl _ _).alloc (Nat.le_refl _) _
          have hb7 := hB.trans (hB7.mono hsr)
          have ho7 := ho.below hB7
          have xa : w7.cell? ⟨wr.heap.size, 0, none⟩ = some (.int .i64 p0) ∧ w7.cell? ⟨wr.heap.size, 1, none⟩ = some (.int .i64 p1) ∧ w7.cell? ⟨wr.heap.size, 2, none⟩ = some (.int .i64 p2) ∧ w7.cell? ⟨wr.heap.size, 3, none⟩ = some (.int .i64 p3) := by rw [← hw7]; refine ⟨?_, ?_, ?_, ?_⟩ <;> simp [go_sem]
          obtain ⟨ab, hab⟩ : ∃ b, wr.heap.size = b := ⟨_, rfl⟩
          rw [hab] at xa
          clear hB7 ho hB H5' hPs' hlx' hly' hI' hLu'
          have hw7' := Lib.hid hw7
          have ho7' := Lib.hid ho7
          have xa' := Lib.hid xa
          have hb7' := Lib.hid hb7
          clear hw7 ho7 xa hb7
          go_wp2
          rw [hw7'.out]
          clear y0 y1 y2 y3
          go_loopw [14, 91] (fun o i W => ∃ m : Nat, m ≤ 2 ∧ i = .int .i64 m ∧ HasR W w5.heap.size o (mergeL [] (PL j ++ EL m)) ∧ Below w5.heap.size w5 W ∧ W.cell? ⟨ab, 0, none⟩ = some (.int .i64 p0) ∧ W.cell? ⟨ab, 1, none⟩ = some (.int .i64 p1) ∧ W.cell? ⟨ab, 2, none⟩ = some (.int .i64 p2) ∧ W.cell? ⟨ab, 3, none⟩ = some (.int .i64 p3)) (fun _ i _ => 2 - (intOf i).toNat)
          case atStart => exact ⟨0, by omega, rfl, by rw [hE0'.out, List.append_nil]; exact ho7'.out, hb7'.out, xa'.out⟩
          case round =>
            obtain ⟨m, hm, rfl, ho, hB, hxm⟩ := hrel
            have hsz := hB.size
            by_cases hlt2 : m < 2
            · obtain ⟨X, hX⟩ : ∃ X, endN ((p0, p1), (p2, p3)) m = X := ⟨_, rfl⟩
              have hXc : wr.cell? ⟨ab, m * 2, none⟩ = some (.int .i64 X.1) ∧ wr.cell? ⟨ab, m * 2 + 1, none⟩ = some (.int .i64 X.2) ∧ unitR X.1 X.2 = true ∧ atOk f X = true := by
                rw [← hX]
                rcases (by omega : m = 0 ∨ m = 1) with rfl | rfl
                · exact ⟨hxm.1, hxm.2.1, i1, oI1'.out⟩
                · exact ⟨hxm.2.2.1, hxm.2.2.2, i2, oI2'.out⟩
              obtain ⟨xa0, xa1, hu, hoX⟩ := hXc
              have hEs1 := hEs'.out m
              have hsn1 := merge_snoc (PL j ++ EL m) X
              rw [hX] at hEs1
              have hlen1 : (mergeL [] (PL j ++ EL m)).length ≤ 1099511627776 := by
                have h1 := hPl'.out j
                have h2 := hEl'.out m
                have h3 := merge_len (PL j ++ EL m)
                rw [List.length_append] at h3
                omega
              have hg1 : ∀ x, x ∈ mergeL [] (PL j ++ EL m) → goodR x.1 x.2 = true := merge_good (fun x hx => by
                rcases List.mem_append.1 hx with h | h
                · exact hPg'.out j x h
                · exact hEg'.out m x h)
              obtain ⟨w8, hw8⟩ : ∃ W, wr.alloc (.cells #[.int .i64 X.1, .int .i64 X.2] 42) = W := ⟨_, rfl⟩
              have hB8 : Below wr.heap.size wr w8 := by rw [← hw8]; exact (Below.refl _ _).alloc (Nat.le_refl _) _
              have hb8 := hB.trans (hB8.mono hsz)
              have ho8 := ho.below hB8
              have cv := cV'.out X w8 hu hoX (hb5'.out.trans (hb8.mono hb5'.out.size))
              have e0 : w8.cell? ⟨wr.heap.size, 0, none⟩ = some (.int .i64 X.1) := by rw [← hw8]; simp [go_sem]
              have e1 : w8.cell? ⟨wr.heap.size, 1, none⟩ = some (.int .i64 X.2) := by rw [← hw8]; simp [go_sem]
              have hx8 : w8.cell? ⟨ab, 0, none⟩ = some (.int .i64 p0) ∧ w8.cell? ⟨ab, 1, none⟩ = some (.int .i64 p1) ∧ w8.cell? ⟨ab, 2, none⟩ = some (.int .i64 p2) ∧ w8.cell? ⟨ab, 3, none⟩ = some (.int .i64 p3) := ⟨bkeep hB8 hxm.1, bkeep hB8 hxm.2.1, bkeep hB8 hxm.2.2.1, bkeep hB8 hxm.2.2.2⟩
              obtain ⟨Y, hY⟩ : ∃ Y, atZ f X = Y := ⟨_, rfl⟩
              rw [hY] at cv hEs1
              obtain ⟨T, hT⟩ : ∃ T, isEndB ((q0, q1), (q2, q3)) Y = T := ⟨_, rfl⟩
              rw [hT] at hEs1
              obtain ⟨x0, x1⟩ := X
              obtain ⟨z0, z1⟩ := Y
              simp only at xa0 xa1 cv e0 e1 hEs1 hu
              have g0 : (0 : Int) ≤ (m : Int) := by omega
              have g1 : (m : Int) < 2 := by omega
              clear hB8 hxm hB ho
              have hX' := Lib.hid hX
              have hEs1' := Lib.hid hEs1
              have cv' := Lib.hid cv
              have hw8' := Lib.hid hw8
              have hb8' := Lib.hid hb8
              have ho8' := Lib.hid ho8
              have e0' := Lib.hid e0
              have e1' := Lib.hid e1
              have hx8' := Lib.hid hx8
              have hY' := Lib.hid hY
              have hT' := Lib.hid hT
              have hlen1' := Lib.hid hlen1
              have hu' := Lib.hid hu
              have hsn1' := Lib.hid hsn1
              have hg1' := Lib.hid hg1
              clear hX hEs1 cv hw8 hb8 ho8 e0 e1 hx8 hY hT hlen1 hu hsn1 hg1
              go_wp2_with fail
              rw [hw8'.out]
              clear xa0 xa1
              refine cv'.out.mono ?_
              rintro e w9 ⟨rfl, hB9⟩
              obtain ⟨w10, hw10⟩ : ∃ W, w9.alloc (.cells #[.int .i64 z0, .int .i64 z1] 42) = W := ⟨_, rfl⟩
              have hB10 : Below w8.heap.size w8 w10 := by rw [← hw10]; exact hB9.alloc hB9.size _
              have hb10 := hb8'.out.trans (hB10.mono hb8'.out.size)
              have ho10 := ho8'.out.below hB10
              have e0 := bkeep hB10 e0'.out
              have e1 := bkeep hB10 e1'.out
              have hx10 : w10.cell? ⟨ab, 0, none⟩ = some (.int .i64 p0) ∧ w10.cell? ⟨ab, 1, none⟩ = some (.int .i64 p1) ∧ w10.cell? ⟨ab, 2, none⟩ = some (.int .i64 p2) ∧ w10.cell? ⟨ab, 3, none⟩ = some (.int .i64 p3) := ⟨bkeep hB10 hx8'.out.1, bkeep hB10 hx8'.out.2.1, bkeep hB10 hx8'.out.2.2.1, bkeep hB10 hx8'.out.2.2.2⟩
              obtain ⟨k0, k1', k2', k3⟩ := xk5'.out.below hb10
              simp only at k0 k1' k2' k3
              have s0 : w10.cell? ⟨w9.heap.size, 0, none⟩ = some (.int .i64 z0) := by rw [← hw10]; simp [go_sem]
              have s1 : w10.cell? ⟨w9.heap.size, 1, none⟩ = some (.int .i64 z1) := by rw [← hw10]; simp [go_sem]
              clear hB9 hB10 ho8' hb8' e0' e1' hx8' cv'
              have hw10' := Lib.hid hw10
              have hb10' := Lib.hid hb10
              have ho10' := Lib.hid ho10
              have e0' := Lib.hid e0
              have e1' := Lib.hid e1
              have hx10' := Lib.hid hx10
              clear hw10 hb10 ho10 e0 e1 hx10
              go_upto_region 19 with fail
              rw [hw10'.out]
              go_cut [101, 103, 104, 105, 106, 107, 108, 109, 110] from 101 to 110 (fun _ _ _ _ _ _ _ _ s wx => wx = w10 ∧ s = .bool T)
              case first =>
                by_cases h0 : z0 = q0 ∧ z1 = q1
                · obtain ⟨rfl, rfl⟩ := h0
                  have hTt : Value.bool true = Value.bool T := by rw [← hT'.out]; unfold isEndB; simp
                  have hTt' := Lib.hid hTt
                  clear hTt
                  go_wp2
                  all_goals (go_meet; exact ⟨rfl, hTt'.out⟩)
                · have hd : decide ((z0, z1) = (q0, q1)) = false := decide_eq_false (fun e => h0 (Prod.mk.inj e))
                  have hTd : T = decide ((z0, z1) = (q2, q3)) := by
                    rw [← hT'.out]
                    show (decide ((z0, z1) = (q0, q1)) || decide ((z0, z1) = (q2, q3))) = _
                    rw [hd, Bool.false_or]
                  have hne : ¬ z0 = q0 ∨ z0 = q0 ∧ ¬ z1 = q1 := by
                    by_cases h : z0 = q0
                    · exact .inr ⟨h, fun e => h0 ⟨h, e⟩⟩
                    · exact .inl h
                  clear h0 hd
                  by_cases h2 : z0 = q2 ∧ z1 = q3
                  · have hTt : Value.bool true = Value.bool T := by rw [hTd, decide_eq_true (by rw [h2.1, h2.2])]
                    obtain ⟨rfl, rfl⟩ := h2
                    clear hTd
                    have hTt' := Lib.hid hTt
                    clear hTt
                    rcases hne with hne | ⟨rfl, hne⟩
                    · go_wp2
                      all_goals (go_meet; exact ⟨rfl, hTt'.out⟩)
                    · go_wp2
                      all_goals (go_meet; exact ⟨rfl, hTt'.out⟩)
                  · have hTt : Value.bool false = Value.bool T := by rw [hTd, decide_eq_false (fun e => h2 (Prod.mk.inj e))]
                    have hne2 : ¬ z0 = q2 ∨ z0 = q2 ∧ ¬ z1 = q3 := by
                      by_cases h : z0 = q2
                      · exact .inr ⟨h, fun e => h2 ⟨h, e⟩⟩
                      · exact .inl h
                    clear h2 hTd
                    have hTt' := Lib.hid hTt
                    clear hTt
                    rcases hne with hne | ⟨rfl, hne⟩ <;> rcases hne2 with hne2 | ⟨rfl, hne2⟩
                    all_goals
                      go_wp2
                      all_goals (go_meet; exact ⟨rfl, hTt'.out⟩)
              case rest =>
              obtain ⟨hwe, rfl⟩ := hcut
              subst hwe
              clear k0 k1' k2' k3 s0 s1 hw10'
              cases T
              · have hE : PL j ++ EL (m + 1) = PL j ++ EL m := by rw [hEs1'.out, if_neg (by decide)]
                have hh := ho10'.out
                rw [← hE] at hh
                clear hE ho10'
                have hh' := Lib.hid hh
                clear hh
                go_wp2
                go_roundw
                case rel => exact ⟨m + 1, by omega, by go_num, hh'.out, hb10'.out, hx10'.out⟩
                case measure => simp [intOf]; omega
              · have hE : mergeL [] (PL j ++ EL (m + 1)) = putR (mergeL [] (PL j ++ EL m)) (x0, x1) := by
                  rw [hEs1'.out, if_pos rfl, ← List.append_assoc]; exact hsn1'.out
                have cp := imPut_has w5.heap.size u14 (mergeL [] (PL j ++ EL m)) (x0, x1) _ ho10'.out hb10'.out.size hlen1'.out (unitR_good hu'.out) hg1'.out
                obtain ⟨f0, f1⟩ := And.intro e0'.out e1'.out
                clear e0' e1'
                have hE' := Lib.hid hE
                have cp' := Lib.hid cp
                clear hE cp
                go_wp2_with fail
                refine cp'.out.mono ?_
                rintro e w11 ⟨v11, rfl, hh11, hB11⟩
                have hb11 := hb10'.out.trans (hB11.mono hb10'.out.size)
                have hx11 : w11.cell? ⟨ab, 0, none⟩ = some (.int .i64 p0) ∧ w11.cell? ⟨ab, 1, none⟩ = some (.int .i64 p1) ∧ w11.cell? ⟨ab, 2, none⟩ = some (.int .i64 p2) ∧ w11.cell? ⟨ab, 3, none⟩ = some (.int .i64 p3) := ⟨bkeep hB11 hx10'.out.1, bkeep hB11 hx10'.out.2.1, bkeep hB11 hx10'.out.2.2.1, bkeep hB11 hx10'.out.2.2.2⟩
                rw [← hE'.out] at hh11
                clear hB11 f0 f1
                have hh11' := Lib.hid hh11
                have hb11' := Lib.hid hb11
                have hx11' := Lib.hid hx11
                clear hh11 hb11 hx11
                go_wp2
                go_roundw
                case rel => exact ⟨m + 1, by omega, by go_num, hh11'.out, hb11'.out, hx11'.out⟩
                case measure => simp [intOf]; omega
            · have hm2 : m = 2 := by omega
              have hm3 : ¬ (m : Int) < 2 := by omega
              have hRW := hRaw'.out j (by rw [hn'.out]; exact Nat.le_refl _)
              rw [hm2, hRW] at ho
              clear hm
              have hm2' := Lib.hid hm2
              clear hm2
              have hb12 := hb5'.out.trans (hB.mono hb5'.out.size)
              have xr12 := xr5'.out.grown (bgrow hB none) (by simp)
              have H12 := ho.2.read.form
              obtain ⟨SL, hSL⟩ : ∃ l, mergeL [] RW = l := ⟨_, rfl⟩
              obtain ⟨sn, hsn⟩ : ∃ sn, SL.length = sn := ⟨_, rfl⟩
              have hl9 : sn ≤ 1000000 := by
                have h1 := hPl'.out j
                have h2 := hEl'.out 2
                have h3 := merge_len (PL j ++ EL 2)
                rw [hRW, hSL, hsn, ← hRW, List.length_append] at h3
                omega
              have hV2 := hV1'.out
              have hat2 := hat1'.out
              have hDm2 := hDm'.out
              rw [hSL] at H12 hV2 hat2 hDm2
              rw [hsn] at H12 hV2
              obtain ⟨w12, hw12⟩ : ∃ W, wr = W := ⟨_, rfl⟩
              rw [hw12] at H12 xr12 hb12
              have hw12s : w.heap.size + 2 < w12.heap.size := by rw [← hw12]; omega
              obtain ⟨ao, cap, rfl, hcp, _, H⟩ := H12
              obtain ⟨RES, hRES⟩ : ∃ R, fstN DD (sn - 1) 1 = R := ⟨_, rfl⟩
              rw [hRES] at hV2
              clear ho hB hxm hsz xa' ho7' hb7' hw7' hV1' hat1' hDm' hRaw' hPl' hEl' hPg' hEg' hEs' hE0' hP0' xi5' xk5' xr5' oI1' oI2' hRW hSL hcp hb5'
              have H' := Lib.hid H
              have hsn' := Lib.hid hsn
              have hV2' := Lib.hid hV2
              have hat2' := Lib.hid hat2
              have hDm2' := Lib.hid hDm2
              have hRES' := Lib.hid hRES
              have xr12' := Lib.hid xr12
              have hb12' := Lib.hid hb12
              have hw12' := Lib.hid hw12
              clear H hsn hV2 hat2 hDm2 hRES xr12 hb12 hw12
              go_wp2
              go_loopw [21] (fun i W => ∃ m : Nat, i = .int .i64 ((m : Int) + 1) ∧ m ≤ sn ∧ fstN DD (sn - 1 - m) (m + 1) = RES ∧ Below w12.heap.size w12 W) (fun i _ => sn + 1 - (intOf i).toNat)
              case atStart => exact ⟨0, rfl, Nat.zero_le _, hRES'.out, by rw [hw12'.out]; exact Below.refl _ _⟩
              case round =>
                obtain ⟨m, rfl, hm, hfst, hB⟩ := hrel
                have hxw := xr12'.out.grown (bgrow hB none) (by simp)
                have hbw := hb12'.out.trans (hB.mono hb12'.out.size)
                by_cases h1 : m + 1 < sn
                · obtain ⟨b, off, rfl, a0, a1⟩ := H'.out m (by omega)
                  obtain ⟨q, hq⟩ : ∃ q : Nat, q = m + 1 := ⟨_, rfl⟩
                  rw [show (m : Int) + 1 = (q : Int) by omega]
                  rw [← hq] at h1
                  obtain ⟨_, _, e, c0, c1⟩ := H'.out q h1
                  cases e
                  have g0 : (0 : Int) ≤ (m : Int) := by omega
                  have g1 : (m : Int) < (sn : Int) := by omega
                  have g2 : (0 : Int) ≤ (q : Int) := by omega
                  have g3 : (q : Int) < (sn : Int) := by omega
                  have g4 : IntKind.i64.wrap ((q : Int) - 1) = (m : Int) := by rw [IntKind.wrap_i64]; omega
                  have g5 : IntKind.i64.wrap ((q : Int) + 1) = (q : Int) + 1 := by rw [IntKind.wrap_i64]; omega
                  have g6 : m < sn := by omega
                  have hms : nthR SL m ∈ SL := by rw [nthR_eq (by rw [hsn'.out]; omega)]; exact List.getElem_mem _
                  have hqs : nthR SL q ∈ SL := by rw [nthR_eq (by rw [hsn'.out]; omega)]; exact List.getElem_mem _
                  obtain ⟨uA, _, oA, _⟩ := hat2'.out _ hms
                  obtain ⟨uB, _, oB, _⟩ := hat2'.out _ hqs
                  have hD := hDm2'.out m
                  rw [← hq] at hD
                  have hf1 : sn - 1 - m = (sn - 1 - q) + 1 := by omega
                  rw [← hq, hf1] at hfst
                  have hyes := fun (h : DD q = true) => fstN_yes (D := DD) (r := sn - 1 - q) h
                  have hno := fun (h : DD q = false) => fstN_no (D := DD) (r := sn - 1 - q) h
                  have cvA := cV'.out (nthR SL m) wr uA oA hbw
                  have cvB := fun w' hB => cV'.out (nthR SL q) w' uB oB hB
                  replace a0 := bkeep hB a0
                  replace a1 := bkeep hB a1
                  replace c0 := bkeep hB c0
                  replace c1 := bkeep hB c1
                  obtain ⟨XA, hXA⟩ : ∃ X, nthR SL m = X := ⟨_, rfl⟩
                  obtain ⟨XB, hXB⟩ : ∃ X, nthR SL q = X := ⟨_, rfl⟩
                  rw [hXA] at cvA hD a0 a1
                  rw [hXB] at cvB hD c0 c1
                  obtain ⟨YA, hYA⟩ : ∃ X, atZ f XA = X := ⟨_, rfl⟩
                  obtain ⟨YB, hYB⟩ : ∃ X, atZ f XB = X := ⟨_, rfl⟩
                  rw [hYA] at cvA hD
                  rw [hYB] at cvB hD
                  obtain ⟨xa0, xa1⟩ := XA
                  obtain ⟨xb0, xb1⟩ := XB
                  obtain ⟨ya0, ya1⟩ := YA
                  obtain ⟨yb0, yb1⟩ := YB
                  simp only at cvA cvB a0 a1 c0 c1
                  clear hms hqs uA uB oA oB
                  have hq' := Lib.hid hq
                  have hfst' := Lib.hid hfst
                  have hD' := Lib.hid hD
                  have hyes' := Lib.hid hyes
                  have hno' := Lib.hid hno
                  have cvA' := Lib.hid cvA
                  have cvB' := Lib.hid cvB
                  have hXA' := Lib.hid hXA
                  have hXB' := Lib.hid hXB
                  have hYA' := Lib.hid hYA
                  have hYB' := Lib.hid hYB
                  have hf1' := Lib.hid hf1
                  have hbw' := Lib.hid hbw
                  clear hq hfst hD hyes hno cvA cvB hXA hXB hYA hYB hf1 hbw
                  clear hxw
                  go_wp2_with fail
                  refine cvA'.out.mono ?_
                  rintro e w13 ⟨rfl, hB13⟩
                  obtain ⟨w14, hw14⟩ : ∃ W, w13.alloc (.cells #[.int .i64 ya0, .int .i64 ya1] 42) = W := ⟨_, rfl⟩
                  have hB14 : Below wr.heap.size wr w14 := by rw [← hw14]; exact hB13.alloc hB13.size _
                  have s0 : w14.cell? ⟨w13.heap.size, 0, none⟩ = some (.int .i64 ya0) := by rw [← hw14]; simp [go_sem]
                  have s1 : w14.cell? ⟨w13.heap.size, 1, none⟩ = some (.int .i64 ya1) := by rw [← hw14]; simp [go_sem]
                  have cvB := cvB'.out w14 (hbw'.out.trans (hB14.mono hbw'.out.size))
                  have hlb : b < w13.heap.size := Nat.lt_of_lt_of_le (World.block_lt_of_cell? _ _ a0) hB13.size
                  have a0 := bkeep hB13 a0
                  have a1 := bkeep hB13 a1
                  have c0 := bkeep hB13 c0
                  have c1 := bkeep hB13 c1
                  clear hB13
                  have hw14' := Lib.hid hw14
                  have hB14' := Lib.hid hB14
                  have cvB' := Lib.hid cvB
                  have s0' := Lib.hid s0
                  have s1' := Lib.hid s1
                  clear hw14 hB14 cvB s0 s1
                  go_wp2_with fail
                  rw [hw14'.out]
                  refine cvB'.out.mono ?_
                  rintro e w15 ⟨rfl, hB15⟩
                  obtain ⟨w16, hw16⟩ : ∃ W, w15.alloc (.cells #[.int .i64 yb0, .int .i64 yb1] 42) = W := ⟨_, rfl⟩
                  have hB16 : Below w14.heap.size w14 w16 := by rw [← hw16]; exact hB15.alloc hB15.size _
                  have s0 := bkeep hB15 s0'.out
                  have s1 := bkeep hB15 s1'.out
                  have hls : w13.heap.size < w15.heap.size := World.block_lt_of_cell? _ _ s0
                  have hB17 : Below wr.heap.size wr w16 := hB14'.out.trans (hB16.mono hB14'.out.size)
                  have t0 := bkeep hB16 s0'.out
                  have t1 := bkeep hB16 s1'.out
                  have v0 : w16.cell? ⟨w15.heap.size, 0, none⟩ = some (.int .i64 yb0) := by rw [← hw16]; simp [go_sem]
                  have v1 : w16.cell? ⟨w15.heap.size, 1, none⟩ = some (.int .i64 yb1) := by rw [← hw16]; simp [go_sem]
                  clear hB15 hB16 s0' s1' cvA' cvB' hw14' a0 a1 c0 c1 s0 s1
                  have hw16' := Lib.hid hw16
                  have hB17' := Lib.hid hB17
                  clear hw16 hB17
                  go_upto_region 27 with fail
                  rw [hw16'.out]
                  by_cases hAB : ya0 = yb0 ∧ ya1 = yb1
                  · obtain ⟨rfl, rfl⟩ := hAB
                    have hDq : DD q = false := by rw [hD'.out]; simp
                    have hfst2 := (hno'.out hDq).symm.trans hfst'.out
                    have hb18 := hB.trans (hB17'.out.mono hB.size)
                    clear hD' hno' hyes' hfst' hDq hB
                    have hfst2' := Lib.hid hfst2
                    have hb18' := Lib.hid hb18
                    clear hfst2 hb18
                    go_wp2
                    go_roundw
                    case rel => exact ⟨q, by go_num, by omega, hfst2'.out, hb18'.out⟩
                    case measure => simp [intOf]; omega
                  · have hDq : DD q = true := by rw [hD'.out]; simp only [Bool.not_eq_true', decide_eq_false_iff_not]; exact fun e => hAB (Prod.mk.inj e)
                    have hR := hfst'.out.symm.trans (hyes'.out hDq)
                    have hV3 := hV2'.out
                    rw [hR] at hV3
                    have hqm : q - 1 = m := by have := hq'.out; omega
                    have hV4 : (((xa0, xa1), (xb0, xb1)), true) = V := by
                      rw [hV3, ← hXA'.out, ← hXB'.out]
                      show _ = ((nthR SL (q - 1), nthR SL q), true)
                      rw [hqm]
                    subst hV4
                    have hb18 := hB.trans (hB17'.out.mono hB.size)
                    have hbw := hb12'.out.trans (hb18.mono hb12'.out.size)
                    have hxw := xr12'.out.grown (bgrow hb18 none) (by simp)
                    obtain ⟨⟨n0, n1, n2, n3⟩, f0, f1, f2, f3⟩ := id hxw
                    have hbf := (below_set4 hbw hrbl ((xa0, xa1), (xb0, xb1))).drew
                    obtain ⟨_, _, e, a0, a1⟩ := H'.out m g6
                    cases e
                    obtain ⟨_, _, e, c0, c1⟩ := H'.out q h1
                    cases e
                    rw [hXA'.out] at a0 a1
                    rw [hXB'.out] at c0 c1
                    simp only at a0 a1 c0 c1
                    replace a0 := bkeep hb18 a0
                    replace a1 := bkeep hb18 a1
                    replace c0 := bkeep hb18 c0
                    replace c1 := bkeep hb18 c1
                    have hne : ¬ ya0 = yb0 ∨ ya0 = yb0 ∧ ¬ ya1 = yb1 := by
                      by_cases h : ya0 = yb0
                      · exact .inr ⟨h, fun e => hAB ⟨h, e⟩⟩
                      · exact .inl h
                    clear hV3 hD' hno' hyes' hfst' hDq hR hV2' hB hb18 hbw hxw hAB hB17'
                    have hbf' := Lib.hid hbf
                    clear hbf
                    rcases hne with hne | ⟨rfl, hne⟩
                    · go_wp2_with fail
                      go_region
                      all_goals
                        go_wp2
                        exact bodyPost_ret (v := .tuple #[quadV ((xa0, xa1), (xb0, xb1)), .bool true]) (by simp [results, Tryz.results17, go_sem, n0, n1, n2, n3, quadV]) rfl ⟨rfl, hbf'.out⟩
                    · go_wp2_with fail
                      go_region
                      all_goals
                        go_wp2
                        exact bodyPost_ret (v := .tuple #[quadV ((xa0, xa1), (xb0, xb1)), .bool true]) (by simp [results, Tryz.results17, go_sem, n0, n1, n2, n3, quadV]) rfl ⟨rfl, hbf'.out⟩
                · have hR : RES = none := by
                    rw [← hfst, show sn - 1 - m = 0 by omega]; rfl
                  have hV3 := hV2'.out
                  rw [hR] at hV3
                  have hV4 : (((0, 0), (0, 0)), false) = V := hV3.symm
                  subst hV4
                  have h1' : ¬ (m : Int) + 1 < (sn : Int) := by omega
                  clear hR hfst hV3 hV2'
                  obtain ⟨⟨n0, n1, n2, n3⟩, f0, f1, f2, f3⟩ := id hxw
                  have hbf := below_set4 hbw hrbl ((0, 0), (0, 0))
                  clear hxw hbw
                  have hbf' := Lib.hid hbf
                  clear hbf
                  go_wp2
                  exact bodyPost_ret (v := .tuple #[quadV ((0, 0), (0, 0)), .bool false]) (by simp [results, Tryz.results17, go_sem, n0, n1, n2, n3, quadV]) rfl ⟨rfl, hbf'.out⟩
end Go.Proofs.YtjkgilenhoomoaaGreat

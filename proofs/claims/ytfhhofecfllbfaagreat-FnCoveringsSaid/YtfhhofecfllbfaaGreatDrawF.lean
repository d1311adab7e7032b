/- Drawn maps, told loosely: some list of points. No conditions but small sizes. -/
import Derived.Test.YtfhhofecfllbfaaGreatDrawCuts
namespace Go.Proofs.YtfhhofecfllbfaaGreat
open Go.RowKit
set_option maxRecDepth 100000

theorem GrowP.kept {w w' : World} {B g : Nat} {v : Value} {xs : List Quad} (h : GrowP w B v xs) (hg : w.grownBy w' (some g)) (hgB : g < B) : GrowP w' B v xs :=
  World.ownsRow.kept h hg (.inr (fun e => by have := (World.ownsRow.lt h g e).1; omega))
theorem GrowP.mono {w : World} {B B' : Nat} {v : Value} {xs : List Quad} (h : GrowP w B v xs) (hB : B' ≤ B) : GrowP w B' v xs := World.ownsRow.mono h hB
theorem GrowP.off {w : World} {B c : Nat} {v : Value} {xs : List Quad} (h : GrowP w B v xs) (hc : c < B) : Off c v := by
  intro b off k cap e
  rcases h.2 with ⟨rfl, _⟩ | ⟨g, cap', cur, rfl, h1, _⟩
  · cases e
  · obtain ⟨e1, _, _⟩ := Value.slice.inj e
    cases e1
    omega
theorem GrowP.block {w : World} {B : Nat} {v : Value} {xs : List Quad} (h : GrowP w B v xs) : ∀ g, v.ownBlock = some g → B ≤ g := fun g hg => (World.ownsRow.lt h g hg).1
theorem GrowP.shape {w : World} {B : Nat} {v : Value} {xs : List Quad} (h : GrowP w B v xs) : ∃ ao cap, v = .slice ao xs.length cap := by
  obtain ⟨ao, cap, e, _⟩ := h.read.form
  exact ⟨ao, cap, e⟩
theorem GrowI.kept {w w' : World} {B g : Nat} {v : Value} {xs : List Quad} (h : GrowI w B v xs) (hg : w.grownBy w' (some g)) (hgB : g < B) : GrowI w' B v xs :=
  World.ownsRow.kept h hg (.inr (fun e => by have := (World.ownsRow.lt h g e).1; omega))
theorem GrowI.mono {w : World} {B B' : Nat} {v : Value} {xs : List Quad} (h : GrowI w B v xs) (hB : B' ≤ B) : GrowI w B' v xs := World.ownsRow.mono h hB
theorem GrowI.shape {w : World} {B : Nat} {v : Value} {xs : List Quad} (h : GrowI w B v xs) : ∃ ao cap, v = .slice ao xs.length cap := by
  obtain ⟨ao, cap, e, _⟩ := h.read.form
  exact ⟨ao, cap, e⟩
/-- Numbers of the machine. -/
def AllI (f : List Quad) : Prop := ∀ i, i < f.length → I64I (nth4 f i)
theorem AllI.nil : AllI [] := fun _ h => absurd h (Nat.not_lt_zero _)
theorem AllI.snoc {f : List Quad} {p : Quad} (h : AllI f) (hp : I64I p) : AllI (f ++ [p]) := fun i hi => by
  rw [List.length_append, List.length_singleton] at hi
  by_cases q : i < f.length
  · have : nth4 (f ++ [p]) i = nth4 f i := by unfold nth4; rw [List.getElem?_append_left q]
    rw [this]; exact h i q
  · obtain rfl : i = f.length := by omega
    have : nth4 (f ++ [p]) f.length = p := by unfold nth4; simp
    rw [this]; exact hp

/-- It returns a list of points of its own. -/
def PicksF (c N L : Nat) (w : World) (e : Ending) (w' : World) : Prop := ∃ v f, e = .returned v ∧ GrowP w' w.heap.size v f ∧ 1 ≤ f.length ∧ f.length ≤ L ∧ AllI f ∧ CurAt w' c N ∧ w.grownBy w' (some c)
/-- The state at the head of the loop that draws places. -/
def PlacesAt (c N : Nat) (w : World) (s t : Value) (wr : World) : Prop :=
  ∃ (xs : List (Int × Int)) (k : Nat), k ≤ 60 ∧ t = .int .i64 k ∧ GrowR wr w.heap.size s xs ∧ 2 ≤ xs.length ∧ xs.length ≤ 12 ∧ (∀ x, x ∈ xs → goodR x.1 x.2 = true) ∧ CurAt wr c (N + 10 + 2 * k) ∧ w.grownBy wr (some c)
/-- The state at the head of the loop that draws points at places. -/
def PointsAt (c N B : Nat) (w : World) (o : Value) (k : Nat) (wr : World) : Prop := ∃ f, GrowP wr B o f ∧ f.length = k ∧ AllI f ∧ CurAt wr c (N + 200 + 2 * k) ∧ w.grownBy wr (some c)

set_option linter.unusedSimpArgs false in
set_option maxHeartbeats 3200000 in
theorem imGrid_any (c N n : Nat) (w : World) (h : CurAt w c N) (hN : N ≤ 549755800000) (hn1 : 1 ≤ n) (hn2 : n ≤ 1000) :
    Calls Tryz.prog 189 #[.pointer (some ⟨c, 0, none⟩), .int .i64 n] w (PicksF c (N + 300) 12 w) := by
  have hlt := h.lt
  have c1 := among_list c N [0, 1, 1, 2, 3] w 5 h (by omega) rfl (by omega) (by omega)
  clear h
  have c1' := Lib.hid c1
  clear c1
  go_enter Tryz.func189, Tryz.ntmps189
  go_wp2_with fail
  refine (c1'.out).mono ?_
  rintro e w1 ⟨v, rfl, ⟨d, rfl, hd⟩, hc1, hg1⟩
  obtain ⟨m0, rfl, hm0⟩ : ∃ q : Nat, d = (q : Int) ∧ q ≤ 10 := ⟨d.toNat, by simp at hd; omega, by simp at hd; omega⟩
  go_wp2_with fail
  refine (one_any c _ 16 w1 hc1 (by omega) (by omega) (by omega)).mono ?_
  rintro e w2 ⟨v, rfl, ⟨b, rfl⟩, hc2, hg2⟩
  have g2 := hg1.trans hg2
  clear hd hc1 hg1 hg2
  have g2' := Lib.hid g2
  have hc2' := Lib.hid hc2
  clear g2 hc2
  go_upto_if 15 with fail
  go_cut [5] from 16 to 15 (fun s wx => wx = w2 ∧ ∃ m : Nat, m ≤ 10 ∧ s = .int .i64 m)
  case first =>
    cases b
    · go_wp2_with fail
      go_meet
      exact ⟨rfl, m0, hm0, rfl⟩
    · go_wp2_with fail
      go_meet
      exact ⟨rfl, 10, by omega, rfl⟩
  case rest =>
    obtain ⟨rfl, m, hm, rfl⟩ := hcut
    go_wp2_with fail
    refine (raInt_any 0 _).mono ?_
    rintro e w3 ⟨rfl, hB3⟩
    go_wp2_with fail
    refine (raInt_any 1 _).mono ?_
    rintro e w4 ⟨rfl, hB4⟩
    have hb4 := hB3.trans (hB4.mono hB3.size)
    have hs2 := g2'.out.size
    obtain ⟨w5, hw5⟩ : ∃ W, w4.alloc (.cells #[.int .i64 0, .int .i64 1, .int .i64 1, .int .i64 1] 42) = W := ⟨_, rfl⟩
    have hB5 : Below w4.heap.size w4 w5 := by rw [← hw5]; exact (Below.refl _ _).alloc (Nat.le_refl _) _
    have hG5 : GrowR w5 w.heap.size (.slice (some ⟨w4.heap.size, 0, none⟩) 2 2) [(0, 1), (1, 1)] := by rw [← hw5]; exact GrowR.put2 (Nat.le_trans hs2 hb4.size)
    have hb5 := hb4.trans (hB5.mono hb4.size)
    have hst : PlacesAt c N w (.slice (some ⟨w4.heap.size, 0, none⟩) 2 2) (.int .i64 0) w5 := ⟨[(0, 1), (1, 1)], 0, by omega, rfl, hG5, by decide, by decide, by
      intro x hx
      rcases List.mem_cons.1 hx with e | hx
      · subst e; decide
      · obtain rfl := List.mem_singleton.1 hx; decide, (hc2'.out.below hb5 hc2'.out.lt).mono (by omega), grown_below g2'.out hb5 hs2⟩
    clear hB3 hB4 hB5 hb4 hG5 hb5 hc2' g2'
    have hst' := Lib.hid hst
    have hw5' := Lib.hid hw5
    clear hst hw5
    go_wp2_with fail
    rw [hw5'.out]
    go_loopw [6, 7] (fun s t wr => PlacesAt c N w s t wr) (fun _ t _ => 60 - (intOf t).toNat)
    case atStart => exact hst'.out
    case round =>
      clear hst'
      obtain ⟨wo2, rfl⟩ : ∃ wo : World, wo = wr := ⟨_, rfl⟩
      obtain ⟨xs, k, hk, rfl, hG, hx2, hx10, hgd, hc, hg⟩ := hrel
      obtain ⟨g, cap, rfl, hrow⟩ := GrowF.form hG (by omega)
      have hbd : ∀ i, i < xs.length → BdR (nthR xs i).1 (nthR xs i).2 := fun i hi => good_bd (hgd _ (by rw [nthR_eq hi]; exact List.getElem_mem hi))
      have hput := fun x (hx : goodR x.1 x.2 = true) y (hy : y ∈ putR xs x) => show goodR y.1 y.2 = true from by
        rcases putR_of hy with q | q
        · exact hgd y q
        · rw [q]; exact hx
      have hpl := fun x => putR_len xs x
      have hgx := hrow.lt
      obtain ⟨p, hp⟩ : ∃ p, xs.length = p := ⟨_, rfl⟩
      rw [hp] at hx2 hx10 hG hpl ⊢
      have hsz := hg.size
      clear hrow
      have hgd' := Lib.hid hgd
      have hbd' := Lib.hid hbd
      have hput' := Lib.hid hput
      have hpl' := Lib.hid hpl
      have hp' := Lib.hid hp
      have hG' := Lib.hid hG
      have hg' := Lib.hid hg
      clear hgd hbd hput hpl hp hG hg
      have hcase : (p < m + 2 ∧ k < 60) ∨ (p < m + 2 ∧ k = 60) ∨ ¬ p < m + 2 := by omega
      rcases hcase with ⟨h1, h2⟩ | hout
      · have h1' : (p : Int) < (m : Int) + 2 := by omega
        go_wp2_with fail
        refine (gridRat_any c _ n wo2 hc (by omega) (by omega) (by omega)).mono ?_
        rintro e w8 ⟨⟨x, y⟩, rfl, hu, hc8, hg8⟩
        have hG8 := hG'.out.kept hg8 hlt
        have hu2 := unitR_good hu
        have hg9 := hg'.out.trans hg8
        have cp := imPut_own w.heap.size _ xs (x, y) w8 hG8 (by have := hp'.out; omega) hg9.size (by have := hp'.out; omega) (good_bd hu2) hbd'.out
        have hpu := hput'.out (x, y) hu2
        have hpl2 := hpl'.out (x, y)
        clear hg8 hG8 hu hu2 hc
        have cp' := Lib.hid cp
        have hpu' := Lib.hid hpu
        have hg9' := Lib.hid hg9
        clear cp hpu hg9
        go_wp2_with fail
        refine (cp'.out).mono ?_
        rintro e w9 ⟨v9, rfl, hG9, hB9⟩
        have hst : PlacesAt c N w v9 (.int .i64 ((k + 1 : Nat) : Int)) w9 := ⟨_, k + 1, by omega, rfl, hG9, by omega, by omega, hpu'.out, (hc8.below hB9 (by have := hg9'.out.size; omega)).mono (by omega), grown_below hg9'.out hB9 hg9'.out.size⟩
        obtain ⟨_, _, rfl, -⟩ := hG9.read.form
        clear hG9 hB9 hc8
        have hst' := Lib.hid hst
        clear hst
        go_wp2
        go_roundw
        case rel => simpa using hst'.out
        case measure => simp [intOf]; omega
      · have hr := hG'.out.read
        obtain ⟨_, _, e, _, _, H⟩ := hr.form
        obtain ⟨rfl, -, rfl⟩ := Value.slice.inj e
        rw [hp'.out] at H
        have hst : PointsAt c N wo2.heap.size w (.slice none 0 0) 0 wo2 := ⟨[], GrowP.nil _ _, rfl, AllI.nil, hc.mono (by omega), hg'.out⟩
        have hI : ∀ i, i < p → I64R (nthR xs i) := fun i hi => good_i64 (hgd'.out _ (by rw [nthR_eq (by rw [hp'.out]; exact hi)]; exact List.getElem_mem _))
        have hgne : some c ≠ some g := fun e => by have := Option.some.inj e; omega
        have hcl := hc.lt
        have hX : ∀ w' : World, wo2.grownBy w' (some c) → ∀ i, i < p → w'.cell? ⟨g, i * 2, none⟩ = some (.int .i64 (nthR xs i).1) ∧ w'.cell? ⟨g, i * 2 + 1, none⟩ = some (.int .i64 (nthR xs i).2) := fun w' hw i hi => by
          obtain ⟨_, _, e, c0, c1⟩ := H i hi
          cases e
          rw [Nat.zero_add] at c0 c1
          exact ⟨gcell hw c0 hgne, gcell hw c1 hgne⟩
        clear hr e H hG' hc
        have hst' := Lib.hid hst
        have hI' := Lib.hid hI
        have hX' := Lib.hid hX
        clear hst hI hX
        rcases hout with ⟨h1, hk60⟩ | h1
        · have h1' : (p : Int) < (m : Int) + 2 := by omega
          have hk61 : ¬ (k : Int) < 60 := by omega
          clear hk60
          go_wp2_with fail
          go_loopw [8, 37] (fun o i wr => ∃ k : Nat, k ≤ p ∧ i = .int .i64 k ∧ PointsAt c N wo2.heap.size w o k wr ∧ wo2.grownBy wr (some c)) (fun _ i _ => p - (intOf i).toNat)
          case atStart => exact ⟨0, Nat.zero_le _, rfl, hst'.out, World.grownBy.refl _ _⟩
          case round =>
            clear hst'
            obtain ⟨k, hk, rfl, ⟨f, hG, hfl, hfI, hc, hgw⟩, hgo⟩ := hrel
            obtain ⟨w6, rfl⟩ : ∃ wo : World, wo = wr := ⟨_, rfl⟩
            by_cases hlt2 : k < p
            · obtain ⟨d0, d1⟩ := hX'.out w6 hgo k hlt2
              have hxi := hI'.out k hlt2
              obtain ⟨⟨x0, x1⟩, hx⟩ : ∃ x, nthR xs k = x := ⟨_, rfl⟩
              rw [hx] at d0 d1 hxi
              simp only at d0 d1
              have q1 : (0 : Int) ≤ (k : Int) := by omega
              have q2 : (k : Int) < (p : Int) := by omega
              obtain ⟨w7, hw7⟩ : ∃ W, w6.alloc (.cells #[.int .i64 x0, .int .i64 x1] 42) = W := ⟨_, rfl⟩
              have hB7 : Below w6.heap.size w6 w7 := by rw [← hw7]; exact (Below.refl _ _).alloc (Nat.le_refl _) _
              have a0 : w7.cell? ⟨w6.heap.size, 0, none⟩ = some (.int .i64 x0) := by rw [← hw7]; simp [go_sem]
              have a1 : w7.cell? ⟨w6.heap.size, 1, none⟩ = some (.int .i64 x1) := by rw [← hw7]; simp [go_sem]
              have hc7 : CurAt w7.drew c (N + 200 + 2 * k) := (hc.below hB7 hc.lt).heap rfl
              have hG7 : GrowP w7.drew wo2.heap.size u8 f := hG.below hB7.drew
              have hgA : w7.grownBy w7.drew (some c) := bgrow ((Below.refl _ _).drew) _
              have hcne : some c ≠ some w6.heap.size := fun e => by have := Option.some.inj e; have := hc.lt; omega
              have at' : ∀ w', w7.grownBy w' (some c) → w'.cell? ⟨w6.heap.size, 0, none⟩ = some (.int .i64 x0) ∧ w'.cell? ⟨w6.heap.size, 1, none⟩ = some (.int .i64 x1) := fun w' h => ⟨gcell h a0 hcne, gcell h a1 hcne⟩
              have hne : u8.ownBlock ≠ some w6.heap.size := fun e => by have := (World.ownsRow.lt hG _ e).2; omega
              have hblk := hG.block
              have hfl2 : f.length ≤ 1099511627776 := by omega
              have hsz7 : wo2.heap.size ≤ w7.heap.size := Nat.le_trans hgo.size hB7.size
              have hg07 := hgw.trans (bgrow hB7 (some c))
              have hgo7 := hgo.trans (bgrow hB7 (some c))
              clear a0 a1 hG hc hB7 hgw hgo
              have hw7' := Lib.hid hw7
              have hc7' := Lib.hid hc7
              have hG7' := Lib.hid hG7
              have at'' := Lib.hid at'
              have hfl2' := Lib.hid hfl2
              have hg07' := Lib.hid hg07
              have hgo7' := Lib.hid hgo7
              have hfl' := Lib.hid hfl
              have hfI' := Lib.hid hfI
              have hxi' := Lib.hid hxi
              have hx' := Lib.hid hx
              have hblk' := Lib.hid hblk
              clear hw7 hc7 hG7 at' hfl2 hg07 hgo7 hfl hfI hxi hx hblk
              go_wp2_with fail
              rw [hw7'.out]
              clear d0 d1
              go_wp2_with fail
              refine wp_region_held_drew (S := (fun w' => w'.cell? ⟨w6.heap.size, 0, none⟩ = some (.int .i64 x0) ∧ w'.cell? ⟨w6.heap.size, 1, none⟩ = some (.int .i64 x1))) (by kernel_rfl) (by (try dsimp only); (first | exact at''.out _ hgA | exact at''.out _ hgB | exact at''.out _ hgC | exact hD)) (fun hHeld => ?_)
              refine ly_q 0 (v := ?_) hHeld ?_
              try simp only [Act.put, lyA, lyB, lyC]
              refine ly_q 1 (v := ?_) hHeld ?_
              try simp only [Act.put, lyA, lyB, lyC]
              refine ly_q 2 (v := ?_) hHeld ?_
              try simp only [Act.put, lyA, lyB, lyC]
              refine ly_q 3 (v := ?_) hHeld ?_
              try simp only [Act.put, lyA, lyB, lyC]
              refine ly_a 4 (fun KK hKK => ?_)
              go_simp
              refine (gridRat_any c _ n _ hc7'.out (by omega) hn1 hn2).mono ?_
              rintro e w8 ⟨⟨y0, y1⟩, rfl, hu, hc8, hg8⟩
              have hgB := hgA.trans hg8
              have hG8 := hG7'.out.kept hg8 hcl
              try dsimp only
              refine hKK.out _ _ (by (try dsimp only); (first | exact at''.out _ hgA | exact at''.out _ hgB | exact at''.out _ hgC | exact hD)) (fun hHeld => ?_)
              clear hKK KK
              try simp only [Act.put, lyA, lyB, lyC]
              refine ly_q 5 (v := ?_) hHeld ?_
              try simp only [Act.put, lyA, lyB, lyC]
              refine ly_a 6 (fun KK hKK => ?_)
              go_simp
              have hgC := hgB.trans (bgrow ((Below.refl w8.heap.size w8).alloc (Nat.le_refl _) (.cells #[.int .i64 x0, .int .i64 x1, .int .i64 y0, .int .i64 y1] 80)) (some c))
              try dsimp only
              refine hKK.out _ _ (by (try dsimp only); (first | exact at''.out _ hgA | exact at''.out _ hgB | exact at''.out _ hgC | exact hD)) (fun hHeld => ?_)
              clear hKK KK
              try simp only [Act.put, lyA, lyB, lyC]
              refine ly_a 7 (fun KK hKK => ?_)
              refine wp_append_P _ _ rfl wo2.heap.size u8 f x0 x1 y0 y1 _ rfl rfl hG8 hfl2'.out (Nat.le_trans hsz7 hgB.size) ?_
              intro v9 w9 hG9 hgr
              have hD : w9.cell? ⟨w6.heap.size, 0, none⟩ = some (.int .i64 x0) ∧ w9.cell? ⟨w6.heap.size, 1, none⟩ = some (.int .i64 x1) := ⟨gcell hgr (at''.out _ hgB).1 hne, gcell hgr (at''.out _ hgB).2 hne⟩
              try dsimp only
              refine hKK.out _ _ (by (try dsimp only); (first | exact at''.out _ hgA | exact at''.out _ hgB | exact at''.out _ hgC | exact hD)) (fun hHeld => ?_)
              clear hKK KK
              try simp only [Act.put, lyA, lyB, lyC]
              refine ly_q 8 (v := ?_) hHeld ?_
              try simp only [Act.put, lyA, lyB, lyC]
              refine wpAnyH_done (by kernel_rfl) ?_ _
              have hst : PointsAt c N wo2.heap.size w v9 (k + 1) w9 ∧ wo2.grownBy w9 (some c) := ⟨⟨_, hG9, by rw [List.length_append, hfl'.out]; rfl, hfI'.out.snoc ⟨hxi'.out, unit_i64 hu⟩, (hc8.kept hgr (fun g e => Nat.lt_of_lt_of_le hcl (hblk'.out g e))).mono (by omega), grown_new (hg07'.out.trans hgB) hgr (fun g e => Nat.le_trans hsz (hblk'.out g e))⟩, grown_new (hgo7'.out.trans hgB) hgr (hblk'.out)⟩
              obtain ⟨_, _, rfl⟩ := hG9.shape
              clear hG9 hgr hc8 hu hD hG8 hHeld
              have hst' := Lib.hid hst
              clear hst
              go_wp2
              go_roundw
              case rel => exact ⟨k + 1, by omega, by go_num, hst'.out⟩
              case measure => simp [intOf]; omega
            · obtain rfl : k = p := by omega
              obtain ⟨ao9, cap9, rfl⟩ := hG.shape
              have hG9 := hG.mono hsz
              clear hG
              have hG9' := Lib.hid hG9
              have hfl' := Lib.hid hfl
              have hfI' := Lib.hid hfI
              have hc' := Lib.hid hc
              have hgw' := Lib.hid hgw
              clear hG9 hfl hfI hc hgw
              go_wp2
              go_ret
              exact ⟨_, f, rfl, hG9'.out, by rw [hfl'.out]; omega, by rw [hfl'.out]; omega, hfI'.out, hc'.out.mono (by omega), hgw'.out⟩
        · have h1' : ¬ (p : Int) < (m : Int) + 2 := by omega
          go_wp2_with fail
          go_loopw [8, 37] (fun o i wr => ∃ k : Nat, k ≤ p ∧ i = .int .i64 k ∧ PointsAt c N wo2.heap.size w o k wr ∧ wo2.grownBy wr (some c)) (fun _ i _ => p - (intOf i).toNat)
          case atStart => exact ⟨0, Nat.zero_le _, rfl, hst'.out, World.grownBy.refl _ _⟩
          case round =>
            clear hst'
            obtain ⟨k, hk, rfl, ⟨f, hG, hfl, hfI, hc, hgw⟩, hgo⟩ := hrel
            obtain ⟨w6, rfl⟩ : ∃ wo : World, wo = wr := ⟨_, rfl⟩
            by_cases hlt2 : k < p
            · obtain ⟨d0, d1⟩ := hX'.out w6 hgo k hlt2
              have hxi := hI'.out k hlt2
              obtain ⟨⟨x0, x1⟩, hx⟩ : ∃ x, nthR xs k = x := ⟨_, rfl⟩
              rw [hx] at d0 d1 hxi
              simp only at d0 d1
              have q1 : (0 : Int) ≤ (k : Int) := by omega
              have q2 : (k : Int) < (p : Int) := by omega
              obtain ⟨w7, hw7⟩ : ∃ W, w6.alloc (.cells #[.int .i64 x0, .int .i64 x1] 42) = W := ⟨_, rfl⟩
              have hB7 : Below w6.heap.size w6 w7 := by rw [← hw7]; exact (Below.refl _ _).alloc (Nat.le_refl _) _
              have a0 : w7.cell? ⟨w6.heap.size, 0, none⟩ = some (.int .i64 x0) := by rw [← hw7]; simp [go_sem]
              have a1 : w7.cell? ⟨w6.heap.size, 1, none⟩ = some (.int .i64 x1) := by rw [← hw7]; simp [go_sem]
              have hc7 : CurAt w7.drew c (N + 200 + 2 * k) := (hc.below hB7 hc.lt).heap rfl
              have hG7 : GrowP w7.drew wo2.heap.size u8 f := hG.below hB7.drew
              have hgA : w7.grownBy w7.drew (some c) := bgrow ((Below.refl _ _).drew) _
              have hcne : some c ≠ some w6.heap.size := fun e => by have := Option.some.inj e; have := hc.lt; omega
              have at' : ∀ w', w7.grownBy w' (some c) → w'.cell? ⟨w6.heap.size, 0, none⟩ = some (.int .i64 x0) ∧ w'.cell? ⟨w6.heap.size, 1, none⟩ = some (.int .i64 x1) := fun w' h => ⟨gcell h a0 hcne, gcell h a1 hcne⟩
              have hne : u8.ownBlock ≠ some w6.heap.size := fun e => by have := (World.ownsRow.lt hG _ e).2; omega
              have hblk := hG.block
              have hfl2 : f.length ≤ 1099511627776 := by omega
              have hsz7 : wo2.heap.size ≤ w7.heap.size := Nat.le_trans hgo.size hB7.size
              have hg07 := hgw.trans (bgrow hB7 (some c))
              have hgo7 := hgo.trans (bgrow hB7 (some c))
              clear a0 a1 hG hc hB7 hgw hgo
              have hw7' := Lib.hid hw7
              have hc7' := Lib.hid hc7
              have hG7' := Lib.hid hG7
              have at'' := Lib.hid at'
              have hfl2' := Lib.hid hfl2
              have hg07' := Lib.hid hg07
              have hgo7' := Lib.hid hgo7
              have hfl' := Lib.hid hfl
              have hfI' := Lib.hid hfI
              have hxi' := Lib.hid hxi
              have hx' := Lib.hid hx
              have hblk' := Lib.hid hblk
              clear hw7 hc7 hG7 at' hfl2 hg07 hgo7 hfl hfI hxi hx hblk
              go_wp2_with fail
              rw [hw7'.out]
              clear d0 d1
              go_wp2_with fail
              refine wp_region_held_drew (S := (fun w' => w'.cell? ⟨w6.heap.size, 0, none⟩ = some (.int .i64 x0) ∧ w'.cell? ⟨w6.heap.size, 1, none⟩ = some (.int .i64 x1))) (by kernel_rfl) (by (try dsimp only); (first | exact at''.out _ hgA | exact at''.out _ hgB | exact at''.out _ hgC | exact hD)) (fun hHeld => ?_)
              refine ly_q 0 (v := ?_) hHeld ?_
              try simp only [Act.put, lyA, lyB, lyC]
              refine ly_q 1 (v := ?_) hHeld ?_
              try simp only [Act.put, lyA, lyB, lyC]
              refine ly_q 2 (v := ?_) hHeld ?_
              try simp only [Act.put, lyA, lyB, lyC]
              refine ly_q 3 (v := ?_) hHeld ?_
              try simp only [Act.put, lyA, lyB, lyC]
              refine ly_a 4 (fun KK hKK => ?_)
              go_simp
              refine (gridRat_any c _ n _ hc7'.out (by omega) hn1 hn2).mono ?_
              rintro e w8 ⟨⟨y0, y1⟩, rfl, hu, hc8, hg8⟩
              have hgB := hgA.trans hg8
              have hG8 := hG7'.out.kept hg8 hcl
              try dsimp only
              refine hKK.out _ _ (by (try dsimp only); (first | exact at''.out _ hgA | exact at''.out _ hgB | exact at''.out _ hgC | exact hD)) (fun hHeld => ?_)
              clear hKK KK
              try simp only [Act.put, lyA, lyB, lyC]
              refine ly_q 5 (v := ?_) hHeld ?_
              try simp only [Act.put, lyA, lyB, lyC]
              refine ly_a 6 (fun KK hKK => ?_)
              go_simp
              have hgC := hgB.trans (bgrow ((Below.refl w8.heap.size w8).alloc (Nat.le_refl _) (.cells #[.int .i64 x0, .int .i64 x1, .int .i64 y0, .int .i64 y1] 80)) (some c))
              try dsimp only
              refine hKK.out _ _ (by (try dsimp only); (first | exact at''.out _ hgA | exact at''.out _ hgB | exact at''.out _ hgC | exact hD)) (fun hHeld => ?_)
              clear hKK KK
              try simp only [Act.put, lyA, lyB, lyC]
              refine ly_a 7 (fun KK hKK => ?_)
              refine wp_append_P _ _ rfl wo2.heap.size u8 f x0 x1 y0 y1 _ rfl rfl hG8 hfl2'.out (Nat.le_trans hsz7 hgB.size) ?_
              intro v9 w9 hG9 hgr
              have hD : w9.cell? ⟨w6.heap.size, 0, none⟩ = some (.int .i64 x0) ∧ w9.cell? ⟨w6.heap.size, 1, none⟩ = some (.int .i64 x1) := ⟨gcell hgr (at''.out _ hgB).1 hne, gcell hgr (at''.out _ hgB).2 hne⟩
              try dsimp only
              refine hKK.out _ _ (by (try dsimp only); (first | exact at''.out _ hgA | exact at''.out _ hgB | exact at''.out _ hgC | exact hD)) (fun hHeld => ?_)
              clear hKK KK
              try simp only [Act.put, lyA, lyB, lyC]
              refine ly_q 8 (v := ?_) hHeld ?_
              try simp only [Act.put, lyA, lyB, lyC]
              refine wpAnyH_done (by kernel_rfl) ?_ _
              have hst : PointsAt c N wo2.heap.size w v9 (k + 1) w9 ∧ wo2.grownBy w9 (some c) := ⟨⟨_, hG9, by rw [List.length_append, hfl'.out]; rfl, hfI'.out.snoc ⟨hxi'.out, unit_i64 hu⟩, (hc8.kept hgr (fun g e => Nat.lt_of_lt_of_le hcl (hblk'.out g e))).mono (by omega), grown_new (hg07'.out.trans hgB) hgr (fun g e => Nat.le_trans hsz (hblk'.out g e))⟩, grown_new (hgo7'.out.trans hgB) hgr (hblk'.out)⟩
              obtain ⟨_, _, rfl⟩ := hG9.shape
              clear hG9 hgr hc8 hu hD hG8 hHeld
              have hst' := Lib.hid hst
              clear hst
              go_wp2
              go_roundw
              case rel => exact ⟨k + 1, by omega, by go_num, hst'.out⟩
              case measure => simp [intOf]; omega
            · obtain rfl : k = p := by omega
              obtain ⟨ao9, cap9, rfl⟩ := hG.shape
              have hG9 := hG.mono hsz
              clear hG
              have hG9' := Lib.hid hG9
              have hfl' := Lib.hid hfl
              have hfI' := Lib.hid hfI
              have hc' := Lib.hid hc
              have hgw' := Lib.hid hgw
              clear hG9 hfl hfI hc hgw
              go_wp2
              go_ret
              exact ⟨_, f, rfl, hG9'.out, by rw [hfl'.out]; omega, by rw [hfl'.out]; omega, hfI'.out, hc'.out.mono (by omega), hgw'.out⟩
end Go.Proofs.YtfhhofecfllbfaaGreat

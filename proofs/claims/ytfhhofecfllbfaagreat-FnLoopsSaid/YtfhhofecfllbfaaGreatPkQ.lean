/- Several texts in one: DrawF DrawF2 DrawF3. No conditions but those that each theorem states. -/
import Derived.Test.YtfhhofecfllbfaaGreatPkP
import Derived.Test.YtfhhofecfllbfaaGreatPkU
namespace Go.Proofs.YtfhhofecfllbfaaGreat
open Go.RowKit
set_option maxRecDepth 100000
theorem GrowP.kept {w w' : World} {B g : Nat} {v : Value} {xs : List Quad} (h : GrowP w B v xs) (hg : w.grownBy w' (some g)) (hgB : g < B) : GrowP w' B v xs :=
 World.ownsRow.kept h hg (.inr (fun e => by have := (World.ownsRow.lt h g e).1; omega))
theorem GrowP.mono {w : World} {B B' : Nat} {v : Value} {xs : List Quad} (h : GrowP w B v xs) (hB : B' ≤ B) : GrowP w B' v xs := World.ownsRow.mono h hB
theorem GrowP.off {w : World} {B c : Nat} {v : Value} {xs : List Quad} (h : GrowP w B v xs) (hc : c < B) : Off c v := by
 intro b off k cap e
 rcases h.2 with ⟨rfl, _⟩ | ⟨g, cap', cur, rfl, h1, _⟩
 ·cases e
 ·obtain ⟨e1, _, _⟩ := Value.slice.inj e
  cases e1
  omega
theorem GrowP.block {w : World} {B : Nat} {v : Value} {xs : List Quad} (h : GrowP w B v xs) : ∀ g, v.ownBlock = some g → B ≤ g := fun g hg => (World.ownsRow.lt h g hg).1
theorem GrowP.shape {w : World} {B : Nat} {v : Value} {xs : List Quad} (h : GrowP w B v xs) : ∃ ao cap, v = .slice ao xs.length cap := by
 obtain ⟨ao, cap, e, _⟩ := h.read.form
 exact ⟨ao, cap, e⟩
theorem GrowI.kept {w w' : World} {B g : Nat} {v : Value} {xs : List Quad} (h : GrowI w B v xs) (hg : w.grownBy w' (some g)) (hgB : g < B) : GrowI w' B v xs :=
 World.ownsRow.kept h hg (.inr (fun e => by have := (World.ownsRow.lt h g e).1; omega))
theorem GrowI.mono {w : World} {B B' : Nat} {v : Value} {xs : List Quad} (h : GrowI w B v xs) (hB : B' ≤ B) : GrowI w B' v xs := World.ownsRow.mono h hB
theorem GrowI.shape {w : World} {B : Nat} {v : Value} {xs : List Quad} (h : GrowI w B v xs) : ∃ ao cap, v = .slice ao xs.length cap := by
 obtain ⟨ao, cap, e, _⟩ := h.read.form
 exact ⟨ao, cap, e⟩
def AllI (f : List Quad) : Prop := ∀ i, i < f.length → I64I (nth4 f i)
theorem AllI.nil : AllI [] := fun _ h => absurd h (Nat.not_lt_zero _)
theorem AllI.snoc {f : List Quad} {p : Quad} (h : AllI f) (hp : I64I p) : AllI (f ++ [p]) := fun i hi => by
 rw [List.length_append, List.length_singleton] at hi
 by_cases q : i < f.length
 ·have : nth4 (f ++ [p]) i = nth4 f i := by unfold nth4; rw [List.getElem?_append_left q]
  rw [this]; exact h i q
 ·obtain rfl : i = f.length := by omega
  have : nth4 (f ++ [p]) f.length = p := by unfold nth4; simp
  rw [this]; exact hp
def PicksF (c N L : Nat) (w : World) (e : Ending) (w' : World) : Prop := ∃ v f, e = .returned v ∧ GrowP w' w.heap.size v f ∧ 1 ≤ f.length ∧ f.length ≤ L ∧ AllI f ∧ CurAt w' c N ∧ w.grownBy w' (some c)
def PlacesAt (c N : Nat) (w : World) (s t : Value) (wr : World) : Prop :=
 ∃ (xs : List (Int × Int)) (k : Nat), k ≤ 60 ∧ t = .int .i64 k ∧ GrowR wr w.heap.size s xs ∧ 2 ≤ xs.length ∧ xs.length ≤ 12 ∧ (∀ x, x ∈ xs → goodR x.1 x.2 = true) ∧ CurAt wr c (N + 10 + 2 * k) ∧ w.grownBy wr (some c)
def PointsAt (c N B : Nat) (w : World) (o : Value) (k : Nat) (wr : World) : Prop := ∃ f, GrowP wr B o f ∧ f.length = k ∧ AllI f ∧ CurAt wr c (N + 200 + 2 * k) ∧ w.grownBy wr (some c)
set_option linter.unusedSimpArgs false in
set_option maxHeartbeats 3200000 in
theorem imGrid_any (c N n : Nat) (w : World) (h : CurAt w c N) (hN : N ≤ 549755800000) (hn1 : 1 ≤ n) (hn2 : n ≤ 1000) :
  Calls Tryz.prog 189 #[.pointer (some ⟨c, 0, none⟩), .int .i64 n] w (PicksF c (N + 300) 12 w) := by
 have hlt := h.lt
 have c1 := among_list c N [0, 1, 1, 2, 3] w 5 h (by omega) rfl (by omega) (by omega)
 clear h
 have c1' := Lib.hid c1; clear c1
 go_enter Tryz.func189, Tryz.ntmps189
 go_wp2_with fail
 refine (c1'.out).mono ?_
 rintro e w1 ⟨v, rfl, ⟨d, rfl, hd⟩, hc1, hg1⟩
 obtain ⟨m0, rfl, hm0⟩ : ∃ q : Nat, d = (q : Int) ∧ q ≤ 10 := ⟨d.toNat, by simp at hd; omega, by simp at hd; omega⟩
 go_wp2_with fail
 refine (one_any c _ 16 w1 hc1 (by omega) (by omega) (by omega)).mono ?_
 rintro e w2 ⟨v, rfl, ⟨b, rfl⟩, hc2, hg2⟩
 have g2 := hg1.trans hg2
 clear hd hc1 hg1 hg2
 have g2' := Lib.hid g2; have hc2' := Lib.hid hc2; clear g2 hc2
 go_upto_if 15 with fail
 go_cut [5] from 16 to 15 (fun s wx => wx = w2 ∧ ∃ m : Nat, m ≤ 10 ∧ s = .int .i64 m)
 case first =>
  cases b
  ·go_wp2_with fail
   go_meet
   exact ⟨rfl, m0, hm0, rfl⟩
  ·go_wp2_with fail
   go_meet
   exact ⟨rfl, 10, by omega, rfl⟩
 case rest =>
  obtain ⟨rfl, m, hm, rfl⟩ := hcut
  go_wp2_with fail
  refine (raInt_any 0 _).mono ?_
  rintro e w3 ⟨rfl, hB3⟩
  go_wp2_with fail
  refine (raInt_any 1 _).mono ?_
  rintro e w4 ⟨rfl, hB4⟩
  have hb4 := hB3.trans (hB4.mono hB3.size)
  have hs2 := g2'.out.size
  obtain ⟨w5, hw5⟩ : ∃ W, w4.alloc (.cells #[.int .i64 0, .int .i64 1, .int .i64 1, .int .i64 1] 42) = W := ⟨_, rfl⟩
  have hB5 : Below w4.heap.size w4 w5 := by rw [← hw5]; exact (Below.refl _ _).alloc (Nat.le_refl _) _
  have hG5 : GrowR w5 w.heap.size (.slice (some ⟨w4.heap.size, 0, none⟩) 2 2) [(0, 1), (1, 1)] := by rw [← hw5]; exact GrowR.put2 (Nat.le_trans hs2 hb4.size)
  have hb5 := hb4.trans (hB5.mono hb4.size)
  have hst : PlacesAt c N w (.slice (some ⟨w4.heap.size, 0, none⟩) 2 2) (.int .i64 0) w5 := ⟨[(0, 1), (1, 1)], 0, by omega, rfl, hG5, by decide, by decide, by
   intro x hx
   rcases List.mem_cons.1 hx with e | hx
   ·subst e; decide
   ·obtain rfl := List.mem_singleton.1 hx; decide, (hc2'.out.below hb5 hc2'.out.lt).mono (by omega), grown_below g2'.out hb5 hs2⟩
  clear hB3 hB4 hB5 hb4 hG5 hb5 hc2' g2'
  have hst' := Lib.hid hst; have hw5' := Lib.hid hw5; clear hst hw5
  go_wp2_with fail
  rw [hw5'.out]
  go_loopw [6, 7] (fun s t wr => PlacesAt c N w s t wr) (fun _ t _ => 60 - (intOf t).toNat)
  case atStart => exact hst'.out
  case round =>
   clear hst'
   obtain ⟨wo2, rfl⟩ : ∃ wo : World, wo = wr := ⟨_, rfl⟩
   obtain ⟨xs, k, hk, rfl, hG, hx2, hx10, hgd, hc, hg⟩ := hrel
   obtain ⟨g, cap, rfl, hrow⟩ := GrowF.form hG (by omega)
   have hbd : ∀ i, i < xs.length → BdR (nthR xs i).1 (nthR xs i).2 := fun i hi => good_bd (hgd _ (by rw [nthR_eq hi]; exact List.getElem_mem hi))
   have hput := fun x (hx : goodR x.1 x.2 = true) y (hy : y ∈ putR xs x) => show goodR y.1 y.2 = true from by
    rcases putR_of hy with q | q
    ·exact hgd y q
    ·rw [q]; exact hx
   have hpl := fun x => putR_len xs x
   have hgx := hrow.lt
   obtain ⟨p, hp⟩ : ∃ p, xs.length = p := ⟨_, rfl⟩
   rw [hp] at hx2 hx10 hG hpl ⊢
   have hsz := hg.size
   clear hrow
   have hgd' := Lib.hid hgd; have hbd' := Lib.hid hbd; have hput' := Lib.hid hput; have hpl' := Lib.hid hpl; have hp' := Lib.hid hp; have hG' := Lib.hid hG; have hg' := Lib.hid hg; clear hgd hbd hput hpl hp hG hg
   have hcase : (p < m + 2 ∧ k < 60) ∨ (p < m + 2 ∧ k = 60) ∨ ¬ p < m + 2 := by omega
   rcases hcase with ⟨h1, h2⟩ | hout
   ·have h1' : (p : Int) < (m : Int) + 2 := by omega
    go_wp2_with fail
    refine (gridRat_any c _ n wo2 hc (by omega) (by omega) (by omega)).mono ?_
    rintro e w8 ⟨⟨x, y⟩, rfl, hu, hc8, hg8⟩
    have hG8 := hG'.out.kept hg8 hlt
    have hu2 := unitR_good hu
    have hg9 := hg'.out.trans hg8
    have cp := imPut_own w.heap.size _ xs (x, y) w8 hG8 (by have := hp'.out; omega) hg9.size (by have := hp'.out; omega) (good_bd hu2) hbd'.out
    have hpu := hput'.out (x, y) hu2
    have hpl2 := hpl'.out (x, y)
    clear hg8 hG8 hu hu2 hc
    have cp' := Lib.hid cp; have hpu' := Lib.hid hpu; have hg9' := Lib.hid hg9; clear cp hpu hg9
    go_wp2_with fail
    refine (cp'.out).mono ?_
    rintro e w9 ⟨v9, rfl, hG9, hB9⟩
    have hst : PlacesAt c N w v9 (.int .i64 ((k + 1 : Nat) : Int)) w9 := ⟨_, k + 1, by omega, rfl, hG9, by omega, by omega, hpu'.out, (hc8.below hB9 (by have := hg9'.out.size; omega)).mono (by omega), grown_below hg9'.out hB9 hg9'.out.size⟩
    obtain ⟨_, _, rfl, -⟩ := hG9.read.form
    clear hG9 hB9 hc8
    have hst' := Lib.hid hst; clear hst
    go_wp2
    go_roundw
    case rel => simpa using hst'.out
    case measure => simp [intOf]; omega
   ·have hr := hG'.out.read
    obtain ⟨_, _, e, _, _, H⟩ := hr.form
    obtain ⟨rfl, -, rfl⟩ := Value.slice.inj e
    rw [hp'.out] at H
    have hst : PointsAt c N wo2.heap.size w (.slice none 0 0) 0 wo2 := ⟨[], GrowP.nil _ _, rfl, AllI.nil, hc.mono (by omega), hg'.out⟩
    have hI : ∀ i, i < p → I64R (nthR xs i) := fun i hi => good_i64 (hgd'.out _ (by rw [nthR_eq (by rw [hp'.out]; exact hi)]; exact List.getElem_mem _))
    have hgne : some c ≠ some g := fun e => by have := Option.some.inj e; omega
    have hcl := hc.lt
    have hX : ∀ w' : World, wo2.grownBy w' (some c) → ∀ i, i < p → w'.cell? ⟨g, i * 2, none⟩ = some (.int .i64 (nthR xs i).1) ∧ w'.cell? ⟨g, i * 2 + 1, none⟩ = some (.int .i64 (nthR xs i).2) := fun w' hw i hi => by
     obtain ⟨_, _, e, c0, c1⟩ := H i hi
     cases e
     rw [Nat.zero_add] at c0 c1
     exact ⟨gcell hw c0 hgne, gcell hw c1 hgne⟩
    clear hr e H hG' hc
    have hst' := Lib.hid hst; have hI' := Lib.hid hI; have hX' := Lib.hid hX; clear hst hI hX
    rcases hout with ⟨h1, hk60⟩ | h1
    ·have h1' : (p : Int) < (m : Int) + 2 := by omega
     have hk61 : ¬ (k : Int) < 60 := by omega
     clear hk60
     go_wp2_with fail
     go_loopw [8, 37] (fun o i wr => ∃ k : Nat, k ≤ p ∧ i = .int .i64 k ∧ PointsAt c N wo2.heap.size w o k wr ∧ wo2.grownBy wr (some c)) (fun _ i _ => p - (intOf i).toNat)
     case atStart => exact ⟨0, Nat.zero_le _, rfl, hst'.out, World.grownBy.refl _ _⟩
     case round =>
      clear hst'
      obtain ⟨k, hk, rfl, ⟨f, hG, hfl, hfI, hc, hgw⟩, hgo⟩ := hrel
      obtain ⟨w6, rfl⟩ : ∃ wo : World, wo = wr := ⟨_, rfl⟩
      by_cases hlt2 : k < p
      ·obtain ⟨d0, d1⟩ := hX'.out w6 hgo k hlt2
       have hxi := hI'.out k hlt2
       obtain ⟨⟨x0, x1⟩, hx⟩ : ∃ x, nthR xs k = x := ⟨_, rfl⟩
       rw [hx] at d0 d1 hxi
       simp only at d0 d1
       have q1 : (0 : Int) ≤ (k : Int) := by omega
       have q2 : (k : Int) < (p : Int) := by omega
       obtain ⟨w7, hw7⟩ : ∃ W, w6.alloc (.cells #[.int .i64 x0, .int .i64 x1] 42) = W := ⟨_, rfl⟩
       have hB7 : Below w6.heap.size w6 w7 := by rw [← hw7]; exact (Below.refl _ _).alloc (Nat.le_refl _) _
       have a0 : w7.cell? ⟨w6.heap.size, 0, none⟩ = some (.int .i64 x0) := by rw [← hw7]; simp [go_sem]
       have a1 : w7.cell? ⟨w6.heap.size, 1, none⟩ = some (.int .i64 x1) := by rw [← hw7]; simp [go_sem]
       have hc7 : CurAt w7.drew c (N + 200 + 2 * k) := (hc.below hB7 hc.lt).heap rfl
       have hG7 : GrowP w7.drew wo2.heap.size u8 f := hG.below hB7.drew
       have hgA : w7.grownBy w7.drew (some c) := bgrow ((Below.refl _ _).drew) _
       have hcne : some c ≠ some w6.heap.size := fun e => by have := Option.some.inj e; have := hc.lt; omega
       have at' : ∀ w', w7.grownBy w' (some c) → w'.cell? ⟨w6.heap.size, 0, none⟩ = some (.int .i64 x0) ∧ w'.cell? ⟨w6.heap.size, 1, none⟩ = some (.int .i64 x1) := fun w' h => ⟨gcell h a0 hcne, gcell h a1 hcne⟩
       have hne : u8.ownBlock ≠ some w6.heap.size := fun e => by have := (World.ownsRow.lt hG _ e).2; omega
       have hblk := hG.block
       have hfl2 : f.length ≤ 1099511627776 := by omega
       have hsz7 : wo2.heap.size ≤ w7.heap.size := Nat.le_trans hgo.size hB7.size
       have hg07 := hgw.trans (bgrow hB7 (some c))
       have hgo7 := hgo.trans (bgrow hB7 (some c))
       clear a0 a1 hG hc hB7 hgw hgo
       have hw7' := Lib.hid hw7; have hc7' := Lib.hid hc7; have hG7' := Lib.hid hG7; have at'' := Lib.hid at'; have hfl2' := Lib.hid hfl2; have hg07' := Lib.hid hg07; have hgo7' := Lib.hid hgo7; have hfl' := Lib.hid hfl; have hfI' := Lib.hid hfI; have hxi' := Lib.hid hxi; have hx' := Lib.hid hx; have hblk' := Lib.hid hblk; clear hw7 hc7 hG7 at' hfl2 hg07 hgo7 hfl hfI hxi hx hblk
       go_wp2_with fail
       rw [hw7'.out]
       clear d0 d1
       go_wp2_with fail
       refine wp_region_held_drew (S := (fun w' => w'.cell? ⟨w6.heap.size, 0, none⟩ = some (.int .i64 x0) ∧ w'.cell? ⟨w6.heap.size, 1, none⟩ = some (.int .i64 x1))) (by kernel_rfl) (by (try dsimp only); (first | exact at''.out _ hgA | exact at''.out _ hgB | exact at''.out _ hgC | exact hD)) (fun hHeld => ?_)
       refine ly_s 0 hHeld ?_
       refine ly_s 1 hHeld ?_
       refine ly_s 2 hHeld ?_
       refine ly_s 3 hHeld ?_
       refine ly_a 4 (fun KK hKK => ?_)
       go_simp
       refine (gridRat_any c _ n _ hc7'.out (by omega) hn1 hn2).mono ?_
       rintro e w8 ⟨⟨y0, y1⟩, rfl, hu, hc8, hg8⟩
       have hgB := hgA.trans hg8
       have hG8 := hG7'.out.kept hg8 hcl
       try dsimp only
       refine hKK.out _ _ (by (try dsimp only); (first | exact at''.out _ hgA | exact at''.out _ hgB | exact at''.out _ hgC | exact hD)) (fun hHeld => ?_)
       clear hKK KK
       try simp only [Act.put, lyA, lyB, lyC]
       refine ly_s 5 hHeld ?_
       refine ly_a 6 (fun KK hKK => ?_)
       go_simp
       have hgC := hgB.trans (bgrow ((Below.refl w8.heap.size w8).alloc (Nat.le_refl _) (.cells #[.int .i64 x0, .int .i64 x1, .int .i64 y0, .int .i64 y1] 80)) (some c))
       try dsimp only
       refine hKK.out _ _ (by (try dsimp only); (first | exact at''.out _ hgA | exact at''.out _ hgB | exact at''.out _ hgC | exact hD)) (fun hHeld => ?_)
       clear hKK KK
       try simp only [Act.put, lyA, lyB, lyC]
       refine ly_a 7 (fun KK hKK => ?_)
       refine wp_append_P _ _ rfl wo2.heap.size u8 f x0 x1 y0 y1 _ rfl rfl hG8 hfl2'.out (Nat.le_trans hsz7 hgB.size) ?_
       intro v9 w9 hG9 hgr
       have hD : w9.cell? ⟨w6.heap.size, 0, none⟩ = some (.int .i64 x0) ∧ w9.cell? ⟨w6.heap.size, 1, none⟩ = some (.int .i64 x1) := ⟨gcell hgr (at''.out _ hgB).1 hne, gcell hgr (at''.out _ hgB).2 hne⟩
       try dsimp only
       refine hKK.out _ _ (by (try dsimp only); (first | exact at''.out _ hgA | exact at''.out _ hgB | exact at''.out _ hgC | exact hD)) (fun hHeld => ?_)
       clear hKK KK
       try simp only [Act.put, lyA, lyB, lyC]
       refine ly_s 8 hHeld ?_
       refine wpAnyH_done (by kernel_rfl) ?_ _
       have hst : PointsAt c N wo2.heap.size w v9 (k + 1) w9 ∧ wo2.grownBy w9 (some c) := ⟨⟨_, hG9, by rw [List.length_append, hfl'.out]; rfl, hfI'.out.snoc ⟨hxi'.out, unit_i64 hu⟩, (hc8.kept hgr (fun g e => Nat.lt_of_lt_of_le hcl (hblk'.out g e))).mono (by omega), grown_new (hg07'.out.trans hgB) hgr (fun g e => Nat.le_trans hsz (hblk'.out g e))⟩, grown_new (hgo7'.out.trans hgB) hgr (hblk'.out)⟩
       obtain ⟨_, _, rfl⟩ := hG9.shape
       clear hG9 hgr hc8 hu hD hG8 hHeld
       have hst' := Lib.hid hst; clear hst
       go_wp2
       go_roundw
       case rel => exact ⟨k + 1, by omega, by go_num, hst'.out⟩
       case measure => simp [intOf]; omega
      ·obtain rfl : k = p := by omega
       obtain ⟨ao9, cap9, rfl⟩ := hG.shape
       have hG9 := hG.mono hsz
       clear hG
       have hG9' := Lib.hid hG9; have hfl' := Lib.hid hfl; have hfI' := Lib.hid hfI; have hc' := Lib.hid hc; have hgw' := Lib.hid hgw; clear hG9 hfl hfI hc hgw
       go_wp2
       go_ret
       exact ⟨_, f, rfl, hG9'.out, by rw [hfl'.out]; omega, by rw [hfl'.out]; omega, hfI'.out, hc'.out.mono (by omega), hgw'.out⟩
    ·have h1' : ¬ (p : Int) < (m : Int) + 2 := by omega
     go_wp2_with fail
     go_loopw [8, 37] (fun o i wr => ∃ k : Nat, k ≤ p ∧ i = .int .i64 k ∧ PointsAt c N wo2.heap.size w o k wr ∧ wo2.grownBy wr (some c)) (fun _ i _ => p - (intOf i).toNat)
     case atStart => exact ⟨0, Nat.zero_le _, rfl, hst'.out, World.grownBy.refl _ _⟩
     case round =>
      clear hst'
      obtain ⟨k, hk, rfl, ⟨f, hG, hfl, hfI, hc, hgw⟩, hgo⟩ := hrel
      obtain ⟨w6, rfl⟩ : ∃ wo : World, wo = wr := ⟨_, rfl⟩
      by_cases hlt2 : k < p
      ·obtain ⟨d0, d1⟩ := hX'.out w6 hgo k hlt2
       have hxi := hI'.out k hlt2
       obtain ⟨⟨x0, x1⟩, hx⟩ : ∃ x, nthR xs k = x := ⟨_, rfl⟩
       rw [hx] at d0 d1 hxi
       simp only at d0 d1
       have q1 : (0 : Int) ≤ (k : Int) := by omega
       have q2 : (k : Int) < (p : Int) := by omega
       obtain ⟨w7, hw7⟩ : ∃ W, w6.alloc (.cells #[.int .i64 x0, .int .i64 x1] 42) = W := ⟨_, rfl⟩
       have hB7 : Below w6.heap.size w6 w7 := by rw [← hw7]; exact (Below.refl _ _).alloc (Nat.le_refl _) _
       have a0 : w7.cell? ⟨w6.heap.size, 0, none⟩ = some (.int .i64 x0) := by rw [← hw7]; simp [go_sem]
       have a1 : w7.cell? ⟨w6.heap.size, 1, none⟩ = some (.int .i64 x1) := by rw [← hw7]; simp [go_sem]
       have hc7 : CurAt w7.drew c (N + 200 + 2 * k) := (hc.below hB7 hc.lt).heap rfl
       have hG7 : GrowP w7.drew wo2.heap.size u8 f := hG.below hB7.drew
       have hgA : w7.grownBy w7.drew (some c) := bgrow ((Below.refl _ _).drew) _
       have hcne : some c ≠ some w6.heap.size := fun e => by have := Option.some.inj e; have := hc.lt; omega
       have at' : ∀ w', w7.grownBy w' (some c) → w'.cell? ⟨w6.heap.size, 0, none⟩ = some (.int .i64 x0) ∧ w'.cell? ⟨w6.heap.size, 1, none⟩ = some (.int .i64 x1) := fun w' h => ⟨gcell h a0 hcne, gcell h a1 hcne⟩
       have hne : u8.ownBlock ≠ some w6.heap.size := fun e => by have := (World.ownsRow.lt hG _ e).2; omega
       have hblk := hG.block
       have hfl2 : f.length ≤ 1099511627776 := by omega
       have hsz7 : wo2.heap.size ≤ w7.heap.size := Nat.le_trans hgo.size hB7.size
       have hg07 := hgw.trans (bgrow hB7 (some c))
       have hgo7 := hgo.trans (bgrow hB7 (some c))
       clear a0 a1 hG hc hB7 hgw hgo
       have hw7' := Lib.hid hw7; have hc7' := Lib.hid hc7; have hG7' := Lib.hid hG7; have at'' := Lib.hid at'; have hfl2' := Lib.hid hfl2; have hg07' := Lib.hid hg07; have hgo7' := Lib.hid hgo7; have hfl' := Lib.hid hfl; have hfI' := Lib.hid hfI; have hxi' := Lib.hid hxi; have hx' := Lib.hid hx; have hblk' := Lib.hid hblk; clear hw7 hc7 hG7 at' hfl2 hg07 hgo7 hfl hfI hxi hx hblk
       go_wp2_with fail
       rw [hw7'.out]
       clear d0 d1
       go_wp2_with fail
       refine wp_region_held_drew (S := (fun w' => w'.cell? ⟨w6.heap.size, 0, none⟩ = some (.int .i64 x0) ∧ w'.cell? ⟨w6.heap.size, 1, none⟩ = some (.int .i64 x1))) (by kernel_rfl) (by (try dsimp only); (first | exact at''.out _ hgA | exact at''.out _ hgB | exact at''.out _ hgC | exact hD)) (fun hHeld => ?_)
       refine ly_s 0 hHeld ?_
       refine ly_s 1 hHeld ?_
       refine ly_s 2 hHeld ?_
       refine ly_s 3 hHeld ?_
       refine ly_a 4 (fun KK hKK => ?_)
       go_simp
       refine (gridRat_any c _ n _ hc7'.out (by omega) hn1 hn2).mono ?_
       rintro e w8 ⟨⟨y0, y1⟩, rfl, hu, hc8, hg8⟩
       have hgB := hgA.trans hg8
       have hG8 := hG7'.out.kept hg8 hcl
       try dsimp only
       refine hKK.out _ _ (by (try dsimp only); (first | exact at''.out _ hgA | exact at''.out _ hgB | exact at''.out _ hgC | exact hD)) (fun hHeld => ?_)
       clear hKK KK
       try simp only [Act.put, lyA, lyB, lyC]
       refine ly_s 5 hHeld ?_
       refine ly_a 6 (fun KK hKK => ?_)
       go_simp
       have hgC := hgB.trans (bgrow ((Below.refl w8.heap.size w8).alloc (Nat.le_refl _) (.cells #[.int .i64 x0, .int .i64 x1, .int .i64 y0, .int .i64 y1] 80)) (some c))
       try dsimp only
       refine hKK.out _ _ (by (try dsimp only); (first | exact at''.out _ hgA | exact at''.out _ hgB | exact at''.out _ hgC | exact hD)) (fun hHeld => ?_)
       clear hKK KK
       try simp only [Act.put, lyA, lyB, lyC]
       refine ly_a 7 (fun KK hKK => ?_)
       refine wp_append_P _ _ rfl wo2.heap.size u8 f x0 x1 y0 y1 _ rfl rfl hG8 hfl2'.out (Nat.le_trans hsz7 hgB.size) ?_
       intro v9 w9 hG9 hgr
       have hD : w9.cell? ⟨w6.heap.size, 0, none⟩ = some (.int .i64 x0) ∧ w9.cell? ⟨w6.heap.size, 1, none⟩ = some (.int .i64 x1) := ⟨gcell hgr (at''.out _ hgB).1 hne, gcell hgr (at''.out _ hgB).2 hne⟩
       try dsimp only
       refine hKK.out _ _ (by (try dsimp only); (first | exact at''.out _ hgA | exact at''.out _ hgB | exact at''.out _ hgC | exact hD)) (fun hHeld => ?_)
       clear hKK KK
       try simp only [Act.put, lyA, lyB, lyC]
       refine ly_s 8 hHeld ?_
       refine wpAnyH_done (by kernel_rfl) ?_ _
       have hst : PointsAt c N wo2.heap.size w v9 (k + 1) w9 ∧ wo2.grownBy w9 (some c) := ⟨⟨_, hG9, by rw [List.length_append, hfl'.out]; rfl, hfI'.out.snoc ⟨hxi'.out, unit_i64 hu⟩, (hc8.kept hgr (fun g e => Nat.lt_of_lt_of_le hcl (hblk'.out g e))).mono (by omega), grown_new (hg07'.out.trans hgB) hgr (fun g e => Nat.le_trans hsz (hblk'.out g e))⟩, grown_new (hgo7'.out.trans hgB) hgr (hblk'.out)⟩
       obtain ⟨_, _, rfl⟩ := hG9.shape
       clear hG9 hgr hc8 hu hD hG8 hHeld
       have hst' := Lib.hid hst; clear hst
       go_wp2
       go_roundw
       case rel => exact ⟨k + 1, by omega, by go_num, hst'.out⟩
       case measure => simp [intOf]; omega
      ·obtain rfl : k = p := by omega
       obtain ⟨ao9, cap9, rfl⟩ := hG.shape
       have hG9 := hG.mono hsz
       clear hG
       have hG9' := Lib.hid hG9; have hfl' := Lib.hid hfl; have hfI' := Lib.hid hfI; have hc' := Lib.hid hc; have hgw' := Lib.hid hgw; clear hG9 hfl hfI hc hgw
       go_wp2
       go_ret
       exact ⟨_, f, rfl, hG9'.out, by rw [hfl'.out]; omega, by rw [hfl'.out]; omega, hfI'.out, hc'.out.mono (by omega), hgw'.out⟩
theorem fl4_setX : ∀ (f : List Quad) (i : Nat) (a b : Int), i < f.length → ((fl4 f).set (i * 4) a).set (i * 4 + 1) b = fl4 (f.set i ((a, b), (nth4 f i).2)) := by
 intro f
 induction f with
 | nil => intro i a b h; simp at h
 | cons x t ih =>
   intro i a b h
   have e : ∀ y : Quad, fl4 (y :: t) = y.1.1 :: y.1.2 :: y.2.1 :: y.2.2 :: fl4 t := fun y => rfl
   cases i with
   | zero => rw [e]; rfl
   | succ i =>
     have h2 := ih i a b (by simpa using h)
     have e2 : nth4 (x :: t) (i + 1) = nth4 t i := rfl
     rw [e, e2, show (i + 1) * 4 = i * 4 + 1 + 1 + 1 + 1 by omega, show i * 4 + 1 + 1 + 1 + 1 + 1 = (i * 4 + 1) + 1 + 1 + 1 + 1 by omega]
     simp only [List.set_cons_succ]
     rw [h2]; rfl
theorem fl4_setY : ∀ (f : List Quad) (i : Nat) (a b : Int), i < f.length → ((fl4 f).set (i * 4 + 2) a).set (i * 4 + 3) b = fl4 (f.set i ((nth4 f i).1, (a, b))) := by
 intro f
 induction f with
 | nil => intro i a b h; simp at h
 | cons x t ih =>
   intro i a b h
   have e : ∀ y : Quad, fl4 (y :: t) = y.1.1 :: y.1.2 :: y.2.1 :: y.2.2 :: fl4 t := fun y => rfl
   cases i with
   | zero => rw [e]; rfl
   | succ i =>
     have h2 := ih i a b (by simpa using h)
     have e2 : nth4 (x :: t) (i + 1) = nth4 t i := rfl
     rw [e, e2, show (i + 1) * 4 + 2 = (i * 4 + 2) + 1 + 1 + 1 + 1 by omega, show (i + 1) * 4 + 3 = (i * 4 + 3) + 1 + 1 + 1 + 1 by omega]
     simp only [List.set_cons_succ]
     rw [h2]; rfl
theorem AllI.set {f : List Quad} {p : Quad} (h : AllI f) (hp : I64I p) (i : Nat) : AllI (f.set i p) := fun j hj => by
 rw [List.length_set] at hj
 by_cases q : j = i
 ·subst q
  have : nth4 (f.set j p) j = p := by unfold nth4; simp [hj]
  rw [this]; exact hp
 ·have : nth4 (f.set i p) j = nth4 f j := by unfold nth4; rw [List.getElem?_set_ne (fun e => q e.symm)]
  rw [this]; exact h j hj
theorem GrowP.row {w : World} {B g n cap : Nat} {f : List Quad} (h : GrowP w B (.slice (some ⟨g, 0, none⟩) n cap) f) (h0 : 0 < f.length) : n = f.length ∧ RowF 80 4 w B g n cap (fl4 f) := by
 obtain ⟨g', cap', e, hrow⟩ := GrowF.form h h0
 obtain ⟨e1, rfl, rfl⟩ := Value.slice.inj e
 cases e1
 exact ⟨rfl, hrow⟩
theorem GrowP.putX {w : World} {B g n cap : Nat} {f : List Quad} (h : GrowP w B (.slice (some ⟨g, 0, none⟩) n cap) f) {i : Nat} (hi : i < f.length) (a b : Int) :
  GrowP ((w.setCell ⟨g, i * 4, none⟩ (.int .i64 a)).setCell ⟨g, i * 4 + 1, none⟩ (.int .i64 b)) B (.slice (some ⟨g, 0, none⟩) n cap) (f.set i ((a, b), (nth4 f i).2)) := by
 obtain ⟨e, hrow⟩ := h.row (by omega)
 have h2 := (hrow.stored (i * 4) a).stored (i * 4 + 1) b
 rw [fl4_setX f i a b hi] at h2
 subst e
 unfold GrowP
 rw [List.length_set]
 exact h2
theorem GrowP.putY {w : World} {B g n cap : Nat} {f : List Quad} (h : GrowP w B (.slice (some ⟨g, 0, none⟩) n cap) f) {i : Nat} (hi : i < f.length) (a b : Int) :
  GrowP ((w.setCell ⟨g, i * 4 + 2, none⟩ (.int .i64 a)).setCell ⟨g, i * 4 + 3, none⟩ (.int .i64 b)) B (.slice (some ⟨g, 0, none⟩) n cap) (f.set i ((nth4 f i).1, (a, b))) := by
 obtain ⟨e, hrow⟩ := h.row (by omega)
 have h2 := (hrow.stored (i * 4 + 2) a).stored (i * 4 + 3) b
 rw [fl4_setY f i a b hi] at h2
 subst e
 unfold GrowP
 rw [List.length_set]
 exact h2
def LaidAt (c N L : Nat) (w : World) (o : Value) (k : Nat) (wr : World) : Prop := k ≤ L ∧ ∃ f, GrowP wr w.heap.size o f ∧ f.length = k ∧ AllI f ∧ CurAt wr c N ∧ w.grownBy wr (some c)
theorem tmod2 (j : Nat) : -1 ≤ Int.tmod (j : Int) 2 ∧ Int.tmod (j : Int) 2 ≤ 1 := by
 have e : Int.tmod (j : Int) 2 = ((j % 2 : Nat) : Int) := rfl
 rw [e]; omega
theorem tmod2_i64 (j : Nat) : I64R (Int.tmod (j : Int) 2, 1) := by
 have h := tmod2 j
 exact ⟨i64_of (show -1000000001 ≤ Int.tmod (j : Int) 2 by omega) (show Int.tmod (j : Int) 2 ≤ 1000000001 by omega), (show I64 1 from i64_of (by decide) (by decide))⟩
set_option linter.unusedSimpArgs false in
set_option maxHeartbeats 3200000 in
theorem im_any (c N : Nat) (w : World) (h : CurAt w c N) (hN : N ≤ 549755700000) :
  Calls Tryz.prog 143 #[.pointer (some ⟨c, 0, none⟩)] w (PicksF c (N + 400) 12 w) := by
 have hlt := h.lt
 have c1 := among_list c N [1, 2, 2, 3, 4, 4, 6, 12, 100] w 9 h (by omega) rfl (by omega) (by omega)
 clear h
 have c1' := Lib.hid c1; clear c1
 go_enter Tryz.func143, Tryz.ntmps143
 go_wp2_with fail
 refine (c1'.out).mono ?_
 rintro e w1 ⟨v, rfl, ⟨d, rfl, hd⟩, hc1, hg1⟩
 obtain ⟨n, rfl, hn1, hn2⟩ : ∃ q : Nat, d = (q : Int) ∧ 1 ≤ q ∧ q ≤ 1000 := ⟨d.toNat, by simp at hd; omega, by simp at hd; omega, by simp at hd; omega⟩
 go_wp2_with fail
 refine (imGrid_any c _ n w1 hc1 (by omega) hn1 hn2).mono ?_
 rintro e w2 ⟨v2, f2, rfl, hG2, hl2, hm2, hf2, hc2, hg2⟩
 obtain ⟨ao2, cap2, rfl⟩ := hG2.shape
 obtain ⟨n2, hn2'⟩ : ∃ n2, f2.length = n2 := ⟨_, rfl⟩
 rw [hn2'] at hG2 hl2 hm2 ⊢
 have hn2'' := Lib.hid hn2'; have hG2' := Lib.hid hG2; have hf2' := Lib.hid hf2; clear hn2' hG2 hf2
 go_wp2_with fail
 refine (one_any c _ 3 w2 hc2 (by omega) (by omega) (by omega)).mono ?_
 rintro e w3 ⟨v, rfl, ⟨b, rfl⟩, hc3, hg3⟩
 have hs1 := hg1.size
 have g3 := hg1.trans (hg2.trans hg3)
 have hG3 := (hG2'.out.kept hg3 (Nat.lt_of_lt_of_le hlt hs1)).mono hs1
 clear hc1 hc2 hd hg1 hg2 hg3 hG2'
 have g3' := Lib.hid g3; have hG3' := Lib.hid hG3; clear g3 hG3
 cases b
 ·have hc3' := Lib.hid hc3
  clear hc3
  go_wp2
  go_ret
  exact ⟨_, f2, rfl, hG3'.out, by rw [hn2''.out]; exact hl2, by rw [hn2''.out]; exact hm2, hf2'.out, hc3'.out.mono (by omega), g3'.out⟩
 ·clear hG3' hf2' hn2''
  go_wp2_with fail
  refine (among_list c _ [2, 2, 3, 4] w3 4 hc3 (by omega) rfl (by omega) (by omega)).mono ?_
  rintro e w4 ⟨v, rfl, ⟨d, rfl, hd⟩, hc4, hg4⟩
  obtain ⟨m, rfl, hm1, hm4⟩ : ∃ q : Nat, d = (q : Int) ∧ 2 ≤ q ∧ q ≤ 4 := ⟨d.toNat, by simp at hd; omega, by simp at hd; omega, by simp at hd; omega⟩
  have hst : LaidAt c (N + 310) (m + 1) w (.slice none 0 0) 0 w4 := ⟨by omega, [], GrowP.nil _ _, rfl, AllI.nil, hc4.mono (by omega), g3'.out.trans hg4⟩
  clear hd hc3 hc4 hg4 g3'
  have hst' := Lib.hid hst; clear hst
  go_wp2_with fail
  go_loopw [4, 6] (fun o i wr => ∃ k : Nat, i = .int .i64 k ∧ LaidAt c (N + 310) (m + 1) w o k wr) (fun _ i _ => m + 1 - (intOf i).toNat)
  case atStart => exact ⟨0, rfl, hst'.out⟩
  case round =>
   clear hst'
   obtain ⟨k, rfl, hk, f, hG, hfl, hfI, hc, hgw⟩ := hrel
   obtain ⟨w6, rfl⟩ : ∃ wo : World, wo = wr := ⟨_, rfl⟩
   by_cases hlt2 : k ≤ m
   ·have q2 : (k : Int) ≤ (m : Int) := by omega
    have cm := raMake_any k m w6 (by omega) (by omega) (by omega)
    have hxi := mkR_i64 k m
    generalize mkR (k : Int) m = R at *
    obtain ⟨⟨x0, x1⟩, ok⟩ := R
    simp only at cm hxi
    have cm' := Lib.hid cm; have hxi' := Lib.hid hxi; have hG' := Lib.hid hG; have hfI' := Lib.hid hfI; have hfl' := Lib.hid hfl; have hc' := Lib.hid hc; have hgw' := Lib.hid hgw; clear cm hxi hG hfI hfl hc hgw
    go_wp2_with fail
    refine (cm'.out).mono ?_
    rintro e w5 ⟨rfl, hB5⟩
    obtain ⟨w7, hw7⟩ : ∃ W, w5.alloc (.cells #[.int .i64 x0, .int .i64 x1] 42) = W := ⟨_, rfl⟩
    have hB57 : Below w5.heap.size w5 w7 := by rw [← hw7]; exact (Below.refl _ _).alloc (Nat.le_refl _) _
    have hB7 := hB5.trans (hB57.mono hB5.size)
    have a0 : w7.cell? ⟨w5.heap.size, 0, none⟩ = some (.int .i64 x0) := by rw [← hw7]; simp [go_sem]
    have a1 : w7.cell? ⟨w5.heap.size, 1, none⟩ = some (.int .i64 x1) := by rw [← hw7]; simp [go_sem]
    have at' : ∀ w', Below w7.heap.size w7 w' → w'.cell? ⟨w5.heap.size, 0, none⟩ = some (.int .i64 x0) ∧ w'.cell? ⟨w5.heap.size, 1, none⟩ = some (.int .i64 x1) := fun w' h => ⟨bkeep h a0, bkeep h a1⟩
    have hne : u4.ownBlock ≠ some w5.heap.size := fun e => by have := (World.ownsRow.lt hG'.out _ e).2; have := hB5.size; omega
    have hblk := hG'.out.block
    have hfl2 : f.length ≤ 1099511627776 := by rw [hfl'.out]; omega
    have hGd := fun w' (hB : Below w7.heap.size w7 w') => (hG'.out.below hB7).below hB
    have hsw : w.heap.size ≤ w7.heap.size := Nat.le_trans hgw'.out.size hB7.size
    have hdA : Below w7.heap.size w7 w7.drew := (Below.refl _ _).drew
    clear a0 a1 hB5 hB57
    have hw7' := Lib.hid hw7; have at'' := Lib.hid at'; have hfl2' := Lib.hid hfl2; have hblk' := Lib.hid hblk; have hGd' := Lib.hid hGd; have hB7' := Lib.hid hB7; clear hw7 at' hfl2 hblk hGd hB7
    go_wp2_with fail
    rw [hw7'.out]
    go_wp2_with fail
    refine wp_region_held_drew (S := (fun w' => w'.cell? ⟨w5.heap.size, 0, none⟩ = some (.int .i64 x0) ∧ w'.cell? ⟨w5.heap.size, 1, none⟩ = some (.int .i64 x1))) (by kernel_rfl) (by (try dsimp only); (first | exact at''.out _ hdA | exact at''.out _ hdB | exact at''.out _ hdC | exact hD)) (fun hHeld => ?_)
    refine ly_s 0 hHeld ?_
    refine ly_s 1 hHeld ?_
    refine ly_s 2 hHeld ?_
    refine ly_s 3 hHeld ?_
    refine ly_a 4 (fun KK hKK => ?_)
    go_simp
    refine (raInt_any _ _).mono ?_
    rintro e w8 ⟨rfl, hB8⟩
    have hdB := hdA.trans (hB8.mono hdA.size)
    try dsimp only
    refine hKK.out _ _ (by (try dsimp only); (first | exact at''.out _ hdA | exact at''.out _ hdB | exact at''.out _ hdC | exact hD)) (fun hHeld => ?_)
    clear hKK KK
    try simp only [Act.put, lyA, lyB, lyC]
    refine ly_s 5 hHeld ?_
    refine ly_a 6 (fun KK hKK => ?_)
    go_simp
    have hdC := hdB.alloc hdB.size (.cells #[.int .i64 x0, .int .i64 x1, .int .i64 (Int.tmod (k : Int) 2), .int .i64 1] 80)
    try dsimp only
    refine hKK.out _ _ (by (try dsimp only); (first | exact at''.out _ hdA | exact at''.out _ hdB | exact at''.out _ hdC | exact hD)) (fun hHeld => ?_)
    clear hKK KK
    try simp only [Act.put, lyA, lyB, lyC]
    refine ly_a 7 (fun KK hKK => ?_)
    refine wp_append_P _ _ rfl w.heap.size u4 f x0 x1 (Int.tmod (k : Int) 2) 1 _ rfl rfl (hGd'.out _ hdB) hfl2'.out (Nat.le_trans hsw hdB.size) ?_
    intro v9 w9 hG9 hgr
    have hD : w9.cell? ⟨w5.heap.size, 0, none⟩ = some (.int .i64 x0) ∧ w9.cell? ⟨w5.heap.size, 1, none⟩ = some (.int .i64 x1) := ⟨gcell hgr (at''.out _ hdB).1 hne, gcell hgr (at''.out _ hdB).2 hne⟩
    try dsimp only
    refine hKK.out _ _ (by (try dsimp only); (first | exact at''.out _ hdA | exact at''.out _ hdB | exact at''.out _ hdC | exact hD)) (fun hHeld => ?_)
    clear hKK KK
    try simp only [Act.put, lyA, lyB, lyC]
    refine ly_s 8 hHeld ?_
    refine wpAnyH_done (by kernel_rfl) ?_ _
    have hgB := bgrow hB7'.out (some c)
    have hcl : c < w6.heap.size := hc'.out.lt
    have hst : LaidAt c (N + 310) (m + 1) w v9 (k + 1) w9 := ⟨by omega, _, hG9, by rw [List.length_append, hfl'.out]; rfl, hfI'.out.snoc ⟨hxi'.out, (tmod2_i64 k)⟩, ((hc'.out.below hB7'.out hcl).below hdB (by have := hB7'.out.size; omega)).kept hgr (fun g e => Nat.lt_of_lt_of_le hlt (hblk'.out g e)), grown_new (hgw'.out.trans (hgB.trans (bgrow hdB (some c)))) hgr (hblk'.out)⟩
    obtain ⟨_, _, rfl⟩ := hG9.shape
    have hl9 : (f ++ [((x0, x1), (Int.tmod (k : Int) 2, (1 : Int)))]).length = k + 1 := by rw [List.length_append, hfl'.out]; rfl
    rw [hl9] at hst ⊢
    clear hl9 hG9 hgr hD hHeld hgB hdA hdB hdC
    have hst' := Lib.hid hst; clear hst
    go_wp2
    go_roundw
    case rel => exact ⟨k + 1, by go_num, hst'.out⟩
    case measure => simp [intOf]; omega
   ·obtain rfl : k = m + 1 := by omega
    have q2 : ¬ ((m + 1 : Nat) : Int) ≤ (m : Int) := by omega
    obtain ⟨gf, cf, rfl, -⟩ := GrowF.form hG (by omega)
    obtain ⟨nf, hnf⟩ : ∃ nf, f.length = nf := ⟨_, rfl⟩
    have hnf2 : nf = m + 1 := by omega
    have hnf3 : 2 < nf := by omega
    have hnf4 : nf ≤ 5 := by omega
    rw [hnf] at hG ⊢
    clear hnf2 hfl
    have hG' := Lib.hid hG; have hfI' := Lib.hid hfI; have hgw' := Lib.hid hgw; have hnf' := Lib.hid hnf; clear hG hfI hgw hnf
    go_wp2_with fail
    refine (one_any c _ 2 w6 hc (by omega) (by omega) (by omega)).mono ?_
    rintro e w7 ⟨v, rfl, ⟨b2, rfl⟩, hc7, hg7⟩
    have hG7 := hG'.out.kept hg7 hlt
    have hg8 := hgw'.out.trans hg7
    clear hg7 hc hG' hgw'
    have hG7' := Lib.hid hG7; have hg8' := Lib.hid hg8; clear hG7 hg8
    cases b2
    ·have hc7' := Lib.hid hc7
     clear hc7
     go_wp2
     go_ret
     exact ⟨_, f, rfl, hG7'.out, by rw [hnf'.out]; omega, by rw [hnf'.out]; omega, hfI'.out, hc7'.out.mono (by omega), hg8'.out⟩
    ·go_wp2_with fail
     refine (gridRat_any c _ n w7 hc7 (by omega) hn1 hn2).mono ?_
     rintro e w8 ⟨⟨a, b⟩, rfl, hu, hc8, hg9⟩
     have hG8 := hG7'.out.kept hg9 hlt
     have hg10 := hg8'.out.trans hg9
     obtain ⟨-, hrow⟩ := hG8.row (by rw [hnf'.out]; omega)
     have z2 := hrow.cell (j := 6) (by omega)
     have z3 := hrow.cell (j := 7) (by omega)
     have y2 := hrow.frozen 6
     have y3 := hrow.frozen 7
     have hgf := hrow.lt
     have hput := hG8.putY (i := 1) (by rw [hnf'.out]; omega) a b
     have hB : Below w.heap.size w8 ((w8.setCell ⟨gf, 6, none⟩ (.int .i64 a)).setCell ⟨gf, 7, none⟩ (.int .i64 b)) := ((Below.refl _ _).setCell (p := ⟨gf, 6, none⟩) hgf.1 _).setCell (p := ⟨gf, 7, none⟩) hgf.1 _
     have hend := picks_end hc8 hg10 hlt (Nat.le_refl _) hB
     have hI2 := hfI'.out.set (p := ((nth4 f 1).1, (a, b))) ⟨(hfI'.out 1 (by rw [hnf'.out]; omega)).1, unit_i64 hu⟩ 1
     have q5 : (1 : Int) < (nf : Int) := by omega
     have q6 : 1 < nf := by omega
     clear hrow hG8 hB hg9 hg10 hc7 hc8 hu
     have hput' := Lib.hid hput; have hend' := Lib.hid hend; have hI2' := Lib.hid hI2; clear hput hend hI2
     go_wp2
     go_ret
     exact ⟨_, _, rfl, hput'.out, by rw [List.length_set, hnf'.out]; omega, by rw [List.length_set, hnf'.out]; omega, hI2'.out, hend'.out.1.mono (by omega), hend'.out.2⟩
theorem QuadV.takeQ {w : World} {b off n cap : Nat} {xs : List Quad} (h : QuadV w (.slice (some ⟨b, off, none⟩) n cap) xs) {k : Nat} (hk : k ≤ xs.length) : QuadV w (.slice (some ⟨b, off, none⟩) k cap) (xs.take k) := by
 obtain ⟨ao, cap', e, h1, h2, H⟩ := h.form
 obtain ⟨rfl, e1, rfl⟩ := Value.slice.inj e
 have hl : (xs.take k).length = k := by rw [List.length_take]; omega
 have hq : QuadV w (.slice (some ⟨b, off, none⟩) (xs.take k).length cap) (xs.take k) := QuadV.mk ⟨by rw [hl]; omega, fun e => by cases e⟩ h2 fun i hi => by
  rw [hl] at hi
  have e4 : nth4 (xs.take k) i = nth4 xs i := by unfold nth4; rw [List.getElem?_take_of_lt hi]
  rw [e4]
  exact H i (by omega)
 rwa [hl] at hq
theorem AllI.take {f : List Quad} (h : AllI f) (k : Nat) : AllI (f.take k) := fun i hi => by
 rw [List.length_take] at hi
 have e4 : nth4 (f.take k) i = nth4 f i := by unfold nth4; rw [List.getElem?_take_of_lt (by omega)]
 rw [e4]; exact h i (by omega)
theorem GrowP.newB {w : World} {B : Nat} {v : Value} {xs : List Quad} (h : GrowP w B v xs) : NewB B v := by
 intro b off k cap e
 rcases h.2 with ⟨rfl, _⟩ | ⟨g, cap', cur, rfl, h1, _⟩
 ·cases e
 ·obtain ⟨e1, _, _⟩ := Value.slice.inj e
  cases e1
  exact h1
def PicksH (c N : Nat) (w : World) (e : Ending) (w' : World) : Prop := ∃ v f, e = .returned v ∧ QuadV w' v f ∧ (Off c v ∧ NewB w.heap.size v) ∧ f.length ≤ 13 ∧ AllI f ∧ CurAt w' c N ∧ w.grownBy w' (some c)
def PicksG (c N : Nat) (w : World) (e : Ending) (w' : World) : Prop := ∃ v f, e = .returned v ∧ QuadV w' v f ∧ Off c v ∧ f.length ≤ 13 ∧ AllI f ∧ CurAt w' c N ∧ w.grownBy w' (some c)
set_option linter.unusedSimpArgs false in
set_option maxHeartbeats 3200000 in
theorem anyIm_new (c N : Nat) (w : World) (h : CurAt w c N) (hN : N ≤ 549755600000) :
  Calls Tryz.prog 80 #[.pointer (some ⟨c, 0, none⟩)] w (PicksH c (N + 500) w) := by
 have hlt := h.lt
 have c1 := im_any c N w h (by omega)
 clear h
 have c1' := Lib.hid c1; clear c1
 go_enter Tryz.func80, Tryz.ntmps80
 go_wp2_with fail
 refine (c1'.out).mono ?_
 rintro e w1 ⟨v1, f, rfl, hG1, hl1, hm1, hfI, hc1, hg1⟩
 obtain ⟨g, cap, rfl, -⟩ := GrowF.form hG1 (by omega)
 obtain ⟨n, hn⟩ : ∃ n, f.length = n := ⟨_, rfl⟩
 rw [hn] at hG1 hl1 hm1 ⊢
 have hcapm : n ≤ cap ∧ cap ≤ maxLen := by
  obtain ⟨_, _, e, h1, h2, _⟩ := hG1.read.form
  obtain ⟨_, h3, rfl⟩ := Value.slice.inj e
  exact ⟨by omega, h2⟩
 have hoff : Off c _ ∧ NewB w.heap.size _ := ⟨hG1.off hlt, hG1.newB⟩
 have hG1' := Lib.hid hG1; have hn' := Lib.hid hn; have hfI' := Lib.hid hfI; have hoff' := Lib.hid hoff; clear hG1 hn hfI hoff
 go_wp2_with fail
 refine (pick_any c _ n w1 hc1 (by omega) hl1 (by omega)).mono ?_
 rintro e w2 ⟨v, rfl, ⟨i, rfl, hi⟩, hc2, hg2⟩
 have q1 : (0 : Int) ≤ (i : Int) := by omega
 have q2 : (i : Int) < (n : Int) := by omega
 go_wp2_with fail
 refine (pick_any c _ 36 w2 hc2 (by omega) (by omega) (by omega)).mono ?_
 rintro e w3 ⟨v, rfl, ⟨k, rfl, hk⟩, hc3, hg3⟩
 have hg23 := hg2.trans hg3
 have hG3 := hG1'.out.kept hg23 hlt
 have g3 := hg1.trans hg23
 clear hc1 hc2 hg1 hg2 hg3 hg23 hG1'
 have hG3' := Lib.hid hG3; have g3' := Lib.hid g3; clear hG3 g3
 have hk5 : k = 0 ∨ k = 1 ∨ k = 2 ∨ k = 3 ∨ k = 4 ∨ 5 ≤ k := by omega
 obtain rfl | rfl | rfl | rfl | rfl | hk5 := hk5
 ·go_wp2_with fail
  refine (anyRat_any c _ w3 hc3 (by omega)).mono ?_
  rintro e w4 ⟨⟨a, b⟩, rfl, hab, hc4, hg4⟩
  have hG4 := hG3'.out.kept hg4 hlt
  have g4 := g3'.out.trans hg4
  obtain ⟨-, hrow⟩ := hG4.row (by rw [hn'.out]; omega)
  have z0 := hrow.cell (j := i * 4) (by omega)
  have z1 := hrow.cell (j := i * 4 + 1) (by omega)
  have y0 := hrow.frozen (i * 4)
  have y1 := hrow.frozen (i * 4 + 1)
  have hgf := hrow.lt
  have hput := (hG4.putX (i := i) (by rw [hn'.out]; exact hi) a b).read
  have hB : Below w.heap.size w4 ((w4.setCell ⟨g, i * 4, none⟩ (.int .i64 a)).setCell ⟨g, i * 4 + 1, none⟩ (.int .i64 b)) := ((Below.refl _ _).setCell (p := ⟨g, i * 4, none⟩) hgf.1 _).setCell (p := ⟨g, i * 4 + 1, none⟩) hgf.1 _
  have hend := picks_end hc4 g4 hlt (Nat.le_refl _) hB
  have hI2 := hfI'.out.set (p := ((a, b), (nth4 f i).2)) ⟨hab, (hfI'.out i (by rw [hn'.out]; exact hi)).2⟩ i
  clear hrow hG4 hB hg4 g4 hc3 hc4 hab
  have hput' := Lib.hid hput; have hend' := Lib.hid hend; have hI2' := Lib.hid hI2; clear hput hend hI2
  go_wp2
  go_ret
  exact ⟨_, _, rfl, hput'.out, hoff'.out, by rw [List.length_set, hn'.out]; omega, hI2'.out, hend'.out.1.mono (by omega), hend'.out.2⟩
 ·go_wp2_with fail
  refine (anyRat_any c _ w3 hc3 (by omega)).mono ?_
  rintro e w4 ⟨⟨a, b⟩, rfl, hab, hc4, hg4⟩
  have hG4 := hG3'.out.kept hg4 hlt
  have g4 := g3'.out.trans hg4
  obtain ⟨-, hrow⟩ := hG4.row (by rw [hn'.out]; omega)
  have z0 := hrow.cell (j := i * 4 + 2) (by omega)
  have z1 := hrow.cell (j := i * 4 + 3) (by omega)
  have y0 := hrow.frozen (i * 4 + 2)
  have y1 := hrow.frozen (i * 4 + 3)
  have hgf := hrow.lt
  have hput := (hG4.putY (i := i) (by rw [hn'.out]; exact hi) a b).read
  have hB : Below w.heap.size w4 ((w4.setCell ⟨g, i * 4 + 2, none⟩ (.int .i64 a)).setCell ⟨g, i * 4 + 3, none⟩ (.int .i64 b)) := ((Below.refl _ _).setCell (p := ⟨g, i * 4 + 2, none⟩) hgf.1 _).setCell (p := ⟨g, i * 4 + 3, none⟩) hgf.1 _
  have hend := picks_end hc4 g4 hlt (Nat.le_refl _) hB
  have hI2 := hfI'.out.set (p := ((nth4 f i).1, (a, b))) ⟨(hfI'.out i (by rw [hn'.out]; exact hi)).1, hab⟩ i
  clear hrow hG4 hB hg4 g4 hc3 hc4 hab
  have hput' := Lib.hid hput; have hend' := Lib.hid hend; have hI2' := Lib.hid hI2; clear hput hend hI2
  go_wp2
  go_ret
  exact ⟨_, _, rfl, hput'.out, hoff'.out, by rw [List.length_set, hn'.out]; omega, hI2'.out, hend'.out.1.mono (by omega), hend'.out.2⟩
 ·go_wp2_with fail
  refine (pick_any c _ 50 w3 hc3 (by omega) (by omega) (by omega)).mono ?_
  rintro e w4 ⟨v, rfl, ⟨t, rfl, ht⟩, hc4, hg4⟩
  have cm := raMake_any t 101 w4 (by omega) (by omega) (by omega)
  have hab := mkR_i64 t 101
  generalize mkR (t : Int) 101 = R at *
  obtain ⟨⟨a, b⟩, ok⟩ := R
  simp only at cm hab
  have hG4 := hG3'.out.kept hg4 hlt
  have g4 := g3'.out.trans hg4
  clear hg4 hc3
  have cm' := Lib.hid cm; have hG4' := Lib.hid hG4; have g4' := Lib.hid g4; have hab' := Lib.hid hab; clear cm hG4 g4 hab
  go_wp2_with fail
  refine (cm'.out).mono ?_
  rintro e w5 ⟨rfl, hB5⟩
  have hG5 := hG4'.out.below hB5
  obtain ⟨-, hrow⟩ := hG5.row (by rw [hn'.out]; omega)
  have z0 := hrow.cell (j := i * 4 + 2) (by omega)
  have z1 := hrow.cell (j := i * 4 + 3) (by omega)
  have y0 := hrow.frozen (i * 4 + 2)
  have y1 := hrow.frozen (i * 4 + 3)
  have hgf := hrow.lt
  have hput := (hG5.putY (i := i) (by rw [hn'.out]; exact hi) a b).read
  have hB : Below w.heap.size w4 ((w5.setCell ⟨g, i * 4 + 2, none⟩ (.int .i64 a)).setCell ⟨g, i * 4 + 3, none⟩ (.int .i64 b)) := ((hB5.mono g4'.out.size).setCell (p := ⟨g, i * 4 + 2, none⟩) hgf.1 _).setCell (p := ⟨g, i * 4 + 3, none⟩) hgf.1 _
  have hend := picks_end hc4 g4'.out hlt (Nat.le_refl _) hB
  have hI2 := hfI'.out.set (p := ((nth4 f i).1, (a, b))) ⟨(hfI'.out i (by rw [hn'.out]; exact hi)).1, hab'.out⟩ i
  clear hrow hG5 hB hB5 hc4
  have hput' := Lib.hid hput; have hend' := Lib.hid hend; have hI2' := Lib.hid hI2; clear hput hend hI2
  go_wp2
  go_ret
  exact ⟨_, _, rfl, hput'.out, hoff'.out, by rw [List.length_set, hn'.out]; omega, hI2'.out, hend'.out.1.mono (by omega), hend'.out.2⟩
 ·have hgnew := hoff'.out.2 g 0 n cap rfl
  have ht := hG3'.out.read.takeQ (k := n - 1) (by rw [hn'.out]; omega)
  have q3 : (n : Int) - 1 = ((n - 1 : Nat) : Int) := by omega
  have q4 : n - 1 ≤ cap := by omega
  have q5 : IntKind.i64.wrap ((n : Int) - 1) = ((n - 1 : Nat) : Int) := by rw [IntKind.wrap_i64]; omega
  have hoff2 : Off c (.slice (some ⟨g, 0, none⟩) (n - 1) cap) ∧ NewB w.heap.size (.slice (some ⟨g, 0, none⟩) (n - 1) cap) := ⟨fun b o k' cap' e => by
   obtain ⟨e1, _, _⟩ := Value.slice.inj e
   exact hoff'.out.1 b o n cap (by rw [e1]), fun b o k' cap' e => by
   obtain ⟨e1, _, _⟩ := Value.slice.inj e
   cases e1
   exact hgnew⟩
  clear hgnew
  have ht' := Lib.hid ht; have hoff2' := Lib.hid hoff2; have hc3' := Lib.hid hc3; clear ht hoff2 hc3
  go_wp2
  go_ret
  exact ⟨_, _, rfl, ht'.out, hoff2'.out, by rw [List.length_take, hn'.out]; omega, hfI'.out.take _, hc3'.out.mono (by omega), g3'.out⟩
 ·have hst : LaidAt c (N + 410) 13 w (.slice none 0 0) 0 w3 := ⟨by omega, [], GrowP.nil _ _, rfl, AllI.nil, hc3.mono (by omega), g3'.out⟩
  clear hc3 g3' hG3'
  have hst' := Lib.hid hst; clear hst
  go_wp2_with fail
  go_loopw [3] (fun o wr => ∃ k : Nat, LaidAt c (N + 410) 13 w o k wr) (fun o _ => 13 - sliceN o)
  case atStart => exact ⟨0, hst'.out⟩
  case round =>
   clear hst'
   obtain ⟨k, hk, f2, hG, hfl, hfI2, hc, hgw⟩ := hrel
   obtain ⟨w6, rfl⟩ : ∃ wo : World, wo = wr := ⟨_, rfl⟩
   obtain ⟨ao2, cap2, rfl⟩ := hG.shape
   rw [hfl] at hG ⊢
   by_cases hlt2 : k < 13
   ·have q3 : (k : Int) < 13 := by omega
    have cm := raMake_any k 12 w6 (by omega) (by omega) (by omega)
    have hxi := mkR_i64 k 12
    generalize mkR (k : Int) 12 = R at *
    obtain ⟨⟨x0, x1⟩, ok⟩ := R
    simp only at cm hxi
    have cm' := Lib.hid cm; have hxi' := Lib.hid hxi; have hG' := Lib.hid hG; have hfI2' := Lib.hid hfI2; have hfl' := Lib.hid hfl; have hc' := Lib.hid hc; have hgw' := Lib.hid hgw; clear cm hxi hG hfI2 hfl hc hgw
    go_wp2_with fail
    refine (cm'.out).mono ?_
    rintro e w5 ⟨rfl, hB5⟩
    obtain ⟨w7, hw7⟩ : ∃ W, w5.alloc (.cells #[.int .i64 x0, .int .i64 x1] 42) = W := ⟨_, rfl⟩
    have hB57 : Below w5.heap.size w5 w7 := by rw [← hw7]; exact (Below.refl _ _).alloc (Nat.le_refl _) _
    have hB7 := hB5.trans (hB57.mono hB5.size)
    have a0 : w7.cell? ⟨w5.heap.size, 0, none⟩ = some (.int .i64 x0) := by rw [← hw7]; simp [go_sem]
    have a1 : w7.cell? ⟨w5.heap.size, 1, none⟩ = some (.int .i64 x1) := by rw [← hw7]; simp [go_sem]
    have at' : ∀ w', Below w7.heap.size w7 w' → w'.cell? ⟨w5.heap.size, 0, none⟩ = some (.int .i64 x0) ∧ w'.cell? ⟨w5.heap.size, 1, none⟩ = some (.int .i64 x1) := fun w' h => ⟨bkeep h a0, bkeep h a1⟩
    have hne : (Value.slice ao2 k cap2).ownBlock ≠ some w5.heap.size := fun e => by have := (World.ownsRow.lt hG'.out _ e).2; have := hB5.size; omega
    have hblk := hG'.out.block
    have hfl2 : f2.length ≤ 1099511627776 := by rw [hfl'.out]; omega
    have hGd := fun w' (hB : Below w7.heap.size w7 w') => (hG'.out.below hB7).below hB
    have hsw : w.heap.size ≤ w7.heap.size := Nat.le_trans hgw'.out.size hB7.size
    have hdA : Below w7.heap.size w7 w7.drew := (Below.refl _ _).drew
    clear a0 a1 hB5 hB57
    have hw7' := Lib.hid hw7; have at'' := Lib.hid at'; have hfl2' := Lib.hid hfl2; have hblk' := Lib.hid hblk; have hGd' := Lib.hid hGd; have hB7' := Lib.hid hB7; clear hw7 at' hfl2 hblk hGd hB7
    go_wp2_with fail
    rw [hw7'.out]
    go_wp2_with fail
    refine wp_region_held_drew (S := (fun w' => w'.cell? ⟨w5.heap.size, 0, none⟩ = some (.int .i64 x0) ∧ w'.cell? ⟨w5.heap.size, 1, none⟩ = some (.int .i64 x1))) (by kernel_rfl) (by (try dsimp only); (first | exact at''.out _ hdA | exact at''.out _ hdB | exact at''.out _ hdC | exact hD)) (fun hHeld => ?_)
    refine ly_s 0 hHeld ?_
    refine ly_s 1 hHeld ?_
    refine ly_a 2 (fun KK hKK => ?_)
    go_simp
    refine (raInt_any _ _).mono ?_
    rintro e w8 ⟨rfl, hB8⟩
    have hdB := hdA.trans (hB8.mono hdA.size)
    try dsimp only
    refine hKK.out _ _ (by (try dsimp only); (first | exact at''.out _ hdA | exact at''.out _ hdB | exact at''.out _ hdC | exact hD)) (fun hHeld => ?_)
    clear hKK KK
    try simp only [Act.put, lyA, lyB, lyC]
    refine ly_s 3 hHeld ?_
    refine ly_a 4 (fun KK hKK => ?_)
    go_simp
    have hdC := hdB.alloc hdB.size (.cells #[.int .i64 x0, .int .i64 x1, .int .i64 0, .int .i64 1] 80)
    try dsimp only
    refine hKK.out _ _ (by (try dsimp only); (first | exact at''.out _ hdA | exact at''.out _ hdB | exact at''.out _ hdC | exact hD)) (fun hHeld => ?_)
    clear hKK KK
    try simp only [Act.put, lyA, lyB, lyC]
    refine ly_a 5 (fun KK hKK => ?_)
    refine wp_append_P _ _ rfl w.heap.size (.slice ao2 k cap2) f2 x0 x1 0 1 _ rfl rfl (hGd'.out _ hdB) hfl2'.out (Nat.le_trans hsw hdB.size) ?_
    intro v9 w9 hG9 hgr
    have hD : w9.cell? ⟨w5.heap.size, 0, none⟩ = some (.int .i64 x0) ∧ w9.cell? ⟨w5.heap.size, 1, none⟩ = some (.int .i64 x1) := ⟨gcell hgr (at''.out _ hdB).1 hne, gcell hgr (at''.out _ hdB).2 hne⟩
    try dsimp only
    refine hKK.out _ _ (by (try dsimp only); (first | exact at''.out _ hdA | exact at''.out _ hdB | exact at''.out _ hdC | exact hD)) (fun hHeld => ?_)
    clear hKK KK
    try simp only [Act.put, lyA, lyB, lyC]
    refine ly_s 6 hHeld ?_
    refine wpAnyH_done (by kernel_rfl) ?_ _
    have hgB := bgrow hB7'.out (some c)
    have hcl : c < w6.heap.size := hc'.out.lt
    have hst : LaidAt c (N + 410) 13 w v9 (k + 1) w9 := ⟨by omega, _, hG9, by rw [List.length_append, hfl'.out]; rfl, hfI2'.out.snoc ⟨hxi'.out, (good_i64 (x := (0, 1)) (by decide))⟩, ((hc'.out.below hB7'.out hcl).below hdB (by have := hB7'.out.size; omega)).kept hgr (fun g e => Nat.lt_of_lt_of_le hlt (hblk'.out g e)), grown_new (hgw'.out.trans (hgB.trans (bgrow hdB (some c)))) hgr (hblk'.out)⟩
    obtain ⟨_, _, rfl⟩ := hG9.shape
    have hl9 : (f2 ++ [((x0, x1), ((0 : Int), (1 : Int)))]).length = k + 1 := by rw [List.length_append, hfl'.out]; rfl
    rw [hl9] at hst ⊢
    clear hG9 hgr hD hHeld hgB hdA hdB hdC hl9
    have hst' := Lib.hid hst; clear hst
    go_wp2
    go_roundw
    case rel => exact ⟨k + 1, hst'.out⟩
    case measure => simp [sliceN]; omega
   ·have q3 : ¬ (k : Int) < 13 := by omega
    have hr := hG.read
    have hof : Off c _ ∧ NewB w.heap.size _ := ⟨hG.off hlt, hG.newB⟩
    have hr' := Lib.hid hr; have hof' := Lib.hid hof; have hfI2' := Lib.hid hfI2; have hc' := Lib.hid hc; have hgw' := Lib.hid hgw; have hfl' := Lib.hid hfl; clear hr hof hfI2 hc hgw hfl
    clear hG
    go_wp2
    go_ret
    exact ⟨_, f2, rfl, hr'.out, hof'.out, by rw [hfl'.out]; exact hk, hfI2'.out, hc'.out.mono (by omega), hgw'.out⟩
 ·have q30 : ((k : Int) == 0) = false := by rw [beq_eq_false_iff_ne]; omega
  have q31 : ((k : Int) == 1) = false := by rw [beq_eq_false_iff_ne]; omega
  have q32 : ((k : Int) == 2) = false := by rw [beq_eq_false_iff_ne]; omega
  have q33 : ((k : Int) == 3) = false := by rw [beq_eq_false_iff_ne]; omega
  have q34 : ((k : Int) == 4) = false := by rw [beq_eq_false_iff_ne]; omega
  have hr := hG3'.out.read
  have hr' := Lib.hid hr; have hc3' := Lib.hid hc3; clear hr hc3
  go_wp2
  go_ret
  exact ⟨_, f, rfl, hr'.out, hoff'.out, by rw [hn'.out]; omega, hfI'.out, hc3'.out.mono (by omega), g3'.out⟩
theorem anyIm_any (c N : Nat) (w : World) (h : CurAt w c N) (hN : N ≤ 549755600000) :
  Calls Tryz.prog 80 #[.pointer (some ⟨c, 0, none⟩)] w (PicksG c (N + 500) w) := by
 refine (anyIm_new c N w h hN).mono ?_
 rintro e w' ⟨v, f, rfl, h1, ⟨h2, -⟩, h3⟩
 exact ⟨v, f, rfl, h1, h2, h3⟩
end Go.Proofs.YtfhhofecfllbfaaGreat

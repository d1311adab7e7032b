/- A drawn map with a drawn list that is often a chain, told loosely. No conditions but a readable code. -/
import Derived.Test.YtfhhofecfllbfaaGreatDrawI3
import Derived.Test.YtfhhofecfllbfaaGreatDrawS
import Derived.Test.YtfhhofecfllbfaaGreatDrawM
import Derived.Test.YtfhhofecfllbfaaGreatPkN
import Derived.Test.YtfhhofecfllbfaaGreatPkK
import Derived.Test.YtfhhofecfllbfaaGreatHeldI
import Derived.Deep.Cut
import Derived.Deep.CutRange
import Derived.Deep.CutBlock
namespace Go.Proofs.YtfhhofecfllbfaaGreat
open Go.RowKit
set_option maxRecDepth 100000
def UnitQ (q : Quad) : Prop := unitR q.1.1 q.1.2 = true ∧ unitR q.2.1 q.2.2 = true
def LstP (l : List Quad) : Prop := ∀ i, i < l.length → UnitQ (nth4 l i)
theorem LstP.snoc {f : List Quad} {p : Quad} (h : LstP f) (hp : UnitQ p) : LstP (f ++ [p]) := fun i hi => by
 rw [List.length_append, List.length_singleton] at hi
 by_cases q : i < f.length
 ·have : nth4 (f ++ [p]) i = nth4 f i := by unfold nth4; rw [List.getElem?_append_left q]
  rw [this]; exact h i q
 ·obtain rfl : i = f.length := by omega
  have : nth4 (f ++ [p]) f.length = p := by unfold nth4; simp
  rw [this]; exact hp
theorem LstP.one {p : Quad} (hp : UnitQ p) : LstP [p] := LstP.snoc (f := []) (fun _ h => by cases h) hp
theorem ivs_lst {l : List Quad} (h : ivsB l = true) : 1 ≤ l.length ∧ LstP l := by
 obtain ⟨h1, h2⟩ := ivsB_true h
 exact ⟨h1.1, fun i hi => ⟨(ivB_true (h2 i hi)).1, (ivB_true (h2 i hi)).2.1⟩⟩
theorem betw_lst {f : List Quad} {lin : Bool} {r : List (Int × Int) × Bool} (hf : MapP f) (h : EndX f lin r) (hr : r.2 = true) : 1 ≤ (betwL r.1).length ∧ (betwL r.1).length ≤ 8 ∧ LstP (betwL r.1) := by
 obtain ⟨h1, h2, h3⟩ := h.unit hf hr
 have hmem : (0, 1) ∈ r.1 ∧ (1, 1) ∈ r.1 := by
  rcases h with ⟨e, _⟩ | ⟨_, h⟩
  ·rw [e] at hr; cases hr
  ·exact ⟨h.1.2.1 (0, 1) (List.mem_cons_self ..), h.1.2.1 (1, 1) (List.mem_cons_of_mem _ (List.mem_cons_self ..))⟩
 have h4 : 2 ≤ r.1.length := by
  match hr1 : r.1 with
  | [] => rw [hr1] at hmem; cases hmem.1
  | [a] =>
    rw [hr1] at hmem
    have a1 := List.mem_singleton.1 hmem.1
    have a2 := List.mem_singleton.1 hmem.2
    rw [← a1] at a2
    cases a2
  | _ :: _ :: _ => simp
 have hlen : (betwL r.1).length = r.1.length - 1 := by unfold betwL; rw [betwK_len]
 refine ⟨by omega, by omega, fun i hi => ?_⟩
 rw [hlen] at hi
 have e : nth4 (betwL r.1) i = (nthR r.1 i, nthR r.1 (i + 1)) := nth4_betwK r.1 hi
 have hn : ∀ j, j < r.1.length → nthR r.1 j ∈ r.1 := fun j hj => by
  have : nthR r.1 j = r.1[j] := by unfold nthR; rw [List.getElem?_eq_getElem hj]; rfl
  rw [this]; exact List.getElem_mem hj
 rw [e]
 exact ⟨h3 _ (hn i (by omega)), h3 _ (hn (i + 1) (by omega))⟩
theorem GrowI.single {w : World} {B : Nat} (hB : B ≤ w.heap.size) (p : Quad) : GrowI (w.alloc (.cells #[.int .i64 p.1.1, .int .i64 p.1.2, .int .i64 p.2.1, .int .i64 p.2.2] 44)) B (.slice (some ⟨w.heap.size, 0, none⟩) 1 1) [p] := by
 unfold GrowI GrowF
 exact World.ownsRow_lit (base := B) (e := 44) (size := 4) w #[.int .i64 p.1.1, .int .i64 p.1.2, .int .i64 p.2.1, .int .i64 p.2.2] 1 hB (by decide) rfl
def PicksCh (c N : Nat) (w : World) (e : Ending) (w' : World) : Prop := ∃ v f u l, e = .returned (.tuple #[v, u]) ∧ (QuadV w' v f ∧ Off c v ∧ f.length ≤ 13 ∧ AllI f) ∧ (QuadV w' u l ∧ Off c u ∧ l.length ≤ 12) ∧ CurAt w' c N ∧ w.grownBy w' (some c)
def ChSt (c N : Nat) (w : World) (v u : Value) (wx : World) : Prop := ∃ f l, (QuadV wx v f ∧ Off c v ∧ f.length ≤ 13 ∧ AllI f ∧ MapP f) ∧ (QuadV wx u l ∧ Off c u ∧ 1 ≤ l.length ∧ l.length ≤ 12 ∧ LstP l) ∧ CurAt wx c N ∧ w.grownBy wx (some c)
def OutAt (c N L : Nat) (w : World) (o : Value) (wr : World) : Prop := ∃ xs, GrowI wr w.heap.size o xs ∧ 1 ≤ xs.length ∧ xs.length ≤ L ∧ LstP xs ∧ CurAt wr c N ∧ w.grownBy wr (some c)
set_option linter.unusedSimpArgs false in
set_option maxRecDepth 100000 in
set_option maxHeartbeats 6400000 in
theorem chained_any (c N : Nat) (w : World) (h : CurAt w c N) (hN : N ≤ 549755000000) :
  Calls Tryz.prog 103 #[.pointer (some ⟨c, 0, none⟩)] w (PicksCh c (N + 4000) w) := by
 have hlt := h.lt
 have c1 := anyIm_any c N w h (by omega)
 clear h
 have c1' := Lib.hid c1; clear c1
 go_enter Tryz.func103, Tryz.ntmps103
 go_wp2_with fail
 refine (c1'.out).mono ?_
 rintro e w1 ⟨v, f, rfl, hq, ho, hl, hI, hc1, hg1⟩
 have c2 := intervals_any c _ v f w1 hc1 (by omega) hq ho hI (by omega)
 have hqw := fun w' (hg : w1.grownBy w' (some c)) => hq.cellOff ho hg
 obtain ⟨ao, cap, rfl, -⟩ := hq.form
 clear hc1 hq c1'
 have c2' := Lib.hid c2; have hqw' := Lib.hid hqw; have ho' := Lib.hid ho; have hI' := Lib.hid hI; have hg1' := Lib.hid hg1; clear c2 hqw ho hI hg1
 go_wp2_with fail
 refine (c2'.out).mono ?_
 rintro e w2 ⟨u, l, rfl, hu, hou, hlu, hc2, hg2⟩
 have hq2 := hqw'.out w2 hg2
 have g2 := hg1'.out.trans hg2
 have c3 := asked_imGood_any _ u f l w2 hq2 hu (by omega) (by omega)
 obtain ⟨au, cu, rfl, -⟩ := hu.form
 have hmp : (mapB f && ivsB l) = true → MapP f ∧ 1 ≤ l.length ∧ LstP l := fun h => by
  rw [Bool.and_eq_true] at h
  exact ⟨mapB_true h.1, ivs_lst h.2⟩
 generalize (mapB f && ivsB l) = M at *
 clear hqw' hg1' hg2 c2'
 have c3' := Lib.hid c3; have hq2' := Lib.hid hq2; have hu' := Lib.hid hu; have hou' := Lib.hid hou; have hmp' := Lib.hid hmp; have g2' := Lib.hid g2; clear c3 hq2 hu hou hmp g2
 go_wp2_with fail
 refine (c3'.out).mono ?_
 rintro e w3 ⟨rfl, hB3⟩
 have hq3 := hq2'.out.below hB3
 have hu3 := hu'.out.below hB3
 have hc3 := hc2.below hB3 hc2.lt
 have g3 := g2'.out.trans (bgrow hB3 (some c))
 clear hq2' hu' hc2 g2' hB3 c3'
 have hq3' := Lib.hid hq3; have hu3' := Lib.hid hu3; have g3' := Lib.hid g3; clear hq3 hu3 g3
 cases M
 ·have hc3' := Lib.hid hc3
  clear hc3
  go_wp2
  go_ret2
  exact ⟨_, f, _, l, rfl, ⟨hq3'.out, ho'.out, hl, hI'.out⟩, ⟨hu3'.out, hou'.out, hlu⟩, hc3'.out.mono (by omega), g3'.out⟩
 go_wp2_with fail
 refine (one_any c _ 4 w3 hc3 (by omega) (by omega) (by omega)).mono ?_
 rintro e w4 ⟨v4, rfl, ⟨b, rfl⟩, hc4, hg4⟩
 have hq4 := hq3'.out.cellOff ho'.out hg4
 have hu4 := hu3'.out.cellOff hou'.out hg4
 have g4 := g3'.out.trans hg4
 clear hq3' hu3' g3' hc3 hg4
 have hq4' := Lib.hid hq4; have hu4' := Lib.hid hu4; have g4' := Lib.hid g4; clear hq4 hu4 g4
 cases b
 case true =>
  have hc4' := Lib.hid hc4; clear hc4
  go_wp2
  go_ret2
  exact ⟨_, f, _, l, rfl, ⟨hq4'.out, ho'.out, hl, hI'.out⟩, ⟨hu4'.out, hou'.out, hlu⟩, hc4'.out.mono (by omega), g4'.out⟩
 obtain ⟨hmap, hl1, hls⟩ := hmp'.out (by first | rfl | trivial)
 clear hmp'
 have hmap' := Lib.hid hmap; have hls' := Lib.hid hls; clear hmap hls
 go_wp2_with fail
 refine (one_any c _ 2 w4 hc4 (by omega) (by omega) (by omega)).mono ?_
 rintro e w5 ⟨v5, rfl, ⟨b, rfl⟩, hc5, hg5⟩
 have hq5 := hq4'.out.cellOff ho'.out hg5
 have hu5 := hu4'.out.cellOff hou'.out hg5
 have g5 := g4'.out.trans hg5
 clear hq4' hu4' g4' hc4 hg5
 have hq5' := Lib.hid hq5; have hu5' := Lib.hid hu5; have g5' := Lib.hid g5; clear hq5 hu5 g5
 go_upto_if 31 with fail
 go_cut [4, 5, 6, 7] from 32 to 48 (fun v u _ _ wx => ChSt c (N + 3200) w v u wx)
 case first =>
  cases b
  ·have hc5' := Lib.hid hc5
   clear hc5
   go_wp2_with fail
   go_meet
   exact ⟨f, l, ⟨hq5'.out, ho'.out, hl, hI'.out, hmap'.out⟩, ⟨hu5'.out, hou'.out, hl1, hlu, hls'.out⟩, hc5'.out.mono (by omega), g5'.out⟩
  go_wp2_with fail
  refine (strictMap_any c _ w5 hc5 (by omega)).mono ?_
  rintro e w6 ⟨v6, f6, rfl, hq6, ho6, hl6, hI6, hc6, hg6⟩
  have hu6 := hu5'.out.cellOff hou'.out hg6
  have g6 := g5'.out.trans hg6
  have cg := imGood_any v6 f6 w6 hq6 (by omega)
  have cp := fun lin w' (hB : QuadV w' v6 f6) (hm : mapB f6 = true) => mkPartition_any v6 f6 lin w' hB hm
  have hun := fun (hm : mapB f6 = true) lin r (hE : EndX f6 lin r) (h2 : r.2 = true) => betw_lst (mapB_true hm) hE h2
  have hm6 : mapB f6 = true → MapP f6 := mapB_true
  generalize mapB f6 = M at *
  obtain ⟨ao6, cap6, rfl, -⟩ := hq6.form
  clear hu5' g5' hc5 hg6 hq5' ho' hI' hmap'
  have cg' := Lib.hid cg; have cp' := Lib.hid cp; have hun' := Lib.hid hun; have hm6' := Lib.hid hm6; have hq6' := Lib.hid hq6; have ho6' := Lib.hid ho6; have hI6' := Lib.hid hI6; have hu6' := Lib.hid hu6; have g6' := Lib.hid g6; clear cg cp hun hm6 hq6 ho6 hI6 hu6 g6
  go_wp2_with fail
  refine (cg'.out).mono ?_
  rintro e w7 ⟨rfl, hB7⟩
  have hq7 := hq6'.out.below hB7
  have hu7 := hu6'.out.below hB7
  have hc7 := hc6.below hB7 hc6.lt
  have g7 := g6'.out.trans (bgrow hB7 (some c))
  clear hq6' hu6' hc6 g6' hB7 cg'
  have hq7' := Lib.hid hq7; have hu7' := Lib.hid hu7; have g7' := Lib.hid g7; clear hq7 hu7 g7
  cases M
  ·have hc7' := Lib.hid hc7
   clear hc7
   go_wp2
   go_ret2
   exact ⟨_, f6, _, l, rfl, ⟨hq7'.out, ho6'.out, hl6, hI6'.out⟩, ⟨hu7'.out, hou'.out, hlu⟩, hc7'.out.mono (by omega), g7'.out⟩
  go_wp2_with fail
  refine (one_any c _ 2 w7 hc7 (by omega) (by omega) (by omega)).mono ?_
  rintro e w8 ⟨v8, rfl, ⟨lin, rfl⟩, hc8, hg8⟩
  have hq8 := hq7'.out.cellOff ho6'.out hg8
  have hu8 := hu7'.out.cellOff hou'.out hg8
  have g8 := g7'.out.trans hg8
  have c8 := cp'.out lin w8 hq8 (by first | rfl | trivial)
  have hun8 := hun'.out (by first | rfl | trivial) lin
  have hm8 := hm6'.out (by first | rfl | trivial)
  clear hq7' hu7' hc7 hg8 g7' cp' hun' hm6'
  have hq8' := Lib.hid hq8; have hu8' := Lib.hid hu8; have g8' := Lib.hid g8; have c8' := Lib.hid c8; have hun8' := Lib.hid hun8; have hm8' := Lib.hid hm8; clear hq8 hu8 g8 c8 hun8 hm8
  go_wp2_with fail
  refine (c8'.out).mono ?_
  rintro e w9 ⟨u9, r, rfl, hE, hr9, hB9⟩
  have hq9 := hq8'.out.below hB9
  have hu9 := hu8'.out.below hB9
  have hc9 := hc8.below hB9 hc8.lt
  have g9 := g8'.out.trans (bgrow hB9 (some c))
  have hun9 := hun8'.out r hE
  have hlt9 := hc9.lt
  have hr := hr9.read
  obtain ⟨ao9, cap9, rfl, -⟩ := hr.form
  obtain ⟨xs, ok⟩ := r
  clear hq8' hu8' hc8 g8' c8' hun8' hE hB9 hr9
  simp only at hun9 hr
  cases ok
  ·clear hr hun9
   have hq9' := Lib.hid hq9; have hu9' := Lib.hid hu9; have hc9' := Lib.hid hc9; have g9' := Lib.hid g9; clear hq9 hu9 hc9 g9
   go_wp2_with fail
   go_meet
   exact ⟨f6, l, ⟨hq9'.out, ho6'.out, hl6, hI6'.out, hm8'.out⟩, ⟨hu9'.out, hou'.out, hl1, hlu, hls'.out⟩, hc9'.out.mono (by omega), g9'.out⟩
  obtain ⟨k1, k2, k3⟩ := hun9 rfl
  have hxl : szRatS xs ≤ 1099511627776 := by rw [betwL_len] at k2; unfold szRatS; omega
  have cb := ivBetween_any _ xs w9 hr hxl
  generalize betwL xs = L at *
  clear hr hun9 hu9 hls'
  have hq9' := Lib.hid hq9; have g9' := Lib.hid g9; have cb' := Lib.hid cb; have k3' := Lib.hid k3; clear hq9 g9 cb k3
  go_wp2_with fail
  refine (cb'.out).mono ?_
  rintro e wA ⟨vA, rfl, hGA, hBA⟩
  have hqA := hq9'.out.below hBA
  have hcA := hc9.below hBA hc9.lt
  have gA := g9'.out.trans (bgrow hBA (some c))
  have hoA := hGA.offI hlt9
  have hrA := hGA.read
  clear hq9' hc9 g9' cb' hBA hGA
  have hqA' := Lib.hid hqA; have hcA' := Lib.hid hcA; have gA' := Lib.hid gA; have hoA' := Lib.hid hoA; have hrA' := Lib.hid hrA; clear hqA hcA gA hoA hrA
  go_wp2_with fail
  go_meet
  exact ⟨f6, L, ⟨hqA'.out, ho6'.out, hl6, hI6'.out, hm8'.out⟩, ⟨hrA'.out, hoA'.out, k1, by omega, k3'.out⟩, hcA'.out.mono (by omega), gA'.out⟩
 case rest =>
  clear hq5' hu5' g5' hc5 hmap' hls' ho' hI' hou' hl hlu hl1
  obtain ⟨f, l, ⟨hq, ho, hl, hI, hmap⟩, ⟨hu, hou, hl1, hl2, hls⟩, hc, hg⟩ := hcut
  obtain ⟨wo, rfl⟩ : ∃ wo : World, wo = wc := ⟨_, rfl⟩
  have hlt := hc.lt
  have hqw := fun w' (hg : wo.grownBy w' (some c)) => hq.cellOff ho hg
  have huw := fun w' (hg : wo.grownBy w' (some c)) => hu.cellOff hou hg
  have hcv := fun (i k : Quad) w' (hg : wo.grownBy w' (some c)) (h1 : UnitQ i) (h2 : UnitQ k) => ivCovers_any _ f i k w' (hqw w' hg) hmap h1.1 h1.2 h2.1 h2.2
  obtain ⟨ao, cap, rfl, -⟩ := hq.form
  obtain ⟨au, cu, rfl, -⟩ := hu.form
  clear hq hu hmap
  have hqw' := Lib.hid hqw; have huw' := Lib.hid huw; have hcv' := Lib.hid hcv; have ho' := Lib.hid ho; have hI' := Lib.hid hI; have hou' := Lib.hid hou; have hls' := Lib.hid hls; have hg' := Lib.hid hg; clear hqw huw hcv ho hI hou hls hg
  go_wp2_with fail
  refine (pick_any c _ l.length wo hc (by omega) (by omega) (by omega)).mono ?_
  rintro e w1 ⟨v1, rfl, ⟨i, rfl, hi⟩, hc1, hg1⟩
  obtain ⟨_, _, eu, -, -, H⟩ := (huw'.out w1 hg1).form
  obtain ⟨bl, ol, e0, y0, y1, y2, y3⟩ := H i hi
  clear H
  cases e0
  cases eu
  have hX := hls'.out i hi
  generalize nth4 l i = X at *
  have hG := GrowI.single (w := w1) (B := wo.heap.size) hg1.size X
  obtain ⟨⟨x0, x1⟩, ⟨x2, x3⟩⟩ := X
  simp only at y0 y1 y2 y3 hG
  obtain ⟨w2, hw2⟩ : ∃ W, w1.alloc (.cells #[.int .i64 x0, .int .i64 x1, .int .i64 x2, .int .i64 x3] 44) = W := ⟨_, rfl⟩
  rw [hw2] at hG
  have hB2 : Below w1.heap.size w1 w2 := by rw [← hw2]; exact (Below.refl _ _).alloc (Nat.le_refl _) _
  have hc2 := hc1.below hB2 hc1.lt
  have hg2 := hg1.trans (bgrow hB2 (some c))
  have hiI : (i : Int) < (l.length : Int) := by omega
  clear hc hc1 hg1 hB2
  have hw2' := Lib.hid hw2; have hG' := Lib.hid hG; have hg2' := Lib.hid hg2; have hX' := Lib.hid hX; clear hw2 hG hg2 hX
  go_upto_region 13 with fail
  rw [hw2'.out]
  clear y0 y1 y2 y3 hw2' hiI hi
  go_wp2_with fail
  refine (pick_any c _ 4 w2 hc2 (by omega) (by omega) (by omega)).mono ?_
  rintro e w3 ⟨v3, rfl, ⟨x, rfl, hx⟩, hc3, hg3⟩
  have hG3 := hG'.out.kept hg3 hlt
  have hg4 := hg2'.out.trans hg3
  have hst : OutAt c (N + 3204) 4 wo (.slice (some ⟨w1.heap.size, 0, none⟩) 1 1) w3 := ⟨_, hG3, by simp, by simp, LstP.one hX'.out, hc3.mono (by omega), hg4⟩
  clear hc2 hG' hg2' hX' hc3 hg3 hG3 hg4
  have hst' := Lib.hid hst; clear hst
  go_upto_block 0 with fail
  go_cut [8, 10, 11, 12, 13] from 60 to 96 (fun o _ _ _ _ wx => OutAt c (N + 3300) 4 wo o wx)
  case first =>
   go_wp2_with fail
   go_loopw [8, 10] (fun o t wr => ∃ k : Nat, k ≤ 30 ∧ t = .int .i64 k ∧ OutAt c (N + 3204 + 2 * k) 4 wo o wr) (fun _ t _ => 30 - (intOf t).toNat)
   case atStart => exact ⟨0, by omega, rfl, hst'.out⟩
   case round =>
    clear hst'
    obtain ⟨k, hk, rfl, xs, hG, hx1, hx4, hxl, hc, hgw⟩ := hrel
    obtain ⟨wL, rfl⟩ : ∃ wo : World, wo = wr := ⟨_, rfl⟩
    obtain ⟨g, gc, rfl, ⟨hgb1, hgb2⟩, -, HG⟩ := hG.form (by omega)
    have hst0 : OutAt c (N + 3300) 4 wo (.slice (some ⟨g, 0, none⟩) xs.length gc) wL := ⟨xs, hG, hx1, hx4, hxl, hc.mono (by omega), hgw⟩
    obtain ⟨p, hp⟩ : ∃ p, xs.length = p := ⟨_, rfl⟩
    obtain ⟨j, hj⟩ : ∃ j, p = j + 1 := ⟨p - 1, by omega⟩
    have hY := hxl j (by omega)
    obtain ⟨z0, z1, z2, z3⟩ := HG j (by omega)
    rw [hp] at hx1 hx4 hst0 ⊢
    clear HG
    generalize nth4 xs j = Y at *
    obtain ⟨⟨a0, a1⟩, ⟨a2, a3⟩⟩ := Y
    simp only at z0 z1 z2 z3
    have hjn : j < p := by omega
    have hjw : IntKind.i64.wrap ((p : Int) - 1) = (j : Int) := by rw [IntKind.wrap_i64]; omega
    have hjI : (j : Int) < (p : Int) := by omega
    have hj0 : (0 : Int) ≤ (j : Int) := by omega
    by_cases h1 : k < 30
    rotate_left
    ·have hst0' := Lib.hid hst0
     have hj' := Lib.hid hj; have hp' := Lib.hid hp; have hjw' := Lib.hid hjw; clear hst0 hj hp hjw
     have h1' : ¬ (k : Int) < 30 := by omega
     clear h1 z0 z1 z2 z3
     go_wp2_with fail
     go_meet
     exact hst0'.out
    have h1' : (k : Int) < 30 := by omega
    by_cases h2 : (p : Int) < 1 + (x : Int)
    rotate_left
    ·have hst0' := Lib.hid hst0
     have hj' := Lib.hid hj; have hp' := Lib.hid hp; have hjw' := Lib.hid hjw; clear hst0 hj hp hjw
     clear z0 z1 z2 z3
     go_wp2_with fail
     go_meet
     exact hst0'.out
    clear hst0
    have hj' := Lib.hid hj; have hp' := Lib.hid hp; have hG' := Lib.hid hG; have hxl' := Lib.hid hxl; have hgw' := Lib.hid hgw; have hY' := Lib.hid hY; have hjw' := Lib.hid hjw; clear hj hp hG hxl hgw hY hjw
    go_wp2_with fail
    refine (pick_any c _ l.length wL hc (by omega) (by omega) (by omega)).mono ?_
    rintro e w5 ⟨v5, rfl, ⟨i5, rfl, hi5⟩, hc5, hg5⟩
    have hgw5 := hgw'.out.trans hg5
    obtain ⟨_, _, eu, -, -, H⟩ := (huw'.out w5 hgw5).form
    obtain ⟨bl, ol, e0, y0, y1, y2, y3⟩ := H i5 hi5
    clear H
    cases e0
    cases eu
    have hX := hls'.out i5 hi5
    generalize nth4 l i5 = X at *
    obtain ⟨⟨x0, x1⟩, ⟨x2, x3⟩⟩ := X
    simp only at y0 y1 y2 y3
    have hG5 := hG'.out.kept hg5 hlt
    have hgc : some c ≠ some g := fun e => by have := Option.some.inj e; omega
    replace z0 := gcell hg5 z0 hgc
    replace z1 := gcell hg5 z1 hgc
    replace z2 := gcell hg5 z2 hgc
    replace z3 := gcell hg5 z3 hgc
    obtain ⟨w6, hw6⟩ : ∃ W, w5.alloc (.cells #[.int .i64 x0, .int .i64 x1, .int .i64 x2, .int .i64 x3] 44) = W := ⟨_, rfl⟩
    have hB6 : Below w5.heap.size w5 w6 := by rw [← hw6]; exact (Below.refl _ _).alloc (Nat.le_refl _) _
    have i0 : w6.cell? ⟨w5.heap.size, 0, none⟩ = some (.int .i64 x0) := by rw [← hw6]; simp [go_sem]
    have i1 : w6.cell? ⟨w5.heap.size, 1, none⟩ = some (.int .i64 x1) := by rw [← hw6]; simp [go_sem]
    have i2 : w6.cell? ⟨w5.heap.size, 2, none⟩ = some (.int .i64 x2) := by rw [← hw6]; simp [go_sem]
    have i3 : w6.cell? ⟨w5.heap.size, 3, none⟩ = some (.int .i64 x3) := by rw [← hw6]; simp [go_sem]
    replace z0 := bkeep hB6 z0
    replace z1 := bkeep hB6 z1
    replace z2 := bkeep hB6 z2
    replace z3 := bkeep hB6 z3
    have hG6 := hG5.below hB6
    have hc6 := hc5.below hB6 hc5.lt
    have hg6 := hgw5.trans (bgrow hB6 (some c))
    have hd : Below w6.heap.size w6 w6.drew := (Below.refl _ _).drew
    have hgd := hg6.trans (bgrow hd (some c))
    have cc := hcv'.out ((a0, a1), (a2, a3)) ((x0, x1), (x2, x3)) _ hgd hY'.out hX
    obtain ⟨⟨is, okb⟩, hR⟩ : ∃ r, covR f ((a0, a1), (a2, a3)) ((x0, x1), (x2, x3)) = r := ⟨_, rfl⟩
    rw [hR] at cc
    have hiI : (i5 : Int) < (l.length : Int) := by omega
    have at' : ∀ w', Below w6.heap.size w6 w' → (w'.cell? ⟨w5.heap.size, 0, none⟩ = some (.int .i64 x0) ∧ w'.cell? ⟨w5.heap.size, 1, none⟩ = some (.int .i64 x1) ∧ w'.cell? ⟨w5.heap.size, 2, none⟩ = some (.int .i64 x2) ∧ w'.cell? ⟨w5.heap.size, 3, none⟩ = some (.int .i64 x3)) ∧ w'.cell? ⟨g, j * 4, none⟩ = some (.int .i64 a0) ∧ w'.cell? ⟨g, j * 4 + 1, none⟩ = some (.int .i64 a1) ∧ w'.cell? ⟨g, j * 4 + 2, none⟩ = some (.int .i64 a2) ∧ w'.cell? ⟨g, j * 4 + 3, none⟩ = some (.int .i64 a3) :=
     fun w' h => ⟨⟨bkeep h i0, bkeep h i1, bkeep h i2, bkeep h i3⟩, bkeep h z0, bkeep h z1, bkeep h z2, bkeep h z3⟩
    clear hc hG' hgw' hg5 hgw5 hG5 hB6 hc5 i0 i1 i2 i3 z0 z1 z2 z3 hgd hR hY'
    have hw6' := Lib.hid hw6; have hG6' := Lib.hid hG6; have hc6' := Lib.hid hc6; have hg6' := Lib.hid hg6; have hX' := Lib.hid hX; have cc' := Lib.hid cc; have at'' := Lib.hid at'; clear hw6 hG6 hc6 hg6 hX cc at'
    have hjw := hjw'.out
    go_upto_region 18 with fail
    rw [hw6'.out]
    clear y0 y1 y2 y3 hw6' hiI hi5 hjw'
    go_wp2_with fail
    refine wp_region_held_drew (S := (fun w' => (w'.cell? ⟨w5.heap.size, 0, none⟩ = some (.int .i64 x0) ∧ w'.cell? ⟨w5.heap.size, 1, none⟩ = some (.int .i64 x1) ∧ w'.cell? ⟨w5.heap.size, 2, none⟩ = some (.int .i64 x2) ∧ w'.cell? ⟨w5.heap.size, 3, none⟩ = some (.int .i64 x3)) ∧ w'.cell? ⟨g, j * 4, none⟩ = some (.int .i64 a0) ∧ w'.cell? ⟨g, j * 4 + 1, none⟩ = some (.int .i64 a1) ∧ w'.cell? ⟨g, j * 4 + 2, none⟩ = some (.int .i64 a2) ∧ w'.cell? ⟨g, j * 4 + 3, none⟩ = some (.int .i64 a3))) (by kernel_rfl) (by (try dsimp only); exact at''.out _ ‹_›) (fun hHeld => ?_)
    refine ly_s 0 hHeld ?_
    refine ly_s 1 hHeld ?_
    refine ly_s 2 hHeld ?_
    refine ly_s 3 hHeld ?_
    refine ly_s 4 hHeld ?_
    refine ly_s 5 hHeld ?_
    refine ly_s 6 hHeld ?_
    refine ly_s 7 hHeld ?_
    refine ly_a 8 (fun KK hKK => ?_)
    go_simp
    refine (cc'.out).mono ?_
    rintro e w7 ⟨rfl, hB7⟩
    have hd2 := hd.trans (hB7.mono hd.size)
    try dsimp only
    refine hKK.out _ _ (by (try dsimp only); exact at''.out _ ‹_›) (fun hHeld => ?_)
    clear hKK KK
    try simp only [Act.put, lyA, lyB, lyC]
    refine ly_s 9 hHeld ?_
    refine ly_s 10 hHeld ?_
    refine ly_s 11 hHeld ?_
    refine ly_s 12 hHeld ?_
    refine ly_s 13 hHeld ?_
    refine wpAnyH_done (by kernel_rfl) ?_ _
    have hG7 := hG6'.out.below hd2
    have hc7 := hc6'.out.below hd2 hc6'.out.lt
    have hg7 := hg6'.out.trans (bgrow hd2 (some c))
    obtain ⟨⟨i0, i1, i2, i3⟩, -⟩ := at''.out _ hd2
    clear hHeld hd hd2 hB7 hG6' hc6' hg6' at'' cc' hjw
    have hs7 : wo.heap.size ≤ w7.heap.size := hg7.size
    rw [hp'.out] at hG7
    have hll : xs.length ≤ 1099511627776 := by rw [hp'.out]; omega
    have hst : OutAt c (N + 3204 + 2 * (k + 1)) 4 wo (.slice (some ⟨g, 0, none⟩) p gc) w7 := ⟨xs, hG7, by rw [hp'.out]; exact hx1, by rw [hp'.out]; exact hx4, hxl'.out, hc7.mono (by omega), hg7⟩
    cases is
    ·have hst' := Lib.hid hst
     have hc7' := Lib.hid hc7; have hg7' := Lib.hid hg7; have hG7' := Lib.hid hG7; have hll' := Lib.hid hll; clear hst hc7 hg7 hG7 hll
     go_wp2
     go_roundw
     case rel => exact ⟨k + 1, by omega, by go_num, hst'.out⟩
     case measure => simp [intOf]; omega
    cases okb
    ·have hst' := Lib.hid hst
     have hc7' := Lib.hid hc7; have hg7' := Lib.hid hg7; have hG7' := Lib.hid hG7; have hll' := Lib.hid hll; clear hst hc7 hg7 hG7 hll
     go_wp2
     go_roundw
     case rel => exact ⟨k + 1, by omega, by go_num, hst'.out⟩
     case measure => simp [intOf]; omega
    clear hst
    have hc7' := Lib.hid hc7; have hg7' := Lib.hid hg7; have hll' := Lib.hid hll; clear hc7 hg7 hll
    go_wp2_with (at_builtin; refine wpList_append_Iv rfl _ _ rfl wo.heap.size (.slice (some ⟨g, 0, none⟩) p gc) xs x0 x1 x2 x3 1 rfl rfl hG7 hll'.out hs7 ?_)
    intro v8 w8 hown hgrow
    have hblk : ∀ g', (Value.slice (some ⟨g, 0, none⟩) p gc).ownBlock = some g' → wo.heap.size ≤ g' := fun g' e => (World.ownsRow.lt hG7 g' e).1
    have hc8 := hc7'.out.kept hgrow (fun g e => by have := hblk g e; omega)
    have hg8 := grown_new hg7'.out hgrow hblk
    have hst : OutAt c (N + 3204 + 2 * (k + 1)) 4 wo v8 w8 := ⟨_, hown, by simp, by rw [List.length_append, hp'.out]; simp; omega, hxl'.out.snoc hX'.out, hc8.mono (by omega), hg8⟩
    obtain ⟨_, _, rfl⟩ := hown.shape
    clear hgrow hown hG7 hblk hc8 hg8 i0 i1 i2 i3 hc7' hg7'
    have hst' := Lib.hid hst; clear hst
    go_wp2
    go_roundw
    case rel => exact ⟨k + 1, by omega, by go_num, hst'.out⟩
    case measure => simp [intOf]; omega
  case rest =>
   clear hst'
   obtain ⟨xs, hG, hx1, hx4, hxl, hc, hgw⟩ := hcut
   obtain ⟨wL, rfl⟩ : ∃ wo : World, wo = wc := ⟨_, rfl⟩
   obtain ⟨g, gc, rfl, ⟨hgb1, hgb2⟩, -, -⟩ := hG.form (by omega)
   have hG' := Lib.hid hG; have hxl' := Lib.hid hxl; have hgw' := Lib.hid hgw; clear hG hxl hgw
   go_wp2_with fail
   refine (one_any c _ 16 wL hc (by omega) (by omega) (by omega)).mono ?_
   rintro e w5 ⟨v5, rfl, ⟨b, rfl⟩, hc5, hg5⟩
   have hgw5 := hgw'.out.trans hg5
   have hG5 := hG'.out.kept hg5 hlt
   clear hG' hgw' hc hg5
   have hfin : ∀ o wx, OutAt c (N + 3310) 12 wo o wx → ∃ ys, ((QuadV wx (.slice ao f.length cap) f ∧ Off c (.slice ao f.length cap) ∧ f.length ≤ 13 ∧ AllI f) ∧ (QuadV wx o ys ∧ Off c o ∧ ys.length ≤ 12) ∧ CurAt wx c (N + 4000) ∧ w.grownBy wx (some c)) := fun o wx ⟨ys, hGy, _, hy2, _, hcy, hgy⟩ =>
    ⟨ys, ⟨hqw'.out wx hgy, ho'.out, hl, hI'.out⟩, ⟨hGy.read, hGy.offI hlt, hy2⟩, hcy.mono (by omega), hg'.out.trans hgy⟩
   have hst : OutAt c (N + 3310) 12 wo (.slice (some ⟨g, 0, none⟩) xs.length gc) w5 := ⟨xs, hG5, hx1, by omega, hxl'.out, hc5.mono (by omega), hgw5⟩
   have hfin' := Lib.hid hfin; clear hfin
   cases b
   ·obtain ⟨ys, hf1, hf2, hf3, hf4⟩ := hfin'.out _ _ hst
    clear hst hc5 hgw5 hG5
    have hf1' := Lib.hid hf1; have hf2' := Lib.hid hf2; have hf3' := Lib.hid hf3; have hf4' := Lib.hid hf4; clear hf1 hf2 hf3 hf4
    go_wp2
    go_ret2
    exact ⟨_, f, _, ys, rfl, hf1'.out, hf2'.out, hf3'.out, hf4'.out⟩
   clear hst
   go_wp2_with fail
   refine (pick_any c _ 2 w5 hc5 (by omega) (by omega) (by omega)).mono ?_
   rintro e w6 ⟨v6, rfl, ⟨x, rfl, hx⟩, hc6, hg6⟩
   have hst : OutAt c (N + 3310) 12 wo (.slice (some ⟨g, 0, none⟩) xs.length gc) w6 := ⟨xs, hG5.kept hg6 hlt, hx1, by omega, hxl'.out, hc6.mono (by omega), hgw5.trans hg6⟩
   clear hc5 hgw5 hG5 hc6 hg6 hxl'
   have hst' := Lib.hid hst; clear hst
   go_wp2_with fail
   go_loopw [8] (fun o wr => OutAt c (N + 3310) 12 wo o wr) (fun o _ => 12 - sliceN o)
   case atStart => exact hst'.out
   case round =>
    clear hst' hx1 hx4 hgb1 hgb2
    obtain ⟨zs, hG, hx1, hx4, hxl, hc, hgw⟩ := hrel
    obtain ⟨wL, rfl⟩ : ∃ wo : World, wo = wr := ⟨_, rfl⟩
    obtain ⟨g, gc, rfl, ⟨hgb1, hgb2⟩, -, HG⟩ := hG.form (by omega)
    have hst0 : OutAt c (N + 3310) 12 wo (.slice (some ⟨g, 0, none⟩) zs.length gc) wL := ⟨zs, hG, hx1, hx4, hxl, hc, hgw⟩
    obtain ⟨p, hp⟩ : ∃ p, zs.length = p := ⟨_, rfl⟩
    have hY := hxl 0 (by omega)
    obtain ⟨z0, z1, z2, z3⟩ := HG 0 (by omega)
    rw [hp] at hx1 hx4 hst0 hG ⊢
    clear HG
    generalize nth4 zs 0 = Y at *
    obtain ⟨⟨a0, a1⟩, ⟨a2, a3⟩⟩ := Y
    simp only [Nat.zero_mul, Nat.zero_add] at z0 z1 z2 z3
    by_cases h2 : (p : Int) < 8 + (x : Int)
    rotate_left
    ·obtain ⟨ys, hf1, hf2, hf3, hf4⟩ := hfin'.out _ _ hst0
     clear hst0 hc hgw hG z0 z1 z2 z3
     have hf1' := Lib.hid hf1; have hf2' := Lib.hid hf2; have hf3' := Lib.hid hf3; have hf4' := Lib.hid hf4; have hp' := Lib.hid hp; clear hf1 hf2 hf3 hf4 hp
     go_wp2
     go_ret2
     exact ⟨_, f, _, ys, rfl, hf1'.out, hf2'.out, hf3'.out, hf4'.out⟩
    have hs7 : wo.heap.size ≤ wL.heap.size := hgw.size
    have hll : zs.length ≤ 1099511627776 := by omega
    have hp0 : (0 : Int) < (p : Int) := by omega
    clear hst0
    have hc' := Lib.hid hc; have hgw' := Lib.hid hgw; have hll' := Lib.hid hll; have hp' := Lib.hid hp; have hxl' := Lib.hid hxl; have hY' := Lib.hid hY; clear hc hgw hll hp hxl hY
    go_wp2_with (at_builtin; refine wpList_append_Iv rfl _ _ rfl wo.heap.size (.slice (some ⟨g, 0, none⟩) p gc) zs a0 a1 a2 a3 1 rfl rfl hG hll'.out hs7 ?_)
    intro v8 w8 hown hgrow
    have hblk : ∀ g', (Value.slice (some ⟨g, 0, none⟩) p gc).ownBlock = some g' → wo.heap.size ≤ g' := fun g' e => (World.ownsRow.lt hG g' e).1
    have hc8 := hc'.out.kept hgrow (fun g e => by have := hblk g e; omega)
    have hg8 := grown_new hgw'.out hgrow hblk
    have hl8 : (zs ++ [((a0, a1), (a2, a3))]).length = p + 1 := by rw [List.length_append, hp'.out]; rfl
    have hst : OutAt c (N + 3310) 12 wo v8 w8 := ⟨_, hown, by simp, by rw [hl8]; omega, hxl'.out.snoc hY'.out, hc8, hg8⟩
    obtain ⟨_, _, rfl⟩ := hown.shape
    rw [hl8] at hst ⊢
    clear hgrow hown hG hblk hc8 hg8 z0 z1 z2 z3
    have hst' := Lib.hid hst; have hl8' := Lib.hid hl8; clear hst hl8
    go_wp2
    go_roundw
    case rel => exact hst'.out
    case measure => simp [sliceN]; omega
end Go.Proofs.YtfhhofecfllbfaaGreat

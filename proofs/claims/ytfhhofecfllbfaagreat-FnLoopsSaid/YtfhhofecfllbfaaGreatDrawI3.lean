/- Drawn lists of intervals, told loosely. No conditions but small sizes. -/
import Derived.Test.YtfhhofecfllbfaaGreatPkS
import Derived.Test.YtfhhofecfllbfaaGreatPkJ
import Derived.Test.YtfhhofecfllbfaaGreatPkO
import Derived.Test.YtfhhofecfllbfaaGreatPkP
import Derived.Deep.Cut
import Derived.Deep.CutRange
import Derived.Deep.CutBlock
namespace Go.Proofs.YtfhhofecfllbfaaGreat
open Go.RowKit
set_option maxRecDepth 100000
theorem wpList_append_Iv {ops : Array Oper} {rest : List Oper} {o : Oper} {a : Act} {w : World} {Q : Exit → Act → World → Prop} (hgd : o.guard = none) (s x : Operand)
  (ho : o.op = .call { callee := .builtin .append, args := #[s, x], argTypes := #[31, 31] }) (B : Nat) (v : Value) (xs : List Quad) (p q p' q' : Int) (c : Nat) (hs : a.eval s = v) (hx : a.eval x = .slice (some ⟨w.heap.size, 0, none⟩) 1 c)
  (hown : GrowI w B v xs) (hl : xs.length ≤ 1099511627776) (hB : B ≤ w.heap.size)
  (h : ∀ v' w', GrowI w' B v' (xs ++ [((p, q), (p', q'))]) → w.grownBy w' v.ownBlock → wpList Tryz.prog ops Q rest (a.put o.dst v') w') : wpList Tryz.prog ops Q (o :: rest) a (w.alloc (.cells #[.int .i64 p, .int .i64 q, .int .i64 p', .int .i64 q'] 44)) :=
 wpList_plain hgd fun _ hK => wp_append_I s x ho B v xs p q p' q' c hs hx hown hl hB fun v' w' h2 h3 => hK _ _ (h v' w' h2 h3)
set_option linter.unusedSimpArgs false in
set_option maxHeartbeats 800000 in
theorem ivBetween_any (v : Value) (xs : List (Int × Int)) (w : World) (hv : RatsV w v xs) (hm : szRatS xs ≤ 1099511627776) :
  Calls Tryz.prog 147 #[v] w (fun e w' => ∃ v', e = .returned v' ∧ GrowI w' w.heap.size v' (betwL xs) ∧ Below w.heap.size w w') := by
 replace hm : xs.length ≤ 1099511627776 := hm
 obtain ⟨ao, cap, rfl, _, _, H⟩ := hv.form
 obtain ⟨n, hn⟩ : ∃ n, xs.length = n := ⟨_, rfl⟩
 unfold betwL
 rw [hn] at hm H hv ⊢
 have hn' := Lib.hid hn; have hv' := Lib.hid hv; have H' := Lib.hid H; clear hn hv H
 go_enter Tryz.func147, Tryz.ntmps147
 go_wp2
 go_loopw [3, 4] (fun o i wr => ∃ k : Nat, (k + 1 ≤ n ∨ k = 0) ∧ i = .int .i64 ((k : Int) + 1) ∧ GrowI wr w.heap.size o (betwK xs k) ∧ Below w.heap.size w wr) (fun _ i _ => n - (intOf i).toNat)
 case atStart => exact ⟨0, .inr rfl, rfl, GrowI.nil _ _, Below.refl _ _⟩
 case round =>
  obtain ⟨k, hk, rfl, hg, hB⟩ := hrel
  by_cases hlt : k + 1 < n
  ·obtain ⟨b, off, rfl, hc0, hc1⟩ := H'.out k (by omega)
   obtain ⟨_, _, e', hd0, hd1⟩ := H'.out (k + 1) hlt
   cases e'
   have l0 := World.block_lt_of_cell? _ _ hc0
   simp only at l0
   have hst := betwK_step xs k
   have hgl : (betwK xs k).length ≤ 1099511627776 := by rw [betwK_len]; omega
   obtain ⟨⟨p, q⟩, hr1⟩ : ∃ r, nthR xs k = r := ⟨_, rfl⟩
   obtain ⟨⟨p', q'⟩, hr2⟩ : ∃ r, nthR xs (k + 1) = r := ⟨_, rfl⟩
   rw [hr1] at hc0 hc1
   rw [hr2] at hd0 hd1
   rw [hr1, hr2] at hst
   simp only at hc0 hc1 hd0 hd1
   have at' : ∀ w', Below w.heap.size w w' → (w'.cell? ⟨b, off + k * 2, none⟩ = some (.int .i64 p) ∧ w'.cell? ⟨b, off + k * 2 + 1, none⟩ = some (.int .i64 q)) ∧ w'.cell? ⟨b, off + (k + 1) * 2, none⟩ = some (.int .i64 p') ∧ w'.cell? ⟨b, off + (k + 1) * 2 + 1, none⟩ = some (.int .i64 q') :=
    fun w' h => ⟨⟨(h.cell (p := ⟨b, off + k * 2, none⟩) l0).trans hc0, (h.cell (p := ⟨b, off + k * 2 + 1, none⟩) l0).trans hc1⟩, (h.cell (p := ⟨b, off + (k + 1) * 2, none⟩) l0).trans hd0, (h.cell (p := ⟨b, off + (k + 1) * 2 + 1, none⟩) l0).trans hd1⟩
   clear hc0 hc1 hd0 hd1
   obtain ⟨j, hj⟩ : ∃ j : Nat, j = k + 1 := ⟨_, rfl⟩
   rw [← hj] at at' hlt
   rw [show (k : Int) + 1 = (j : Int) by omega]
   have g1 : IntKind.i64.wrap ((j : Int) - 1) = (k : Int) := by rw [IntKind.wrap_i64]; omega
   have g2 : (0 : Int) ≤ (k : Int) := by omega
   have g3 : (k : Int) < (n : Int) := by omega
   have g4 : k < n := by omega
   have hb1 := hB.drew
   have hs0 := hB.size
   have hb2 : Below w.heap.size w (wr.drew.alloc (.cells #[.int .i64 p, .int .i64 q, .int .i64 p', .int .i64 q'] 44)) := hb1.alloc hs0 _
   have hg1 : GrowI wr.drew w.heap.size u3 (betwK xs k) := hg
   have hst' := Lib.hid hst; have hr1' := Lib.hid hr1; have hr2' := Lib.hid hr2; have at'' := Lib.hid at'; have hg1' := Lib.hid hg1; have hgl' := Lib.hid hgl; have hj' := Lib.hid hj; clear hst hr1 hr2 at' hg1 hgl hj
   clear hg
   go_wp2_with fail
   refine wp_region_held_drew (S := (fun w' => (w'.cell? ⟨b, off + k * 2, none⟩ = some (.int .i64 p) ∧ w'.cell? ⟨b, off + k * 2 + 1, none⟩ = some (.int .i64 q)) ∧ w'.cell? ⟨b, off + j * 2, none⟩ = some (.int .i64 p') ∧ w'.cell? ⟨b, off + j * 2 + 1, none⟩ = some (.int .i64 q'))) (by kernel_rfl) (by (try dsimp only); exact at''.out _ ‹_›) (fun hHeld => ?_)
   refine ly_s 0 hHeld ?_
   refine ly_s 1 hHeld ?_
   refine ly_s 2 hHeld ?_
   refine ly_s 3 hHeld ?_
   refine ly_s 4 hHeld ?_
   refine ly_s 5 hHeld ?_
   refine ly_s 6 hHeld ?_
   refine ly_s 7 hHeld ?_
   refine ly_s 8 hHeld ?_
   refine ly_s 9 hHeld ?_
   refine ly_s 10 hHeld ?_
   refine ly_a 11 (fun KK hKK => ?_)
   go_simp
   skip
   try dsimp only
   refine hKK.out _ _ (by (try dsimp only); exact at''.out _ ‹_›) (fun hHeld => ?_)
   clear hKK KK
   try simp only [Act.put, lyA, lyB, lyC]
   refine ly_a 12 (fun KK hKK => ?_)
   refine wp_append_I _ _ rfl w.heap.size u3 (betwK xs k) p q p' q' _ rfl rfl hg1'.out hgl'.out hs0 ?_
   intro v2 w2 hg2 hgr
   have hb3 := hg1'.out.belowB hb1 (Nat.le_refl _) hs0 hgr
   try dsimp only
   refine hKK.out _ _ (by (try dsimp only); exact at''.out _ ‹_›) (fun hHeld => ?_)
   clear hKK KK
   try simp only [Act.put, lyA, lyB, lyC]
   refine ly_s 13 hHeld ?_
   refine wpAnyH_done (by kernel_rfl) ?_ _
   go_wp2
   go_roundw
   case rel =>
    have := hj'.out
    rw [← hst'.out] at hg2
    exact ⟨k + 1, .inl (by omega), by go_num, hg2, hb3⟩
   case measure => simp [intOf]; omega
  ·have hke : betwK xs k = betwK xs (n - 1) := by rw [show n - 1 = k by omega]
   rw [hke] at hg
   have hke' := Lib.hid hke; have hg' := Lib.hid hg; clear hke hg
   clear H'
   go_wp2
   go_ret
   exact ⟨_, rfl, hg'.out, hB⟩
theorem betwL_len (xs : List (Int × Int)) : (betwL xs).length = xs.length - 1 := by unfold betwL; rw [betwK_len]
def PicksIs (c N : Nat) (w : World) (e : Ending) (w' : World) : Prop := ∃ v xs, e = .returned v ∧ QuadV w' v xs ∧ Off c v ∧ xs.length ≤ 12 ∧ CurAt w' c N ∧ w.grownBy w' (some c)
theorem GrowI.offI {w : World} {B c : Nat} {v : Value} {xs : List Quad} (h : GrowI w B v xs) (hc : c < B) : Off c v := by
 intro b off k cap e
 rcases h.2 with ⟨rfl, _⟩ | ⟨g, cap', cur, rfl, h1, _⟩
 ·cases e
 ·obtain ⟨e1, _, _⟩ := Value.slice.inj e
  cases e1
  omega
def IvsAt (c N : Nat) (w : World) (s t : Value) (wr : World) : Prop :=
 ∃ (xs : List (Int × Int)) (k : Nat), k ≤ 60 ∧ t = .int .i64 k ∧ HasR wr w.heap.size s xs ∧ xs.length ≤ 10 ∧ (∀ x, x ∈ xs → goodR x.1 x.2 = true) ∧ CurAt wr c (N + 10 + 30 * k) ∧ w.grownBy wr (some c)
set_option linter.unusedSimpArgs false in
set_option maxHeartbeats 3200000 in
theorem intervals_any (c N : Nat) (v : Value) (f : List Quad) (w : World) (h : CurAt w c N) (hN : N ≤ 549755800000) (hv : QuadV w v f) (ho : Off c v) (hf : ∀ i, i < f.length → I64I (nth4 f i)) (hm : f.length ≤ 1000) :
  Calls Tryz.prog 81 #[.pointer (some ⟨c, 0, none⟩), v] w (PicksIs c (N + 2000) w) := by
 have hlt := h.lt
 have hvw := fun (w' : World) (hg : w.grownBy w' (some c)) => hv.cellOff ho hg
 have cx := fun (w' : World) (M : Nat) (hc : CurAt w' c M) (hM : M ≤ N + 1900) (hg : w.grownBy w' (some c)) => xOf_any c M v f w' hc (by omega) (hvw w' hg) ho hf hm
 have ci := fun (w' : World) (M : Nat) (hc : CurAt w' c M) (hM : M ≤ N + 1900) (hg : w.grownBy w' (some c)) => intervalOf_any c M v f w' hc (by omega) (hvw w' hg) ho hf hm
 obtain ⟨ao, cap, rfl, -⟩ := hv.form
 clear hv ho hf hvw
 have h' := Lib.hid h; clear h
 have cx' := Lib.hid cx; have ci' := Lib.hid ci; clear cx ci
 go_enter Tryz.func81, Tryz.ntmps81
 go_wp2_with fail
 refine (among_list c N [2, 3, 3, 4, 5] w 5 h'.out (by omega) rfl (by omega) (by omega)).mono ?_
 rintro e w1 ⟨v1, rfl, ⟨d, rfl, hd⟩, hc1, hg1⟩
 obtain ⟨q, rfl, hq1, hq2⟩ : ∃ q : Nat, d = (q : Int) ∧ 1 ≤ q ∧ q ≤ 10 := ⟨d.toNat, by simp at hd; omega, by simp at hd; omega, by simp at hd; omega⟩
 go_wp2_with fail
 refine (one_any c _ 20 w1 hc1 (by omega) (by omega) (by omega)).mono ?_
 rintro e w2 ⟨v2, rfl, ⟨b, rfl⟩, hc2, hg2⟩
 have g2 := hg1.trans hg2
 clear hd hc1 hg1 hg2 h'
 have g2' := Lib.hid g2; have hc2' := Lib.hid hc2; clear g2 hc2
 go_upto_if 14 with fail
 go_cut [6] from 15 to 17 (fun s wx => ∃ m : Nat, m ≤ 10 ∧ s = .int .i64 m ∧ CurAt wx c (N + 10) ∧ w2.grownBy wx (some c))
 case first =>
  cases b
  ·go_wp2_with fail
   go_meet
   exact ⟨q, by omega, rfl, hc2'.out.mono (by omega), World.grownBy.refl _ _⟩
  ·go_wp2_with fail
   refine (pick_any c _ 2 w2 hc2'.out (by omega) (by omega) (by omega)).mono ?_
   rintro e w6 ⟨v, rfl, ⟨t, rfl, ht⟩, hc6, hg6⟩
   have hc6' := Lib.hid hc6; have hg6' := Lib.hid hg6; clear hc6 hg6
   go_wp2_with fail
   go_meet
   exact ⟨9 + t, by omega, by simp, hc6'.out.mono (by omega), hg6'.out⟩
 case rest =>
  obtain ⟨m, hm10, rfl, hc, hg⟩ := hcut
  obtain ⟨wo, rfl⟩ : ∃ wo : World, wo = wc := ⟨_, rfl⟩
  have hst : IvsAt c N w (.slice none 0 0) (.int .i64 0) wo := ⟨[], 0, by omega, rfl, HasR.nil _ _, by decide, by simp, hc, g2'.out.trans hg⟩
  clear hc hg g2' hc2'
  have hst' := Lib.hid hst; clear hst
  go_wp2_with fail
  go_loopw [5, 7] (fun s t wr => IvsAt c N w s t wr) (fun _ t _ => 60 - (intOf t).toNat)
  case atStart => exact hst'.out
  case round =>
   clear hst'
   obtain ⟨wo2, rfl⟩ : ∃ wo : World, wo = wr := ⟨_, rfl⟩
   obtain ⟨xs, k, hk, rfl, hH, hx10, hgd, hc, hg⟩ := hrel
   obtain ⟨ao2, cap2, rfl, -⟩ := hH.2.read.form
   have hput := fun x (hx : goodR x.1 x.2 = true) y (hy : y ∈ putR xs x) => show goodR y.1 y.2 = true from by
    rcases putR_of hy with q | q
    ·exact hgd y q
    ·rw [q]; exact hx
   have hpl := fun x => putR_len xs x
   obtain ⟨p, hp⟩ : ∃ p, xs.length = p := ⟨_, rfl⟩
   rw [hp] at hx10 hH hpl ⊢
   by_cases h1 : p < m
   ·by_cases h2 : k < 60
    ·have h1' : (p : Int) < (m : Int) := by omega
     have h2' : (k : Int) < 60 := by omega
     have c1 := cx'.out wo2 _ hc (by omega) hg
     clear hc
     have hgd' := Lib.hid hgd; have hput' := Lib.hid hput; have hpl' := Lib.hid hpl; have hp' := Lib.hid hp; have hH' := Lib.hid hH; have hg' := Lib.hid hg; have c1' := Lib.hid c1; clear hgd hput hpl hp hH hg c1
     go_wp2_with fail
     refine (c1'.out).mono ?_
     rintro e w7 ⟨⟨x, y⟩, rfl, -, hc7, hg7⟩
     have hH7 := hH'.out.kept hg7 hlt
     have g7 := hg'.out.trans hg7
     obtain ⟨w8, hw8⟩ : ∃ W, w7.alloc (.cells #[.int .i64 x, .int .i64 y] 42) = W := ⟨_, rfl⟩
     have hB8 : Below w7.heap.size w7 w8 := by rw [← hw8]; exact (Below.refl _ _).alloc (Nat.le_refl _) _
     have x0 : w8.cell? ⟨w7.heap.size, 0, none⟩ = some (.int .i64 x) := by rw [← hw8]; simp [go_sem]
     have x1 : w8.cell? ⟨w7.heap.size, 1, none⟩ = some (.int .i64 y) := by rw [← hw8]; simp [go_sem]
     have hH8 := hH7.below hB8
     have g8 := g7.trans (bgrow hB8 _)
     have hc8 := hc7.below hB8 hc7.lt
     clear hg7 hH7 g7 hc7 hH' hg' c1' hB8
     have hw8' := Lib.hid hw8; have hH8' := Lib.hid hH8; have g8' := Lib.hid g8; have hc8' := Lib.hid hc8; clear hw8 hH8 g8 hc8
     go_upto_region 9 with fail
     rw [hw8'.out]
     go_wp2_with fail
     refine (raUnit_any x y _).mono ?_
     rintro e w9 ⟨rfl, hB9⟩
     have hu : unitR x y = true → goodR x y = true := fun h => by exact unitR_good (r := (x, y)) h
     generalize unitR x y = U at *
     replace x0 := bkeep hB9 x0
     replace x1 := bkeep hB9 x1
     have hH9 := hH8'.out.below hB9
     have g9 := g8'.out.trans (bgrow hB9 _)
     have hc9 := hc8'.out.below hB9 hc8'.out.lt
     clear hB9 hw8' hH8' g8' hc8'
     cases U
     ·have hst : IvsAt c N w (.slice ao2 p cap2) (.int .i64 ((k + 1 : Nat) : Int)) w9 := ⟨xs, k + 1, by omega, rfl, hH9, by rw [hp'.out]; exact hx10, hgd'.out, hc9.mono (by omega), g9⟩
      clear hH9 g9 hc9 hu x0 x1
      have hst' := Lib.hid hst; clear hst
      go_wp2
      go_roundw
      case rel => simpa using hst'.out
      case measure => simp [intOf]; omega
     ·have hu2 := hu rfl
      have cp := imPut_has w.heap.size _ xs (x, y) w9 hH9 g9.size (by rw [hp'.out]; omega) hu2 hgd'.out
      have hpu := hput'.out (x, y) hu2
      have hpl2 := hpl'.out (x, y)
      clear hu hu2 hH9
      have cp' := Lib.hid cp; have hpu' := Lib.hid hpu; have g9' := Lib.hid g9; have hc9' := Lib.hid hc9; have hpl2' := Lib.hid hpl2; clear cp hpu g9 hc9 hpl2
      go_wp2_with fail
      refine (cp'.out).mono ?_
      rintro e w10 ⟨v10, rfl, hH10, hB10⟩
      have hst : IvsAt c N w v10 (.int .i64 ((k + 1 : Nat) : Int)) w10 := ⟨_, k + 1, by omega, rfl, hH10, by have := hpl2'.out; omega, hpu'.out, (hc9'.out.below hB10 hc9'.out.lt).mono (by omega), g9'.out.trans (bgrow hB10 _)⟩
      obtain ⟨_, _, rfl, -⟩ := hH10.2.read.form
      clear hH10 hB10 hc9' g9' x0 x1
      have hst' := Lib.hid hst; clear hst
      go_wp2
      go_roundw
      case rel => simpa using hst'.out
      case measure => simp [intOf]; omega
    ·obtain rfl : k = 60 := by omega
     have h1' : (p : Int) < (m : Int) := by omega
     have cb := ivBetween_any _ xs wo2 hH.2.read (by show szRatS xs ≤ _; unfold szRatS; omega)
     have hlb := betwL_len xs
     rw [hp] at hlb
     clear hput hpl hgd hH
     have cb' := Lib.hid cb; have hp' := Lib.hid hp; have hlb' := Lib.hid hlb; have hg' := Lib.hid hg; have hc' := Lib.hid hc; clear cb hp hlb hg hc
     go_wp2_with fail
     refine (cb'.out).mono ?_
     rintro e w7 ⟨v7, rfl, hG7, hB7⟩
     have hc7 := hc'.out.below hB7 hc'.out.lt
     have g7 := hg'.out.trans (bgrow hB7 _)
     have hG7' := hG7.mono hg'.out.size
     generalize betwL xs = L at *
     clear hG7 hB7 hg' hc' cb'
     obtain ⟨lo, lcap, rfl⟩ := hG7'.shape
     have g7' := Lib.hid g7; have hG7'' := Lib.hid hG7'; clear g7 hG7'
     go_wp2_with fail
     refine (pick_any c _ 16 w7 hc7 (by omega) (by omega) (by omega)).mono ?_
     rintro e w8 ⟨v8, rfl, ⟨z, rfl, hz⟩, hc8, hg8⟩
     have hG8 := GrowI.kept hG7''.out hg8 hlt
     have g8 := g7'.out.trans hg8
     clear hc7 hg8 g7' hG7''
     have hz4 : z = 0 ∨ z = 1 ∨ 2 ≤ z := by omega
     obtain rfl | rfl | hz2 := hz4
     ·have c9 := ci'.out w8 _ hc8 (by omega) g8
      clear hc8
      have hG8' := Lib.hid hG8; have g8' := Lib.hid g8; have c9' := Lib.hid c9; clear hG8 g8 c9
      go_wp2_with fail
      refine (c9'.out).mono ?_
      rintro e w9 ⟨⟨⟨i0, i1⟩, ⟨i2, i3⟩⟩, rfl, hc9, hg9⟩
      have hG9 := GrowI.kept hG8'.out hg9 hlt
      have g9 := g8'.out.trans hg9
      have hll : L.length ≤ 1099511627776 := by have := hlb'.out; omega
      clear hg9 hG8' g8' c9'
      have hc9' := Lib.hid hc9; have g9' := Lib.hid g9; have hll' := Lib.hid hll; clear hc9 g9 hll
      go_wp2_with (at_builtin; refine wpList_append_Iv rfl _ _ rfl w.heap.size (.slice lo L.length lcap) L i0 i1 i2 i3 1 rfl rfl hG9 hll'.out g9'.out.size ?_)
      intro v10 w10 hown hgrow
      have hblk : ∀ g, (Value.slice lo L.length lcap).ownBlock = some g → w.heap.size ≤ g := fun g e => (World.ownsRow.lt hG9 g e).1
      have hc10 := hc9'.out.kept hgrow (fun g e => by have := hblk g e; omega)
      have g10 := grown_new g9'.out hgrow hblk
      have hr := hown.read
      have hof := hown.offI hlt
      clear hgrow hown hG9 hblk hc9' g9'
      have hc10' := Lib.hid hc10; have g10' := Lib.hid g10; have hr' := Lib.hid hr; have hof' := Lib.hid hof; clear hc10 g10 hr hof
      go_wp2
      go_ret
      exact ⟨_, _, rfl, hr'.out, hof'.out, by have := hlb'.out; simp; omega, hc10'.out.mono (by omega), g10'.out⟩
     ·have hc9 := hc8.mono (M := N + 2000) (by omega)
      clear hc8 hG8
      have hc9' := Lib.hid hc9; have g8' := Lib.hid g8; clear hc9 g8
      go_wp2
      go_ret
      exact ⟨_, [], rfl, (GrowI.nil _ 0).read, (fun b off k cap e => by cases e), by simp, hc9'.out, g8'.out⟩
     ·have hc9 := hc8.mono (M := N + 2000) (by omega)
      have q0 : ((z : Int) == 0) = false := by rw [beq_eq_false_iff_ne]; omega
      have q1 : ((z : Int) == 1) = false := by rw [beq_eq_false_iff_ne]; omega
      have hr := hG8.read
      have hof := hG8.offI hlt
      clear hc8 hG8
      have hc9' := Lib.hid hc9; have g8' := Lib.hid g8; have hr' := Lib.hid hr; have hof' := Lib.hid hof; clear hc9 g8 hr hof
      go_wp2
      go_ret
      exact ⟨_, L, rfl, hr'.out, hof'.out, by have := hlb'.out; omega, hc9'.out, g8'.out⟩
   ·have h1' : ¬ (p : Int) < (m : Int) := by omega
    have cb := ivBetween_any _ xs wo2 hH.2.read (by show szRatS xs ≤ _; unfold szRatS; omega)
    have hlb := betwL_len xs
    rw [hp] at hlb
    clear hput hpl hgd hH
    have cb' := Lib.hid cb; have hp' := Lib.hid hp; have hlb' := Lib.hid hlb; have hg' := Lib.hid hg; have hc' := Lib.hid hc; clear cb hp hlb hg hc
    go_wp2_with fail
    refine (cb'.out).mono ?_
    rintro e w7 ⟨v7, rfl, hG7, hB7⟩
    have hc7 := hc'.out.below hB7 hc'.out.lt
    have g7 := hg'.out.trans (bgrow hB7 _)
    have hG7' := hG7.mono hg'.out.size
    generalize betwL xs = L at *
    clear hG7 hB7 hg' hc' cb'
    obtain ⟨lo, lcap, rfl⟩ := hG7'.shape
    have g7' := Lib.hid g7; have hG7'' := Lib.hid hG7'; clear g7 hG7'
    go_wp2_with fail
    refine (pick_any c _ 16 w7 hc7 (by omega) (by omega) (by omega)).mono ?_
    rintro e w8 ⟨v8, rfl, ⟨z, rfl, hz⟩, hc8, hg8⟩
    have hG8 := GrowI.kept hG7''.out hg8 hlt
    have g8 := g7'.out.trans hg8
    clear hc7 hg8 g7' hG7''
    have hz4 : z = 0 ∨ z = 1 ∨ 2 ≤ z := by omega
    obtain rfl | rfl | hz2 := hz4
    ·have c9 := ci'.out w8 _ hc8 (by omega) g8
     clear hc8
     have hG8' := Lib.hid hG8; have g8' := Lib.hid g8; have c9' := Lib.hid c9; clear hG8 g8 c9
     go_wp2_with fail
     refine (c9'.out).mono ?_
     rintro e w9 ⟨⟨⟨i0, i1⟩, ⟨i2, i3⟩⟩, rfl, hc9, hg9⟩
     have hG9 := GrowI.kept hG8'.out hg9 hlt
     have g9 := g8'.out.trans hg9
     have hll : L.length ≤ 1099511627776 := by have := hlb'.out; omega
     clear hg9 hG8' g8' c9'
     have hc9' := Lib.hid hc9; have g9' := Lib.hid g9; have hll' := Lib.hid hll; clear hc9 g9 hll
     go_wp2_with (at_builtin; refine wpList_append_Iv rfl _ _ rfl w.heap.size (.slice lo L.length lcap) L i0 i1 i2 i3 1 rfl rfl hG9 hll'.out g9'.out.size ?_)
     intro v10 w10 hown hgrow
     have hblk : ∀ g, (Value.slice lo L.length lcap).ownBlock = some g → w.heap.size ≤ g := fun g e => (World.ownsRow.lt hG9 g e).1
     have hc10 := hc9'.out.kept hgrow (fun g e => by have := hblk g e; omega)
     have g10 := grown_new g9'.out hgrow hblk
     have hr := hown.read
     have hof := hown.offI hlt
     clear hgrow hown hG9 hblk hc9' g9'
     have hc10' := Lib.hid hc10; have g10' := Lib.hid g10; have hr' := Lib.hid hr; have hof' := Lib.hid hof; clear hc10 g10 hr hof
     go_wp2
     go_ret
     exact ⟨_, _, rfl, hr'.out, hof'.out, by have := hlb'.out; simp; omega, hc10'.out.mono (by omega), g10'.out⟩
    ·have hc9 := hc8.mono (M := N + 2000) (by omega)
     clear hc8 hG8
     have hc9' := Lib.hid hc9; have g8' := Lib.hid g8; clear hc9 g8
     go_wp2
     go_ret
     exact ⟨_, [], rfl, (GrowI.nil _ 0).read, (fun b off k cap e => by cases e), by simp, hc9'.out, g8'.out⟩
    ·have hc9 := hc8.mono (M := N + 2000) (by omega)
     have q0 : ((z : Int) == 0) = false := by rw [beq_eq_false_iff_ne]; omega
     have q1 : ((z : Int) == 1) = false := by rw [beq_eq_false_iff_ne]; omega
     have hr := hG8.read
     have hof := hG8.offI hlt
     clear hc8 hG8
     have hc9' := Lib.hid hc9; have g8' := Lib.hid g8; have hr' := Lib.hid hr; have hof' := Lib.hid hof; clear hc9 g8 hr hof
     go_wp2
     go_ret
     exact ⟨_, L, rfl, hr'.out, hof'.out, by have := hlb'.out; omega, hc9'.out, g8'.out⟩
end Go.Proofs.YtfhhofecfllbfaaGreat

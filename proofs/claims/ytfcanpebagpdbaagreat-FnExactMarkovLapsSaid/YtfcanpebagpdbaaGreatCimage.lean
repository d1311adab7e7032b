/- The program's image of an interval: words on the boxes first. -/
import Derived.Test.YtfcanpebagpdbaaGreatImgLaw
import Derived.Test.YtfcanpebagpdbaaGreatPkF
namespace Go.Proofs.YtfcanpebagpdbaaGreat
open Go.RowKit

theorem BoxR.two {w w' : World} {x bl bh : Nat} {r : Int × Int} (h : BoxR w x r) (ht : Two bl bh w w') (h1 : x ≠ bl) (h2 : x ≠ bh) : BoxR w' x r := by
  have hb := ht.2.2.2.2 x h.lt h1 h2
  have hg : w.grownBy (w') none → True := fun _ => trivial
  obtain ⟨⟨c0, c1⟩, f0, f1⟩ := h
  have hc : ∀ o, w'.cell? ⟨x, o, none⟩ = w.cell? ⟨x, o, none⟩ := fun o => by unfold World.cell?; simp only [hb]
  have hf : ∀ o, w'.frozen? ⟨x, o, none⟩ = w.frozen? ⟨x, o, none⟩ := fun o => by unfold World.frozen?; simp only [hb]
  exact ⟨⟨(hc 0).trans c0, (hc 1).trans c1⟩, (hf 0).trans f0, (hf 1).trans f1⟩
theorem CalcAt.two {w w' : World} {g bl bh : Nat} {bd : Bool} (h : CalcAt w g bd) (ht : Two bl bh w w') (h1 : g ≠ bl) (h2 : g ≠ bh) : CalcAt w' g bd := by
  have hb := ht.2.2.2.2 g h.lt h1 h2
  have hc : w'.cell? ⟨g, 0, none⟩ = w.cell? ⟨g, 0, none⟩ := by unfold World.cell?; simp only [hb]
  have hf : w'.frozen? ⟨g, 0, none⟩ = w.frozen? ⟨g, 0, none⟩ := by unfold World.frozen?; simp only [hb]
  exact ⟨hc.trans h.1, hf.trans h.2⟩
theorem grow_two {w w1 w2 : World} {bl bh : Nat} {r : Option Nat} (h : w.grownBy w1 r) (ht : Two bl bh w1 w2) (h1 : w.heap.size ≤ bl) (h2 : w.heap.size ≤ bh) : w.grownBy w2 r :=
  ⟨ht.1.trans h.os, ht.2.1.trans h.tape, ht.2.2.1.trans h.output, Nat.le_trans h.size ht.2.2.2.1, fun k hk hr => (ht.2.2.2.2 k (Nat.lt_of_lt_of_le hk h.size) (by omega) (by omega)).trans (h.block k hk hr)⟩
theorem BoxR.lit (w : World) (r : Int × Int) : BoxR (w.alloc (.cells #[.int .i64 r.1, .int .i64 r.2] 45)) w.heap.size r := by
  refine ⟨⟨?_, ?_⟩, ?_, ?_⟩ <;> simp [go_sem]
theorem BoxR.alloc {w : World} {b : Nat} {r : Int × Int} (h : BoxR w b r) (o : Obj) : BoxR (w.alloc o) b r := h.grown (World.grownBy_alloc w o none) (by simp)

set_option linter.unusedSimpArgs false in
set_option maxRecDepth 10000 in
set_option maxHeartbeats 4000000 in
theorem cimage_any (g : Nat) (bd : Bool) (v : Value) (f : List Quad) (a b : Int × Int) (w0 w : World) (hv : QuadV w0 v f) (hb0 : Below w0.heap.size w0 w) (hg0 : w0.heap.size ≤ g) (hf : MapP f) (ha : unitR a.1 a.2 = true) (hb : unitR b.1 b.2 = true) (hc : CalcAt w g bd) :
    Calls Tryz.prog 83 #[.pointer (some ⟨g, 0, none⟩), v, .agg #[.int .i64 a.1, .int .i64 a.2], .agg #[.int .i64 b.1, .int .i64 b.2]] w (RetC g (bd || !imgOk f a b) (.tuple #[ratV (imS f a b f.length).1, ratV (imS f a b f.length).2]) w) := by
  have ca := fun (w' : World) hB hc => cvalue_any g bd v f a w0 w' hv hB hg0 hf ha hc
  have cb := fun (w' : World) hB hc => cvalue_any g (bd || !atOk f a) v f b w0 w' hv hB hg0 hf hb hc
  have hbd : (bd || !atOk f a || !atOk f b) = (bd || !imgOk f a b) := by unfold imgOk; cases bd <;> cases atOk f a <;> cases atOk f b <;> rfl
  rw [hbd] at cb
  have hgl := hc.lt
  have hw0 := hb0.size
  have z0 := imS_zero f a b
  have ga := atZ_good f a
  have gb := atZ_good f b
  have c1 := fun (l h : Nat) (w' : World) hne h1 h2 => image1_any (atZ f b) (atZ f a) (atZ f a) l h w' gb ga ga hne h1 h2
  rw [← (show (imS f a b 0).1 = lessR (atZ f a) (atZ f b) by rw [z0]), ← (show (imS f a b 0).2 = greatR (atZ f a) (atZ f b) by rw [z0])] at c1
  obtain ⟨a0, a1⟩ := a
  obtain ⟨b0, b1⟩ := b
  simp only at ca cb
  obtain ⟨w1, hw1⟩ : ∃ W, (((w.alloc (.cells #[.int .i64 a0, .int .i64 a1] 45)).alloc (.cells #[.int .i64 b0, .int .i64 b1] 45)).alloc (.cells #[.int .i64 0, .int .i64 0] 45)).alloc (.cells #[.int .i64 0, .int .i64 0] 45) = W := ⟨_, rfl⟩
  have hB1 : Below w.heap.size w w1 := by rw [← hw1]; exact ((((Below.refl _ _).alloc (Nat.le_refl _) _).alloc (by simp) _).alloc (by simp; omega) _).alloc (by simp; omega) _
  have hz1 : w1.heap.size = w.heap.size + 4 := by rw [← hw1]; simp
  have k0 : BoxR w1 w.heap.size (a0, a1) := by rw [← hw1]; exact (((BoxR.lit w (a0, a1)).alloc _).alloc _).alloc _
  have k1 : BoxR w1 (w.heap.size + 1) (b0, b1) := by rw [← hw1]; refine ⟨⟨?_, ?_⟩, ?_, ?_⟩ <;> simp [go_sem]
  have k2 : BoxR w1 (w.heap.size + 1 + 1) (0, 0) := by rw [← hw1]; refine ⟨⟨?_, ?_⟩, ?_, ?_⟩ <;> simp [go_sem]
  have k3 : BoxR w1 (w.heap.size + 1 + 1 + 1) (0, 0) := by rw [← hw1]; refine ⟨⟨?_, ?_⟩, ?_, ?_⟩ <;> simp [go_sem]
  have hc1 := hc.below hB1
  have hg1 : w.grownBy w1 (some g) := bgrow hB1 _
  have hb1 := hb0.trans (hB1.mono hw0)
  have ca1 := ca w1 hb1 hc1
  generalize atZ f (a0, a1) = L at *
  obtain ⟨l0, l1⟩ := L
  obtain ⟨⟨ka0, ka1⟩, ka2, ka3⟩ := id k0
  obtain ⟨⟨kb0, kb1⟩, kb2, kb3⟩ := id k1
  have hrg : ∀ j, w.heap.size ≤ j → some g ≠ some j := fun j hj e => by have := Option.some.inj e; omega
  obtain ⟨ao, cap, rfl, _, _, H⟩ := hv.form
  obtain ⟨n, hn⟩ : ∃ n, f.length = n := ⟨_, rfl⟩
  rw [hn] at H ca1 cb ⊢
  have hlen := hf.len
  rw [hn] at hlen
  clear hB1 ca
  have ca1' := Lib.hid ca1
  have cb' := Lib.hid cb
  have c1' := Lib.hid c1
  have z0' := Lib.hid z0
  have ga' := Lib.hid ga
  have gb' := Lib.hid gb
  have hw1' := Lib.hid hw1
  have k0' := Lib.hid k0
  have k1' := Lib.hid k1
  have k2' := Lib.hid k2
  have k3' := Lib.hid k3
  have hg1' := Lib.hid hg1
  have hrg' := Lib.hid hrg
  have H' := Lib.hid H
  have hn' := Lib.hid hn
  clear ca1 cb c1 z0 ga gb hw1 k0 k1 k2 k3 hg1 hrg H hn
  show Calls _ _ #[_, _, .agg #[.int .i64 a0, .int .i64 a1], .agg #[.int .i64 b0, .int .i64 b1]] w _
  go_enter Tryz.func83, Tryz.ntmps83
  go_wp2_with fail
  rw [hw1'.out]
  go_wp2_with fail
  refine (ca1'.out).mono ?_
  rintro e w2 ⟨rfl, hg2, hc2⟩
  have n0 := k0'.out.grown hg2 (hrg'.out _ (Nat.le_refl _))
  have n1 := k1'.out.grown hg2 (hrg'.out _ (by omega))
  have n2 := k2'.out.grown hg2 (hrg'.out _ (by omega))
  have n3 := k3'.out.grown hg2 (hrg'.out _ (by omega))
  have hs2 := hg2.size
  have hg3 := hg1'.out.trans hg2
  clear ka0 ka1 ka2 ka3 kb0 kb1 kb2 kb3 k0' k1' k2' k3'
  obtain ⟨w3, hw3⟩ : ∃ W, (w2.alloc (.cells #[.int .i64 l0, .int .i64 l1] 45)).alloc (.cells #[.int .i64 l0, .int .i64 l1] 45) = W := ⟨_, rfl⟩
  have hB3 : Below w2.heap.size w2 w3 := by rw [← hw3]; exact ((Below.refl _ _).alloc (Nat.le_refl _) _).alloc (by simp) _
  have m0 := n0.below hB3
  have m1 := n1.below hB3
  have m2 := n2.below hB3
  have m3 := n3.below hB3
  have mL : BoxR w3 w2.heap.size (l0, l1) := by rw [← hw3]; exact (BoxR.lit w2 (l0, l1)).alloc _
  have mH : BoxR w3 (w2.heap.size + 1) (l0, l1) := by rw [← hw3]; refine ⟨⟨?_, ?_⟩, ?_, ?_⟩ <;> simp [go_sem]
  have hc3 := hc2.below hB3
  have hg4 := hg3.trans (bgrow hB3 (some g))
  have hb3 := quad_stays hv hb0 hg0 hg4
  have cb1 := cb'.out w3 hb3 hc3
  obtain ⟨⟨ka0, ka1⟩, _, _⟩ := id m1
  rw [← hw3] at ka0 ka1
  clear n0 n1 n2 n3 hB3 hg3
  have m0' := Lib.hid m0
  have m1' := Lib.hid m1
  have m2' := Lib.hid m2
  have m3' := Lib.hid m3
  have mL' := Lib.hid mL
  have mH' := Lib.hid mH
  have hc3' := Lib.hid hc3
  have hg4' := Lib.hid hg4
  have cb1' := Lib.hid cb1
  have hw3' := Lib.hid hw3
  clear m0 m1 m2 m3 mL mH hc3 hg4 cb1 hw3
  go_wp2_with fail
  rw [hw3'.out]
  clear ka0 ka1
  go_wp2_with fail
  refine (cb1'.out).mono ?_
  rintro e w4 ⟨rfl, hg5, hc5⟩
  have n0 := m0'.out.grown hg5 (hrg'.out _ (Nat.le_refl _))
  have n1 := m1'.out.grown hg5 (hrg'.out _ (by omega))
  have n2 := m2'.out.grown hg5 (hrg'.out _ (by omega))
  have n3 := m3'.out.grown hg5 (hrg'.out _ (by omega))
  have nL := mL'.out.grown hg5 (hrg'.out _ (by omega))
  have nH := mH'.out.grown hg5 (hrg'.out _ (by omega))
  have hg6 := hg4'.out.trans hg5
  have c2 := c1'.out w2.heap.size (w2.heap.size + 1) w4 (by omega) nL nH
  have hs4 := hg5.size
  obtain ⟨bl, hbl⟩ : ∃ bl, w2.heap.size = bl := ⟨_, rfl⟩
  clear m0' m1' m2' m3' mL' mH' c1' cb' ca1' cb1' hw1' hw3' hg4' hg1'
  rw [hbl] at nL nH c2
  have n0' := Lib.hid n0
  have n1' := Lib.hid n1
  have n2' := Lib.hid n2
  have n3' := Lib.hid n3
  have nL' := Lib.hid nL
  have nH' := Lib.hid nH
  have hg6' := Lib.hid hg6
  have c2' := Lib.hid c2
  have hc5' := Lib.hid hc5
  clear n0 n1 n2 n3 nL nH hg6 c2 hc5
  have hbd2 : bl ≠ w.heap.size := by have := hs2; omega
  go_wp2_with fail
  go_wp2_with fail
  refine (c2'.out).mono ?_
  rintro e w5 ⟨rfl, ht, oL, oH⟩
  have o0 := n0'.out.two ht (by omega) (by omega)
  have o1 := n1'.out.two ht (by omega) (by omega)
  have o2 := n2'.out.two ht (by omega) (by omega)
  have o3 := n3'.out.two ht (by omega) (by omega)
  have hc6 := hc5'.out.two ht (by omega) (by omega)
  have hg7 := grow_two hg6'.out ht (by omega) (by omega)
  clear ht n0' n1' n2' n3' nL' nH' c2' hc5' hg6'
  have o0' := Lib.hid o0
  have o1' := Lib.hid o1
  have o2' := Lib.hid o2
  have o3' := Lib.hid o3
  have oL' := Lib.hid oL
  have oH' := Lib.hid oH
  have hc6' := Lib.hid hc6
  have hg7' := Lib.hid hg7
  clear o0 o1 o2 o3 oL oH hc6 hg7
  go_wp2
  go_loopw [29] (fun i wr => ∃ k : Nat, k ≤ n ∧ i = .int .i64 k ∧ w.grownBy wr (some g) ∧ CalcAt wr g (bd || !imgOk f (a0, a1) (b0, b1)) ∧ BoxR wr w.heap.size (a0, a1) ∧ BoxR wr (w.heap.size + 1) (b0, b1) ∧ BoxR wr (w.heap.size + 1 + 1) (0, 0) ∧ BoxR wr (w.heap.size + 1 + 1 + 1) (0, 0) ∧ BoxR wr bl (imS f (a0, a1) (b0, b1) k).1 ∧ BoxR wr (bl + 1) (imS f (a0, a1) (b0, b1) k).2) (fun i _ => n - (intOf i).toNat)
  case atStart => exact ⟨0, Nat.zero_le _, rfl, hg7'.out, hc6'.out, o0'.out, o1'.out, o2'.out, o3'.out, oL'.out, oH'.out⟩
  case round =>
    obtain ⟨k, hk, rfl, hgr, hcr, r0, r1, r2, r3, rL, rH⟩ := hrel
    by_cases hlt : k < n
    · obtain ⟨bb, off, rfl, p0, p1, p2, p3⟩ := H'.out k hlt
      have hbr := quad_stays hv hb0 hg0 hgr
      replace p0 := bkeep hbr p0
      replace p1 := bkeep hbr p1
      replace p2 := bkeep hbr p2
      replace p3 := bkeep hbr p3
      have hco := hf.coord k (by rw [hn'.out]; exact hlt)
      have cl1 := fun w' => less_any a0 a1 (nth4 f k).1.1 (nth4 f k).1.2 w' (unitR_bd ha) (unitR_bd (coordR_unit hco.1))
      have cl2 := fun w' => less_any (nth4 f k).1.1 (nth4 f k).1.2 b0 b1 w' (unitR_bd (coordR_unit hco.1)) (unitR_bd hb)
      have hyes := imS_yes (f := f) (a := (a0, a1)) (b := (b0, b1)) (k := k)
      have hno := imS_no (f := f) (a := (a0, a1)) (b := (b0, b1)) (k := k)
      rw [show midB (a0, a1) (b0, b1) (nth4 f k) = (ltB a0 a1 (nth4 f k).1.1 (nth4 f k).1.2 && ltB (nth4 f k).1.1 (nth4 f k).1.2 b0 b1) from rfl] at hyes hno
      have hgd := imS_good hf (a0, a1) (b0, b1) k (by rw [hn'.out]; omega)
      have ct := fun w' h1 h2 => image1_any (nth4 f k).2 (imS f (a0, a1) (b0, b1) k).1 (imS f (a0, a1) (b0, b1) k).2 bl (bl + 1) w' (unitR_good (coordR_unit hco.2)) hgd.1 hgd.2 (by omega) h1 h2
      clear hgd hco
      generalize ltB a0 a1 (nth4 f k).1.1 (nth4 f k).1.2 = L1 at *
      generalize ltB (nth4 f k).1.1 (nth4 f k).1.2 b0 b1 = L2 at *
      obtain ⟨R1, hR1⟩ : ∃ R, imS f (a0, a1) (b0, b1) k = R := ⟨_, rfl⟩
      obtain ⟨R2, hR2⟩ : ∃ R, imS f (a0, a1) (b0, b1) (k + 1) = R := ⟨_, rfl⟩
      rw [hR1, hR2] at hyes hno
      rw [hR1] at ct rL rH
      generalize nth4 f k = P at *
      obtain ⟨⟨q0, q1⟩, ⟨q2, q3⟩⟩ := P
      simp only at p0 p1 p2 p3 cl1 cl2 ct
      obtain ⟨w6, hw6⟩ : ∃ W, wr.alloc (.cells #[.int .i64 q0, .int .i64 q1, .int .i64 q2, .int .i64 q3] 47) = W := ⟨_, rfl⟩
      have hB6 : Below wr.heap.size wr w6 := by rw [← hw6]; exact (Below.refl _ _).alloc (Nat.le_refl _) _
      have i0 : w6.cell? ⟨wr.heap.size, 0, none⟩ = some (.int .i64 q0) := by rw [← hw6]; simp [go_sem]
      have i1 : w6.cell? ⟨wr.heap.size, 1, none⟩ = some (.int .i64 q1) := by rw [← hw6]; simp [go_sem]
      have i2 : w6.cell? ⟨wr.heap.size, 2, none⟩ = some (.int .i64 q2) := by rw [← hw6]; simp [go_sem]
      have i3 : w6.cell? ⟨wr.heap.size, 3, none⟩ = some (.int .i64 q3) := by rw [← hw6]; simp [go_sem]
      have s0 := r0.below hB6
      have s1 := r1.below hB6
      have s2 := r2.below hB6
      have s3 := r3.below hB6
      have sL := rL.below hB6
      have sH := rH.below hB6
      have hc7 := hcr.below hB6
      have hg8 := hgr.trans (bgrow hB6 (some g))
      have hLlt := rL.lt
      have hHlt := rH.lt
      obtain ⟨⟨x0, x1⟩, _, _⟩ := id s0
      rw [← hw6] at x0 x1
      clear r0 r1 r2 r3 rL rH hcr hgr hB6 hbr
      have s0' := Lib.hid s0
      have s1' := Lib.hid s1
      have s2' := Lib.hid s2
      have s3' := Lib.hid s3
      have sL' := Lib.hid sL
      have sH' := Lib.hid sH
      have hc7' := Lib.hid hc7
      have hg8' := Lib.hid hg8
      have cl1' := Lib.hid cl1
      have cl2' := Lib.hid cl2
      have ct' := Lib.hid ct
      have hyes' := Lib.hid hyes
      have hno' := Lib.hid hno
      have hw6' := Lib.hid hw6
      have hR1' := Lib.hid hR1
      have hR2' := Lib.hid hR2
      have i0' := Lib.hid i0
      have i1' := Lib.hid i1
      have i2' := Lib.hid i2
      have i3' := Lib.hid i3
      clear s0 s1 s2 s3 sL sH hc7 hg8 cl1 cl2 ct hyes hno hw6 hR1 hR2 i0 i1 i2 i3
      go_wp2_with fail
      rw [hw6'.out]
      clear x0 x1 p0 p1 p2 p3
      go_wp2_with fail
      refine (cl1'.out _).mono ?_
      rintro e w7 ⟨rfl, hB7⟩
      have s0 := s0'.out.below hB7
      have s1 := s1'.out.below hB7
      have s2 := s2'.out.below hB7
      have s3 := s3'.out.below hB7
      have sL := sL'.out.below hB7
      have sH := sH'.out.below hB7
      have hc7 := hc7'.out.below hB7
      have hg8 := hg8'.out.trans (bgrow hB7 (some g))
      have i0 := bkeep hB7 i0'.out
      have i1 := bkeep hB7 i1'.out
      have i2 := bkeep hB7 i2'.out
      have i3 := bkeep hB7 i3'.out
      clear s0' s1' s2' s3' sL' sH' hc7' hg8' i0' i1' i2' i3' hB7
      cases L1
      · have e2 : R2 = R1 := hno'.out rfl
        have s0' := Lib.hid s0
        have s1' := Lib.hid s1
        have s2' := Lib.hid s2
        have s3' := Lib.hid s3
        have sL' := Lib.hid sL
        have sH' := Lib.hid sH
        have hc7' := Lib.hid hc7
        have hg8' := Lib.hid hg8
        have e2' := Lib.hid e2
        clear s0 s1 s2 s3 sL sH hc7 hg8 e2
        go_wp2
        go_roundw
        case rel => exact ⟨k + 1, by omega, by go_num, hg8'.out, hc7'.out, s0'.out, s1'.out, s2'.out, s3'.out, by rw [hR2'.out, e2'.out]; exact sL'.out, by rw [hR2'.out, e2'.out]; exact sH'.out⟩
        case measure => simp [intOf]; omega
      · obtain ⟨⟨x0, x1⟩, _, _⟩ := id s1
        have s0' := Lib.hid s0
        have s1' := Lib.hid s1
        have s2' := Lib.hid s2
        have s3' := Lib.hid s3
        have sL' := Lib.hid sL
        have sH' := Lib.hid sH
        have hc7' := Lib.hid hc7
        have hg8' := Lib.hid hg8
        have i2' := Lib.hid i2
        have i3' := Lib.hid i3
        clear s0 s1 s2 s3 sL sH hc7 hg8 i2 i3
        go_wp2_with fail
        refine (cl2'.out _).mono ?_
        rintro e w8 ⟨rfl, hB8⟩
        have s0 := s0'.out.below hB8
        have s1 := s1'.out.below hB8
        have s2 := s2'.out.below hB8
        have s3 := s3'.out.below hB8
        have sL := sL'.out.below hB8
        have sH := sH'.out.below hB8
        have hc7 := hc7'.out.below hB8
        have hg8 := hg8'.out.trans (bgrow hB8 (some g))
        have i2 := bkeep hB8 i2'.out
        have i3 := bkeep hB8 i3'.out
        clear s0' s1' s2' s3' sL' sH' hc7' hg8' i2' i3' hB8 i0 i1 x0 x1
        cases L2
        · have e2 : R2 = R1 := hno'.out rfl
          have s0' := Lib.hid s0
          have s1' := Lib.hid s1
          have s2' := Lib.hid s2
          have s3' := Lib.hid s3
          have sL' := Lib.hid sL
          have sH' := Lib.hid sH
          have hc7' := Lib.hid hc7
          have hg8' := Lib.hid hg8
          have e2' := Lib.hid e2
          clear s0 s1 s2 s3 sL sH hc7 hg8 e2
          go_wp2
          go_roundw
          case rel => exact ⟨k + 1, by omega, by go_num, hg8'.out, hc7'.out, s0'.out, s1'.out, s2'.out, s3'.out, by rw [hR2'.out, e2'.out]; exact sL'.out, by rw [hR2'.out, e2'.out]; exact sH'.out⟩
          case measure => simp [intOf]; omega
        · have e2 := hyes'.out rfl
          have ct1 := ct'.out w8 sL sH
          have s0' := Lib.hid s0
          have s1' := Lib.hid s1
          have s2' := Lib.hid s2
          have s3' := Lib.hid s3
          have sL' := Lib.hid sL
          have sH' := Lib.hid sH
          have hc7' := Lib.hid hc7
          have hg8' := Lib.hid hg8
          have e2' := Lib.hid e2
          have ct1' := Lib.hid ct1
          clear s0 s1 s2 s3 sL sH hc7 hg8 e2 ct1
          go_wp2_with fail
          refine (ct1'.out).mono ?_
          rintro e w9 ⟨rfl, ht, oL2, oH2⟩
          have t0 := s0'.out.two ht (by omega) (by omega)
          have t1 := s1'.out.two ht (by omega) (by omega)
          have t2 := s2'.out.two ht (by omega) (by omega)
          have t3 := s3'.out.two ht (by omega) (by omega)
          have hc9 := hc7'.out.two ht (by omega) (by omega)
          have hg9 := grow_two hg8'.out ht (by omega) (by omega)
          clear ht
          have t0' := Lib.hid t0
          have t1' := Lib.hid t1
          have t2' := Lib.hid t2
          have t3' := Lib.hid t3
          have oL2' := Lib.hid oL2
          have oH2' := Lib.hid oH2
          have hc9' := Lib.hid hc9
          have hg9' := Lib.hid hg9
          clear t0 t1 t2 t3 oL2 oH2 hc9 hg9
          go_wp2
          go_roundw
          case rel => exact ⟨k + 1, by omega, by go_num, hg9'.out, hc9'.out, t0'.out, t1'.out, t2'.out, t3'.out, by rw [hR2'.out, e2'.out]; exact oL2'.out, by rw [hR2'.out, e2'.out]; exact oH2'.out⟩
          case measure => simp [intOf]; omega
    · obtain rfl : k = n := by omega
      generalize imS f (a0, a1) (b0, b1) k = R at *
      obtain ⟨⟨l0', l1'⟩, ⟨h0', h1'⟩⟩ := R
      obtain ⟨⟨p0, p1⟩, _, _⟩ := rL
      obtain ⟨⟨q0, q1⟩, _, _⟩ := rH
      obtain ⟨⟨s0, s1⟩, s2, s3⟩ := r2
      obtain ⟨⟨t0, t1⟩, t2, t3⟩ := r3
      simp only at p0 p1 q0 q1
      clear r0 r1
      have hgr' := Lib.hid hgr
      have hcr' := Lib.hid hcr
      clear hgr hcr
      go_wp2_with fail
      go_region
      go_wp2
      have hgf := grow_set (grow_set (grow_set (grow_set hgr'.out (b := w.heap.size + 1 + 1) (o := 0) (by omega) (.int .i64 l0')) (b := w.heap.size + 1 + 1) (o := 1) (by omega) (.int .i64 l1')) (b := w.heap.size + 1 + 1 + 1) (o := 0) (by omega) (.int .i64 h0')) (b := w.heap.size + 1 + 1 + 1) (o := 1) (by omega) (.int .i64 h1')
      have hcf := (((hcr'.out.set (b := w.heap.size + 1 + 1) (o := 0) (by omega) (.int .i64 l0')).set (b := w.heap.size + 1 + 1) (o := 1) (by omega) (.int .i64 l1')).set (b := w.heap.size + 1 + 1 + 1) (o := 0) (by omega) (.int .i64 h0')).set (b := w.heap.size + 1 + 1 + 1) (o := 1) (by omega) (.int .i64 h1')
      exact bodyPost_ret (v := .tuple #[ratV (l0', l1'), ratV (h0', h1')]) (by simp [results, Tryz.results83, go_sem, s0, s1, s2, s3, t0, t1, t2, t3, ratV]) rfl ⟨rfl, gdrew hgf, hcf.drew⟩

end Go.Proofs.YtfcanpebagpdbaaGreat

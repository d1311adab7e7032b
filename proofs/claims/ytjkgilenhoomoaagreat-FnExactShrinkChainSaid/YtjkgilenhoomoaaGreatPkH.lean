/- Several texts in one: QuadS LiftQ MarkQ. No conditions but those that each theorem states. -/
import Derived.Test.YtjkgilenhoomoaaGreatPkC
import Derived.Test.YtjkgilenhoomoaaGreatPkB
import Derived.Test.YtjkgilenhoomoaaGreatPkE
import Derived.Test.YtjkgilenhoomoaaGreatPkD
import Derived.Deep.RegionHeld3
import Derived.Deep.Slices

namespace Go.Proofs.YtjkgilenhoomoaaGreat
open Go.RowKit
set_option maxRecDepth 100000

def I64I (q : Quad) : Prop := I64R q.1 ∧ I64R q.2
theorem step_fill4 (xs : List Quad) (n k : Nat) (hk : k < n) (hn : xs.length = n) :
    ((((fl4 (xs.take k) ++ List.replicate ((n - k) * 4) 0).set (k * 4) (nth4 xs k).1.1).set (k * 4 + 1) (nth4 xs k).1.2).set (k * 4 + 2) (nth4 xs k).2.1).set (k * 4 + 3) (nth4 xs k).2.2 = fl4 (xs.take (k + 1)) ++ List.replicate ((n - (k + 1)) * 4) 0 := by
  have h1 : (n - k) * 4 = (n - (k + 1)) * 4 + 1 + 1 + 1 + 1 := by omega
  have e2 : (fl4 (xs.take k)).length = k * 4 := by rw [fl4_len, List.length_take]; omega
  rw [h1, List.replicate_succ, List.replicate_succ, List.replicate_succ, List.replicate_succ]
  rw [List.set_append_right _ _ (by omega), e2, Nat.sub_self, List.set_cons_zero, List.set_append_right _ _ (by omega), e2, show k * 4 + 1 - k * 4 = 1 by omega, List.set_cons_succ, List.set_cons_zero,
    List.set_append_right _ _ (by omega), e2, show k * 4 + 2 - k * 4 = 2 by omega, List.set_cons_succ, List.set_cons_succ, List.set_cons_zero,
    List.set_append_right _ _ (by omega), e2, show k * 4 + 3 - k * 4 = 3 by omega, List.set_cons_succ, List.set_cons_succ, List.set_cons_succ, List.set_cons_zero,
    take_nth4 (by omega), fl4_append, fl4_one, List.append_assoc]; rfl

theorem gfrozen' {w w' : World} (hB : Below w.heap.size w w') {a : Addr} {v : Value} (hc : w.cell? a = some v) (hf : w.frozen? a = false) : w'.frozen? a = false :=
  ((bgrow hB none).frozen_far a (World.block_lt_of_cell? _ _ hc) (by simp)).trans hf

set_option maxHeartbeats 1600000 in
theorem toPoint_any (q : Quad) (w : World) : Calls Tryz.prog 18 #[quadV q] w (Ret (quadV q) w) := by
  obtain ⟨⟨x, y⟩, ⟨z, t⟩⟩ := q
  show Calls _ _ #[.agg #[.int .i64 x, .int .i64 y, .int .i64 z, .int .i64 t]] w _
  have c1 := fun w => toRat_any (x, y) w
  have c2 := fun w => toRat_any (z, t) w
  simp only at c1 c2
  obtain ⟨W, hW⟩ : ∃ W, ((w.alloc (.cells #[.int .i64 x, .int .i64 y, .int .i64 z, .int .i64 t] 52)).alloc (.cells #[.int .i64 0, .int .i64 0, .int .i64 0, .int .i64 0] 48)).alloc (.cells #[.int .i64 0, .int .i64 0, .int .i64 0, .int .i64 0] 48) = W := ⟨_, rfl⟩
  have hB : Below w.heap.size w W := by rw [← hW]; exact (((Below.refl _ _).alloc (Nat.le_refl _) _).alloc (by simp) _).alloc (by simp; omega) _
  have k2 : W.cell? ⟨w.heap.size, 2, none⟩ = some (.int .i64 z) := by rw [← hW]; simp [go_sem]
  have k3 : W.cell? ⟨w.heap.size, 3, none⟩ = some (.int .i64 t) := by rw [← hW]; simp [go_sem]
  have k0 : W.cell? ⟨w.heap.size, 0, none⟩ = some (.int .i64 x) := by rw [← hW]; simp [go_sem]
  have k1 : W.cell? ⟨w.heap.size, 1, none⟩ = some (.int .i64 y) := by rw [← hW]; simp [go_sem]
  have a0 : W.cell? ⟨w.heap.size + 1, 0, none⟩ = some (.int .i64 0) ∧ W.cell? ⟨w.heap.size + 1, 1, none⟩ = some (.int .i64 0) ∧ W.cell? ⟨w.heap.size + 1, 2, none⟩ = some (.int .i64 0) ∧ W.cell? ⟨w.heap.size + 1, 3, none⟩ = some (.int .i64 0) := by rw [← hW]; simp [go_sem]
  have a1 : W.frozen? ⟨w.heap.size + 1, 0, none⟩ = false ∧ W.frozen? ⟨w.heap.size + 1, 1, none⟩ = false ∧ W.frozen? ⟨w.heap.size + 1, 2, none⟩ = false ∧ W.frozen? ⟨w.heap.size + 1, 3, none⟩ = false := by rw [← hW]; simp [go_sem]
  have b0 : W.cell? ⟨w.heap.size + 1 + 1, 0, none⟩ = some (.int .i64 0) ∧ W.cell? ⟨w.heap.size + 1 + 1, 1, none⟩ = some (.int .i64 0) ∧ W.cell? ⟨w.heap.size + 1 + 1, 2, none⟩ = some (.int .i64 0) ∧ W.cell? ⟨w.heap.size + 1 + 1, 3, none⟩ = some (.int .i64 0) := by rw [← hW]; simp [go_sem]
  have b1 : W.frozen? ⟨w.heap.size + 1 + 1, 0, none⟩ = false ∧ W.frozen? ⟨w.heap.size + 1 + 1, 1, none⟩ = false ∧ W.frozen? ⟨w.heap.size + 1 + 1, 2, none⟩ = false ∧ W.frozen? ⟨w.heap.size + 1 + 1, 3, none⟩ = false := by rw [← hW]; simp [go_sem]
  have c1' := Lib.hid c1
  have c2' := Lib.hid c2
  have hW' := Lib.hid hW
  have a0' := Lib.hid a0
  have a1' := Lib.hid a1
  have b0' := Lib.hid b0
  have b1' := Lib.hid b1
  have k2' := Lib.hid k2
  have k3' := Lib.hid k3
  clear c1 c2 hW a0 a1 b0 b1 k2 k3
  go_enter Tryz.func18, Tryz.ntmps18
  go_wp2_with fail
  rw [hW'.out]
  go_wp2_with fail
  refine (c1'.out _).mono ?_
  rintro e w1 ⟨rfl, hB1⟩
  have hb1 := hB.trans (hB1.mono hB.size)
  have kk2 := bkeep hB1 k2'.out
  have kk3 := bkeep hB1 k3'.out
  have n0 := bkeep hB1 b0'.out.1
  have n1 := bkeep hB1 b0'.out.2.1
  have n2 := bkeep hB1 b0'.out.2.2.1
  have n3 := bkeep hB1 b0'.out.2.2.2
  have m0 := gfrozen' hB1 b0'.out.1 b1'.out.1
  have m1 := gfrozen' hB1 b0'.out.2.1 b1'.out.2.1
  have m2 := gfrozen' hB1 b0'.out.2.2.1 b1'.out.2.2.1
  have m3 := gfrozen' hB1 b0'.out.2.2.2 b1'.out.2.2.2
  have p0 := bkeep hB1 a0'.out.1
  have p1 := bkeep hB1 a0'.out.2.1
  have p2 := bkeep hB1 a0'.out.2.2.1
  have p3 := bkeep hB1 a0'.out.2.2.2
  have q0 := gfrozen' hB1 a0'.out.1 a1'.out.1
  have q1 := gfrozen' hB1 a0'.out.2.1 a1'.out.2.1
  have q2 := gfrozen' hB1 a0'.out.2.2.1 a1'.out.2.2.1
  have q3 := gfrozen' hB1 a0'.out.2.2.2 a1'.out.2.2.2
  clear k0 k1 a0' a1' b0' b1' k2' k3'
  obtain ⟨V1, hV1⟩ : ∃ V, (w1.setCell ⟨w.heap.size + 1 + 1, 0, none⟩ (.int .i64 x)).setCell ⟨w.heap.size + 1 + 1, 1, none⟩ (.int .i64 y) = V := ⟨_, rfl⟩
  have r0 : V1.cell? ⟨w.heap.size + 1 + 1, 0, none⟩ = some (.int .i64 x) := by rw [← hV1]; simp [go_sem, n0]
  have r1 : V1.cell? ⟨w.heap.size + 1 + 1, 1, none⟩ = some (.int .i64 y) := by rw [← hV1]; simp [go_sem, n1]
  have r2 : V1.cell? ⟨w.heap.size + 1 + 1, 2, none⟩ = some (.int .i64 0) := by rw [← hV1]; simp [go_sem, n2]
  have r3 : V1.cell? ⟨w.heap.size + 1 + 1, 3, none⟩ = some (.int .i64 0) := by rw [← hV1]; simp [go_sem, n3]
  have s2 : V1.frozen? ⟨w.heap.size + 1 + 1, 2, none⟩ = false := by rw [← hV1]; simp [go_sem, m2]
  have s3 : V1.frozen? ⟨w.heap.size + 1 + 1, 3, none⟩ = false := by rw [← hV1]; simp [go_sem, m3]
  have t0 : V1.cell? ⟨w.heap.size + 1, 0, none⟩ = some (.int .i64 0) := by rw [← hV1]; simp [go_sem, p0]
  have t1 : V1.cell? ⟨w.heap.size + 1, 1, none⟩ = some (.int .i64 0) := by rw [← hV1]; simp [go_sem, p1]
  have t2 : V1.cell? ⟨w.heap.size + 1, 2, none⟩ = some (.int .i64 0) := by rw [← hV1]; simp [go_sem, p2]
  have t3 : V1.cell? ⟨w.heap.size + 1, 3, none⟩ = some (.int .i64 0) := by rw [← hV1]; simp [go_sem, p3]
  have v0 : V1.frozen? ⟨w.heap.size + 1, 0, none⟩ = false := by rw [← hV1]; simp [go_sem, q0]
  have v1 : V1.frozen? ⟨w.heap.size + 1, 1, none⟩ = false := by rw [← hV1]; simp [go_sem, q1]
  have v2 : V1.frozen? ⟨w.heap.size + 1, 2, none⟩ = false := by rw [← hV1]; simp [go_sem, q2]
  have v3 : V1.frozen? ⟨w.heap.size + 1, 3, none⟩ = false := by rw [← hV1]; simp [go_sem, q3]
  have hbV : Below w.heap.size w V1 := by rw [← hV1]; exact (hb1.setCell (p := ⟨w.heap.size + 1 + 1, 0, none⟩) (by show w.heap.size ≤ w.heap.size + 1 + 1; omega) _).setCell (p := ⟨w.heap.size + 1 + 1, 1, none⟩) (by show w.heap.size ≤ w.heap.size + 1 + 1; omega) _
  have hV1' := Lib.hid hV1
  have hr := Lib.hid (And.intro r0 (And.intro r1 (And.intro r2 (And.intro r3 (And.intro s2 s3)))))
  have ht := Lib.hid (And.intro (And.intro t0 (And.intro t1 (And.intro t2 t3))) (And.intro v0 (And.intro v1 (And.intro v2 v3))))
  clear hV1 r0 r1 r2 r3 s2 s3 t0 t1 t2 t3 v0 v1 v2 v3 p0 p1 p2 p3 q0 q1 q2 q3
  go_wp2_with fail
  rw [hV1'.out]
  refine (c2'.out _).mono ?_
  rintro e w2 ⟨rfl, hB2⟩
  have hb2 := hbV.trans (hB2.mono hbV.size)
  clear kk2 kk3 n0 n1 n2 n3 m0 m1 m2 m3
  have n0 := bkeep hB2 hr.out.1
  have n1 := bkeep hB2 hr.out.2.1
  have n2 := bkeep hB2 hr.out.2.2.1
  have n3 := bkeep hB2 hr.out.2.2.2.1
  have m2 := gfrozen' hB2 hr.out.2.2.1 hr.out.2.2.2.2.1
  have m3 := gfrozen' hB2 hr.out.2.2.2.1 hr.out.2.2.2.2.2
  have p0 := bkeep hB2 ht.out.1.1
  have p1 := bkeep hB2 ht.out.1.2.1
  have p2 := bkeep hB2 ht.out.1.2.2.1
  have p3 := bkeep hB2 ht.out.1.2.2.2
  have q0 := gfrozen' hB2 ht.out.1.1 ht.out.2.1
  have q1 := gfrozen' hB2 ht.out.1.2.1 ht.out.2.2.1
  have q2 := gfrozen' hB2 ht.out.1.2.2.1 ht.out.2.2.2.1
  have q3 := gfrozen' hB2 ht.out.1.2.2.2 ht.out.2.2.2.2
  clear hr ht hB2 hB1 hV1' hb1 hbV
  have hset : ∀ (W : World), Below w.heap.size w W → ∀ (b : Nat) o u, w.heap.size ≤ b → Below w.heap.size w (W.setCell ⟨b, o, none⟩ u) := fun W h b o u hb => h.setCell (p := ⟨b, o, none⟩) hb u
  have hset' := Lib.hid hset
  clear hset
  go_wp2
  refine bodyPost_ret (v := quadV ((x, y), (z, t))) (by simp [results, Tryz.results18, go_sem, p0, p1, p2, p3]) rfl ⟨rfl, ?_⟩
  iterate 6 refine hset'.out _ ?_ _ _ _ (by omega)
  exact hb2
set_option maxHeartbeats 800000 in
theorem toPointS_any (v : Value) (xs : List Quad) (w : World) (hv : QuadV w v xs) (hm : szPointS xs ≤ 1099511627776) :
    Calls Tryz.prog 7 #[v] w (RetO OwnP xs w) := by
  replace hm : xs.length ≤ 1099511627776 := hm
  obtain ⟨ao, cap, rfl, hz, hz', H0⟩ := hv.form
  obtain ⟨n, hn⟩ : ∃ n, xs.length = n := ⟨_, rfl⟩
  rw [hn] at hm hz H0 hv ⊢
  clear H0
  obtain ⟨i, hi, hz0, hz1, hz2⟩ := info_parts Tryz.infoPoint
  go_enter Tryz.func7, Tryz.ntmps7
  go_wp2_with (at_make; refine wpList_make_full _ rfl _ _ 29 rfl w.heap.size 48 i _ 4 Tryz.underlying29 hi hz0 hz1 _ _ _ _ n rfl rfl rfl rfl (by rw [hz2]; omega) (by unfold maxLen; omega) (Nat.le_refl _) ?_)
  intro w1 hown hgrow
  have hB1 : Below w.heap.size w w1 := below_made (Below.refl _ _) (Nat.le_refl _) hgrow
  have ho := rowF_made (z := #[.int .i64 0, .int .i64 0, .int .i64 0, .int .i64 0]) rfl (by omega) hown
  clear hown hgrow hi hz0 hz1 hz2
  go_wp2
  go_loopw [4] (fun i wr => ∃ k : Nat, k ≤ n ∧ i = .int .i64 k ∧ RowF 48 4 wr w.heap.size w.heap.size n n (fl4 (xs.take k) ++ List.replicate ((n - k) * 4) 0) ∧ Below w.heap.size w wr) (fun i _ => n - (intOf i).toNat)
  case atStart => exact ⟨0, Nat.zero_le _, rfl, by simpa [fl4] using ho, hB1⟩
  case round =>
    obtain ⟨k, hk, rfl, ho', hB⟩ := hrel
    by_cases hlt : k < n
    · obtain ⟨ao', cap', e, _, _, H⟩ := (hv.below hB).form
      obtain ⟨rfl, e1, rfl⟩ := Value.slice.inj e
      clear e1
      obtain ⟨b, off, rfl, hc0, hc1, hc2, hc3⟩ := H k (by omega)
      clear H e
      have hlo := ho'.lt.2
      have c1 := fun w => toPoint_any (nth4 xs k) w
      have hst := step_fill4 xs n k hlt hn
      clear hz hz' hB1 ho hv
      generalize nth4 xs k = r at *
      obtain ⟨⟨p, q⟩, ⟨p', q'⟩⟩ := r
      have c1' := Lib.hid c1
      have hst' := Lib.hid hst
      have hn' := Lib.hid hn
      clear c1 hst hn
      go_wp2_with fail
      refine (c1'.out _).mono ?_
      rintro e w2 ⟨rfl, hB2⟩
      have ho2 := ho'.below hB2 hlo
      have hk0 := ho2.cell (j := k * 4) (by omega)
      have hk1 := ho2.cell (j := k * 4 + 1) (by omega)
      have hk2 := ho2.cell (j := k * 4 + 2) (by omega)
      have hk3 := ho2.cell (j := k * 4 + 3) (by omega)
      have hf0 := ho2.frozen (k * 4)
      have hf1 := ho2.frozen (k * 4 + 1)
      have hf2 := ho2.frozen (k * 4 + 2)
      have hf3 := ho2.frozen (k * 4 + 3)
      have ho3 := (((ho2.stored (k * 4) p).stored (k * 4 + 1) q).stored (k * 4 + 2) p').stored (k * 4 + 3) q'
      rw [hst'.out] at ho3
      have hB3 := ((((hB.trans (hB2.mono (by omega))).setCell (p := ⟨w.heap.size, k * 4, none⟩) (Nat.le_refl _) (.int .i64 p)).setCell (p := ⟨w.heap.size, k * 4 + 1, none⟩) (Nat.le_refl _) (.int .i64 q)).setCell (p := ⟨w.heap.size, k * 4 + 2, none⟩) (Nat.le_refl _) (.int .i64 p')).setCell (p := ⟨w.heap.size, k * 4 + 3, none⟩) (Nat.le_refl _) (.int .i64 q')
      clear ho' ho2 hB2 hB
      have ho3' := Lib.hid ho3
      have hB3' := Lib.hid hB3
      clear ho3 hB3
      go_wp2
      go_roundw
      case rel => exact ⟨k + 1, by omega, by go_num, ho3'.out, hB3'.out⟩
      case measure => simp [intOf]; omega
    · obtain rfl : k = n := by omega
      have ho2 : OwnP wr w.heap.size wr.heap.size (.slice (some ⟨w.heap.size, 0, none⟩) k k) xs := by
        rw [Nat.sub_self, Nat.zero_mul, List.replicate_zero, List.append_nil, List.take_of_length_le (by omega)] at ho'
        unfold OwnP; rw [hn]; exact ho'.own
      clear ho' hn
      go_wp2
      go_ret
      exact ⟨_, rfl, ho2, hB⟩
set_option maxHeartbeats 400000 in
theorem eqPoint_same (q : Quad) (w : World) : Calls Tryz.prog 24 #[quadV q, quadV q] w (Ret (.bool true) w) := by
  obtain ⟨⟨x, y⟩, ⟨z, t⟩⟩ := q
  show Calls _ _ #[.agg #[.int .i64 x, .int .i64 y, .int .i64 z, .int .i64 t], .agg #[.int .i64 x, .int .i64 y, .int .i64 z, .int .i64 t]] w _
  have c1 := fun w => eqRat_same x y w
  have c2 := fun w => eqRat_same z t w
  obtain ⟨W, hW⟩ : ∃ W, (w.alloc (.cells #[.int .i64 x, .int .i64 y, .int .i64 z, .int .i64 t] 48)).alloc (.cells #[.int .i64 x, .int .i64 y, .int .i64 z, .int .i64 t] 48) = W := ⟨_, rfl⟩
  have hB : Below w.heap.size w W := by rw [← hW]; exact ((Below.refl _ _).alloc (Nat.le_refl _) _).alloc (by simp) _
  have k0 : W.cell? ⟨w.heap.size, 0, none⟩ = some (.int .i64 x) ∧ W.cell? ⟨w.heap.size, 1, none⟩ = some (.int .i64 y) ∧ W.cell? ⟨w.heap.size + 1, 0, none⟩ = some (.int .i64 x) ∧ W.cell? ⟨w.heap.size + 1, 1, none⟩ = some (.int .i64 y) := by rw [← hW]; simp [go_sem]
  have k1 : W.cell? ⟨w.heap.size, 2, none⟩ = some (.int .i64 z) ∧ W.cell? ⟨w.heap.size, 3, none⟩ = some (.int .i64 t) ∧ W.cell? ⟨w.heap.size + 1, 2, none⟩ = some (.int .i64 z) ∧ W.cell? ⟨w.heap.size + 1, 3, none⟩ = some (.int .i64 t) := by rw [← hW]; simp [go_sem]
  obtain ⟨a0, a1, a2, a3⟩ := k0
  have c1' := Lib.hid c1
  have c2' := Lib.hid c2
  have hW' := Lib.hid hW
  have k1' := Lib.hid k1
  clear c1 c2 hW k1
  go_enter Tryz.func24, Tryz.ntmps24
  go_wp2_with fail
  rw [hW'.out]
  go_wp2_with fail
  refine (c1'.out _).mono ?_
  rintro e w1 ⟨rfl, hB1⟩
  have b0 := bkeep hB1 k1'.out.1
  have b1 := bkeep hB1 k1'.out.2.1
  have b2 := bkeep hB1 k1'.out.2.2.1
  have b3 := bkeep hB1 k1'.out.2.2.2
  have hb1 := hB.trans (hB1.mono hB.size)
  clear a0 a1 a2 a3
  go_wp2_with fail
  refine (c2'.out _).mono ?_
  rintro e w2 ⟨rfl, hB2⟩
  have hb2 := hb1.trans (hB2.mono hb1.size)
  go_wp2
  go_ret
  exact ⟨rfl, hb2⟩
set_option linter.unusedSimpArgs false in
set_option maxHeartbeats 800000 in
/-- Two slices that read alike: true. -/
theorem eqPointS_same (v u : Value) (xs : List Quad) (w : World) (hv : QuadV w v xs) (hu : QuadV w u xs) (hm : szPointS xs ≤ 1099511627776) :
    Calls Tryz.prog 11 #[v, u] w (Ret (.bool true) w) := by
  replace hm : xs.length ≤ 1099511627776 := hm
  obtain ⟨ao, cap, rfl, _, _, H⟩ := hv.form
  obtain ⟨bo, bcap, rfl, _, _, H'⟩ := hu.form
  obtain ⟨n, hn⟩ : ∃ n, xs.length = n := ⟨_, rfl⟩
  rw [hn] at hm H H' hv hu ⊢
  have hn' := Lib.hid hn
  have hv' := Lib.hid hv
  have hu' := Lib.hid hu
  clear hn hv hu
  go_enter Tryz.func11, Tryz.ntmps11
  go_wp2
  go_loopw [5] (fun i wr => ∃ k : Nat, k ≤ n ∧ i = .int .i64 k ∧ Below w.heap.size w wr) (fun i _ => n - (intOf i).toNat)
  case atStart => exact ⟨0, Nat.zero_le _, rfl, Below.refl _ _⟩
  case round =>
    obtain ⟨k, hk, rfl, hB⟩ := hrel
    by_cases hlt : k < n
    · obtain ⟨b, off, rfl, p0, p1, p2, p3⟩ := H k hlt
      obtain ⟨b', off', rfl, q0, q1, q2, q3⟩ := H' k hlt
      clear H H'
      have c1 := fun w => eqPoint_same (nth4 xs k) w
      generalize nth4 xs k = r at *
      obtain ⟨⟨x, y⟩, ⟨z, t⟩⟩ := r
      have at' : ∀ w', Below w.heap.size w w' → (w'.cell? ⟨b, off + k * 4, none⟩ = some (.int .i64 x) ∧ w'.cell? ⟨b, off + k * 4 + 1, none⟩ = some (.int .i64 y) ∧ w'.cell? ⟨b, off + k * 4 + 2, none⟩ = some (.int .i64 z) ∧ w'.cell? ⟨b, off + k * 4 + 3, none⟩ = some (.int .i64 t)) ∧ w'.cell? ⟨b', off' + k * 4, none⟩ = some (.int .i64 x) ∧ w'.cell? ⟨b', off' + k * 4 + 1, none⟩ = some (.int .i64 y) ∧ w'.cell? ⟨b', off' + k * 4 + 2, none⟩ = some (.int .i64 z) ∧ w'.cell? ⟨b', off' + k * 4 + 3, none⟩ = some (.int .i64 t) := fun w' h =>
        ⟨⟨bkeep h p0, bkeep h p1, bkeep h p2, bkeep h p3⟩, bkeep h q0, bkeep h q1, bkeep h q2, bkeep h q3⟩
      have hd := hB.drew
      clear p0 p1 p2 p3 q0 q1 q2 q3
      have c1' := Lib.hid c1
      have at'' := Lib.hid at'
      clear c1 at'
      go_wp2_with fail
      refine wp_region_held_drew (S := (fun w' => (w'.cell? ⟨b, off + k * 4, none⟩ = some (.int .i64 x) ∧ w'.cell? ⟨b, off + k * 4 + 1, none⟩ = some (.int .i64 y) ∧ w'.cell? ⟨b, off + k * 4 + 2, none⟩ = some (.int .i64 z) ∧ w'.cell? ⟨b, off + k * 4 + 3, none⟩ = some (.int .i64 t)) ∧ w'.cell? ⟨b', off' + k * 4, none⟩ = some (.int .i64 x) ∧ w'.cell? ⟨b', off' + k * 4 + 1, none⟩ = some (.int .i64 y) ∧ w'.cell? ⟨b', off' + k * 4 + 2, none⟩ = some (.int .i64 z) ∧ w'.cell? ⟨b', off' + k * 4 + 3, none⟩ = some (.int .i64 t))) (by kernel_rfl) (by (try dsimp only); (first | exact at''.out _ hd | exact at''.out _ hd2)) (fun hHeld => ?_)
      refine ly_q 0 (v := ?_) hHeld ?_
      try simp only [Act.put, lyA, lyB, lyC]
      refine ly_q 1 (v := ?_) hHeld ?_
      try simp only [Act.put, lyA, lyB, lyC]
      refine ly_q 2 (v := ?_) hHeld ?_
      try simp only [Act.put, lyA, lyB, lyC]
      refine ly_q 3 (v := ?_) hHeld ?_
      try simp only [Act.put, lyA, lyB, lyC]
      refine ly_q 4 (v := ?_) hHeld ?_
      try simp only [Act.put, lyA, lyB, lyC]
      refine ly_q 5 (v := ?_) hHeld ?_
      try simp only [Act.put, lyA, lyB, lyC]
      refine ly_q 6 (v := ?_) hHeld ?_
      try simp only [Act.put, lyA, lyB, lyC]
      refine ly_q 7 (v := ?_) hHeld ?_
      try simp only [Act.put, lyA, lyB, lyC]
      refine ly_a 8 (fun KK hKK => ?_)
      go_simp
      refine (c1'.out _).mono ?_
      rintro e w2 ⟨rfl, hB2⟩
      have hd2 := hd.trans (hB2.mono hd.size)
      try dsimp only
      refine hKK.out _ _ (by (try dsimp only); (first | exact at''.out _ hd | exact at''.out _ hd2)) (fun hHeld => ?_)
      clear hKK KK
      try simp only [Act.put, lyA, lyB, lyC]
      refine ly_q 9 (v := ?_) hHeld ?_
      try simp only [Act.put, lyA, lyB, lyC]
      refine wpAnyH_done (by kernel_rfl) ?_ _
      go_wp2
      go_roundw
      case rel => exact ⟨k + 1, by omega, by go_num, hd2⟩
      case measure => simp [intOf]; omega
    · clear H H'
      go_wp2
      go_ret
      exact ⟨rfl, hB⟩
theorem szPointS_fits (v : Value) (xs : List Quad) (left : Int) (w : World) (hv : QuadV w v xs) (h : (szPointS xs : Int) ≤ left) (hb : 0 ≤ left ∧ left ≤ 1099511627776) :
    Calls Tryz.prog 4 #[v, .int .i64 left] w (Same (.int .i64 (left - (szPointS xs : Int))) w) := by
  unfold szPointS at *
  obtain ⟨ao, cap, rfl, _, _, _⟩ := hv.form
  generalize xs.length = n at *
  clear hv
  go_enter Tryz.func4, Tryz.ntmps4
  go_wp2
  go_ret
  exact ⟨rfl, rfl⟩
theorem szPointS_over (v : Value) (xs : List Quad) (left : Int) (w : World) (hv : QuadV w v xs) (h : left < (szPointS xs : Int)) (hb : 0 ≤ left ∧ left ≤ 1099511627776) :
    Calls Tryz.prog 4 #[v, .int .i64 left] w (Same (.int .i64 (-1)) w) := by
  unfold szPointS at *
  obtain ⟨ao, cap, rfl, _, hc, _⟩ := hv.form
  have hl : xs.length ≤ 9223372036854775807 := by have : maxLen = 9223372036854775807 := rfl; omega
  generalize xs.length = n at *
  clear hv
  go_enter Tryz.func4, Tryz.ntmps4
  go_wp2
  go_ret
  exact ⟨rfl, rfl⟩
set_option maxHeartbeats 1600000 in
theorem toInterval_any (q : Quad) (w : World) : Calls Tryz.prog 19 #[quadV q] w (Ret (quadV q) w) := by
  obtain ⟨⟨x, y⟩, ⟨z, t⟩⟩ := q
  show Calls _ _ #[.agg #[.int .i64 x, .int .i64 y, .int .i64 z, .int .i64 t]] w _
  have c1 := fun w => toRat_any (x, y) w
  have c2 := fun w => toRat_any (z, t) w
  simp only at c1 c2
  obtain ⟨W, hW⟩ : ∃ W, ((w.alloc (.cells #[.int .i64 x, .int .i64 y, .int .i64 z, .int .i64 t] 55)).alloc (.cells #[.int .i64 0, .int .i64 0, .int .i64 0, .int .i64 0] 44)).alloc (.cells #[.int .i64 0, .int .i64 0, .int .i64 0, .int .i64 0] 44) = W := ⟨_, rfl⟩
  have hB : Below w.heap.size w W := by rw [← hW]; exact (((Below.refl _ _).alloc (Nat.le_refl _) _).alloc (by simp) _).alloc (by simp; omega) _
  have k2 : W.cell? ⟨w.heap.size, 2, none⟩ = some (.int .i64 z) := by rw [← hW]; simp [go_sem]
  have k3 : W.cell? ⟨w.heap.size, 3, none⟩ = some (.int .i64 t) := by rw [← hW]; simp [go_sem]
  have k0 : W.cell? ⟨w.heap.size, 0, none⟩ = some (.int .i64 x) := by rw [← hW]; simp [go_sem]
  have k1 : W.cell? ⟨w.heap.size, 1, none⟩ = some (.int .i64 y) := by rw [← hW]; simp [go_sem]
  have a0 : W.cell? ⟨w.heap.size + 1, 0, none⟩ = some (.int .i64 0) ∧ W.cell? ⟨w.heap.size + 1, 1, none⟩ = some (.int .i64 0) ∧ W.cell? ⟨w.heap.size + 1, 2, none⟩ = some (.int .i64 0) ∧ W.cell? ⟨w.heap.size + 1, 3, none⟩ = some (.int .i64 0) := by rw [← hW]; simp [go_sem]
  have a1 : W.frozen? ⟨w.heap.size + 1, 0, none⟩ = false ∧ W.frozen? ⟨w.heap.size + 1, 1, none⟩ = false ∧ W.frozen? ⟨w.heap.size + 1, 2, none⟩ = false ∧ W.frozen? ⟨w.heap.size + 1, 3, none⟩ = false := by rw [← hW]; simp [go_sem]
  have b0 : W.cell? ⟨w.heap.size + 1 + 1, 0, none⟩ = some (.int .i64 0) ∧ W.cell? ⟨w.heap.size + 1 + 1, 1, none⟩ = some (.int .i64 0) ∧ W.cell? ⟨w.heap.size + 1 + 1, 2, none⟩ = some (.int .i64 0) ∧ W.cell? ⟨w.heap.size + 1 + 1, 3, none⟩ = some (.int .i64 0) := by rw [← hW]; simp [go_sem]
  have b1 : W.frozen? ⟨w.heap.size + 1 + 1, 0, none⟩ = false ∧ W.frozen? ⟨w.heap.size + 1 + 1, 1, none⟩ = false ∧ W.frozen? ⟨w.heap.size + 1 + 1, 2, none⟩ = false ∧ W.frozen? ⟨w.heap.size + 1 + 1, 3, none⟩ = false := by rw [← hW]; simp [go_sem]
  have c1' := Lib.hid c1
  have c2' := Lib.hid c2
  have hW' := Lib.hid hW
  have a0' := Lib.hid a0
  have a1' := Lib.hid a1
  have b0' := Lib.hid b0
  have b1' := Lib.hid b1
  have k2' := Lib.hid k2
  have k3' := Lib.hid k3
  clear c1 c2 hW a0 a1 b0 b1 k2 k3
  go_enter Tryz.func19, Tryz.ntmps19
  go_wp2_with fail
  rw [hW'.out]
  go_wp2_with fail
  refine (c1'.out _).mono ?_
  rintro e w1 ⟨rfl, hB1⟩
  have hb1 := hB.trans (hB1.mono hB.size)
  have kk2 := bkeep hB1 k2'.out
  have kk3 := bkeep hB1 k3'.out
  have n0 := bkeep hB1 b0'.out.1
  have n1 := bkeep hB1 b0'.out.2.1
  have n2 := bkeep hB1 b0'.out.2.2.1
  have n3 := bkeep hB1 b0'.out.2.2.2
  have m0 := gfrozen' hB1 b0'.out.1 b1'.out.1
  have m1 := gfrozen' hB1 b0'.out.2.1 b1'.out.2.1
  have m2 := gfrozen' hB1 b0'.out.2.2.1 b1'.out.2.2.1
  have m3 := gfrozen' hB1 b0'.out.2.2.2 b1'.out.2.2.2
  have p0 := bkeep hB1 a0'.out.1
  have p1 := bkeep hB1 a0'.out.2.1
  have p2 := bkeep hB1 a0'.out.2.2.1
  have p3 := bkeep hB1 a0'.out.2.2.2
  have q0 := gfrozen' hB1 a0'.out.1 a1'.out.1
  have q1 := gfrozen' hB1 a0'.out.2.1 a1'.out.2.1
  have q2 := gfrozen' hB1 a0'.out.2.2.1 a1'.out.2.2.1
  have q3 := gfrozen' hB1 a0'.out.2.2.2 a1'.out.2.2.2
  clear k0 k1 a0' a1' b0' b1' k2' k3'
  obtain ⟨V1, hV1⟩ : ∃ V, (w1.setCell ⟨w.heap.size + 1 + 1, 0, none⟩ (.int .i64 x)).setCell ⟨w.heap.size + 1 + 1, 1, none⟩ (.int .i64 y) = V := ⟨_, rfl⟩
  have r0 : V1.cell? ⟨w.heap.size + 1 + 1, 0, none⟩ = some (.int .i64 x) := by rw [← hV1]; simp [go_sem, n0]
  have r1 : V1.cell? ⟨w.heap.size + 1 + 1, 1, none⟩ = some (.int .i64 y) := by rw [← hV1]; simp [go_sem, n1]
  have r2 : V1.cell? ⟨w.heap.size + 1 + 1, 2, none⟩ = some (.int .i64 0) := by rw [← hV1]; simp [go_sem, n2]
  have r3 : V1.cell? ⟨w.heap.size + 1 + 1, 3, none⟩ = some (.int .i64 0) := by rw [← hV1]; simp [go_sem, n3]
  have s2 : V1.frozen? ⟨w.heap.size + 1 + 1, 2, none⟩ = false := by rw [← hV1]; simp [go_sem, m2]
  have s3 : V1.frozen? ⟨w.heap.size + 1 + 1, 3, none⟩ = false := by rw [← hV1]; simp [go_sem, m3]
  have t0 : V1.cell? ⟨w.heap.size + 1, 0, none⟩ = some (.int .i64 0) := by rw [← hV1]; simp [go_sem, p0]
  have t1 : V1.cell? ⟨w.heap.size + 1, 1, none⟩ = some (.int .i64 0) := by rw [← hV1]; simp [go_sem, p1]
  have t2 : V1.cell? ⟨w.heap.size + 1, 2, none⟩ = some (.int .i64 0) := by rw [← hV1]; simp [go_sem, p2]
  have t3 : V1.cell? ⟨w.heap.size + 1, 3, none⟩ = some (.int .i64 0) := by rw [← hV1]; simp [go_sem, p3]
  have v0 : V1.frozen? ⟨w.heap.size + 1, 0, none⟩ = false := by rw [← hV1]; simp [go_sem, q0]
  have v1 : V1.frozen? ⟨w.heap.size + 1, 1, none⟩ = false := by rw [← hV1]; simp [go_sem, q1]
  have v2 : V1.frozen? ⟨w.heap.size + 1, 2, none⟩ = false := by rw [← hV1]; simp [go_sem, q2]
  have v3 : V1.frozen? ⟨w.heap.size + 1, 3, none⟩ = false := by rw [← hV1]; simp [go_sem, q3]
  have hbV : Below w.heap.size w V1 := by rw [← hV1]; exact (hb1.setCell (p := ⟨w.heap.size + 1 + 1, 0, none⟩) (by show w.heap.size ≤ w.heap.size + 1 + 1; omega) _).setCell (p := ⟨w.heap.size + 1 + 1, 1, none⟩) (by show w.heap.size ≤ w.heap.size + 1 + 1; omega) _
  have hV1' := Lib.hid hV1
  have hr := Lib.hid (And.intro r0 (And.intro r1 (And.intro r2 (And.intro r3 (And.intro s2 s3)))))
  have ht := Lib.hid (And.intro (And.intro t0 (And.intro t1 (And.intro t2 t3))) (And.intro v0 (And.intro v1 (And.intro v2 v3))))
  clear hV1 r0 r1 r2 r3 s2 s3 t0 t1 t2 t3 v0 v1 v2 v3 p0 p1 p2 p3 q0 q1 q2 q3
  go_wp2_with fail
  rw [hV1'.out]
  refine (c2'.out _).mono ?_
  rintro e w2 ⟨rfl, hB2⟩
  have hb2 := hbV.trans (hB2.mono hbV.size)
  clear kk2 kk3 n0 n1 n2 n3 m0 m1 m2 m3
  have n0 := bkeep hB2 hr.out.1
  have n1 := bkeep hB2 hr.out.2.1
  have n2 := bkeep hB2 hr.out.2.2.1
  have n3 := bkeep hB2 hr.out.2.2.2.1
  have m2 := gfrozen' hB2 hr.out.2.2.1 hr.out.2.2.2.2.1
  have m3 := gfrozen' hB2 hr.out.2.2.2.1 hr.out.2.2.2.2.2
  have p0 := bkeep hB2 ht.out.1.1
  have p1 := bkeep hB2 ht.out.1.2.1
  have p2 := bkeep hB2 ht.out.1.2.2.1
  have p3 := bkeep hB2 ht.out.1.2.2.2
  have q0 := gfrozen' hB2 ht.out.1.1 ht.out.2.1
  have q1 := gfrozen' hB2 ht.out.1.2.1 ht.out.2.2.1
  have q2 := gfrozen' hB2 ht.out.1.2.2.1 ht.out.2.2.2.1
  have q3 := gfrozen' hB2 ht.out.1.2.2.2 ht.out.2.2.2.2
  clear hr ht hB2 hB1 hV1' hb1 hbV
  have hset : ∀ (W : World), Below w.heap.size w W → ∀ (b : Nat) o u, w.heap.size ≤ b → Below w.heap.size w (W.setCell ⟨b, o, none⟩ u) := fun W h b o u hb => h.setCell (p := ⟨b, o, none⟩) hb u
  have hset' := Lib.hid hset
  clear hset
  go_wp2
  refine bodyPost_ret (v := quadV ((x, y), (z, t))) (by simp [results, Tryz.results19, go_sem, p0, p1, p2, p3]) rfl ⟨rfl, ?_⟩
  iterate 6 refine hset'.out _ ?_ _ _ _ (by omega)
  exact hb2
set_option maxHeartbeats 800000 in
theorem toIntervalS_any (v : Value) (xs : List Quad) (w : World) (hv : QuadV w v xs) (hm : szIntervalS xs ≤ 1099511627776) :
    Calls Tryz.prog 8 #[v] w (RetO OwnI xs w) := by
  replace hm : xs.length ≤ 1099511627776 := hm
  obtain ⟨ao, cap, rfl, hz, hz', H0⟩ := hv.form
  obtain ⟨n, hn⟩ : ∃ n, xs.length = n := ⟨_, rfl⟩
  rw [hn] at hm hz H0 hv ⊢
  clear H0
  obtain ⟨i, hi, hz0, hz1, hz2⟩ := info_parts Tryz.infoInterval
  go_enter Tryz.func8, Tryz.ntmps8
  go_wp2_with (at_make; refine wpList_make_full _ rfl _ _ 26 rfl w.heap.size 44 i _ 4 Tryz.underlying26 hi hz0 hz1 _ _ _ _ n rfl rfl rfl rfl (by rw [hz2]; omega) (by unfold maxLen; omega) (Nat.le_refl _) ?_)
  intro w1 hown hgrow
  have hB1 : Below w.heap.size w w1 := below_made (Below.refl _ _) (Nat.le_refl _) hgrow
  have ho := rowF_made (z := #[.int .i64 0, .int .i64 0, .int .i64 0, .int .i64 0]) rfl (by omega) hown
  clear hown hgrow hi hz0 hz1 hz2
  go_wp2
  go_loopw [4] (fun i wr => ∃ k : Nat, k ≤ n ∧ i = .int .i64 k ∧ RowF 44 4 wr w.heap.size w.heap.size n n (fl4 (xs.take k) ++ List.replicate ((n - k) * 4) 0) ∧ Below w.heap.size w wr) (fun i _ => n - (intOf i).toNat)
  case atStart => exact ⟨0, Nat.zero_le _, rfl, by simpa [fl4] using ho, hB1⟩
  case round =>
    obtain ⟨k, hk, rfl, ho', hB⟩ := hrel
    by_cases hlt : k < n
    · obtain ⟨ao', cap', e, _, _, H⟩ := (hv.below hB).form
      obtain ⟨rfl, e1, rfl⟩ := Value.slice.inj e
      clear e1
      obtain ⟨b, off, rfl, hc0, hc1, hc2, hc3⟩ := H k (by omega)
      clear H e
      have hlo := ho'.lt.2
      have c1 := fun w => toInterval_any (nth4 xs k) w
      have hst := step_fill4 xs n k hlt hn
      clear hz hz' hB1 ho hv
      generalize nth4 xs k = r at *
      obtain ⟨⟨p, q⟩, ⟨p', q'⟩⟩ := r
      have c1' := Lib.hid c1
      have hst' := Lib.hid hst
      have hn' := Lib.hid hn
      clear c1 hst hn
      go_wp2_with fail
      refine (c1'.out _).mono ?_
      rintro e w2 ⟨rfl, hB2⟩
      have ho2 := ho'.below hB2 hlo
      have hk0 := ho2.cell (j := k * 4) (by omega)
      have hk1 := ho2.cell (j := k * 4 + 1) (by omega)
      have hk2 := ho2.cell (j := k * 4 + 2) (by omega)
      have hk3 := ho2.cell (j := k * 4 + 3) (by omega)
      have hf0 := ho2.frozen (k * 4)
      have hf1 := ho2.frozen (k * 4 + 1)
      have hf2 := ho2.frozen (k * 4 + 2)
      have hf3 := ho2.frozen (k * 4 + 3)
      have ho3 := (((ho2.stored (k * 4) p).stored (k * 4 + 1) q).stored (k * 4 + 2) p').stored (k * 4 + 3) q'
      rw [hst'.out] at ho3
      have hB3 := ((((hB.trans (hB2.mono (by omega))).setCell (p := ⟨w.heap.size, k * 4, none⟩) (Nat.le_refl _) (.int .i64 p)).setCell (p := ⟨w.heap.size, k * 4 + 1, none⟩) (Nat.le_refl _) (.int .i64 q)).setCell (p := ⟨w.heap.size, k * 4 + 2, none⟩) (Nat.le_refl _) (.int .i64 p')).setCell (p := ⟨w.heap.size, k * 4 + 3, none⟩) (Nat.le_refl _) (.int .i64 q')
      clear ho' ho2 hB2 hB
      have ho3' := Lib.hid ho3
      have hB3' := Lib.hid hB3
      clear ho3 hB3
      go_wp2
      go_roundw
      case rel => exact ⟨k + 1, by omega, by go_num, ho3'.out, hB3'.out⟩
      case measure => simp [intOf]; omega
    · obtain rfl : k = n := by omega
      have ho2 : OwnI wr w.heap.size wr.heap.size (.slice (some ⟨w.heap.size, 0, none⟩) k k) xs := by
        rw [Nat.sub_self, Nat.zero_mul, List.replicate_zero, List.append_nil, List.take_of_length_le (by omega)] at ho'
        unfold OwnI; rw [hn]; exact ho'.own
      clear ho' hn
      go_wp2
      go_ret
      exact ⟨_, rfl, ho2, hB⟩
set_option maxHeartbeats 400000 in
theorem eqInterval_same (q : Quad) (w : World) : Calls Tryz.prog 23 #[quadV q, quadV q] w (Ret (.bool true) w) := by
  obtain ⟨⟨x, y⟩, ⟨z, t⟩⟩ := q
  show Calls _ _ #[.agg #[.int .i64 x, .int .i64 y, .int .i64 z, .int .i64 t], .agg #[.int .i64 x, .int .i64 y, .int .i64 z, .int .i64 t]] w _
  have c1 := fun w => eqRat_same x y w
  have c2 := fun w => eqRat_same z t w
  obtain ⟨W, hW⟩ : ∃ W, (w.alloc (.cells #[.int .i64 x, .int .i64 y, .int .i64 z, .int .i64 t] 44)).alloc (.cells #[.int .i64 x, .int .i64 y, .int .i64 z, .int .i64 t] 44) = W := ⟨_, rfl⟩
  have hB : Below w.heap.size w W := by rw [← hW]; exact ((Below.refl _ _).alloc (Nat.le_refl _) _).alloc (by simp) _
  have k0 : W.cell? ⟨w.heap.size, 0, none⟩ = some (.int .i64 x) ∧ W.cell? ⟨w.heap.size, 1, none⟩ = some (.int .i64 y) ∧ W.cell? ⟨w.heap.size + 1, 0, none⟩ = some (.int .i64 x) ∧ W.cell? ⟨w.heap.size + 1, 1, none⟩ = some (.int .i64 y) := by rw [← hW]; simp [go_sem]
  have k1 : W.cell? ⟨w.heap.size, 2, none⟩ = some (.int .i64 z) ∧ W.cell? ⟨w.heap.size, 3, none⟩ = some (.int .i64 t) ∧ W.cell? ⟨w.heap.size + 1, 2, none⟩ = some (.int .i64 z) ∧ W.cell? ⟨w.heap.size + 1, 3, none⟩ = some (.int .i64 t) := by rw [← hW]; simp [go_sem]
  obtain ⟨a0, a1, a2, a3⟩ := k0
  have c1' := Lib.hid c1
  have c2' := Lib.hid c2
  have hW' := Lib.hid hW
  have k1' := Lib.hid k1
  clear c1 c2 hW k1
  go_enter Tryz.func23, Tryz.ntmps23
  go_wp2_with fail
  rw [hW'.out]
  go_wp2_with fail
  refine (c1'.out _).mono ?_
  rintro e w1 ⟨rfl, hB1⟩
  have b0 := bkeep hB1 k1'.out.1
  have b1 := bkeep hB1 k1'.out.2.1
  have b2 := bkeep hB1 k1'.out.2.2.1
  have b3 := bkeep hB1 k1'.out.2.2.2
  have hb1 := hB.trans (hB1.mono hB.size)
  clear a0 a1 a2 a3
  go_wp2_with fail
  refine (c2'.out _).mono ?_
  rintro e w2 ⟨rfl, hB2⟩
  have hb2 := hb1.trans (hB2.mono hb1.size)
  go_wp2
  go_ret
  exact ⟨rfl, hb2⟩
set_option linter.unusedSimpArgs false in
set_option maxHeartbeats 800000 in
/-- Two slices that read alike: true. -/
theorem eqIntervalS_same (v u : Value) (xs : List Quad) (w : World) (hv : QuadV w v xs) (hu : QuadV w u xs) (hm : szIntervalS xs ≤ 1099511627776) :
    Calls Tryz.prog 10 #[v, u] w (Ret (.bool true) w) := by
  replace hm : xs.length ≤ 1099511627776 := hm
  obtain ⟨ao, cap, rfl, _, _, H⟩ := hv.form
  obtain ⟨bo, bcap, rfl, _, _, H'⟩ := hu.form
  obtain ⟨n, hn⟩ : ∃ n, xs.length = n := ⟨_, rfl⟩
  rw [hn] at hm H H' hv hu ⊢
  have hn' := Lib.hid hn
  have hv' := Lib.hid hv
  have hu' := Lib.hid hu
  clear hn hv hu
  go_enter Tryz.func10, Tryz.ntmps10
  go_wp2
  go_loopw [5] (fun i wr => ∃ k : Nat, k ≤ n ∧ i = .int .i64 k ∧ Below w.heap.size w wr) (fun i _ => n - (intOf i).toNat)
  case atStart => exact ⟨0, Nat.zero_le _, rfl, Below.refl _ _⟩
  case round =>
    obtain ⟨k, hk, rfl, hB⟩ := hrel
    by_cases hlt : k < n
    · obtain ⟨b, off, rfl, p0, p1, p2, p3⟩ := H k hlt
      obtain ⟨b', off', rfl, q0, q1, q2, q3⟩ := H' k hlt
      clear H H'
      have c1 := fun w => eqInterval_same (nth4 xs k) w
      generalize nth4 xs k = r at *
      obtain ⟨⟨x, y⟩, ⟨z, t⟩⟩ := r
      have at' : ∀ w', Below w.heap.size w w' → (w'.cell? ⟨b, off + k * 4, none⟩ = some (.int .i64 x) ∧ w'.cell? ⟨b, off + k * 4 + 1, none⟩ = some (.int .i64 y) ∧ w'.cell? ⟨b, off + k * 4 + 2, none⟩ = some (.int .i64 z) ∧ w'.cell? ⟨b, off + k * 4 + 3, none⟩ = some (.int .i64 t)) ∧ w'.cell? ⟨b', off' + k * 4, none⟩ = some (.int .i64 x) ∧ w'.cell? ⟨b', off' + k * 4 + 1, none⟩ = some (.int .i64 y) ∧ w'.cell? ⟨b', off' + k * 4 + 2, none⟩ = some (.int .i64 z) ∧ w'.cell? ⟨b', off' + k * 4 + 3, none⟩ = some (.int .i64 t) := fun w' h =>
        ⟨⟨bkeep h p0, bkeep h p1, bkeep h p2, bkeep h p3⟩, bkeep h q0, bkeep h q1, bkeep h q2, bkeep h q3⟩
      have hd := hB.drew
      clear p0 p1 p2 p3 q0 q1 q2 q3
      have c1' := Lib.hid c1
      have at'' := Lib.hid at'
      clear c1 at'
      go_wp2_with fail
      refine wp_region_held_drew (S := (fun w' => (w'.cell? ⟨b, off + k * 4, none⟩ = some (.int .i64 x) ∧ w'.cell? ⟨b, off + k * 4 + 1, none⟩ = some (.int .i64 y) ∧ w'.cell? ⟨b, off + k * 4 + 2, none⟩ = some (.int .i64 z) ∧ w'.cell? ⟨b, off + k * 4 + 3, none⟩ = some (.int .i64 t)) ∧ w'.cell? ⟨b', off' + k * 4, none⟩ = some (.int .i64 x) ∧ w'.cell? ⟨b', off' + k * 4 + 1, none⟩ = some (.int .i64 y) ∧ w'.cell? ⟨b', off' + k * 4 + 2, none⟩ = some (.int .i64 z) ∧ w'.cell? ⟨b', off' + k * 4 + 3, none⟩ = some (.int .i64 t))) (by kernel_rfl) (by (try dsimp only); (first | exact at''.out _ hd | exact at''.out _ hd2)) (fun hHeld => ?_)
      refine ly_q 0 (v := ?_) hHeld ?_
      try simp only [Act.put, lyA, lyB, lyC]
      refine ly_q 1 (v := ?_) hHeld ?_
      try simp only [Act.put, lyA, lyB, lyC]
      refine ly_q 2 (v := ?_) hHeld ?_
      try simp only [Act.put, lyA, lyB, lyC]
      refine ly_q 3 (v := ?_) hHeld ?_
      try simp only [Act.put, lyA, lyB, lyC]
      refine ly_q 4 (v := ?_) hHeld ?_
      try simp only [Act.put, lyA, lyB, lyC]
      refine ly_q 5 (v := ?_) hHeld ?_
      try simp only [Act.put, lyA, lyB, lyC]
      refine ly_q 6 (v := ?_) hHeld ?_
      try simp only [Act.put, lyA, lyB, lyC]
      refine ly_q 7 (v := ?_) hHeld ?_
      try simp only [Act.put, lyA, lyB, lyC]
      refine ly_a 8 (fun KK hKK => ?_)
      go_simp
      refine (c1'.out _).mono ?_
      rintro e w2 ⟨rfl, hB2⟩
      have hd2 := hd.trans (hB2.mono hd.size)
      try dsimp only
      refine hKK.out _ _ (by (try dsimp only); (first | exact at''.out _ hd | exact at''.out _ hd2)) (fun hHeld => ?_)
      clear hKK KK
      try simp only [Act.put, lyA, lyB, lyC]
      refine ly_q 9 (v := ?_) hHeld ?_
      try simp only [Act.put, lyA, lyB, lyC]
      refine wpAnyH_done (by kernel_rfl) ?_ _
      go_wp2
      go_roundw
      case rel => exact ⟨k + 1, by omega, by go_num, hd2⟩
      case measure => simp [intOf]; omega
    · clear H H'
      go_wp2
      go_ret
      exact ⟨rfl, hB⟩
theorem szIntervalS_fits (v : Value) (xs : List Quad) (left : Int) (w : World) (hv : QuadV w v xs) (h : (szIntervalS xs : Int) ≤ left) (hb : 0 ≤ left ∧ left ≤ 1099511627776) :
    Calls Tryz.prog 5 #[v, .int .i64 left] w (Same (.int .i64 (left - (szIntervalS xs : Int))) w) := by
  unfold szIntervalS at *
  obtain ⟨ao, cap, rfl, _, _, _⟩ := hv.form
  generalize xs.length = n at *
  clear hv
  go_enter Tryz.func5, Tryz.ntmps5
  go_wp2
  go_ret
  exact ⟨rfl, rfl⟩
theorem szIntervalS_over (v : Value) (xs : List Quad) (left : Int) (w : World) (hv : QuadV w v xs) (h : left < (szIntervalS xs : Int)) (hb : 0 ≤ left ∧ left ≤ 1099511627776) :
    Calls Tryz.prog 5 #[v, .int .i64 left] w (Same (.int .i64 (-1)) w) := by
  unfold szIntervalS at *
  obtain ⟨ao, cap, rfl, _, hc, _⟩ := hv.form
  have hl : xs.length ≤ 9223372036854775807 := by have : maxLen = 9223372036854775807 := rfl; omega
  generalize xs.length = n at *
  clear hv
  go_enter Tryz.func5, Tryz.ntmps5
  go_wp2
  go_ret
  exact ⟨rfl, rfl⟩

end Go.Proofs.YtjkgilenhoomoaaGreat

namespace Go.Proofs.YtjkgilenhoomoaaGreat
open Go.ChangeShapes Go.WideShapes Go.ChangeAt Go.RowKit

theorem Tryz.cellsLRatQ : Tryz.prog.cellsOf 50 = 2 := by kernel_rfl

set_option maxRecDepth 100000 in
theorem rat_of_trod {H : Type} {enc : TypeId × Value → H} {W : World} {spare : Nat → Bool} {held : Bool} {n : Nat} {v0 v1 : Value} {y : DataW H × List MemPlace}
    (h : DataW.trod enc Tryz.prog W 0 spare held n 50 [v0, v1] = some y) : ∃ r : Int × Int, v0 = .int .i64 r.1 ∧ v1 = .int .i64 r.2 ∧ I64R r := by
  obtain ⟨y0, y1, k, -, -, h0, h1⟩ := trod_struct2 Tryz.underlying50 h
  obtain ⟨a, rfl, ha⟩ := int_of_trod h0
  obtain ⟨b, e, hb⟩ := int_of_trod h1
  exact ⟨(a, b), rfl, e, ha, hb⟩

theorem Tryz.cellspts : Tryz.prog.cellsOf 52 = 4 := by kernel_rfl
set_option maxRecDepth 100000 in
theorem pts_of_trod {H : Type} {enc : TypeId × Value → H} {W : World} {spare : Nat → Bool} {held : Bool} {n : Nat} {cs : List Value} {y : DataW H × List MemPlace}
    (h : DataW.trod enc Tryz.prog W 0 spare held n 52 cs = some y) : ∃ r : Quad, cs = [.int .i64 r.1.1, .int .i64 r.1.2, .int .i64 r.2.1, .int .i64 r.2.2] ∧ I64I r := by
  obtain ⟨y0, y1, k, -, hl, h0, h1⟩ := trod_struct2 Tryz.underlying52 h
  rw [Tryz.cellspts] at hl
  match cs, hl with
  | [v0, v1, v2, v3], _ =>
    replace h0 : DataW.trod enc Tryz.prog W 0 spare held k 50 [v0, v1] = some y0 := h0
    replace h1 : DataW.trod enc Tryz.prog W 0 spare held k 50 [v2, v3] = some y1 := h1
    obtain ⟨r, rfl, rfl, hr⟩ := rat_of_trod h0
    obtain ⟨s, rfl, rfl, hs⟩ := rat_of_trod h1
    exact ⟨(r, s), rfl, hr, hs⟩
set_option maxRecDepth 100000 in
/-- A slice of these that came in. -/
theorem open_ptsV {H : Type} {enc : TypeId × Value → H} {W : World} {base : Nat} {v : Value} {d : DataW H} {p : List MemPlace}
    (hval : Value.okWide Tryz.prog W .any base 22 v) (h : DataW.Trod enc Tryz.prog W 0 (fun _ => true) true 22 v d p) : ∃ xs, QuadV W v xs := by
  obtain ⟨a0, len, cap, rfl⟩ := okWide_slice Tryz.underlying22 hval
  obtain ⟨fuel, hf⟩ := h
  rcases Go.Deep.open_slice Tryz.underlying22 hf with ⟨hcs, hx⟩ | ⟨a, len', cap', m, n, D, Pl, hcs, _, hl, hm, hmm, hx, hcell⟩
  · simp [Value.cells] at hcs
    obtain ⟨rfl, rfl, rfl⟩ := hcs
    exact ⟨[], QuadV.mk (xs := []) ⟨Nat.le_refl _, fun _ => rfl⟩ (by simp [maxLen]) (fun i hi => absurd hi (Nat.not_lt_zero i))⟩
  · simp [Value.cells] at hcs
    obtain ⟨rfl, rfl, rfl⟩ := hcs
    simp only [if_true] at hmm
    subst hmm
    rw [Tryz.cellspts] at hcell
    have each : ∀ i, i < len → ∃ r : Quad, W.cell? (a.add (i * 4)) = some (.int .i64 r.1.1) ∧ W.cell? (a.add (i * 4 + 1)) = some (.int .i64 r.1.2) ∧ W.cell? (a.add (i * 4 + 2)) = some (.int .i64 r.2.1) ∧ W.cell? (a.add (i * 4 + 3)) = some (.int .i64 r.2.2) := by
      intro i hi
      obtain ⟨cs', h1, h2⟩ := hcell i (by omega)
      obtain ⟨_, hlen, hc⟩ := World.cells?_some h1
      obtain ⟨r, rfl, _⟩ := pts_of_trod h2
      have e0 := hc 0 (by simp)
      have e1 := hc 1 (by simp)
      have e2 := hc 2 (by simp)
      have e3 := hc 3 (by simp)
      rw [Go.Deep.add_add] at e0 e1 e2 e3
      exact ⟨r, by simpa using e0, by simpa using e1, by simpa using e2, by simpa using e3⟩
    obtain ⟨f, hf'⟩ : ∃ f : Nat → Quad, ∀ i, i < len → W.cell? (a.add (i * 4)) = some (.int .i64 (f i).1.1) ∧ W.cell? (a.add (i * 4 + 1)) = some (.int .i64 (f i).1.2) ∧ W.cell? (a.add (i * 4 + 2)) = some (.int .i64 (f i).2.1) ∧ W.cell? (a.add (i * 4 + 3)) = some (.int .i64 (f i).2.2) := by
      refine ⟨fun i => if h : i < len then (each i h).choose else ((0, 0), (0, 0)), fun i hi => ?_⟩
      simp only [dif_pos hi]
      exact (each i hi).choose_spec
    have hlen : ((List.range len).map f).length = len := by simp
    refine ⟨(List.range len).map f, ?_⟩
    have key : ∀ n c, n = ((List.range len).map f).length → QuadV W (.slice (some a) ((List.range len).map f).length c) ((List.range len).map f) → QuadV W (.slice (some a) n c) ((List.range len).map f) := fun n c e h => by rw [e]; exact h
    refine key _ _ hlen.symm ?_
    refine QuadV.mk ⟨by omega, fun e => by cases e⟩ hm (fun i hi => ?_)
    rw [hlen] at hi
    obtain ⟨c0, c1, c2, c3⟩ := hf' i hi
    obtain ⟨b, off, spot⟩ := a
    have hspot : spot = none := by
      obtain ⟨c00, _⟩ := hf' 0 (by omega)
      simpa [Addr.add] using World.cell?_spot c00
    subst hspot
    have hn : nth4 ((List.range len).map f) i = f i := by rw [nth4_eq (by rw [hlen]; exact hi)]; simp
    rw [add_plain] at c0 c1 c2 c3
    rw [← Nat.add_assoc] at c1 c2 c3
    exact ⟨b, off, rfl, by rw [hn]; exact c0, by rw [hn]; exact c1, by rw [hn]; exact c2, by rw [hn]; exact c3⟩
theorem Tryz.cellsivs : Tryz.prog.cellsOf 55 = 4 := by kernel_rfl
set_option maxRecDepth 100000 in
theorem ivs_of_trod {H : Type} {enc : TypeId × Value → H} {W : World} {spare : Nat → Bool} {held : Bool} {n : Nat} {cs : List Value} {y : DataW H × List MemPlace}
    (h : DataW.trod enc Tryz.prog W 0 spare held n 55 cs = some y) : ∃ r : Quad, cs = [.int .i64 r.1.1, .int .i64 r.1.2, .int .i64 r.2.1, .int .i64 r.2.2] ∧ I64I r := by
  obtain ⟨y0, y1, k, -, hl, h0, h1⟩ := trod_struct2 Tryz.underlying55 h
  rw [Tryz.cellsivs] at hl
  match cs, hl with
  | [v0, v1, v2, v3], _ =>
    replace h0 : DataW.trod enc Tryz.prog W 0 spare held k 50 [v0, v1] = some y0 := h0
    replace h1 : DataW.trod enc Tryz.prog W 0 spare held k 50 [v2, v3] = some y1 := h1
    obtain ⟨r, rfl, rfl, hr⟩ := rat_of_trod h0
    obtain ⟨s, rfl, rfl, hs⟩ := rat_of_trod h1
    exact ⟨(r, s), rfl, hr, hs⟩
set_option maxRecDepth 100000 in
/-- A slice of these that came in. -/
theorem open_ivsV {H : Type} {enc : TypeId × Value → H} {W : World} {base : Nat} {v : Value} {d : DataW H} {p : List MemPlace}
    (hval : Value.okWide Tryz.prog W .any base 23 v) (h : DataW.Trod enc Tryz.prog W 0 (fun _ => true) true 23 v d p) : ∃ xs, QuadV W v xs := by
  obtain ⟨a0, len, cap, rfl⟩ := okWide_slice Tryz.underlying23 hval
  obtain ⟨fuel, hf⟩ := h
  rcases Go.Deep.open_slice Tryz.underlying23 hf with ⟨hcs, hx⟩ | ⟨a, len', cap', m, n, D, Pl, hcs, _, hl, hm, hmm, hx, hcell⟩
  · simp [Value.cells] at hcs
    obtain ⟨rfl, rfl, rfl⟩ := hcs
    exact ⟨[], QuadV.mk (xs := []) ⟨Nat.le_refl _, fun _ => rfl⟩ (by simp [maxLen]) (fun i hi => absurd hi (Nat.not_lt_zero i))⟩
  · simp [Value.cells] at hcs
    obtain ⟨rfl, rfl, rfl⟩ := hcs
    simp only [if_true] at hmm
    subst hmm
    rw [Tryz.cellsivs] at hcell
    have each : ∀ i, i < len → ∃ r : Quad, W.cell? (a.add (i * 4)) = some (.int .i64 r.1.1) ∧ W.cell? (a.add (i * 4 + 1)) = some (.int .i64 r.1.2) ∧ W.cell? (a.add (i * 4 + 2)) = some (.int .i64 r.2.1) ∧ W.cell? (a.add (i * 4 + 3)) = some (.int .i64 r.2.2) := by
      intro i hi
      obtain ⟨cs', h1, h2⟩ := hcell i (by omega)
      obtain ⟨_, hlen, hc⟩ := World.cells?_some h1
      obtain ⟨r, rfl, _⟩ := ivs_of_trod h2
      have e0 := hc 0 (by simp)
      have e1 := hc 1 (by simp)
      have e2 := hc 2 (by simp)
      have e3 := hc 3 (by simp)
      rw [Go.Deep.add_add] at e0 e1 e2 e3
      exact ⟨r, by simpa using e0, by simpa using e1, by simpa using e2, by simpa using e3⟩
    obtain ⟨f, hf'⟩ : ∃ f : Nat → Quad, ∀ i, i < len → W.cell? (a.add (i * 4)) = some (.int .i64 (f i).1.1) ∧ W.cell? (a.add (i * 4 + 1)) = some (.int .i64 (f i).1.2) ∧ W.cell? (a.add (i * 4 + 2)) = some (.int .i64 (f i).2.1) ∧ W.cell? (a.add (i * 4 + 3)) = some (.int .i64 (f i).2.2) := by
      refine ⟨fun i => if h : i < len then (each i h).choose else ((0, 0), (0, 0)), fun i hi => ?_⟩
      simp only [dif_pos hi]
      exact (each i hi).choose_spec
    have hlen : ((List.range len).map f).length = len := by simp
    refine ⟨(List.range len).map f, ?_⟩
    have key : ∀ n c, n = ((List.range len).map f).length → QuadV W (.slice (some a) ((List.range len).map f).length c) ((List.range len).map f) → QuadV W (.slice (some a) n c) ((List.range len).map f) := fun n c e h => by rw [e]; exact h
    refine key _ _ hlen.symm ?_
    refine QuadV.mk ⟨by omega, fun e => by cases e⟩ hm (fun i hi => ?_)
    rw [hlen] at hi
    obtain ⟨c0, c1, c2, c3⟩ := hf' i hi
    obtain ⟨b, off, spot⟩ := a
    have hspot : spot = none := by
      obtain ⟨c00, _⟩ := hf' 0 (by omega)
      simpa [Addr.add] using World.cell?_spot c00
    subst hspot
    have hn : nth4 ((List.range len).map f) i = f i := by rw [nth4_eq (by rw [hlen]; exact hi)]; simp
    rw [add_plain] at c0 c1 c2 c3
    rw [← Nat.add_assoc] at c1 c2 c3
    exact ⟨b, off, rfl, by rw [hn]; exact c0, by rw [hn]; exact c1, by rw [hn]; exact c2, by rw [hn]; exact c3⟩

set_option maxRecDepth 100000 in
/-- An interval that came in. -/
theorem open_ivX {H : Type} {enc : TypeId × Value → H} {W : World} {base : Nat} {v : Value} {d : DataW H} {p : List MemPlace}
    (hval : Value.okWide Tryz.prog W .any base 55 v) (h : DataW.Trod enc Tryz.prog W 0 (fun _ => true) true 55 v d p) :
    ∃ r : Quad, v = .agg #[.int .i64 r.1.1, .int .i64 r.1.2, .int .i64 r.2.1, .int .i64 r.2.2] ∧ I64I r := by
  obtain ⟨cs, rfl, hsz⟩ := okWide_struct Tryz.underlying55 hval
  obtain ⟨fuel, hf⟩ := h
  obtain ⟨r, e, hr⟩ := ivs_of_trod hf
  have e' : cs.toList = [.int .i64 r.1.1, .int .i64 r.1.2, .int .i64 r.2.1, .int .i64 r.2.2] := e
  refine ⟨r, ?_, hr⟩
  obtain ⟨l⟩ := cs
  simp only at e'
  rw [e']

end Go.Proofs.YtjkgilenhoomoaaGreat

namespace Go.Proofs.YtjkgilenhoomoaaGreat
open Go.RowKit

theorem marks_step4 (ys : List Int) (k n j : Nat) (hj : j < n) (hn : ys.length = n * 4) (m : Int) (hm : m = ((k + j * 4 : Nat) : Int)) :
    ((((marks k (j * 4) ++ ys.drop (j * 4)).set (j * 4) m).set (j * 4 + 1) (m + 1)).set (j * 4 + 2) (m + 1 + 1)).set (j * 4 + 3) (m + 1 + 1 + 1) = marks k ((j + 1) * 4) ++ ys.drop ((j + 1) * 4) := by
  rw [hm, show (((k + j * 4 : Nat) : Int) + 1 + 1 + 1) = ((k + (j * 4 + 1 + 1 + 1) : Nat) : Int) by omega, show (((k + j * 4 : Nat) : Int) + 1 + 1) = ((k + (j * 4 + 1 + 1) : Nat) : Int) by omega, show (((k + j * 4 : Nat) : Int) + 1) = ((k + (j * 4 + 1) : Nat) : Int) by omega,
    marks_step ys k (n * 4) (j * 4) (by omega) hn, marks_step ys k (n * 4) (j * 4 + 1) (by omega) hn, marks_step ys k (n * 4) (j * 4 + 1 + 1) (by omega) hn, marks_step ys k (n * 4) (j * 4 + 1 + 1 + 1) (by omega) hn]
  rw [show (j + 1) * 4 = j * 4 + 1 + 1 + 1 + 1 by omega]

/-- The list that a mark from k on leaves in the place of xs. -/
def markQ (k : Nat) (xs : List Quad) : List Quad := (List.range xs.length).map fun i => ((((k + i * 4 : Nat) : Int), ((k + (i * 4 + 1) : Nat) : Int)), (((k + (i * 4 + 2) : Nat) : Int), ((k + (i * 4 + 3) : Nat) : Int)))
theorem markQ_len (k : Nat) (xs : List Quad) : (markQ k xs).length = xs.length := by simp [markQ]
theorem fl4_range (k n : Nat) : fl4 ((List.range n).map fun i => ((((k + i * 4 : Nat) : Int), ((k + (i * 4 + 1) : Nat) : Int)), (((k + (i * 4 + 2) : Nat) : Int), ((k + (i * 4 + 3) : Nat) : Int)))) = marks k (n * 4) := by
  induction n with
  | zero => rfl
  | succ n ih =>
    rw [List.range_succ, List.map_append, fl4_append, ih, Nat.succ_mul]
    simp [fl4, marks, List.range_succ]
theorem fl4_mark (k : Nat) (xs : List Quad) : fl4 (markQ k xs) = marks k (xs.length * 4) := fl4_range k xs.length

def markPointS (k : Nat) (xs : List Quad) : List Quad := markQ k xs
set_option linter.unusedSimpArgs false in
set_option maxHeartbeats 1600000 in
theorem markPointS_core (v : Value) (ys : List Int) (k n : Nat) (w : World) (B E : Nat) (hv : OwnF 48 4 w B E v n ys) (hm : n ≤ 1099511627776) (hk : k ≤ 70368744177664) :
    Calls Tryz.prog 12 #[v, .int .i64 k] w fun e w' => e = .returned (.int .i64 ((k + 4 * n : Nat) : Int)) ∧ OwnF 48 4 w' B E v n (marks k (n * 4)) ∧ Turned B E w w' := by
  rcases hv with ⟨rfl, ao, cap, rfl, hc, hz⟩ | ⟨g, cap, rfl, h1, h2, h3⟩
  · go_enter Tryz.func12, Tryz.ntmps12
    go_wp2
    refine wp_loop_rounds 1 ?_
    rw [rounds_succ]
    go_wp2
    go_ret
    exact ⟨rfl, .inl ⟨rfl, ao, cap, rfl, hc, hz⟩, Turned.refl _ _ _⟩
  · have h3' : RowF 48 4 w B g n cap ys := h3
    clear h3
    have hn : ys.length = n * 4 := h3'.len
    go_enter Tryz.func12, Tryz.ntmps12
    go_wp2
    go_loopw [1, 5] (fun c i wr => ∃ j : Nat, j ≤ n ∧ i = .int .i64 j ∧ c = .int .i64 ((k + j * 4 : Nat) : Int) ∧ RowF 48 4 wr B g n cap (marks k (j * 4) ++ ys.drop (j * 4)) ∧ Turned B E w wr) (fun _ i _ => n - (intOf i).toNat)
    case atStart => exact ⟨0, Nat.zero_le _, rfl, by simp, by simpa [marks] using h3', Turned.refl _ _ _⟩
    case round =>
      obtain ⟨j, hj, rfl, rfl, ho, ht⟩ := hrel
      by_cases hlt : j < n
      · have hc0 := ho.cell (j := j * 4) (by omega)
        have hf0 := ho.frozen (j * 4)
        have hst := marks_step4 ys k n j hlt hn
        obtain ⟨m, hm1⟩ : ∃ m : Int, m = ((k + j * 4 : Nat) : Int) := ⟨_, rfl⟩
        replace hst := hst m hm1
        rw [← hm1]
        have hmb : 0 ≤ m ∧ m ≤ 72567767433228 * 1000 := by omega
        have ho2 := ho.stored (j * 4) m
        have hc1 := ho2.cell (j := j * 4 + 1) (by omega)
        have hf1 := ho2.frozen (j * 4 + 1)
        have ho3 := ho2.stored (j * 4 + 1) (m + 1)
        have hc2 := ho3.cell (j := j * 4 + 2) (by omega)
        have hf2 := ho3.frozen (j * 4 + 2)
        have ho4 := ho3.stored (j * 4 + 2) (m + 1 + 1)
        have hc3 := ho4.cell (j := j * 4 + 3) (by omega)
        have hf3 := ho4.frozen (j * 4 + 3)
        have ho5 := ho4.stored (j * 4 + 3) (m + 1 + 1 + 1)
        rw [hst] at ho5
        have ht' := (((ht.setCell (p := ⟨g, j * 4, none⟩) h1 h2 (.int .i64 m)).setCell (p := ⟨g, j * 4 + 1, none⟩) h1 h2 (.int .i64 (m + 1))).setCell (p := ⟨g, j * 4 + 2, none⟩) h1 h2 (.int .i64 (m + 1 + 1))).setCell (p := ⟨g, j * 4 + 3, none⟩) h1 h2 (.int .i64 (m + 1 + 1 + 1))
        have hn' := Lib.hid hn
        have hst' := Lib.hid hst
        have hm1' := Lib.hid hm1
        clear hn hst hm1
        clear ho ho2 ho3 ho4 ht
        go_wp2
        go_roundw
        case rel =>
          have := hm1'.out
          exact ⟨j + 1, by omega, by go_num, by go_num, ho5, ht'⟩
        case measure => simp [intOf]; omega
      · obtain rfl : j = n := by omega
        have ho2 : RowF 48 4 wr B g j cap (marks k (j * 4)) := by rw [List.drop_of_length_le (by omega), List.append_nil] at ho; exact ho
        clear ho hn
        go_wp2
        go_ret
        exact ⟨by simp; omega, .inr ⟨g, cap, rfl, h1, h2, ho2⟩, ht⟩

theorem markPointS_any (v : Value) (xs : List Quad) (k : Nat) (c : Int) (w : World) (B E : Nat) (hv : OwnP w B E v xs) (hm : szPointS xs ≤ 1099511627776) (hk : k ≤ 70368744177664) (hc : c = k) :
    Calls Tryz.prog 12 #[v, .int .i64 c] w fun e w' => e = .returned (.int .i64 ((k + cntPointS xs : Nat) : Int)) ∧ OwnP w' B E v (markPointS k xs) ∧ Turned B E w w' := by
  subst hc
  refine (markPointS_core v (fl4 xs) k xs.length w B E hv hm hk).mono ?_
  rintro e w' ⟨rfl, h1, h2⟩
  refine ⟨rfl, ?_, h2⟩
  unfold OwnP markPointS
  rw [markQ_len, fl4_mark]; exact h1
def markIntervalS (k : Nat) (xs : List Quad) : List Quad := markQ k xs
set_option linter.unusedSimpArgs false in
set_option maxHeartbeats 1600000 in
theorem markIntervalS_core (v : Value) (ys : List Int) (k n : Nat) (w : World) (B E : Nat) (hv : OwnF 44 4 w B E v n ys) (hm : n ≤ 1099511627776) (hk : k ≤ 70368744177664) :
    Calls Tryz.prog 13 #[v, .int .i64 k] w fun e w' => e = .returned (.int .i64 ((k + 4 * n : Nat) : Int)) ∧ OwnF 44 4 w' B E v n (marks k (n * 4)) ∧ Turned B E w w' := by
  rcases hv with ⟨rfl, ao, cap, rfl, hc, hz⟩ | ⟨g, cap, rfl, h1, h2, h3⟩
  · go_enter Tryz.func13, Tryz.ntmps13
    go_wp2
    refine wp_loop_rounds 1 ?_
    rw [rounds_succ]
    go_wp2
    go_ret
    exact ⟨rfl, .inl ⟨rfl, ao, cap, rfl, hc, hz⟩, Turned.refl _ _ _⟩
  · have h3' : RowF 44 4 w B g n cap ys := h3
    clear h3
    have hn : ys.length = n * 4 := h3'.len
    go_enter Tryz.func13, Tryz.ntmps13
    go_wp2
    go_loopw [1, 5] (fun c i wr => ∃ j : Nat, j ≤ n ∧ i = .int .i64 j ∧ c = .int .i64 ((k + j * 4 : Nat) : Int) ∧ RowF 44 4 wr B g n cap (marks k (j * 4) ++ ys.drop (j * 4)) ∧ Turned B E w wr) (fun _ i _ => n - (intOf i).toNat)
    case atStart => exact ⟨0, Nat.zero_le _, rfl, by simp, by simpa [marks] using h3', Turned.refl _ _ _⟩
    case round =>
      obtain ⟨j, hj, rfl, rfl, ho, ht⟩ := hrel
      by_cases hlt : j < n
      · have hc0 := ho.cell (j := j * 4) (by omega)
        have hf0 := ho.frozen (j * 4)
        have hst := marks_step4 ys k n j hlt hn
        obtain ⟨m, hm1⟩ : ∃ m : Int, m = ((k + j * 4 : Nat) : Int) := ⟨_, rfl⟩
        replace hst := hst m hm1
        rw [← hm1]
        have hmb : 0 ≤ m ∧ m ≤ 72567767433228 * 1000 := by omega
        have ho2 := ho.stored (j * 4) m
        have hc1 := ho2.cell (j := j * 4 + 1) (by omega)
        have hf1 := ho2.frozen (j * 4 + 1)
        have ho3 := ho2.stored (j * 4 + 1) (m + 1)
        have hc2 := ho3.cell (j := j * 4 + 2) (by omega)
        have hf2 := ho3.frozen (j * 4 + 2)
        have ho4 := ho3.stored (j * 4 + 2) (m + 1 + 1)
        have hc3 := ho4.cell (j := j * 4 + 3) (by omega)
        have hf3 := ho4.frozen (j * 4 + 3)
        have ho5 := ho4.stored (j * 4 + 3) (m + 1 + 1 + 1)
        rw [hst] at ho5
        have ht' := (((ht.setCell (p := ⟨g, j * 4, none⟩) h1 h2 (.int .i64 m)).setCell (p := ⟨g, j * 4 + 1, none⟩) h1 h2 (.int .i64 (m + 1))).setCell (p := ⟨g, j * 4 + 2, none⟩) h1 h2 (.int .i64 (m + 1 + 1))).setCell (p := ⟨g, j * 4 + 3, none⟩) h1 h2 (.int .i64 (m + 1 + 1 + 1))
        have hn' := Lib.hid hn
        have hst' := Lib.hid hst
        have hm1' := Lib.hid hm1
        clear hn hst hm1
        clear ho ho2 ho3 ho4 ht
        go_wp2
        go_roundw
        case rel =>
          have := hm1'.out
          exact ⟨j + 1, by omega, by go_num, by go_num, ho5, ht'⟩
        case measure => simp [intOf]; omega
      · obtain rfl : j = n := by omega
        have ho2 : RowF 44 4 wr B g j cap (marks k (j * 4)) := by rw [List.drop_of_length_le (by omega), List.append_nil] at ho; exact ho
        clear ho hn
        go_wp2
        go_ret
        exact ⟨by simp; omega, .inr ⟨g, cap, rfl, h1, h2, ho2⟩, ht⟩

theorem markIntervalS_any (v : Value) (xs : List Quad) (k : Nat) (c : Int) (w : World) (B E : Nat) (hv : OwnI w B E v xs) (hm : szIntervalS xs ≤ 1099511627776) (hk : k ≤ 70368744177664) (hc : c = k) :
    Calls Tryz.prog 13 #[v, .int .i64 c] w fun e w' => e = .returned (.int .i64 ((k + cntIntervalS xs : Nat) : Int)) ∧ OwnI w' B E v (markIntervalS k xs) ∧ Turned B E w w' := by
  subst hc
  refine (markIntervalS_core v (fl4 xs) k xs.length w B E hv hm hk).mono ?_
  rintro e w' ⟨rfl, h1, h2⟩
  refine ⟨rfl, ?_, h2⟩
  unfold OwnI markIntervalS
  rw [markQ_len, fl4_mark]; exact h1

end Go.Proofs.YtjkgilenhoomoaaGreat

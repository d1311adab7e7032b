/- slices.Grow of nothing and slices.Concat of two slices of fractions. No conditions but small sizes. -/
import Derived.Test.YtnggopbehohjnaaGreatSortR
import Derived.Test.YtnggopbehohjnaaGreatPutR
import Derived.Shelf.Spec.SlicesGrow
namespace Go.Proofs.YtnggopbehohjnaaGreat
open Go.Shelf Go.RowKit

def growR_ren : Go.Shelf.Ren := ⟨fun | 4 => 177 | n => n, fun | 0 => 0 | 3 => 3 | 4 => 4 | 9 => 9 | 20 => 20 | 22 => 24 | 25 => 50 | n => n, fun n => n⟩
set_option maxRecDepth 100000 in
theorem growR_lay : Lays8.n4 Tryz.prog growR_ren where
  mixed := by kernel_rfl
  f4 := bears_of Tryz.func177 (by kernel_rfl) (by kernel_rfl)
  t0 := Tryz.underlying0
  a0 := Tryz.isAgg0
  z0 := Tryz.sizeOf0
  v0 := Tryz.zeroValue0
  t3 := Tryz.underlying3
  a3 := Tryz.isAgg3
  z3 := Tryz.sizeOf3
  v3 := Tryz.zeroValue3
  t4 := Tryz.underlying4
  a4 := Tryz.isAgg4
  z4 := Tryz.sizeOf4
  v4 := Tryz.zeroValue4
  t9 := Tryz.underlying9
  a9 := Tryz.isAgg9
  z9 := Tryz.sizeOf9
  v9 := Tryz.zeroValue9
  t20 := Tryz.underlying20
  a20 := Tryz.isAgg20
  z20 := Tryz.sizeOf20
  v20 := Tryz.zeroValue20
  t22 := Tryz.underlying24
  a22 := Tryz.isAgg24
  z22 := Tryz.sizeOf24
  v22 := Tryz.zeroValue24

theorem grow_any (n : Nat) (w : World) (hn : 0 < n) (hn2 : n ≤ 1099511627776) :
    Calls Tryz.prog 177 #[.slice none 0 0, .int .i64 n] w fun e w' => ∃ v', e = .returned v' ∧ GrowR w' w.heap.size v' [] ∧ Below w.heap.size w w' := by
  obtain ⟨i, hi, hz0, hz1, hz2⟩ := info_parts Tryz.infoRat
  refine (Any8.slices_Grow_grow growR_lay i _ hi hz0 (by rw [hz1]; decide) none 0 0 n [] w (Nat.le_refl _) (by omega) (by rw [hz2]; omega) (by omega) (by simp) (fun _ => rfl) (fun a h => by cases h)).mono ?_
  rintro e w' ⟨rfl, rfl⟩
  have hge := grownCap_ge w (0 + n) 0 50
  have hle := grownCap_le_maxLen w (0 + n) 0 50 (by unfold maxLen; omega)
  refine ⟨_, rfl, ⟨rfl, .inr ⟨w.heap.size, _, _, rfl, Nat.le_refl _, heap_alloc_new w.drew _, Nat.zero_le _, hle, ?_, rfl⟩⟩, (Below.refl _ _).drew.alloc (Nat.le_refl _) _⟩
  simp only [Array.size_append, List.size_toArray, List.length_nil, size_zeroCells]
  show 0 + (0 + n - 0) * 2 + (grownCap w (0 + n) 0 50 - (0 + n)) * 2 = grownCap w (0 + n) 0 50 * 2
  omega

set_option maxHeartbeats 1600000 in
theorem concat_any (g : Nat) (vx vy : Value) (xs ys : List (Int × Int)) (w : World) (hx : RatsV w vx xs) (hy : RatsV w vy ys) (c0 : w.cell? ⟨g, 0, none⟩ = some vx) (c1 : w.cell? ⟨g, 1, none⟩ = some vy)
    (hs : 0 < xs.length + ys.length) (hm : xs.length + ys.length ≤ 1099511627776) :
    Calls Tryz.prog 84 #[.slice (some ⟨g, 0, none⟩) 2 2] w fun e w' => ∃ v', e = .returned v' ∧ GrowR w' w.heap.size v' (xs ++ ys) ∧ Below w.heap.size w w' := by
  obtain ⟨aox, capx, rfl, _, _, _⟩ := hx.form
  obtain ⟨aoy, capy, rfl, _, _, _⟩ := hy.form
  obtain ⟨n, hn⟩ : ∃ n, xs.length = n := ⟨_, rfl⟩
  obtain ⟨m, hm2⟩ : ∃ m, ys.length = m := ⟨_, rfl⟩
  rw [hn] at c0 hs hm hx
  rw [hm2] at c1 hs hm hy
  have hgr := grow_any (n + m) w hs (by omega)
  obtain ⟨N, hN⟩ : ∃ N : Nat, n + m = N := ⟨_, rfl⟩
  rw [hN] at hgr
  have hN2 : (n : Int) + (m : Int) = (N : Int) := by omega
  have hgr' := Lib.hid hgr
  have hx' := Lib.hid hx
  have hy' := Lib.hid hy
  have hn' := Lib.hid hn
  have hm2' := Lib.hid hm2
  have hN' := Lib.hid hN
  clear hgr hx hy hn hm2 hN
  go_enter Tryz.func84, Tryz.ntmps84
  go_wp2_with fail
  go_loopw [3, 11] (fun s i wr => wr = w ∧ ((i = .int .i64 0 ∧ s = .int .i64 0) ∨ (i = .int .i64 1 ∧ s = .int .i64 n) ∨ (i = .int .i64 2 ∧ s = .int .i64 N))) (fun _ i _ => 2 - (intOf i).toNat)
  case atStart => exact ⟨rfl, .inl ⟨rfl, rfl⟩⟩
  case round =>
    obtain ⟨hwr, hrel⟩ := hrel
    obtain rfl := hwr.symm
    obtain ⟨rfl, rfl⟩ | ⟨rfl, rfl⟩ | ⟨rfl, rfl⟩ := hrel
    · go_wp2_with fail
      go_roundw
      case rel => exact ⟨by first | trivial | rfl, .inr (.inl ⟨rfl, by first | rfl | simp⟩)⟩
      case measure => simp [intOf]
    · go_wp2_with fail
      go_roundw
      case rel => exact ⟨by first | trivial | rfl, .inr (.inr ⟨rfl, by first | rfl | simp⟩)⟩
      case measure => simp [intOf]
    · go_wp2_with fail
      refine (hgr'.out).mono ?_
      rintro e w1 ⟨v1, rfl, hg1, hb1⟩
      have hs1 := hb1.size
      go_wp2_with fail
      go_loopw [6, 27] (fun o i wr => Below w.heap.size w wr ∧ ((i = .int .i64 0 ∧ GrowR wr w.heap.size o []) ∨ (i = .int .i64 1 ∧ GrowR wr w.heap.size o ([] ++ xs)) ∨ (i = .int .i64 2 ∧ GrowR wr w.heap.size o ([] ++ xs ++ ys)))) (fun _ i _ => 2 - (intOf i).toNat)
      case atStart => exact ⟨hb1, .inl ⟨rfl, hg1⟩⟩
      case round =>
        obtain ⟨hb, hrel⟩ := hrel
        have d0 := bkeep hb c0
        have d1 := bkeep hb c1
        clear c0 c1
        obtain ⟨rfl, hg⟩ | ⟨rfl, hg⟩ | ⟨rfl, hg⟩ := hrel
        · go_wp2_with (at_builtin; refine wpList_append_rats rfl _ _ rfl w.heap.size _ _ [] xs rfl rfl hg (hx'.out.below hb) (by rw [hn'.out]; simp only [List.length_nil]; omega) hb.size ?_)
          intro v' w' hg' hgr
          go_wp2
          go_roundw
          case rel => exact ⟨hg.belowB hb (Nat.le_refl _) hb.size hgr, .inr (.inl ⟨rfl, hg'⟩)⟩
          case measure => simp [intOf]
        · go_wp2_with (at_builtin; refine wpList_append_rats rfl _ _ rfl w.heap.size _ _ ([] ++ xs) ys rfl rfl hg (hy'.out.below hb) (by rw [List.nil_append, hn'.out, hm2'.out]; omega) hb.size ?_)
          intro v' w' hg' hgr
          go_wp2
          go_roundw
          case rel => exact ⟨hg.belowB hb (Nat.le_refl _) hb.size hgr, .inr (.inr ⟨rfl, hg'⟩)⟩
          case measure => simp [intOf]
        · rw [List.nil_append] at hg
          go_wp2_with fail
          go_ret
          exact ⟨_, rfl, hg, hb⟩
end Go.Proofs.YtnggopbehohjnaaGreat

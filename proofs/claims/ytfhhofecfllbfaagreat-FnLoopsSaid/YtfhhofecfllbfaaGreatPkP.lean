/- Several texts in one: Cur DrawR DrawR2 DrawCuts. No conditions but those that each theorem states. -/
import Derived.Test.YtfhhofecfllbfaaGreatPkA
import Derived.Laws.Bits64b
import Derived.Test.YtfhhofecfllbfaaGreatPkJ
import Derived.Test.YtfhhofecfllbfaaGreatPkL
import Derived.Test.YtfhhofecfllbfaaGreatPkH
import Derived.Test.YtfhhofecfllbfaaGreatPkI
import Derived.Deep.Cut
import Derived.Deep.CutRange
import Derived.Deep.CutBlock
namespace Go.Proofs.YtfhhofecfllbfaaGreat
open Go.RowKit
def BytesV (w : World) (E : Nat) (v : Value) (n : Nat) : Prop :=
 ∃ ao cap, v = .slice ao n cap ∧ n ≤ 1048576 ∧ ∀ i, i < n → ∃ b off x, ao = some ⟨b, off, none⟩ ∧ b < E ∧ w.cell? ⟨b, off + i, none⟩ = some (.int .u8 x) ∧ 0 ≤ x ∧ x ≤ 255
theorem BytesV.same {w w' : World} {E n : Nat} {v : Value} (h : BytesV w E v n) (hs : ∀ k, k < E → w'.heap[k]? = w.heap[k]?) : BytesV w' E v n := by
 obtain ⟨ao, cap, rfl, hn, H⟩ := h
 refine ⟨ao, cap, rfl, hn, fun i hi => ?_⟩
 obtain ⟨b, off, x, h1, h2, h3, h4, h5⟩ := H i hi
 exact ⟨b, off, x, h1, h2, by rw [World.cell?_of_block (hs b h2)]; exact h3, h4, h5⟩
theorem BytesV.mono {w : World} {E E' n : Nat} {v : Value} (h : BytesV w E v n) (hE : E ≤ E') : BytesV w E' v n := by
 obtain ⟨ao, cap, rfl, hn, H⟩ := h
 refine ⟨ao, cap, rfl, hn, fun i hi => ?_⟩
 obtain ⟨b, off, x, h1, h2, h3⟩ := H i hi
 exact ⟨b, off, x, h1, by omega, h3⟩
structure CurAt (w : World) (c N : Nat) : Prop where
 lt : c < w.heap.size
 bytes : ∃ v n, BytesV w c v n ∧ w.cell? ⟨c, 0, none⟩ = some v
 at_ : ∃ a : Nat, a ≤ N ∧ w.cell? ⟨c, 1, none⟩ = some (.int .i64 a)
 seed : ∃ s : Int, w.cell? ⟨c, 2, none⟩ = some (.int .u64 s)
 fr : ∀ j, w.frozen? ⟨c, j, none⟩ = false
theorem CurAt.mono {w : World} {c N M : Nat} (h : CurAt w c N) (hN : N ≤ M) : CurAt w c M :=
 ⟨h.lt, h.bytes, h.at_.imp fun _ q => ⟨by omega, q.2⟩, h.seed, h.fr⟩
theorem CurAt.kept {w w' : World} {c N : Nat} {row : Option Nat} (h : CurAt w c N) (hg : w.grownBy w' row) (hr : ∀ g, row = some g → c < g) : CurAt w' c N := by
 have hc := h.lt
 have hb : ∀ k, k ≤ c → w'.heap[k]? = w.heap[k]? := fun k hk => hg.block k (by omega) (fun e => by have := hr k e.symm; omega)
 have hcell : ∀ j, w'.cell? ⟨c, j, none⟩ = w.cell? ⟨c, j, none⟩ := fun j => World.cell?_of_block (a := ⟨c, j, none⟩) (hb c (Nat.le_refl _))
 obtain ⟨v, n, hv, h0⟩ := h.bytes
 obtain ⟨a, ha, h1⟩ := h.at_
 obtain ⟨s, h2⟩ := h.seed
 exact ⟨Nat.lt_of_lt_of_le hc hg.size, ⟨v, n, hv.same (fun k hk => hb k (by omega)), by rw [hcell]; exact h0⟩, ⟨a, ha, by rw [hcell]; exact h1⟩, ⟨s, by rw [hcell]; exact h2⟩,
  fun j => by rw [World.frozen?_of_block (a := ⟨c, j, none⟩) (hb c (Nat.le_refl _))]; exact h.fr j⟩
theorem CurAt.below {w w' : World} {c N E : Nat} (h : CurAt w c N) (hB : Below E w w') (hE : c < E) : CurAt w' c N := by
 have hcell : ∀ j, w'.cell? ⟨c, j, none⟩ = w.cell? ⟨c, j, none⟩ := fun j => hB.cell (p := ⟨c, j, none⟩) hE
 obtain ⟨v, n, hv, h0⟩ := h.bytes
 obtain ⟨a, ha, h1⟩ := h.at_
 obtain ⟨s, h2⟩ := h.seed
 exact ⟨Nat.lt_of_lt_of_le h.lt hB.size, ⟨v, n, hv.same (fun k hk => hB.block k (by omega)), by rw [hcell]; exact h0⟩, ⟨a, ha, by rw [hcell]; exact h1⟩, ⟨s, by rw [hcell]; exact h2⟩,
  fun j => by rw [hB.frozen (p := ⟨c, j, none⟩) hE]; exact h.fr j⟩
theorem CurAt.moved {w : World} {c N : Nat} (h : CurAt w c N) (a : Nat) (s : Int) (ha : a ≤ N + 1) :
  CurAt ((w.setCell ⟨c, 1, none⟩ (.int .i64 a)).setCell ⟨c, 2, none⟩ (.int .u64 s)) c (N + 1) ∧ w.grownBy ((w.setCell ⟨c, 1, none⟩ (.int .i64 a)).setCell ⟨c, 2, none⟩ (.int .u64 s)) (some c) := by
 obtain ⟨v, n, hv, h0⟩ := h.bytes
 obtain ⟨a0, ha0, h1⟩ := h.at_
 obtain ⟨s0, h2⟩ := h.seed
 have hf := h.fr
 have hb : ∀ k, k ≠ c → ((w.setCell ⟨c, 1, none⟩ (.int .i64 a)).setCell ⟨c, 2, none⟩ (.int .u64 s)).heap[k]? = w.heap[k]? := fun k hk =>
  (Below.heap_setCell _ _ _ _ hk).trans (Below.heap_setCell _ _ _ _ hk)
 refine ⟨⟨by simpa [World.setCell] using h.lt, ⟨v, n, hv.same (fun k hk => hb k (by omega)), by simp [go_sem, h0]⟩, ⟨a, ha, by simp [go_sem, h1]⟩, ⟨s, by simp [go_sem, h2]⟩, fun j => by simp [go_sem, hf]⟩,
  ⟨rfl, rfl, rfl, by simp [World.setCell], fun k _ hk => hb k (fun e => hk (by rw [e]))⟩⟩
def Picks (c N : Nat) (w : World) (P : Value → Prop) (e : Ending) (w' : World) : Prop := ∃ v, e = .returned v ∧ P v ∧ CurAt w' c N ∧ w.grownBy w' (some c)
def UptoN (n : Nat) (v : Value) : Prop := ∃ x : Nat, v = .int .i64 x ∧ x < n
theorem grownBy_heap {w w' v v' : World} {row : Option Nat} (h : w.grownBy w' row) (e : v.heap = w.heap) (e' : v'.heap = w'.heap) (o : v'.os = v.os) (t : v'.tape = v.tape) (p : v'.output = v.output) : v.grownBy v' row :=
 ⟨o, t, p, by rw [e, e']; exact h.size, fun k hk hr => by rw [e, e']; exact h.block k (by rw [← e]; exact hk) hr⟩
theorem CurAt.heap {w w' : World} {c N : Nat} (h : CurAt w c N) (e : w'.heap = w.heap) : CurAt w' c N := by
 have hcell : ∀ p, w'.cell? p = w.cell? p := fun p => World.cell?_of_block (by rw [e])
 obtain ⟨v, n, hv, h0⟩ := h.bytes
 obtain ⟨a, ha, h1⟩ := h.at_
 obtain ⟨s, h2⟩ := h.seed
 exact ⟨by rw [e]; exact h.lt, ⟨v, n, hv.same (fun k hk => by rw [e]), by rw [hcell]; exact h0⟩, ⟨a, ha, by rw [hcell]; exact h1⟩, ⟨s, by rw [hcell]; exact h2⟩,
  fun j => by rw [World.frozen?_of_block (w := w) (by rw [e])]; exact h.fr j⟩
theorem next_end {w : World} {c N : Nat} (h : CurAt w c N) (a : Nat) (s : Int) (ha : a ≤ N + 1) (q1 q2 : Nat) {x : Int} (h0 : 0 ≤ x) (h1 : x ≤ 255) :
  Picks c (N + 1) w (UptoN 256) (.returned (.int .i64 x)) ((((w.drewN q1).setCell ⟨c, 1, none⟩ (.int .i64 a)).setCell ⟨c, 2, none⟩ (.int .u64 s)).drewN q2) := by
 obtain ⟨k1, k2⟩ := h.moved a s ha
 refine ⟨_, rfl, ⟨x.toNat, by rw [Int.toNat_of_nonneg h0], by omega⟩, k1.heap rfl, grownBy_heap k2 rfl rfl rfl rfl rfl⟩
theorem low255 (y : Int) : 0 ≤ wrap64 (bits BinOp.and IntKind.u64 (IntKind.u64.wrap y / 1099511627776) 255) ∧ wrap64 (bits BinOp.and IntKind.u64 (IntKind.u64.wrap y / 1099511627776) 255) ≤ 255 := by
 have e : IntKind.u64.wrap y = y % 18446744073709551616 := by simp [IntKind.wrap, IntKind.bits, IntKind.signed]
 rw [e]
 obtain ⟨z, hz⟩ : ∃ z, y % 18446744073709551616 / 1099511627776 = z := ⟨_, rfl⟩
 have h0 : 0 ≤ z := by omega
 have h1 : z < 18446744073709551616 := by omega
 rw [hz, show z = ((z.toNat : Nat) : Int) by omega, show (255 : Int) = ((255 : Nat) : Int) from rfl, bits_and_u64_nat _ _ (by omega) (by omega)]
 have := @Nat.and_le_right z.toNat 255
 rw [wrap64_id (by omega) (by omega)]
 omega
set_option maxHeartbeats 1000000 in
theorem next_any (c N : Nat) (w : World) (h : CurAt w c N) (hN : N ≤ 1099511627776) :
  Calls Tryz.prog 161 #[.pointer (some ⟨c, 0, none⟩)] w (Picks c (N + 1) w (UptoN 256)) := by
 obtain ⟨v, n, ⟨ao, cap, rfl, hn, H⟩, h0⟩ := h.bytes
 obtain ⟨a, ha, h1⟩ := h.at_
 obtain ⟨s, h2⟩ := h.seed
 have f1 := h.fr 1
 have f2 := h.fr 2
 by_cases hlt : a < n
 ·obtain ⟨b, off, x, rfl, hb, hx, x0, x1⟩ := H a hlt
  have H' := Lib.hid H; have h' := Lib.hid h; clear H h
  go_enter Tryz.func161, Tryz.ntmps161
  go_wp2_with fail
  go_quiet (fail)
  go_wp2_with fail
  go_quiet (fail)
  go_wp2_with fail
  go_quiet (fail)
  go_wp2_with fail
  go_ret
  exact next_end h'.out (a + 1) _ (by omega) _ _ x0 x1
 ·have H' := Lib.hid H
  have h' := Lib.hid h; clear H h
  by_cases he : a + 1 ≤ n
  ·omega
  go_enter Tryz.func161, Tryz.ntmps161
  go_wp2_with fail
  go_quiet (fail)
  go_wp2_with fail
  go_quiet (fail)
  go_wp2_with fail
  go_ret
  exact next_end h'.out (a + 1) _ (by omega) _ _ (low255 _).1 (low255 _).2
set_option maxHeartbeats 400000 in
theorem pick_any (c N n : Nat) (w : World) (h : CurAt w c N) (hN : N ≤ 549755813888) (hn : 1 ≤ n) (hn2 : n ≤ 1048576) :
  Calls Tryz.prog 102 #[.pointer (some ⟨c, 0, none⟩), .int .i64 n] w (Picks c (N + 2) w (UptoN n)) := by
 have c1 := next_any c N w h (by omega)
 have c1' := Lib.hid c1; clear c1
 by_cases h1 : n ≤ 1
 ·obtain rfl : n = 1 := by omega
  go_enter Tryz.func102, Tryz.ntmps102
  go_wp2
  go_ret
  exact ⟨_, rfl, ⟨0, rfl, by omega⟩, h.mono (by omega), World.grownBy.refl _ _⟩
 ·have hn0 : 0 < n := by omega
  by_cases h2 : n ≤ 200
  ·clear h
   go_enter Tryz.func102, Tryz.ntmps102
   go_wp2_with fail
   refine (c1'.out).mono ?_
   rintro e w1 ⟨v, rfl, ⟨x, rfl, hx⟩, hc, hg⟩
   go_wp2
   go_ret
   exact ⟨_, rfl, ⟨x % n, rfl, Nat.mod_lt _ hn0⟩, hc.mono (by omega), hg⟩
  ·clear h
   go_enter Tryz.func102, Tryz.ntmps102
   go_wp2_with fail
   refine (c1'.out).mono ?_
   rintro e w1 ⟨v, rfl, ⟨x, rfl, hx⟩, hc, hg⟩
   go_wp2_with fail
   refine (next_any c (N + 1) w1 hc (by omega)).mono ?_
   rintro e w2 ⟨v, rfl, ⟨y, rfl, hy⟩, hc2, hg2⟩
   go_wp2
   go_ret
   exact ⟨_, rfl, ⟨(x * 256 + y) % n, by simp, Nat.mod_lt _ hn0⟩, hc2, hg.trans hg2⟩
theorem one_any (c N n : Nat) (w : World) (h : CurAt w c N) (hN : N ≤ 549755813888) (hn : 1 ≤ n) (hn2 : n ≤ 1048576) :
  Calls Tryz.prog 99 #[.pointer (some ⟨c, 0, none⟩), .int .i64 n] w (Picks c (N + 2) w fun v => ∃ b : Bool, v = .bool b) := by
 have c1 := pick_any c N n w h hN hn hn2
 have c1' := Lib.hid c1; clear c1
 clear h
 go_enter Tryz.func99, Tryz.ntmps99
 go_wp2_with fail
 refine (c1'.out).mono ?_
 rintro e w1 ⟨v, rfl, ⟨x, rfl, hx⟩, hc, hg⟩
 go_wp2
 go_ret
 exact ⟨_, rfl, ⟨_, rfl⟩, hc, hg⟩
theorem among_any (c N : Nat) (u : Value) (xs : List Int) (w : World) (h : CurAt w c N) (hN : N ≤ 549755813888) (hu : IntsV w u xs) (hlt : ∀ b off k cap, u = .slice (some ⟨b, off, none⟩) k cap → b ≠ c) (h0 : 0 < xs.length) (hn2 : xs.length ≤ 1048576) :
  Calls Tryz.prog 146 #[.pointer (some ⟨c, 0, none⟩), u] w (Picks c (N + 2) w fun v => ∃ x, v = .int .i64 x ∧ x ∈ xs) := by
 obtain ⟨n, hn⟩ : ∃ n, xs.length = n := ⟨_, rfl⟩
 obtain ⟨ao, cap, rfl, _, _, H⟩ := hu
 rw [hn] at h0 hn2 H ⊢
 have c1 := pick_any c N n w h hN h0 hn2
 have c1' := Lib.hid c1; have hn' := Lib.hid hn; clear c1 hn
 clear h
 go_enter Tryz.func146, Tryz.ntmps146
 go_wp2_with fail
 refine (c1'.out).mono ?_
 rintro e w1 ⟨v, rfl, ⟨x, rfl, hx⟩, hc, hg⟩
 obtain ⟨b, off, rfl, hcell⟩ := H x hx
 have hb := hlt b off n cap (by rw [hn'.out])
 have hcell' : w1.cell? ⟨b, off + x, none⟩ = some (.int .i64 (nth xs x)) := by
  rw [← hcell]
  refine World.cell?_of_block (a := ⟨b, off + x, none⟩) (hg.block b (World.block_lt_of_cell? w _ hcell) ?_)
  intro e; exact hb (Option.some.inj e)
 clear H hcell hlt hb
 go_wp2
 go_ret
 exact ⟨_, rfl, ⟨nth xs x, rfl, nth_mem (by rw [hn'.out]; exact hx)⟩, hc, hg⟩
theorem IntsV.built (w : World) (xs : List Int) (n : Nat) (hn : xs.length = n) (hm : n ≤ 1048576) : IntsV (w.alloc (.cells (xs.map (Value.int .i64)).toArray 3)) (.slice (some ⟨w.heap.size, 0, none⟩) n n) xs := by
 subst hn
 refine ⟨_, _, rfl, ⟨Nat.le_refl _, fun e => by cases e⟩, by unfold maxLen; omega, fun i hi => ⟨_, _, rfl, ?_⟩⟩
 rw [Nat.zero_add, nth_eq hi, World.cell?_alloc_at _ _ _ _ rfl]
 simp [hi]
theorem among_list (c N : Nat) (xs : List Int) (w : World) (n : Nat) (h : CurAt w c N) (hN : N ≤ 549755813888) (hn : xs.length = n) (h0 : 0 < n) (hn2 : n ≤ 1048576) :
  Calls Tryz.prog 146 #[.pointer (some ⟨c, 0, none⟩), .slice (some ⟨w.heap.size, 0, none⟩) n n] (w.alloc (.cells (xs.map (Value.int .i64)).toArray 3)) (Picks c (N + 2) w fun v => ∃ x, v = .int .i64 x ∧ x ∈ xs) := by
 have hg : w.grownBy (w.alloc (.cells (xs.map (Value.int .i64)).toArray 3)) (some c) := World.grownBy_alloc _ _ _
 refine (among_any c N _ xs _ (h.kept (row := none) (World.grownBy_alloc _ _ _) (fun _ e => by cases e)) hN (IntsV.built w xs n hn hn2) ?_ (by omega) (by omega)).mono ?_
 ·intro b off k cap e
  have := h.lt
  simp only [Value.slice.injEq, Option.some.injEq, Addr.mk.injEq] at e
  omega
 ·rintro e w' ⟨v, h1, h2, h3, h4⟩
  exact ⟨v, h1, h2, h3, hg.trans h4⟩
theorem grown_new {a b d : World} {c : Nat} {row : Option Nat} (h : a.grownBy b (some c)) (k : b.grownBy d row) (hr : ∀ g, row = some g → a.heap.size ≤ g) : a.grownBy d (some c) := h.andThen k (fun j hj => .inl (hr j hj))
theorem grown_below {a b d : World} {c E : Nat} (h : a.grownBy b (some c)) (k : Below E b d) (hE : a.heap.size ≤ E) : a.grownBy d (some c) :=
 ⟨k.os.trans h.os, k.tape.trans h.tape, k.output.trans h.output, Nat.le_trans h.size k.size, fun i hi hne => (k.block i (by omega)).trans (h.block i hi hne)⟩
def Off (c : Nat) (v : Value) : Prop := ∀ b off k cap, v = .slice (some ⟨b, off, none⟩) k cap → b ≠ c
def CodeV (w : World) (v : Value) (n : Nat) : Prop := BytesV w w.heap.size v n
theorem CodeV.below {w w' : World} {v : Value} {n : Nat} (h : CodeV w v n) (hB : Below w.heap.size w w') : CodeV w' v n :=
 (BytesV.same h (fun k hk => hB.block k hk)).mono hB.size
theorem CurAt.start {w : World} {v : Value} {n : Nat} (h : CodeV w v n) : CurAt (w.alloc (.cells #[v, .int .i64 0, .int .u64 0] 102)) w.heap.size 0 :=
 ⟨by simp, ⟨v, n, BytesV.same h (fun k hk => Below.heap_alloc _ _ _ hk), by simp [go_sem]⟩, ⟨0, Nat.le_refl _, by simp [go_sem]⟩, ⟨0, by simp [go_sem]⟩, fun j => by simp [go_sem]⟩
theorem start_below {w w' : World} {o : Obj} (hg : (w.alloc o).grownBy w' (some w.heap.size)) : Below w.heap.size w w' :=
 ((Below.refl w.heap.size w).alloc (Nat.le_refl _) o).grown hg (by simp) (fun k hk => by cases hk; exact Nat.le_refl _)
theorem i64_of {n : Int} (h1 : -1000000001 ≤ n) (h2 : n ≤ 1000000001) : I64 n := by unfold I64; omega
theorem good_i64 {x : Int × Int} (h : goodR x.1 x.2 = true) : I64R x := by
 have := goodR_bd h
 exact ⟨i64_of (by omega) (by omega), i64_of (by omega) (by omega)⟩
theorem mkR_good0 (x y : Int) : goodR (mkR x y).1.1 (mkR x y).1.2 = true ∨ (mkR x y).1 = (0, 0) := by
 by_cases h : (mkR x y).2 = true
 ·exact .inl (mkR_good h)
 ·right
  unfold mkR at h ⊢
  split
  ·rename_i h2; rw [if_pos h2] at h; exact absurd rfl h
  ·rfl
theorem mkR_i64 (x y : Int) : I64R (mkR x y).1 := by
 rcases mkR_good0 x y with h | h
 ·exact good_i64 h
 ·rw [h]; exact ⟨i64_of (by decide) (by decide), i64_of (by decide) (by decide)⟩
theorem grid_unit (k n : Nat) (h0 : 0 < n) (hk : k ≤ n) (hn : n ≤ 1000000) : unitR (mkR k n).1.1 (mkR k n).1.2 = true := by
 have hok := mkR_ok (x := k) (y := n) (by omega) (by omega) (by omega)
 have hq := mkR_qv (x := k) (y := n) (by omega) hok
 have hp : (0 : Rat) < ((n : Int) : Rat) := ratC_pos (by omega)
 refine unitR_qv.2 ⟨mkR_good hok, ?_, ?_⟩
 ·rw [hq, rat_le_div hp, Rat.zero_mul]
  exact_mod_cast (show (0 : Int) ≤ k by omega)
 ·rw [hq, rat_div_le hp, Rat.one_mul]
  exact_mod_cast (show (k : Int) ≤ n by omega)
structure BoxO (w : World) (b : Nat) (x y : Int) : Prop where
 c0 : w.cell? ⟨b, 0, none⟩ = some (.int .i64 x)
 c1 : w.cell? ⟨b, 1, none⟩ = some (.int .i64 y)
 f0 : w.frozen? ⟨b, 0, none⟩ = false
 f1 : w.frozen? ⟨b, 1, none⟩ = false
theorem BoxO.new (w : World) (x y : Int) (T : TypeId) : BoxO (w.alloc (.cells #[.int .i64 x, .int .i64 y] T)) w.heap.size x y := by refine ⟨?_, ?_, ?_, ?_⟩ <;> simp [go_sem]
theorem BoxO.kept {w w' : World} {b : Nat} {x y : Int} {r : Option Nat} (h : BoxO w b x y) (hg : w.grownBy w' r) (hr : r ≠ some b) : BoxO w' b x y :=
 ⟨gcell hg h.c0 hr, gcell hg h.c1 hr, gfrozen hg h.c0 h.f0 hr, gfrozen hg h.c1 h.f1 hr⟩
theorem BoxO.below {w w' : World} {b : Nat} {x y : Int} (h : BoxO w b x y) (hB : Below w.heap.size w w') : BoxO w' b x y := h.kept (bgrow hB none) (by simp)
theorem picks_end {c N E : Nat} {w w1 wF : World} (hc : CurAt w1 c N) (hg : w.grownBy w1 (some c)) (hlt : c < w.heap.size) (hE : w.heap.size ≤ E) (hB : Below E w1 wF) : CurAt wF c N ∧ w.grownBy wF (some c) :=
 ⟨hc.below hB (by omega), grown_below hg hB hE⟩
def PicksR (c N : Nat) (P : Int × Int → Prop) (w : World) (e : Ending) (w' : World) : Prop := ∃ x, e = .returned (ratV x) ∧ P x ∧ CurAt w' c N ∧ w.grownBy w' (some c)
def UnitP (x : Int × Int) : Prop := unitR x.1 x.2 = true
def GoodP (x : Int × Int) : Prop := goodR x.1 x.2 = true
set_option linter.unusedSimpArgs false in
set_option maxHeartbeats 800000 in
theorem gridRat_any (c N n : Nat) (w : World) (h : CurAt w c N) (hN : N ≤ 549755813888) (h1 : 1 ≤ n) (h2 : n ≤ 1000) :
  Calls Tryz.prog 164 #[.pointer (some ⟨c, 0, none⟩), .int .i64 n] w (PicksR c (N + 2) UnitP w) := by
 obtain ⟨w0, hw0⟩ : ∃ W, w.alloc (.cells #[.int .i64 0, .int .i64 0] 42) = W := ⟨_, rfl⟩
 have hB0 : Below w.heap.size w w0 := by rw [← hw0]; exact (Below.refl _ _).alloc (Nat.le_refl _) _
 have hx0 : BoxO w0 w.heap.size 0 0 := by rw [← hw0]; exact BoxO.new _ _ _ _
 have hlt := h.lt
 have h0 := h.below hB0 hlt
 have g0 : w.grownBy w0 (some c) := bgrow hB0 _
 have c1 := pick_any c N (n + 1) w0 h0 hN (by omega) (by omega)
 rw [show ((n + 1 : Nat) : Int) = (n : Int) + 1 by omega] at c1
 have hsz : w.heap.size < w0.heap.size := by rw [← hw0]; simp
 clear h h0 hB0
 have c1' := Lib.hid c1; have hw0' := Lib.hid hw0; have hx0' := Lib.hid hx0; clear c1 hw0 hx0
 go_enter Tryz.func164, Tryz.ntmps164
 go_wp2_with fail
 rw [hw0'.out]
 go_wp2_with fail
 refine (c1'.out).mono ?_
 rintro e w1 ⟨v, rfl, ⟨k, rfl, hk⟩, hc1, hg1⟩
 have c2 := raMake_any k n w1 (by omega) (by omega) (by omega)
 have hu := grid_unit k n (by omega) (by omega) (by omega)
 have hx1 := hx0'.out.kept hg1 (by intro e; have := Option.some.inj e; omega)
 have hgg := g0.trans hg1
 have hsz1 : w.heap.size < w1.heap.size := Nat.lt_of_lt_of_le hsz hg1.size
 generalize mkR k n = R at *
 obtain ⟨⟨p, q⟩, ok⟩ := R
 simp only at c2 hu
 clear hg1 g0
 have c2' := Lib.hid c2; have hu' := Lib.hid hu; have hx1' := Lib.hid hx1; have hgg' := Lib.hid hgg; have hc1' := Lib.hid hc1; clear c2 hu hx1 hgg hc1
 go_wp2_with fail
 refine (c2'.out).mono ?_
 rintro e w2 ⟨rfl, hB2⟩
 obtain ⟨e0, e1, e2, e3⟩ := hx1'.out.below hB2
 have hsz2 : w.heap.size < w2.heap.size := Nat.lt_of_lt_of_le hsz1 hB2.size
 have hB3 := hB2.mono (Nat.le_of_lt hsz1)
 clear hB2
 have hB3' := Lib.hid hB3; clear hB3
 go_wp2
 refine bodyPost_ret (v := ratV (p, q)) (by simp [results, Tryz.results164, go_sem, ratV, e0, e1, e2, e3, hsz2]) rfl ⟨_, rfl, hu'.out, picks_end hc1'.out hgg'.out hlt (Nat.le_refl _) ?_⟩
 exact ((hB3'.out.setCell (p := ⟨w.heap.size, 0, none⟩) (Nat.le_refl _) _).setCell (p := ⟨w.heap.size, 1, none⟩) (Nat.le_refl _) _).alloc (by simp; omega) _
set_option linter.unusedSimpArgs false in
set_option maxHeartbeats 800000 in
theorem unitRat_any (c N : Nat) (w : World) (h : CurAt w c N) (hN : N ≤ 549755813000) :
  Calls Tryz.prog 165 #[.pointer (some ⟨c, 0, none⟩)] w (PicksR c (N + 6) UnitP w) := by
 obtain ⟨w0, hw0⟩ : ∃ W, w.alloc (.cells #[.int .i64 0, .int .i64 0] 42) = W := ⟨_, rfl⟩
 have hB0 : Below w.heap.size w w0 := by rw [← hw0]; exact (Below.refl _ _).alloc (Nat.le_refl _) _
 have hx0 : BoxO w0 w.heap.size 0 0 := by rw [← hw0]; exact BoxO.new _ _ _ _
 have hlt := h.lt
 have h0 := h.below hB0 hlt
 have g0 : w.grownBy w0 (some c) := bgrow hB0 _
 have c1 := pick_any c N 60 w0 h0 (by omega) (by omega) (by omega)
 have hsz : w.heap.size < w0.heap.size := by rw [← hw0]; simp
 clear h h0 hB0
 have c1' := Lib.hid c1; have hw0' := Lib.hid hw0; have hx0' := Lib.hid hx0; clear c1 hw0 hx0
 go_enter Tryz.func165, Tryz.ntmps165
 go_wp2_with fail
 rw [hw0'.out]
 go_wp2_with fail
 refine (c1'.out).mono ?_
 rintro e w1 ⟨v, rfl, ⟨t, rfl, ht⟩, hc1, hg1⟩
 go_wp2_with fail
 refine (among_list c _ [1, 2, 3, 4, 5, 7, 8, 12, 16, 1 + (t : Int)] w1 10 hc1 (by omega) rfl (by omega) (by omega)).mono ?_
 rintro e w2 ⟨v, rfl, ⟨y, rfl, hy⟩, hc2, hg2⟩
 obtain ⟨n, rfl, hn1, hn2⟩ : ∃ n : Nat, y = (n : Int) ∧ 1 ≤ n ∧ n ≤ 60 := ⟨y.toNat, by simp at hy; omega, by simp at hy; omega, by simp at hy; omega⟩
 have c3 := pick_any c _ (n + 1) w2 hc2 (by omega) (by omega) (by omega)
 rw [show ((n + 1 : Nat) : Int) = (n : Int) + 1 by omega] at c3
 have g2 := g0.trans (hg1.trans hg2)
 have hx2 := (hx0'.out.kept (hg1.trans hg2) (by intro e; have := Option.some.inj e; omega))
 have hsz2 : w.heap.size < w2.heap.size := Nat.lt_of_lt_of_le hsz (hg1.trans hg2).size
 clear hc1 hc2 hg1 hg2 g0 hy
 have c3' := Lib.hid c3; have hx2' := Lib.hid hx2; have g2' := Lib.hid g2; clear c3 hx2 g2
 go_wp2_with fail
 refine (c3'.out).mono ?_
 rintro e w3 ⟨v, rfl, ⟨k, rfl, hk⟩, hc3, hg3⟩
 have c4 := raMake_any k n w3 (by omega) (by omega) (by omega)
 have hu := grid_unit k n (by omega) (by omega) (by omega)
 have hx3 := hx2'.out.kept hg3 (by intro e; have := Option.some.inj e; omega)
 have hgg := g2'.out.trans hg3
 have hsz3 : w.heap.size < w3.heap.size := Nat.lt_of_lt_of_le hsz2 hg3.size
 generalize mkR k n = R at *
 obtain ⟨⟨p, q⟩, ok⟩ := R
 simp only at c4 hu
 clear hg3
 have c4' := Lib.hid c4; have hu' := Lib.hid hu; have hx3' := Lib.hid hx3; have hgg' := Lib.hid hgg; have hc3' := Lib.hid hc3; clear c4 hu hx3 hgg hc3
 go_wp2_with fail
 refine (c4'.out).mono ?_
 rintro e w4 ⟨rfl, hB4⟩
 obtain ⟨e0, e1, e2, e3⟩ := hx3'.out.below hB4
 have hsz4 : w.heap.size < w4.heap.size := Nat.lt_of_lt_of_le hsz3 hB4.size
 have hB5 := hB4.mono (Nat.le_of_lt hsz3)
 clear hB4
 have hB5' := Lib.hid hB5; clear hB5
 go_wp2
 refine bodyPost_ret (v := ratV (p, q)) (by simp [results, Tryz.results165, go_sem, ratV, e0, e1, e2, e3, hsz4]) rfl ⟨_, rfl, hu'.out, picks_end (hc3'.out.mono (by omega)) hgg'.out hlt (Nat.le_refl _) ?_⟩
 exact ((hB5'.out.setCell (p := ⟨w.heap.size, 0, none⟩) (Nat.le_refl _) _).setCell (p := ⟨w.heap.size, 1, none⟩) (Nat.le_refl _) _).alloc (by simp; omega) _
set_option linter.unusedSimpArgs false in
set_option maxHeartbeats 800000 in
theorem rat_any (c N : Nat) (w : World) (h : CurAt w c N) (hN : N ≤ 549755813000) :
  Calls Tryz.prog 190 #[.pointer (some ⟨c, 0, none⟩)] w (PicksR c (N + 12) GoodP w) := by
 obtain ⟨w0, hw0⟩ : ∃ W, w.alloc (.cells #[.int .i64 0, .int .i64 0] 42) = W := ⟨_, rfl⟩
 have hB0 : Below w.heap.size w w0 := by rw [← hw0]; exact (Below.refl _ _).alloc (Nat.le_refl _) _
 have hx0 : BoxO w0 w.heap.size 0 0 := by rw [← hw0]; exact BoxO.new _ _ _ _
 have hlt := h.lt
 have h0 := h.below hB0 hlt
 have g0 : w.grownBy w0 (some c) := bgrow hB0 _
 have c1 := pick_any c N 41 w0 h0 (by omega) (by omega) (by omega)
 have hsz : w.heap.size < w0.heap.size := by rw [← hw0]; simp
 clear h h0 hB0
 have c1' := Lib.hid c1; have hw0' := Lib.hid hw0; have hx0' := Lib.hid hx0; clear c1 hw0 hx0
 go_enter Tryz.func190, Tryz.ntmps190
 go_wp2_with fail
 rw [hw0'.out]
 go_wp2_with fail
 refine (c1'.out).mono ?_
 rintro e w1 ⟨v, rfl, ⟨t, rfl, ht⟩, hc1, hg1⟩
 go_wp2_with fail
 refine (pick_any c _ 2001 w1 hc1 (by omega) (by omega) (by omega)).mono ?_
 rintro e w2 ⟨v, rfl, ⟨t2, rfl, ht2⟩, hc2, hg2⟩
 go_wp2_with fail
 refine (among_list c _ [0, 1, 2, 3, -1, -5, (t : Int) - 20, (t2 : Int) - 1000, 1000000000, -1000000000] w2 10 hc2 (by omega) rfl (by omega) (by omega)).mono ?_
 rintro e w3 ⟨v, rfl, ⟨a, rfl, ha⟩, hc3, hg3⟩
 go_wp2_with fail
 refine (pick_any c _ 20 w3 hc3 (by omega) (by omega) (by omega)).mono ?_
 rintro e w4 ⟨v, rfl, ⟨t3, rfl, ht3⟩, hc4, hg4⟩
 go_wp2_with fail
 refine (pick_any c _ 1000 w4 hc4 (by omega) (by omega) (by omega)).mono ?_
 rintro e w5 ⟨v, rfl, ⟨t4, rfl, ht4⟩, hc5, hg5⟩
 go_wp2_with fail
 refine (among_list c _ [1, 2, 3, 4, 8, 7, 1 + (t3 : Int), 1 + (t4 : Int), 1000000000, 999999999] w5 10 hc5 (by omega) rfl (by omega) (by omega)).mono ?_
 rintro e w6 ⟨v, rfl, ⟨b, rfl, hb⟩, hc6, hg6⟩
 have ha2 : -1000000000 ≤ a ∧ a ≤ 1000000000 := by simp at ha; omega
 have hb2 : 1 ≤ b ∧ b ≤ 1000000000 := by simp at hb; omega
 have g6 := hg1.trans (hg2.trans (hg3.trans (hg4.trans (hg5.trans hg6))))
 have hgg := g0.trans g6
 have hx6 := hx0'.out.kept g6 (by intro e; have := Option.some.inj e; omega)
 have hsz6 : w.heap.size < w6.heap.size := Nat.lt_of_lt_of_le hsz g6.size
 have c7 := raMake_any a b w6 (by omega) (by omega) (by omega)
 have hgd : (mkR a b).2 = true → goodR (mkR a b).1.1 (mkR a b).1.2 = true := fun h => mkR_good h
 generalize mkR a b = R at *
 obtain ⟨⟨p, q⟩, ok⟩ := R
 simp only at c7 hgd
 clear hc1 hc2 hc3 hc4 hc5 hg1 hg2 hg3 hg4 hg5 hg6 g6 g0 ha hb
 have c7' := Lib.hid c7; have hgd' := Lib.hid hgd; have hx6' := Lib.hid hx6; have hgg' := Lib.hid hgg; have hc6' := Lib.hid hc6; clear c7 hgd hx6 hgg hc6
 go_wp2_with fail
 refine (c7'.out).mono ?_
 rintro e w7 ⟨rfl, hB7⟩
 have hx7 := hx6'.out.below hB7
 have hsz7 : w.heap.size < w7.heap.size := Nat.lt_of_lt_of_le hsz6 hB7.size
 have hB8 := hB7.mono (Nat.le_of_lt hsz6)
 clear hB7
 have hB8' := Lib.hid hB8; clear hB8
 cases ok
 ·clear hgd'
  obtain ⟨w8, hw8⟩ : ∃ W, w7.alloc (.cells #[.int .i64 p, .int .i64 q] 42) = W := ⟨_, rfl⟩
  have hB78 : Below w7.heap.size w7 w8 := by rw [← hw8]; exact (Below.refl _ _).alloc (Nat.le_refl _) _
  obtain ⟨e0, e1, e2, e3⟩ := hx7.below hB78
  have hsz8 : w.heap.size < w8.heap.size := Nat.lt_of_lt_of_le hsz7 hB78.size
  have hB9 := hB8'.out.trans (hB78.mono (Nat.le_of_lt hsz7))
  clear hB78 hx7
  have hB9' := Lib.hid hB9; have hw8' := Lib.hid hw8; clear hB9 hw8
  go_wp2_with fail
  rw [hw8'.out]
  go_wp2_with fail
  refine (raInt_any 1 _).mono ?_
  rintro e w9 ⟨rfl, hB10⟩
  have i0 := bkeep hB10 e0
  have i1 := bkeep hB10 e1
  have i2 := gfrozen' hB10 e0 e2
  have i3 := gfrozen' hB10 e1 e3
  have hB11 := hB9'.out.trans (hB10.mono (Nat.le_of_lt hsz8))
  have hsz9 : w.heap.size < w9.heap.size := Nat.lt_of_lt_of_le hsz8 hB10.size
  clear e0 e1 e2 e3 hB10
  have hB11' := Lib.hid hB11; clear hB11
  go_wp2
  refine bodyPost_ret (v := ratV (1, 1)) (by simp [results, Tryz.results190, go_sem, ratV, i0, i1, i2, i3, hsz9]) rfl ⟨_, rfl, (show GoodP (1, 1) from by unfold GoodP; decide), picks_end (hc6'.out.mono (by omega)) hgg'.out hlt (Nat.le_refl _) ?_⟩
  exact (hB11'.out.setCell (p := ⟨w.heap.size, 0, none⟩) (Nat.le_refl _) _).setCell (p := ⟨w.heap.size, 1, none⟩) (Nat.le_refl _) _
 ·have hgd2 := hgd'.out rfl
  obtain ⟨e0, e1, e2, e3⟩ := hx7
  clear hgd'
  have hgd2' := Lib.hid hgd2; clear hgd2
  go_wp2
  refine bodyPost_ret (v := ratV (p, q)) (by simp [results, Tryz.results190, go_sem, ratV, e0, e1, e2, e3, hsz7]) rfl ⟨_, rfl, hgd2'.out, picks_end (hc6'.out.mono (by omega)) hgg'.out hlt (Nat.le_refl _) ?_⟩
  exact ((hB8'.out.setCell (p := ⟨w.heap.size, 0, none⟩) (Nat.le_refl _) _).setCell (p := ⟨w.heap.size, 1, none⟩) (Nat.le_refl _) _).alloc (by simp; omega) _
def I64P (x : Int × Int) : Prop := I64R x
theorem unit_i64 {x : Int × Int} (h : UnitP x) : I64P x := good_i64 (unitR_good h)
set_option linter.unusedSimpArgs false in
set_option maxHeartbeats 1600000 in
theorem anyRat_any (c N : Nat) (w : World) (h : CurAt w c N) (hN : N ≤ 549755812000) :
  Calls Tryz.prog 144 #[.pointer (some ⟨c, 0, none⟩)] w (PicksR c (N + 18) I64P w) := by
 obtain ⟨w0, hw0⟩ : ∃ W, w.alloc (.cells #[.int .i64 0, .int .i64 0] 42) = W := ⟨_, rfl⟩
 have hB0 : Below w.heap.size w w0 := by rw [← hw0]; exact (Below.refl _ _).alloc (Nat.le_refl _) _
 have hx0 : BoxO w0 w.heap.size 0 0 := by rw [← hw0]; exact BoxO.new _ _ _ _
 have hlt := h.lt
 have h0 := h.below hB0 hlt
 have g0 : w.grownBy w0 (some c) := bgrow hB0 _
 have c1 := rat_any c N w0 h0 (by omega)
 have hsz : w.heap.size < w0.heap.size := by rw [← hw0]; simp
 clear h h0 hB0
 have c1' := Lib.hid c1; have hw0' := Lib.hid hw0; have hx0' := Lib.hid hx0; clear c1 hw0 hx0
 go_enter Tryz.func144, Tryz.ntmps144
 go_wp2_with fail
 rw [hw0'.out]
 go_wp2_with fail
 refine (c1'.out).mono ?_
 rintro e w1 ⟨⟨p, q⟩, rfl, hgd, hc1, hg1⟩
 have hpq : I64R (p, q) := good_i64 hgd
 have hsz1 : w.heap.size < w1.heap.size := Nat.lt_of_lt_of_le hsz hg1.size
 obtain ⟨w2, hw2⟩ : ∃ W, w1.alloc (.cells #[.int .i64 p, .int .i64 q] 42) = W := ⟨_, rfl⟩
 have hB2 : Below w1.heap.size w1 w2 := by rw [← hw2]; exact (Below.refl _ _).alloc (Nat.le_refl _) _
 have hx2 := (hx0'.out.kept hg1 (by intro e; have := Option.some.inj e; omega)).below hB2
 have hy2 : BoxO w2 w1.heap.size p q := by rw [← hw2]; exact BoxO.new _ _ _ _
 have hc2 := hc1.below hB2 (by omega)
 have g2 := g0.trans (hg1.trans (bgrow hB2 _))
 have hsz2 : w1.heap.size < w2.heap.size := by rw [← hw2]; simp
 have c3 := pick_any c _ 40 w2 hc2 (by omega) (by omega) (by omega)
 clear hc1 hc2 hg1 g0 hB2 hgd
 have c3' := Lib.hid c3; have hw2' := Lib.hid hw2; have hx2' := Lib.hid hx2; have hy2' := Lib.hid hy2; have g2' := Lib.hid g2; have hpq' := Lib.hid hpq; clear c3 hw2 hx2 hy2 g2 hpq
 go_wp2_with fail
 rw [hw2'.out]
 go_wp2_with fail
 refine (c3'.out).mono ?_
 rintro e w3 ⟨v, rfl, ⟨k, rfl, hk⟩, hc3, hg3⟩
 have hx3 := hx2'.out.kept hg3 (by intro e; have := Option.some.inj e; omega)
 have hy3 := hy2'.out.kept hg3 (by intro e; have := Option.some.inj e; omega)
 have g3 := g2'.out.trans hg3
 have hsz3 : w1.heap.size < w3.heap.size := Nat.lt_of_lt_of_le hsz2 hg3.size
 have hsz4 : w.heap.size < w3.heap.size := by omega
 clear hg3
 have hk4 : k = 0 ∨ k = 1 ∨ k = 2 ∨ 3 ≤ k := by omega
 obtain rfl | rfl | rfl | hk3 := hk4
 ·have hx3' := Lib.hid hx3
  have hy3' := Lib.hid hy3; have g3' := Lib.hid g3; clear hx3 hy3 g3
  go_wp2_with fail
  refine (among_list c _ [0, -1, 1000000001] w3 3 hc3 (by omega) rfl (by omega) (by omega)).mono ?_
  rintro e w4 ⟨v, rfl, ⟨d, rfl, hd⟩, hc4, hg4⟩
  have hd2 : I64 d := by simp at hd; unfold I64; omega
  obtain ⟨e0, e1, e2, e3⟩ := hx3'.out.kept hg4 (by intro e; have := Option.some.inj e; omega)
  obtain ⟨d0, d1, d2, d3⟩ := hy3'.out.kept hg4 (by intro e; have := Option.some.inj e; omega)
  have g4 := g3'.out.trans hg4
  have hz1 : w1.heap.size < w4.heap.size := Nat.lt_of_lt_of_le hsz3 hg4.size
  have hz2 : w.heap.size < w4.heap.size := by omega
  have hne : ¬ w.heap.size = w1.heap.size := by omega
  have hne2 : ¬ w1.heap.size = w.heap.size := by omega
  clear hg4 hd
  have g4' := Lib.hid g4; have hc4' := Lib.hid hc4; have hd2' := Lib.hid hd2; clear g4 hc4 hd2
  go_wp2
  refine bodyPost_ret (v := ratV (p, d)) (by simp [results, Tryz.results144, go_sem, ratV, e0, e1, e2, e3, d0, d1, d2, d3, hz1, hz2, hne, hne2]) rfl ⟨(p, d), rfl, ⟨by first | exact hd2'.out | exact hpq'.out.1 | exact hpq'.out.2, by first | exact hd2'.out | exact hpq'.out.1 | exact hpq'.out.2⟩, picks_end (hc4'.out.mono (by omega)) g4'.out hlt (Nat.le_refl _) ?_⟩
  exact (((Below.refl _ _).setCell (p := ⟨w1.heap.size, 1, none⟩) (by show w.heap.size ≤ w1.heap.size; omega) _).setCell (p := ⟨w.heap.size, 0, none⟩) (Nat.le_refl _) _).setCell (p := ⟨w.heap.size, 1, none⟩) (Nat.le_refl _) _
 ·have hx3' := Lib.hid hx3
  have hy3' := Lib.hid hy3; have g3' := Lib.hid g3; clear hx3 hy3 g3
  go_wp2_with fail
  refine (among_list c _ [1000000001, -1000000001, -9223372036854775808] w3 3 hc3 (by omega) rfl (by omega) (by omega)).mono ?_
  rintro e w4 ⟨v, rfl, ⟨d, rfl, hd⟩, hc4, hg4⟩
  have hd2 : I64 d := by simp at hd; unfold I64; omega
  obtain ⟨e0, e1, e2, e3⟩ := hx3'.out.kept hg4 (by intro e; have := Option.some.inj e; omega)
  obtain ⟨d0, d1, d2, d3⟩ := hy3'.out.kept hg4 (by intro e; have := Option.some.inj e; omega)
  have g4 := g3'.out.trans hg4
  have hz1 : w1.heap.size < w4.heap.size := Nat.lt_of_lt_of_le hsz3 hg4.size
  have hz2 : w.heap.size < w4.heap.size := by omega
  have hne : ¬ w.heap.size = w1.heap.size := by omega
  have hne2 : ¬ w1.heap.size = w.heap.size := by omega
  clear hg4 hd
  have g4' := Lib.hid g4; have hc4' := Lib.hid hc4; have hd2' := Lib.hid hd2; clear g4 hc4 hd2
  go_wp2
  refine bodyPost_ret (v := ratV (d, q)) (by simp [results, Tryz.results144, go_sem, ratV, e0, e1, e2, e3, d0, d1, d2, d3, hz1, hz2, hne, hne2]) rfl ⟨(d, q), rfl, ⟨by first | exact hd2'.out | exact hpq'.out.1 | exact hpq'.out.2, by first | exact hd2'.out | exact hpq'.out.1 | exact hpq'.out.2⟩, picks_end (hc4'.out.mono (by omega)) g4'.out hlt (Nat.le_refl _) ?_⟩
  exact (((Below.refl _ _).setCell (p := ⟨w1.heap.size, 0, none⟩) (by show w.heap.size ≤ w1.heap.size; omega) _).setCell (p := ⟨w.heap.size, 0, none⟩) (Nat.le_refl _) _).setCell (p := ⟨w.heap.size, 1, none⟩) (Nat.le_refl _) _
 ·have hx3' := Lib.hid hx3
  have hy3' := Lib.hid hy3; have g3' := Lib.hid g3; clear hx3 hy3 g3
  go_wp2_with fail
  refine (among_list c _ [2, 0, -4] w3 3 hc3 (by omega) rfl (by omega) (by omega)).mono ?_
  rintro e w4 ⟨v, rfl, ⟨d, rfl, hd⟩, hc4, hg4⟩
  go_wp2_with fail
  refine (among_list c _ [2, 4, 6] w4 3 hc4 (by omega) rfl (by omega) (by omega)).mono ?_
  rintro e w5 ⟨v, rfl, ⟨d', rfl, hd'⟩, hc5, hg5⟩
  have hd2 : I64 d := by simp at hd; unfold I64; omega
  have hd3 : I64 d' := by simp at hd'; unfold I64; omega
  have hg45 := hg4.trans hg5
  obtain ⟨e0, e1, e2, e3⟩ := hx3'.out.kept hg45 (by intro e; have := Option.some.inj e; omega)
  obtain ⟨d0, d1, d2, d3⟩ := hy3'.out.kept hg45 (by intro e; have := Option.some.inj e; omega)
  have g4 := g3'.out.trans hg45
  have hz1 : w1.heap.size < w5.heap.size := Nat.lt_of_lt_of_le hsz3 hg45.size
  have hz2 : w.heap.size < w5.heap.size := by omega
  have hne : ¬ w.heap.size = w1.heap.size := by omega
  have hne2 : ¬ w1.heap.size = w.heap.size := by omega
  clear hg4 hg5 hg45 hd hd' hc4
  have g4' := Lib.hid g4; have hc5' := Lib.hid hc5; have hd2' := Lib.hid hd2; have hd3' := Lib.hid hd3; clear g4 hc5 hd2 hd3
  go_wp2
  refine bodyPost_ret (v := ratV (d, d')) (by simp [results, Tryz.results144, go_sem, ratV, e0, e1, e2, e3, d0, d1, d2, d3, hz1, hz2, hne, hne2]) rfl ⟨(d, d'), rfl, ⟨hd2'.out, hd3'.out⟩, picks_end (hc5'.out.mono (by omega)) g4'.out hlt (Nat.le_refl _) ?_⟩
  exact ((((Below.refl _ _).setCell (p := ⟨w1.heap.size, 0, none⟩) (by show w.heap.size ≤ w1.heap.size; omega) _).setCell (p := ⟨w1.heap.size, 1, none⟩) (by show w.heap.size ≤ w1.heap.size; omega) _).setCell (p := ⟨w.heap.size, 0, none⟩) (Nat.le_refl _) _).setCell (p := ⟨w.heap.size, 1, none⟩) (Nat.le_refl _) _
 ·have q0 : ((k : Int) == 0) = false := by rw [beq_eq_false_iff_ne]; omega
  have q1 : ((k : Int) == 1) = false := by rw [beq_eq_false_iff_ne]; omega
  have q2 : ((k : Int) == 2) = false := by rw [beq_eq_false_iff_ne]; omega
  obtain ⟨e0, e1, e2, e3⟩ := hx3
  obtain ⟨d0, d1, d2, d3⟩ := hy3
  have g3' := Lib.hid g3; have hc3' := Lib.hid hc3; clear g3 hc3
  go_wp2
  refine bodyPost_ret (v := ratV (p, q)) (by simp [results, Tryz.results144, go_sem, ratV, e0, e1, e2, e3]) rfl ⟨(p, q), rfl, hpq'.out, picks_end (hc3'.out.mono (by omega)) g3'.out hlt (Nat.le_refl _) ?_⟩
  exact ((Below.refl _ _).setCell (p := ⟨w.heap.size, 0, none⟩) (Nat.le_refl _) _).setCell (p := ⟨w.heap.size, 1, none⟩) (Nat.le_refl _) _
theorem QuadV.cellOff {w w' : World} {c : Nat} {v : Value} {xs : List Quad} (h : QuadV w v xs) (ho : Off c v) (hg : w.grownBy w' (some c)) : QuadV w' v xs := by
 obtain ⟨ao, cap, rfl, h1, h2, H⟩ := h.form
 refine QuadV.mk h1 h2 fun i hi => ?_
 obtain ⟨b, off, rfl, c0, c1, c2, c3⟩ := H i hi
 have hne : some c ≠ some b := fun e => ho b off _ _ rfl (Option.some.inj e).symm
 exact ⟨b, off, rfl, gcell hg c0 hne, gcell hg c1 hne, gcell hg c2 hne, gcell hg c3 hne⟩
set_option linter.unusedSimpArgs false in
set_option maxHeartbeats 3200000 in
theorem xOf_any (c N : Nat) (v : Value) (f : List Quad) (w : World) (h : CurAt w c N) (hN : N ≤ 549755811000) (hv : QuadV w v f) (ho : Off c v) (hf : ∀ i, i < f.length → I64I (nth4 f i)) (hm : f.length ≤ 1000) :
  Calls Tryz.prog 105 #[.pointer (some ⟨c, 0, none⟩), v] w (PicksR c (N + 30) I64P w) := by
 obtain ⟨w0, hw0⟩ : ∃ W, w.alloc (.cells #[.int .i64 0, .int .i64 0] 42) = W := ⟨_, rfl⟩
 have hB0 : Below w.heap.size w w0 := by rw [← hw0]; exact (Below.refl _ _).alloc (Nat.le_refl _) _
 have hx0 : BoxO w0 w.heap.size 0 0 := by rw [← hw0]; exact BoxO.new _ _ _ _
 have hlt := h.lt
 have h0 := h.below hB0 hlt
 have g0 : w.grownBy w0 (some c) := bgrow hB0 _
 have c1 := pick_any c N 8 w0 h0 (by omega) (by omega) (by omega)
 have hsz : w.heap.size < w0.heap.size := by rw [← hw0]; simp
 have hv0 := fun (w' : World) (hg : w0.grownBy w' (some c)) => (hv.below hB0).cellOff ho hg
 obtain ⟨ao, cap, rfl, -⟩ := hv.form
 obtain ⟨n, hn⟩ : ∃ n, f.length = n := ⟨_, rfl⟩
 rw [hn] at hv0 hf hm ⊢
 clear h h0 hB0 hv ho
 have c1' := Lib.hid c1; have hw0' := Lib.hid hw0; have hx0' := Lib.hid hx0; have hv0' := Lib.hid hv0; have hf' := Lib.hid hf; have hn' := Lib.hid hn; clear c1 hw0 hx0 hv0 hf hn
 go_enter Tryz.func105, Tryz.ntmps105
 go_wp2_with fail
 rw [hw0'.out]
 go_wp2_with fail
 refine (c1'.out).mono ?_
 rintro e w1 ⟨v, rfl, ⟨k, rfl, hk⟩, hc1, hg1⟩
 have hsz1 : w.heap.size < w1.heap.size := Nat.lt_of_lt_of_le hsz hg1.size
 have hx1 := hx0'.out.kept hg1 (by intro e; have := Option.some.inj e; omega)
 have g1 := g0.trans hg1
 have hx1' := Lib.hid hx1; have g1' := Lib.hid g1; have hg1' := Lib.hid hg1; clear hx1 g1 hg1
 have hk4 : k = 0 ∨ k = 1 ∨ k = 2 ∨ k = 3 ∨ k = 4 ∨ k = 5 ∨ k = 6 ∨ k = 7 := by omega
 by_cases hl : 0 < n
 ·obtain rfl | rfl | rfl | rfl | rfl | rfl | rfl | rfl := hk4
  ·go_wp2_with fail
   refine (pick_any c _ n w1 hc1 (by omega) (by omega) (by omega)).mono ?_
   rintro e w2 ⟨v, rfl, ⟨i, rfl, hi⟩, hc2, hg2⟩
   obtain ⟨_, _, e, -, -, H⟩ := (hv0'.out w2 (hg1'.out.trans hg2)).form
   rw [hn'.out] at H
   obtain ⟨rfl, -, rfl⟩ := Value.slice.inj e
   obtain ⟨b, off, rfl, z0, z1, z2, z3⟩ := H i hi
   have hfi := hf'.out i hi
   obtain ⟨⟨⟨p0, p1⟩, ⟨p2, p3⟩⟩, hp⟩ : ∃ p, nth4 f i = p := ⟨_, rfl⟩
   rw [hp] at z0 z1 z2 z3 hfi
   simp only at z0 z1 z2 z3
   obtain ⟨e0, e1, e2, e3⟩ := hx1'.out.kept hg2 (by intro e; have := Option.some.inj e; omega)
   have g2 := g1'.out.trans hg2
   have hz2 : w.heap.size < w2.heap.size := Nat.lt_of_lt_of_le hsz1 hg2.size
   have q1 : (0 : Int) ≤ (i : Int) := by omega
   have q2 : (i : Int) < (n : Int) := by omega
   clear hg2 H hp hc1
   have g2' := Lib.hid g2; have hc2' := Lib.hid hc2; have hfi' := Lib.hid hfi; clear g2 hc2 hfi
   go_wp2
   refine bodyPost_ret (v := ratV (p0, p1)) (by simp [results, Tryz.results105, go_sem, ratV, e0, e1, e2, e3, hz2]) rfl ⟨(p0, p1), rfl, hfi'.out.1, picks_end (hc2'.out.mono (by omega)) g2'.out hlt (Nat.le_refl _) ?_⟩
   exact ((Below.refl _ _).setCell (p := ⟨w.heap.size, 0, none⟩) (Nat.le_refl _) _).setCell (p := ⟨w.heap.size, 1, none⟩) (Nat.le_refl _) _
  ·go_wp2_with fail
   refine (pick_any c _ n w1 hc1 (by omega) (by omega) (by omega)).mono ?_
   rintro e w2 ⟨v, rfl, ⟨i, rfl, hi⟩, hc2, hg2⟩
   obtain ⟨_, _, e, -, -, H⟩ := (hv0'.out w2 (hg1'.out.trans hg2)).form
   rw [hn'.out] at H
   obtain ⟨rfl, -, rfl⟩ := Value.slice.inj e
   obtain ⟨b, off, rfl, z0, z1, z2, z3⟩ := H i hi
   have hfi := hf'.out i hi
   obtain ⟨⟨⟨p0, p1⟩, ⟨p2, p3⟩⟩, hp⟩ : ∃ p, nth4 f i = p := ⟨_, rfl⟩
   rw [hp] at z0 z1 z2 z3 hfi
   simp only at z0 z1 z2 z3
   obtain ⟨e0, e1, e2, e3⟩ := hx1'.out.kept hg2 (by intro e; have := Option.some.inj e; omega)
   have g2 := g1'.out.trans hg2
   have hz2 : w.heap.size < w2.heap.size := Nat.lt_of_lt_of_le hsz1 hg2.size
   have q1 : (0 : Int) ≤ (i : Int) := by omega
   have q2 : (i : Int) < (n : Int) := by omega
   clear hg2 H hp hc1
   have g2' := Lib.hid g2; have hc2' := Lib.hid hc2; have hfi' := Lib.hid hfi; clear g2 hc2 hfi
   go_wp2
   refine bodyPost_ret (v := ratV (p0, p1)) (by simp [results, Tryz.results105, go_sem, ratV, e0, e1, e2, e3, hz2]) rfl ⟨(p0, p1), rfl, hfi'.out.1, picks_end (hc2'.out.mono (by omega)) g2'.out hlt (Nat.le_refl _) ?_⟩
   exact ((Below.refl _ _).setCell (p := ⟨w.heap.size, 0, none⟩) (Nat.le_refl _) _).setCell (p := ⟨w.heap.size, 1, none⟩) (Nat.le_refl _) _
  ·go_wp2_with fail
   refine (pick_any c _ n w1 hc1 (by omega) (by omega) (by omega)).mono ?_
   rintro e w2 ⟨v, rfl, ⟨i, rfl, hi⟩, hc2, hg2⟩
   obtain ⟨_, _, e, -, -, H⟩ := (hv0'.out w2 (hg1'.out.trans hg2)).form
   rw [hn'.out] at H
   obtain ⟨rfl, -, rfl⟩ := Value.slice.inj e
   obtain ⟨b, off, rfl, z0, z1, z2, z3⟩ := H i hi
   have hfi := hf'.out i hi
   obtain ⟨⟨⟨p0, p1⟩, ⟨p2, p3⟩⟩, hp⟩ : ∃ p, nth4 f i = p := ⟨_, rfl⟩
   rw [hp] at z0 z1 z2 z3 hfi
   simp only at z0 z1 z2 z3
   obtain ⟨e0, e1, e2, e3⟩ := hx1'.out.kept hg2 (by intro e; have := Option.some.inj e; omega)
   have g2 := g1'.out.trans hg2
   have hz2 : w.heap.size < w2.heap.size := Nat.lt_of_lt_of_le hsz1 hg2.size
   have q1 : (0 : Int) ≤ (i : Int) := by omega
   have q2 : (i : Int) < (n : Int) := by omega
   clear hg2 H hp hc1
   have g2' := Lib.hid g2; have hc2' := Lib.hid hc2; have hfi' := Lib.hid hfi; clear g2 hc2 hfi
   go_wp2
   refine bodyPost_ret (v := ratV (p2, p3)) (by simp [results, Tryz.results105, go_sem, ratV, e0, e1, e2, e3, hz2]) rfl ⟨(p2, p3), rfl, hfi'.out.2, picks_end (hc2'.out.mono (by omega)) g2'.out hlt (Nat.le_refl _) ?_⟩
   exact ((Below.refl _ _).setCell (p := ⟨w.heap.size, 0, none⟩) (Nat.le_refl _) _).setCell (p := ⟨w.heap.size, 1, none⟩) (Nat.le_refl _) _
  ·go_wp2_with fail
   refine (among_list c _ [2, 3, 4, 5, 7, 12] w1 6 hc1 (by omega) rfl (by omega) (by omega)).mono ?_
   rintro e w2 ⟨v, rfl, ⟨d, rfl, hd⟩, hc2, hg2⟩
   obtain ⟨m, rfl, hm1, hm2⟩ : ∃ m : Nat, d = (m : Int) ∧ 1 ≤ m ∧ m ≤ 12 := ⟨d.toNat, by simp at hd; omega, by simp at hd; omega, by simp at hd; omega⟩
   go_wp2_with fail
   refine (gridRat_any c _ m w2 hc2 (by omega) (by omega) (by omega)).mono ?_
   rintro e w3 ⟨⟨p, q⟩, rfl, hu, hc3, hg3⟩
   have hg23 := hg2.trans hg3
   obtain ⟨e0, e1, e2, e3⟩ := hx1'.out.kept hg23 (by intro e; have := Option.some.inj e; omega)
   have g2 := g1'.out.trans hg23
   have hz2 : w.heap.size < w3.heap.size := Nat.lt_of_lt_of_le hsz1 hg23.size
   have hu2 := unit_i64 hu
   clear hg2 hg3 hg23 hc1 hc2 hd hu
   have g2' := Lib.hid g2; have hc3' := Lib.hid hc3; have hu2' := Lib.hid hu2; clear g2 hc3 hu2
   go_wp2
   refine bodyPost_ret (v := ratV (p, q)) (by simp [results, Tryz.results105, go_sem, ratV, e0, e1, e2, e3, hz2]) rfl ⟨(p, q), rfl, hu2'.out, picks_end (hc3'.out.mono (by omega)) g2'.out hlt (Nat.le_refl _) ?_⟩
   exact ((Below.refl _ _).setCell (p := ⟨w.heap.size, 0, none⟩) (Nat.le_refl _) _).setCell (p := ⟨w.heap.size, 1, none⟩) (Nat.le_refl _) _
  ·go_wp2_with fail
   refine (among_list c _ [2, 3, 4, 5, 7, 12] w1 6 hc1 (by omega) rfl (by omega) (by omega)).mono ?_
   rintro e w2 ⟨v, rfl, ⟨d, rfl, hd⟩, hc2, hg2⟩
   obtain ⟨m, rfl, hm1, hm2⟩ : ∃ m : Nat, d = (m : Int) ∧ 1 ≤ m ∧ m ≤ 12 := ⟨d.toNat, by simp at hd; omega, by simp at hd; omega, by simp at hd; omega⟩
   go_wp2_with fail
   refine (gridRat_any c _ m w2 hc2 (by omega) (by omega) (by omega)).mono ?_
   rintro e w3 ⟨⟨p, q⟩, rfl, hu, hc3, hg3⟩
   have hg23 := hg2.trans hg3
   obtain ⟨e0, e1, e2, e3⟩ := hx1'.out.kept hg23 (by intro e; have := Option.some.inj e; omega)
   have g2 := g1'.out.trans hg23
   have hz2 : w.heap.size < w3.heap.size := Nat.lt_of_lt_of_le hsz1 hg23.size
   have hu2 := unit_i64 hu
   clear hg2 hg3 hg23 hc1 hc2 hd hu
   have g2' := Lib.hid g2; have hc3' := Lib.hid hc3; have hu2' := Lib.hid hu2; clear g2 hc3 hu2
   go_wp2
   refine bodyPost_ret (v := ratV (p, q)) (by simp [results, Tryz.results105, go_sem, ratV, e0, e1, e2, e3, hz2]) rfl ⟨(p, q), rfl, hu2'.out, picks_end (hc3'.out.mono (by omega)) g2'.out hlt (Nat.le_refl _) ?_⟩
   exact ((Below.refl _ _).setCell (p := ⟨w.heap.size, 0, none⟩) (Nat.le_refl _) _).setCell (p := ⟨w.heap.size, 1, none⟩) (Nat.le_refl _) _
  ·go_wp2_with fail
   refine (among_list c _ [2, 3, 4, 5, 7, 12] w1 6 hc1 (by omega) rfl (by omega) (by omega)).mono ?_
   rintro e w2 ⟨v, rfl, ⟨d, rfl, hd⟩, hc2, hg2⟩
   obtain ⟨m, rfl, hm1, hm2⟩ : ∃ m : Nat, d = (m : Int) ∧ 1 ≤ m ∧ m ≤ 12 := ⟨d.toNat, by simp at hd; omega, by simp at hd; omega, by simp at hd; omega⟩
   go_wp2_with fail
   refine (gridRat_any c _ m w2 hc2 (by omega) (by omega) (by omega)).mono ?_
   rintro e w3 ⟨⟨p, q⟩, rfl, hu, hc3, hg3⟩
   have hg23 := hg2.trans hg3
   obtain ⟨e0, e1, e2, e3⟩ := hx1'.out.kept hg23 (by intro e; have := Option.some.inj e; omega)
   have g2 := g1'.out.trans hg23
   have hz2 : w.heap.size < w3.heap.size := Nat.lt_of_lt_of_le hsz1 hg23.size
   have hu2 := unit_i64 hu
   clear hg2 hg3 hg23 hc1 hc2 hd hu
   have g2' := Lib.hid g2; have hc3' := Lib.hid hc3; have hu2' := Lib.hid hu2; clear g2 hc3 hu2
   go_wp2
   refine bodyPost_ret (v := ratV (p, q)) (by simp [results, Tryz.results105, go_sem, ratV, e0, e1, e2, e3, hz2]) rfl ⟨(p, q), rfl, hu2'.out, picks_end (hc3'.out.mono (by omega)) g2'.out hlt (Nat.le_refl _) ?_⟩
   exact ((Below.refl _ _).setCell (p := ⟨w.heap.size, 0, none⟩) (Nat.le_refl _) _).setCell (p := ⟨w.heap.size, 1, none⟩) (Nat.le_refl _) _
  ·go_wp2_with fail
   refine (unitRat_any c _ w1 hc1 (by omega)).mono ?_
   rintro e w3 ⟨⟨p, q⟩, rfl, hu, hc3, hg23⟩
   obtain ⟨e0, e1, e2, e3⟩ := hx1'.out.kept hg23 (by intro e; have := Option.some.inj e; omega)
   have g2 := g1'.out.trans hg23
   have hz2 : w.heap.size < w3.heap.size := Nat.lt_of_lt_of_le hsz1 hg23.size
   have hu2 : I64P (p, q) := unit_i64 hu
   clear hg23 hc1 hu
   have g2' := Lib.hid g2; have hc3' := Lib.hid hc3; have hu2' := Lib.hid hu2; clear g2 hc3 hu2
   go_wp2
   refine bodyPost_ret (v := ratV (p, q)) (by simp [results, Tryz.results105, go_sem, ratV, e0, e1, e2, e3, hz2]) rfl ⟨(p, q), rfl, hu2'.out, picks_end (hc3'.out.mono (by omega)) g2'.out hlt (Nat.le_refl _) ?_⟩
   exact ((Below.refl _ _).setCell (p := ⟨w.heap.size, 0, none⟩) (Nat.le_refl _) _).setCell (p := ⟨w.heap.size, 1, none⟩) (Nat.le_refl _) _
  ·go_wp2_with fail
   refine (anyRat_any c _ w1 hc1 (by omega)).mono ?_
   rintro e w3 ⟨⟨p, q⟩, rfl, hu, hc3, hg23⟩
   obtain ⟨e0, e1, e2, e3⟩ := hx1'.out.kept hg23 (by intro e; have := Option.some.inj e; omega)
   have g2 := g1'.out.trans hg23
   have hz2 : w.heap.size < w3.heap.size := Nat.lt_of_lt_of_le hsz1 hg23.size
   have hu2 : I64P (p, q) := hu
   clear hg23 hc1 hu
   have g2' := Lib.hid g2; have hc3' := Lib.hid hc3; have hu2' := Lib.hid hu2; clear g2 hc3 hu2
   go_wp2
   refine bodyPost_ret (v := ratV (p, q)) (by simp [results, Tryz.results105, go_sem, ratV, e0, e1, e2, e3, hz2]) rfl ⟨(p, q), rfl, hu2'.out, picks_end (hc3'.out.mono (by omega)) g2'.out hlt (Nat.le_refl _) ?_⟩
   exact ((Below.refl _ _).setCell (p := ⟨w.heap.size, 0, none⟩) (Nat.le_refl _) _).setCell (p := ⟨w.heap.size, 1, none⟩) (Nat.le_refl _) _
 ·obtain rfl : n = 0 := by omega
  obtain rfl | rfl | rfl | rfl | rfl | rfl | rfl | rfl := hk4
  ·go_wp2_with fail
   refine (anyRat_any c _ w1 hc1 (by omega)).mono ?_
   rintro e w3 ⟨⟨p, q⟩, rfl, hu, hc3, hg23⟩
   obtain ⟨e0, e1, e2, e3⟩ := hx1'.out.kept hg23 (by intro e; have := Option.some.inj e; omega)
   have g2 := g1'.out.trans hg23
   have hz2 : w.heap.size < w3.heap.size := Nat.lt_of_lt_of_le hsz1 hg23.size
   clear hg23 hc1
   have g2' := Lib.hid g2; have hc3' := Lib.hid hc3; have hu' := Lib.hid hu; clear g2 hc3 hu
   go_wp2
   refine bodyPost_ret (v := ratV (p, q)) (by simp [results, Tryz.results105, go_sem, ratV, e0, e1, e2, e3, hz2]) rfl ⟨(p, q), rfl, hu'.out, picks_end (hc3'.out.mono (by omega)) g2'.out hlt (Nat.le_refl _) ?_⟩
   exact ((Below.refl _ _).setCell (p := ⟨w.heap.size, 0, none⟩) (Nat.le_refl _) _).setCell (p := ⟨w.heap.size, 1, none⟩) (Nat.le_refl _) _
  ·go_wp2_with fail
   refine (anyRat_any c _ w1 hc1 (by omega)).mono ?_
   rintro e w3 ⟨⟨p, q⟩, rfl, hu, hc3, hg23⟩
   obtain ⟨e0, e1, e2, e3⟩ := hx1'.out.kept hg23 (by intro e; have := Option.some.inj e; omega)
   have g2 := g1'.out.trans hg23
   have hz2 : w.heap.size < w3.heap.size := Nat.lt_of_lt_of_le hsz1 hg23.size
   clear hg23 hc1
   have g2' := Lib.hid g2; have hc3' := Lib.hid hc3; have hu' := Lib.hid hu; clear g2 hc3 hu
   go_wp2
   refine bodyPost_ret (v := ratV (p, q)) (by simp [results, Tryz.results105, go_sem, ratV, e0, e1, e2, e3, hz2]) rfl ⟨(p, q), rfl, hu'.out, picks_end (hc3'.out.mono (by omega)) g2'.out hlt (Nat.le_refl _) ?_⟩
   exact ((Below.refl _ _).setCell (p := ⟨w.heap.size, 0, none⟩) (Nat.le_refl _) _).setCell (p := ⟨w.heap.size, 1, none⟩) (Nat.le_refl _) _
  ·go_wp2_with fail
   refine (anyRat_any c _ w1 hc1 (by omega)).mono ?_
   rintro e w3 ⟨⟨p, q⟩, rfl, hu, hc3, hg23⟩
   obtain ⟨e0, e1, e2, e3⟩ := hx1'.out.kept hg23 (by intro e; have := Option.some.inj e; omega)
   have g2 := g1'.out.trans hg23
   have hz2 : w.heap.size < w3.heap.size := Nat.lt_of_lt_of_le hsz1 hg23.size
   clear hg23 hc1
   have g2' := Lib.hid g2; have hc3' := Lib.hid hc3; have hu' := Lib.hid hu; clear g2 hc3 hu
   go_wp2
   refine bodyPost_ret (v := ratV (p, q)) (by simp [results, Tryz.results105, go_sem, ratV, e0, e1, e2, e3, hz2]) rfl ⟨(p, q), rfl, hu'.out, picks_end (hc3'.out.mono (by omega)) g2'.out hlt (Nat.le_refl _) ?_⟩
   exact ((Below.refl _ _).setCell (p := ⟨w.heap.size, 0, none⟩) (Nat.le_refl _) _).setCell (p := ⟨w.heap.size, 1, none⟩) (Nat.le_refl _) _
  ·go_wp2_with fail
   refine (among_list c _ [2, 3, 4, 5, 7, 12] w1 6 hc1 (by omega) rfl (by omega) (by omega)).mono ?_
   rintro e w2 ⟨v, rfl, ⟨d, rfl, hd⟩, hc2, hg2⟩
   obtain ⟨m, rfl, hm1, hm2⟩ : ∃ m : Nat, d = (m : Int) ∧ 1 ≤ m ∧ m ≤ 12 := ⟨d.toNat, by simp at hd; omega, by simp at hd; omega, by simp at hd; omega⟩
   go_wp2_with fail
   refine (gridRat_any c _ m w2 hc2 (by omega) (by omega) (by omega)).mono ?_
   rintro e w3 ⟨⟨p, q⟩, rfl, hu, hc3, hg3⟩
   have hg23 := hg2.trans hg3
   obtain ⟨e0, e1, e2, e3⟩ := hx1'.out.kept hg23 (by intro e; have := Option.some.inj e; omega)
   have g2 := g1'.out.trans hg23
   have hz2 : w.heap.size < w3.heap.size := Nat.lt_of_lt_of_le hsz1 hg23.size
   have hu2 := unit_i64 hu
   clear hg2 hg3 hg23 hc1 hc2 hd hu
   have g2' := Lib.hid g2; have hc3' := Lib.hid hc3; have hu2' := Lib.hid hu2; clear g2 hc3 hu2
   go_wp2
   refine bodyPost_ret (v := ratV (p, q)) (by simp [results, Tryz.results105, go_sem, ratV, e0, e1, e2, e3, hz2]) rfl ⟨(p, q), rfl, hu2'.out, picks_end (hc3'.out.mono (by omega)) g2'.out hlt (Nat.le_refl _) ?_⟩
   exact ((Below.refl _ _).setCell (p := ⟨w.heap.size, 0, none⟩) (Nat.le_refl _) _).setCell (p := ⟨w.heap.size, 1, none⟩) (Nat.le_refl _) _
  ·go_wp2_with fail
   refine (among_list c _ [2, 3, 4, 5, 7, 12] w1 6 hc1 (by omega) rfl (by omega) (by omega)).mono ?_
   rintro e w2 ⟨v, rfl, ⟨d, rfl, hd⟩, hc2, hg2⟩
   obtain ⟨m, rfl, hm1, hm2⟩ : ∃ m : Nat, d = (m : Int) ∧ 1 ≤ m ∧ m ≤ 12 := ⟨d.toNat, by simp at hd; omega, by simp at hd; omega, by simp at hd; omega⟩
   go_wp2_with fail
   refine (gridRat_any c _ m w2 hc2 (by omega) (by omega) (by omega)).mono ?_
   rintro e w3 ⟨⟨p, q⟩, rfl, hu, hc3, hg3⟩
   have hg23 := hg2.trans hg3
   obtain ⟨e0, e1, e2, e3⟩ := hx1'.out.kept hg23 (by intro e; have := Option.some.inj e; omega)
   have g2 := g1'.out.trans hg23
   have hz2 : w.heap.size < w3.heap.size := Nat.lt_of_lt_of_le hsz1 hg23.size
   have hu2 := unit_i64 hu
   clear hg2 hg3 hg23 hc1 hc2 hd hu
   have g2' := Lib.hid g2; have hc3' := Lib.hid hc3; have hu2' := Lib.hid hu2; clear g2 hc3 hu2
   go_wp2
   refine bodyPost_ret (v := ratV (p, q)) (by simp [results, Tryz.results105, go_sem, ratV, e0, e1, e2, e3, hz2]) rfl ⟨(p, q), rfl, hu2'.out, picks_end (hc3'.out.mono (by omega)) g2'.out hlt (Nat.le_refl _) ?_⟩
   exact ((Below.refl _ _).setCell (p := ⟨w.heap.size, 0, none⟩) (Nat.le_refl _) _).setCell (p := ⟨w.heap.size, 1, none⟩) (Nat.le_refl _) _
  ·go_wp2_with fail
   refine (among_list c _ [2, 3, 4, 5, 7, 12] w1 6 hc1 (by omega) rfl (by omega) (by omega)).mono ?_
   rintro e w2 ⟨v, rfl, ⟨d, rfl, hd⟩, hc2, hg2⟩
   obtain ⟨m, rfl, hm1, hm2⟩ : ∃ m : Nat, d = (m : Int) ∧ 1 ≤ m ∧ m ≤ 12 := ⟨d.toNat, by simp at hd; omega, by simp at hd; omega, by simp at hd; omega⟩
   go_wp2_with fail
   refine (gridRat_any c _ m w2 hc2 (by omega) (by omega) (by omega)).mono ?_
   rintro e w3 ⟨⟨p, q⟩, rfl, hu, hc3, hg3⟩
   have hg23 := hg2.trans hg3
   obtain ⟨e0, e1, e2, e3⟩ := hx1'.out.kept hg23 (by intro e; have := Option.some.inj e; omega)
   have g2 := g1'.out.trans hg23
   have hz2 : w.heap.size < w3.heap.size := Nat.lt_of_lt_of_le hsz1 hg23.size
   have hu2 := unit_i64 hu
   clear hg2 hg3 hg23 hc1 hc2 hd hu
   have g2' := Lib.hid g2; have hc3' := Lib.hid hc3; have hu2' := Lib.hid hu2; clear g2 hc3 hu2
   go_wp2
   refine bodyPost_ret (v := ratV (p, q)) (by simp [results, Tryz.results105, go_sem, ratV, e0, e1, e2, e3, hz2]) rfl ⟨(p, q), rfl, hu2'.out, picks_end (hc3'.out.mono (by omega)) g2'.out hlt (Nat.le_refl _) ?_⟩
   exact ((Below.refl _ _).setCell (p := ⟨w.heap.size, 0, none⟩) (Nat.le_refl _) _).setCell (p := ⟨w.heap.size, 1, none⟩) (Nat.le_refl _) _
  ·go_wp2_with fail
   refine (unitRat_any c _ w1 hc1 (by omega)).mono ?_
   rintro e w3 ⟨⟨p, q⟩, rfl, hu, hc3, hg23⟩
   obtain ⟨e0, e1, e2, e3⟩ := hx1'.out.kept hg23 (by intro e; have := Option.some.inj e; omega)
   have g2 := g1'.out.trans hg23
   have hz2 : w.heap.size < w3.heap.size := Nat.lt_of_lt_of_le hsz1 hg23.size
   have hu2 : I64P (p, q) := unit_i64 hu
   clear hg23 hc1 hu
   have g2' := Lib.hid g2; have hc3' := Lib.hid hc3; have hu2' := Lib.hid hu2; clear g2 hc3 hu2
   go_wp2
   refine bodyPost_ret (v := ratV (p, q)) (by simp [results, Tryz.results105, go_sem, ratV, e0, e1, e2, e3, hz2]) rfl ⟨(p, q), rfl, hu2'.out, picks_end (hc3'.out.mono (by omega)) g2'.out hlt (Nat.le_refl _) ?_⟩
   exact ((Below.refl _ _).setCell (p := ⟨w.heap.size, 0, none⟩) (Nat.le_refl _) _).setCell (p := ⟨w.heap.size, 1, none⟩) (Nat.le_refl _) _
  ·go_wp2_with fail
   refine (anyRat_any c _ w1 hc1 (by omega)).mono ?_
   rintro e w3 ⟨⟨p, q⟩, rfl, hu, hc3, hg23⟩
   obtain ⟨e0, e1, e2, e3⟩ := hx1'.out.kept hg23 (by intro e; have := Option.some.inj e; omega)
   have g2 := g1'.out.trans hg23
   have hz2 : w.heap.size < w3.heap.size := Nat.lt_of_lt_of_le hsz1 hg23.size
   have hu2 : I64P (p, q) := hu
   clear hg23 hc1 hu
   have g2' := Lib.hid g2; have hc3' := Lib.hid hc3; have hu2' := Lib.hid hu2; clear g2 hc3 hu2
   go_wp2
   refine bodyPost_ret (v := ratV (p, q)) (by simp [results, Tryz.results105, go_sem, ratV, e0, e1, e2, e3, hz2]) rfl ⟨(p, q), rfl, hu2'.out, picks_end (hc3'.out.mono (by omega)) g2'.out hlt (Nat.le_refl _) ?_⟩
   exact ((Below.refl _ _).setCell (p := ⟨w.heap.size, 0, none⟩) (Nat.le_refl _) _).setCell (p := ⟨w.heap.size, 1, none⟩) (Nat.le_refl _) _
def NewB (B : Nat) (v : Value) : Prop := ∀ b off k cap, v = .slice (some ⟨b, off, none⟩) k cap → B ≤ b
theorem NewB.off {B b : Nat} {v : Value} (h : NewB B v) (hb : b < B) : Off b v := fun b' off k cap e => by have := h b' off k cap e; omega
theorem putR_of {l : List (Int × Int)} {x y : Int × Int} (h : y ∈ putR l x) : y ∈ l ∨ y = x := by
 unfold putR at h
 split at h
 ·exact .inl h
 ·rcases List.mem_append.1 h with q | q
  ·exact .inl (List.mem_of_mem_take q)
  ·rcases List.mem_cons.1 q with q | q
   ·exact .inr q
   ·exact .inl (List.mem_of_mem_drop q)
end Go.Proofs.YtfhhofecfllbfaaGreat

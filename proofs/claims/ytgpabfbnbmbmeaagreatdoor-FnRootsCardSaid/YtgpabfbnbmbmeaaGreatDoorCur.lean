/- The choices that a draw makes: the cursor over the bytes, told loosely: what a choice gives lies within its bounds, and nothing but the cursor turns. No conditions but small sizes. -/
import Derived.Test.YtgpabfbnbmbmeaaGreatDoorPkA
import Derived.Laws.Bits64b
namespace Go.Proofs.YtgpabfbnbmbmeaaGreatDoor
open Go.RowKit

/-- A slice of n bytes that lies in blocks below E. -/
def BytesV (w : World) (E : Nat) (v : Value) (n : Nat) : Prop :=
  ∃ ao cap, v = .slice ao n cap ∧ n ≤ 1048576 ∧ ∀ i, i < n → ∃ b off x, ao = some ⟨b, off, none⟩ ∧ b < E ∧ w.cell? ⟨b, off + i, none⟩ = some (.int .u8 x) ∧ 0 ≤ x ∧ x ≤ 255
theorem BytesV.same {w w' : World} {E n : Nat} {v : Value} (h : BytesV w E v n) (hs : ∀ k, k < E → w'.heap[k]? = w.heap[k]?) : BytesV w' E v n := by
  obtain ⟨ao, cap, rfl, hn, H⟩ := h
  refine ⟨ao, cap, rfl, hn, fun i hi => ?_⟩
  obtain ⟨b, off, x, h1, h2, h3, h4, h5⟩ := H i hi
  exact ⟨b, off, x, h1, h2, by rw [World.cell?_of_block (hs b h2)]; exact h3, h4, h5⟩
theorem BytesV.mono {w : World} {E E' n : Nat} {v : Value} (h : BytesV w E v n) (hE : E ≤ E') : BytesV w E' v n := by
  obtain ⟨ao, cap, rfl, hn, H⟩ := h
  refine ⟨ao, cap, rfl, hn, fun i hi => ?_⟩
  obtain ⟨b, off, x, h1, h2, h3⟩ := H i hi
  exact ⟨b, off, x, h1, by omega, h3⟩

/-- The cursor in block c: at most N bytes have been taken. -/
structure CurAt (w : World) (c N : Nat) : Prop where
  lt : c < w.heap.size
  bytes : ∃ v n, BytesV w c v n ∧ w.cell? ⟨c, 0, none⟩ = some v
  at_ : ∃ a : Nat, a ≤ N ∧ w.cell? ⟨c, 1, none⟩ = some (.int .i64 a)
  seed : ∃ s : Int, w.cell? ⟨c, 2, none⟩ = some (.int .u64 s)
  fr : ∀ j, w.frozen? ⟨c, j, none⟩ = false
theorem CurAt.mono {w : World} {c N M : Nat} (h : CurAt w c N) (hN : N ≤ M) : CurAt w c M :=
  ⟨h.lt, h.bytes, h.at_.imp fun _ q => ⟨by omega, q.2⟩, h.seed, h.fr⟩
theorem CurAt.kept {w w' : World} {c N : Nat} {row : Option Nat} (h : CurAt w c N) (hg : w.grownBy w' row) (hr : ∀ g, row = some g → c < g) : CurAt w' c N := by
  have hc := h.lt
  have hb : ∀ k, k ≤ c → w'.heap[k]? = w.heap[k]? := fun k hk => hg.block k (by omega) (fun e => by have := hr k e.symm; omega)
  have hcell : ∀ j, w'.cell? ⟨c, j, none⟩ = w.cell? ⟨c, j, none⟩ := fun j => World.cell?_of_block (a := ⟨c, j, none⟩) (hb c (Nat.le_refl _))
  obtain ⟨v, n, hv, h0⟩ := h.bytes
  obtain ⟨a, ha, h1⟩ := h.at_
  obtain ⟨s, h2⟩ := h.seed
  exact ⟨Nat.lt_of_lt_of_le hc hg.size, ⟨v, n, hv.same (fun k hk => hb k (by omega)), by rw [hcell]; exact h0⟩, ⟨a, ha, by rw [hcell]; exact h1⟩, ⟨s, by rw [hcell]; exact h2⟩,
    fun j => by rw [World.frozen?_of_block (a := ⟨c, j, none⟩) (hb c (Nat.le_refl _))]; exact h.fr j⟩
theorem CurAt.below {w w' : World} {c N E : Nat} (h : CurAt w c N) (hB : Below E w w') (hE : c < E) : CurAt w' c N := by
  have hcell : ∀ j, w'.cell? ⟨c, j, none⟩ = w.cell? ⟨c, j, none⟩ := fun j => hB.cell (p := ⟨c, j, none⟩) hE
  obtain ⟨v, n, hv, h0⟩ := h.bytes
  obtain ⟨a, ha, h1⟩ := h.at_
  obtain ⟨s, h2⟩ := h.seed
  exact ⟨Nat.lt_of_lt_of_le h.lt hB.size, ⟨v, n, hv.same (fun k hk => hB.block k (by omega)), by rw [hcell]; exact h0⟩, ⟨a, ha, by rw [hcell]; exact h1⟩, ⟨s, by rw [hcell]; exact h2⟩,
    fun j => by rw [hB.frozen (p := ⟨c, j, none⟩) hE]; exact h.fr j⟩

/-- The cursor's own steps: its place and its seed turn. -/
theorem CurAt.moved {w : World} {c N : Nat} (h : CurAt w c N) (a : Nat) (s : Int) (ha : a ≤ N + 1) :
    CurAt ((w.setCell ⟨c, 1, none⟩ (.int .i64 a)).setCell ⟨c, 2, none⟩ (.int .u64 s)) c (N + 1) ∧ w.grownBy ((w.setCell ⟨c, 1, none⟩ (.int .i64 a)).setCell ⟨c, 2, none⟩ (.int .u64 s)) (some c) := by
  obtain ⟨v, n, hv, h0⟩ := h.bytes
  obtain ⟨a0, ha0, h1⟩ := h.at_
  obtain ⟨s0, h2⟩ := h.seed
  have hf := h.fr
  have hb : ∀ k, k ≠ c → ((w.setCell ⟨c, 1, none⟩ (.int .i64 a)).setCell ⟨c, 2, none⟩ (.int .u64 s)).heap[k]? = w.heap[k]? := fun k hk =>
    (Below.heap_setCell _ _ _ _ hk).trans (Below.heap_setCell _ _ _ _ hk)
  refine ⟨⟨by simpa [World.setCell] using h.lt, ⟨v, n, hv.same (fun k hk => hb k (by omega)), by simp [go_sem, h0]⟩, ⟨a, ha, by simp [go_sem, h1]⟩, ⟨s, by simp [go_sem, h2]⟩, fun j => by simp [go_sem, hf]⟩,
    ⟨rfl, rfl, rfl, by simp [World.setCell], fun k _ hk => hb k (fun e => hk (by rw [e]))⟩⟩

/-- A call that turns the cursor alone: it returns a value of this kind. -/
def Picks (c N : Nat) (w : World) (P : Value → Prop) (e : Ending) (w' : World) : Prop := ∃ v, e = .returned v ∧ P v ∧ CurAt w' c N ∧ w.grownBy w' (some c)
/-- A number of 0 .. n - 1. -/
def UptoN (n : Nat) (v : Value) : Prop := ∃ x : Nat, v = .int .i64 x ∧ x < n

theorem grownBy_heap {w w' v v' : World} {row : Option Nat} (h : w.grownBy w' row) (e : v.heap = w.heap) (e' : v'.heap = w'.heap) (o : v'.os = v.os) (t : v'.tape = v.tape) (p : v'.output = v.output) : v.grownBy v' row :=
  ⟨o, t, p, by rw [e, e']; exact h.size, fun k hk hr => by rw [e, e']; exact h.block k (by rw [← e]; exact hk) hr⟩
theorem CurAt.heap {w w' : World} {c N : Nat} (h : CurAt w c N) (e : w'.heap = w.heap) : CurAt w' c N := by
  have hcell : ∀ p, w'.cell? p = w.cell? p := fun p => World.cell?_of_block (by rw [e])
  obtain ⟨v, n, hv, h0⟩ := h.bytes
  obtain ⟨a, ha, h1⟩ := h.at_
  obtain ⟨s, h2⟩ := h.seed
  exact ⟨by rw [e]; exact h.lt, ⟨v, n, hv.same (fun k hk => by rw [e]), by rw [hcell]; exact h0⟩, ⟨a, ha, by rw [hcell]; exact h1⟩, ⟨s, by rw [hcell]; exact h2⟩,
    fun j => by rw [World.frozen?_of_block (w := w) (by rw [e])]; exact h.fr j⟩
/-- The end of a step of the cursor. -/
theorem next_end {w : World} {c N : Nat} (h : CurAt w c N) (a : Nat) (s : Int) (ha : a ≤ N + 1) (q1 q2 : Nat) {x : Int} (h0 : 0 ≤ x) (h1 : x ≤ 255) :
    Picks c (N + 1) w (UptoN 256) (.returned (.int .i64 x)) ((((w.drewN q1).setCell ⟨c, 1, none⟩ (.int .i64 a)).setCell ⟨c, 2, none⟩ (.int .u64 s)).drewN q2) := by
  obtain ⟨k1, k2⟩ := h.moved a s ha
  refine ⟨_, rfl, ⟨x.toNat, by rw [Int.toNat_of_nonneg h0], by omega⟩, k1.heap rfl, grownBy_heap k2 rfl rfl rfl rfl rfl⟩

theorem low255 (y : Int) : 0 ≤ wrap64 (bits BinOp.and IntKind.u64 (IntKind.u64.wrap y / 1099511627776) 255) ∧ wrap64 (bits BinOp.and IntKind.u64 (IntKind.u64.wrap y / 1099511627776) 255) ≤ 255 := by
  have e : IntKind.u64.wrap y = y % 18446744073709551616 := by simp [IntKind.wrap, IntKind.bits, IntKind.signed]
  rw [e]
  obtain ⟨z, hz⟩ : ∃ z, y % 18446744073709551616 / 1099511627776 = z := ⟨_, rfl⟩
  have h0 : 0 ≤ z := by omega
  have h1 : z < 18446744073709551616 := by omega
  rw [hz, show z = ((z.toNat : Nat) : Int) by omega, show (255 : Int) = ((255 : Nat) : Int) from rfl, bits_and_u64_nat _ _ (by omega) (by omega)]
  have := @Nat.and_le_right z.toNat 255
  rw [wrap64_id (by omega) (by omega)]
  omega

set_option maxHeartbeats 1000000 in
theorem next_any (c N : Nat) (w : World) (h : CurAt w c N) (hN : N ≤ 1099511627776) :
    Calls Tryz.prog 55 #[.pointer (some ⟨c, 0, none⟩)] w (Picks c (N + 1) w (UptoN 256)) := by
  obtain ⟨v, n, ⟨ao, cap, rfl, hn, H⟩, h0⟩ := h.bytes
  obtain ⟨a, ha, h1⟩ := h.at_
  obtain ⟨s, h2⟩ := h.seed
  have f1 := h.fr 1
  have f2 := h.fr 2
  by_cases hlt : a < n
  · obtain ⟨b, off, x, rfl, hb, hx, x0, x1⟩ := H a hlt
    have H' := Lib.hid H
    have h' := Lib.hid h
    clear H h
    go_enter Tryz.func55, Tryz.ntmps55
    go_wp2_with fail
    go_quiet (fail)
    go_wp2_with fail
    go_quiet (fail)
    go_wp2_with fail
    go_quiet (fail)
    go_wp2_with fail
    go_ret
    exact next_end h'.out (a + 1) _ (by omega) _ _ x0 x1
  · have H' := Lib.hid H
    have h' := Lib.hid h
    clear H h
    by_cases he : a + 1 ≤ n
    · omega
    go_enter Tryz.func55, Tryz.ntmps55
    go_wp2_with fail
    go_quiet (fail)
    go_wp2_with fail
    go_quiet (fail)
    go_wp2_with fail
    go_ret
    exact next_end h'.out (a + 1) _ (by omega) _ _ (low255 _).1 (low255 _).2

theorem Picks.mono {c N M : Nat} {w : World} {P Q : Value → Prop} {e : Ending} {w' : World} (h : Picks c N w P e w') (hN : N ≤ M) (hP : ∀ v, P v → Q v) : Picks c M w Q e w' := by
  obtain ⟨v, h1, h2, h3, h4⟩ := h
  exact ⟨v, h1, hP v h2, h3.mono hN, h4⟩

set_option maxHeartbeats 400000 in
/-- A number of 0 .. n - 1. -/
theorem pick_any (c N n : Nat) (w : World) (h : CurAt w c N) (hN : N ≤ 549755813888) (hn : 1 ≤ n) (hn2 : n ≤ 1048576) :
    Calls Tryz.prog 27 #[.pointer (some ⟨c, 0, none⟩), .int .i64 n] w (Picks c (N + 2) w (UptoN n)) := by
  have c1 := next_any c N w h (by omega)
  have c1' := Lib.hid c1
  clear c1
  by_cases h1 : n ≤ 1
  · obtain rfl : n = 1 := by omega
    go_enter Tryz.func27, Tryz.ntmps27
    go_wp2
    go_ret
    exact ⟨_, rfl, ⟨0, rfl, by omega⟩, h.mono (by omega), World.grownBy.refl _ _⟩
  · have hn0 : 0 < n := by omega
    by_cases h2 : n ≤ 200
    · clear h
      go_enter Tryz.func27, Tryz.ntmps27
      go_wp2_with fail
      refine (c1'.out).mono ?_
      rintro e w1 ⟨v, rfl, ⟨x, rfl, hx⟩, hc, hg⟩
      go_wp2
      go_ret
      exact ⟨_, rfl, ⟨x % n, rfl, Nat.mod_lt _ hn0⟩, hc.mono (by omega), hg⟩
    · clear h
      go_enter Tryz.func27, Tryz.ntmps27
      go_wp2_with fail
      refine (c1'.out).mono ?_
      rintro e w1 ⟨v, rfl, ⟨x, rfl, hx⟩, hc, hg⟩
      go_wp2_with fail
      refine (next_any c (N + 1) w1 hc (by omega)).mono ?_
      rintro e w2 ⟨v, rfl, ⟨y, rfl, hy⟩, hc2, hg2⟩
      go_wp2
      go_ret
      exact ⟨_, rfl, ⟨(x * 256 + y) % n, by simp, Nat.mod_lt _ hn0⟩, hc2, hg.trans hg2⟩

/-- Once in n times. -/
theorem one_any (c N n : Nat) (w : World) (h : CurAt w c N) (hN : N ≤ 549755813888) (hn : 1 ≤ n) (hn2 : n ≤ 1048576) :
    Calls Tryz.prog 25 #[.pointer (some ⟨c, 0, none⟩), .int .i64 n] w (Picks c (N + 2) w fun v => ∃ b : Bool, v = .bool b) := by
  have c1 := pick_any c N n w h hN hn hn2
  have c1' := Lib.hid c1
  clear c1
  clear h
  go_enter Tryz.func25, Tryz.ntmps25
  go_wp2_with fail
  refine (c1'.out).mono ?_
  rintro e w1 ⟨v, rfl, ⟨x, rfl, hx⟩, hc, hg⟩
  go_wp2
  go_ret
  exact ⟨_, rfl, ⟨_, rfl⟩, hc, hg⟩

/-- A number of a list. -/
theorem among_any (c N : Nat) (u : Value) (xs : List Int) (w : World) (h : CurAt w c N) (hN : N ≤ 549755813888) (hu : IntsV w u xs) (hlt : ∀ b off k cap, u = .slice (some ⟨b, off, none⟩) k cap → b ≠ c) (h0 : 0 < xs.length) (hn2 : xs.length ≤ 1048576) :
    Calls Tryz.prog 28 #[.pointer (some ⟨c, 0, none⟩), u] w (Picks c (N + 2) w fun v => ∃ x, v = .int .i64 x ∧ x ∈ xs) := by
  obtain ⟨n, hn⟩ : ∃ n, xs.length = n := ⟨_, rfl⟩
  obtain ⟨ao, cap, rfl, _, _, H⟩ := hu
  rw [hn] at h0 hn2 H ⊢
  have c1 := pick_any c N n w h hN h0 hn2
  have c1' := Lib.hid c1
  have hn' := Lib.hid hn
  clear c1 hn
  clear h
  go_enter Tryz.func28, Tryz.ntmps28
  go_wp2_with fail
  refine (c1'.out).mono ?_
  rintro e w1 ⟨v, rfl, ⟨x, rfl, hx⟩, hc, hg⟩
  obtain ⟨b, off, rfl, hcell⟩ := H x hx
  have hb := hlt b off n cap (by rw [hn'.out])
  have hcell' : w1.cell? ⟨b, off + x, none⟩ = some (.int .i64 (nth xs x)) := by
    rw [← hcell]
    refine World.cell?_of_block (a := ⟨b, off + x, none⟩) (hg.block b (World.block_lt_of_cell? w _ hcell) ?_)
    intro e; exact hb (Option.some.inj e)
  clear H hcell hlt hb
  go_wp2
  go_ret
  exact ⟨_, rfl, ⟨nth xs x, rfl, nth_mem (by rw [hn'.out]; exact hx)⟩, hc, hg⟩

/-- A list that has just been laid. -/
theorem IntsV.built (w : World) (xs : List Int) (n : Nat) (hn : xs.length = n) (hm : n ≤ 1048576) : IntsV (w.alloc (.cells (xs.map (Value.int .i64)).toArray 3)) (.slice (some ⟨w.heap.size, 0, none⟩) n n) xs := by
  subst hn
  refine ⟨_, _, rfl, ⟨Nat.le_refl _, fun e => by cases e⟩, by unfold maxLen; omega, fun i hi => ⟨_, _, rfl, ?_⟩⟩
  rw [Nat.zero_add, nth_eq hi, World.cell?_alloc_at _ _ _ _ rfl]
  simp [hi]

/-- A number of a list that has just been laid. -/
theorem among_list (c N : Nat) (xs : List Int) (w : World) (n : Nat) (h : CurAt w c N) (hN : N ≤ 549755813888) (hn : xs.length = n) (h0 : 0 < n) (hn2 : n ≤ 1048576) :
    Calls Tryz.prog 28 #[.pointer (some ⟨c, 0, none⟩), .slice (some ⟨w.heap.size, 0, none⟩) n n] (w.alloc (.cells (xs.map (Value.int .i64)).toArray 3)) (Picks c (N + 2) w fun v => ∃ x, v = .int .i64 x ∧ x ∈ xs) := by
  have hg : w.grownBy (w.alloc (.cells (xs.map (Value.int .i64)).toArray 3)) (some c) := World.grownBy_alloc _ _ _
  refine (among_any c N _ xs _ (h.kept (row := none) (World.grownBy_alloc _ _ _) (fun _ e => by cases e)) hN (IntsV.built w xs n hn hn2) ?_ (by omega) (by omega)).mono ?_
  · intro b off k cap e
    have := h.lt
    simp only [Value.slice.injEq, Option.some.injEq, Addr.mk.injEq] at e
    omega
  · rintro e w' ⟨v, h1, h2, h3, h4⟩
    exact ⟨v, h1, h2, h3, hg.trans h4⟩

theorem Grow.kept {w w' : World} {B : Nat} {v : Value} {xs : List Int} {row : Option Nat} (h : Grow w B v xs) (hg : w.grownBy w' row) (hr : ∀ g, row = some g → g < B) : Grow w' B v xs := by
  refine World.ownsRow.kept h hg ?_
  rcases h.2 with ⟨rfl, _⟩ | ⟨g, cap, cur, rfl, h1, _⟩
  · exact .inl rfl
  · refine .inr (fun e => ?_)
    have := hr g e.symm
    omega
theorem Grow.mono {w : World} {B B' : Nat} {v : Value} {xs : List Int} (h : Grow w B v xs) (hB : B' ≤ B) : Grow w B' v xs := World.ownsRow.mono h hB
theorem Grow.shape {w : World} {B : Nat} {v : Value} {xs : List Int} (h : Grow w B v xs) : ∃ ao cap, v = .slice ao xs.length cap := by
  rcases h.2 with ⟨rfl, h0⟩ | ⟨g, cap, cur, rfl, h1⟩
  · exact ⟨none, 0, by rw [h0]⟩
  · exact ⟨_, _, rfl⟩
theorem Grow.block {w : World} {B : Nat} {v : Value} {xs : List Int} (h : Grow w B v xs) : ∀ g, v.ownBlock = some g → B ≤ g := fun g hg => (World.ownsRow.lt h g hg).1
/-- One more step that writes new memory alone. -/
theorem grown_new {a b d : World} {c : Nat} {row : Option Nat} (h : a.grownBy b (some c)) (k : b.grownBy d row) (hr : ∀ g, row = some g → a.heap.size ≤ g) : a.grownBy d (some c) := h.andThen k (fun j hj => .inl (hr j hj))
theorem grown_below {a b d : World} {c E : Nat} (h : a.grownBy b (some c)) (k : Below E b d) (hE : a.heap.size ≤ E) : a.grownBy d (some c) :=
  ⟨k.os.trans h.os, k.tape.trans h.tape, k.output.trans h.output, Nat.le_trans h.size k.size, fun i hi hne => (k.block i (by omega)).trans (h.block i hi hne)⟩

/-- A slice of ints that does not lie in block c. -/
def Off (c : Nat) (v : Value) : Prop := ∀ b off k cap, v = .slice (some ⟨b, off, none⟩) k cap → b ≠ c
theorem IntsV.off {w w' : World} {c : Nat} {v : Value} {xs : List Int} (h : IntsV w v xs) (ho : Off c v) (hg : w.grownBy w' (some c)) : IntsV w' v xs := by
  obtain ⟨ao, cap, rfl, h1, h2, H⟩ := h
  refine ⟨ao, cap, rfl, h1, h2, fun i hi => ?_⟩
  obtain ⟨b, off, rfl, hc⟩ := H i hi
  refine ⟨b, off, rfl, ?_⟩
  rw [← hc]
  exact World.cell?_of_block (a := ⟨b, off + i, none⟩) (hg.block b (World.block_lt_of_cell? w _ hc) (fun e => ho b off _ _ rfl (Option.some.inj e)))

/-- The bytes that a draw reads: n of them, at most a million. -/
def CodeV (w : World) (v : Value) (n : Nat) : Prop := BytesV w w.heap.size v n
theorem CodeV.below {w w' : World} {v : Value} {n : Nat} (h : CodeV w v n) (hB : Below w.heap.size w w') : CodeV w' v n :=
  (BytesV.same h (fun k hk => hB.block k hk)).mono hB.size
theorem CurAt.start {w : World} {v : Value} {n : Nat} (h : CodeV w v n) : CurAt (w.alloc (.cells #[v, .int .i64 0, .int .u64 0] 50)) w.heap.size 0 :=
  ⟨by simp, ⟨v, n, BytesV.same h (fun k hk => Below.heap_alloc _ _ _ hk), by simp [go_sem]⟩, ⟨0, Nat.le_refl _, by simp [go_sem]⟩, ⟨0, by simp [go_sem]⟩, fun j => by simp [go_sem]⟩
theorem start_below {w w' : World} {o : Obj} (hg : (w.alloc o).grownBy w' (some w.heap.size)) : Below w.heap.size w w' :=
  ((Below.refl w.heap.size w).alloc (Nat.le_refl _) o).grown hg (by simp) (fun k hk => by cases hk; exact Nat.le_refl _)

end Go.Proofs.YtgpabfbnbmbmeaaGreatDoor

/- The reference's ShortestWalk: its table of words, its search. No conditions. -/
import Derived.Test.YtblippeklbhepaaShortWalk
namespace Go.Proofs.Ytblippeklbhepaa
open Go.RowKit

/-- Rows of ints and rows of slices lie in other blocks. -/
theorem ownsApart {w : World} {B B' n m : Nat} {v u : Value} {xs ys : List Value} (h : w.ownsRow B 39 1 v n xs) (k : w.ownsRow B' 3 1 u m ys) : v.ownBlock = none ∨ v.ownBlock ≠ u.ownBlock := by
  rcases h.2 with ⟨rfl, _⟩ | ⟨g1, _, cur, rfl, _, h1, _⟩
  · exact .inl rfl
  · rcases k.2 with ⟨rfl, _⟩ | ⟨g2, _, cur2, rfl, _, h2, _⟩
    · exact .inr (fun e => by cases e)
    · refine .inr (fun e => ?_)
      have e2 : g1 = g2 := Option.some.inj e
      subst e2
      rw [h1] at h2
      simp at h2
theorem ownsApart' {w : World} {B B' n m : Nat} {v u : Value} {xs ys : List Value} (h : w.ownsRow B 39 1 v n xs) (k : w.ownsRow B' 3 1 u m ys) : u.ownBlock = none ∨ u.ownBlock ≠ v.ownBlock := by
  rcases k.2 with ⟨rfl, _⟩ | ⟨g2, _, cur2, rfl, _, h2, _⟩
  · exact .inl rfl
  · rcases ownsApart h k with h1 | h1
    · exact .inr (fun e => by rw [h1] at e; cases e)
    · exact .inr (fun e => h1 e.symm)

def updN (f : Nat → Nat) (m r : Nat) : Nat → Nat := fun i => if i = m then r else f i
def updW (f : Nat → List Nat) (m : Nat) (r : List Nat) : Nat → List Nat := fun i => if i = m then r else f i
/-- The table of words: row i holds word i, its first letter first. -/
structure WsT (w : World) (B : Nat) (v : Value) (m : Nat) (rb rc : Nat → Nat) (ws : Nat → List Nat) : Prop where
  outer : w.ownsRow B 39 1 v m ((List.range m).map fun i => Value.slice (some ⟨rb i, 0, none⟩) (ws i).length (rc i))
  rows : ∀ i, i < m → RowAt w B (rb i) (ws i).length (rc i) (natL (ws i).reverse)
theorem WsT.keep {w w' : World} {B m : Nat} {v : Value} {rb rc : Nat → Nat} {ws : Nat → List Nat} {r : Option Nat} (h : WsT w B v m rb rc ws) (hg : w.grownBy w' r) (hv : v.ownBlock = none ∨ v.ownBlock ≠ r) (hr : ∀ i, i < m → r ≠ some (rb i)) : WsT w' B v m rb rc ws :=
  ⟨World.ownsRow.kept h.outer hg hv, fun i hi => (h.rows i hi).kept hg (hr i hi)⟩
theorem WsT.below {w w' : World} {B m : Nat} {v : Value} {rb rc : Nat → Nat} {ws : Nat → List Nat} (h : WsT w B v m rb rc ws) (hB : Below w.heap.size w w') : WsT w' B v m rb rc ws :=
  h.keep (bgrowB hB none) (by cases v.ownBlock <;> simp) (fun _ _ => by simp)
theorem WsT.form {w : World} {B m : Nat} {v : Value} {rb rc : Nat → Nat} {ws : Nat → List Nat} (h : WsT w B v m rb rc ws) (hm : 0 < m) : ∃ g cap, v = .slice (some ⟨g, 0, none⟩) m cap ∧ ∀ i, i < m → w.cell? ⟨g, i, none⟩ = some (.slice (some ⟨rb i, 0, none⟩) (ws i).length (rc i)) := by
  rcases h.outer.2 with ⟨_, h0⟩ | ⟨g, cap, _, e, _⟩
  · omega
  · subst e
    refine ⟨g, cap, rfl, fun i hi => ?_⟩
    rw [World.ownsRow.cellAt h.outer i (by omega)]
    simp [hi]

theorem wpList_append_ws {ops : Array Oper} {rest : List Oper} {o : Oper} {a : Act} {w : World} {Q : Exit → Act → World → Prop} (hgd : o.guard = none) (s x : Operand)
    (ho : o.op = .call { callee := .builtin .append, args := #[s, x], argTypes := #[23, 23] }) (B : Nat) (v : Value) (m r len c cc : Nat) (rb rc : Nat → Nat) (ws : Nat → List Nat) (p : List Nat) (hs : a.eval s = v)
    (hx : a.eval x = .slice (some ⟨w.heap.size, 0, none⟩) 1 cc) (hown : WsT w B v m rb rc ws) (hr : RowAt w B r len c (natL p.reverse)) (hl : len = p.length) (hm : m ≤ 1099511627776) (hB : B ≤ w.heap.size)
    (h : ∀ v' w', WsT w' B v' (m + 1) (updN rb m r) (updN rc m c) (updW ws m p) → w.grownBy w' v.ownBlock → wpList Try.prog ops Q rest (a.put o.dst v') w') :
    wpList Try.prog ops Q (o :: rest) a (w.alloc (.cells #[.slice (some ⟨r, 0, none⟩) len c] 39)) := by
  obtain ⟨i, hi, hz0, hz1, hz2⟩ := info_parts Try.infoInts
  refine wpList_append_own _ hgd s x 23 ho B 39 i (.slice none 0 0) 1 24 Try.underlying23 hi hz0 hz1 hz2 rfl (by decide) v m _ hs (World.ownsRow.alloc hown.outer _) ⟨w.heap.size, 0, none⟩ 1 cc [.slice (some ⟨r, 0, none⟩) len c] hx rfl (cell_one_new _ _ _) (by simp [Value.oneCell']) (by unfold maxLen; omega) (by omega) (by simp; omega) ?_
  intro v' w' h1 h2 _
  have h3 : w.grownBy w' v.ownBlock := (World.grownBy_alloc _ _ _).trans h2
  have hne : ∀ (rr n' c' : Nat) (xs : List Int), RowAt w B rr n' c' xs → v.ownBlock ≠ some rr := fun rr n' c' xs hrr e => by
    rcases ownsApart hown.outer hrr with h4 | h4
    · rw [h4] at e; cases e
    · exact h4 e
  have old : ∀ i, i < m → updN rb m r i = rb i ∧ updN rc m c i = rc i ∧ updW ws m p i = ws i := fun i hi => by
    have q : i ≠ m := by omega
    exact ⟨if_neg q, if_neg q, if_neg q⟩
  have new : updN rb m r m = r ∧ updN rc m c m = c ∧ updW ws m p m = p := ⟨if_pos rfl, if_pos rfl, if_pos rfl⟩
  refine h v' w' ⟨?_, fun j hj => ?_⟩ h3
  · rw [List.range_succ, List.map_append]
    rw [show ((List.range m).map fun i => Value.slice (some ⟨updN rb m r i, 0, none⟩) (updW ws m p i).length (updN rc m c i)) = (List.range m).map fun i => Value.slice (some ⟨rb i, 0, none⟩) (ws i).length (rc i) from List.map_congr_left fun i hi => by
      obtain ⟨e1, e2, e3⟩ := old i (List.mem_range.1 hi)
      rw [e1, e2, e3]]
    simp only [List.map_cons, List.map_nil, new.1, new.2.1, new.2.2, ← hl]
    exact h1
  · by_cases e : j = m
    · subst e
      rw [new.1, new.2.1, new.2.2, ← hl]
      exact hr.kept h3 (hne _ _ _ _ hr)
    · obtain ⟨e1, e2, e3⟩ := old j (by omega)
      rw [e1, e2, e3]
      exact (hown.rows j (by omega)).kept h3 (hne _ _ _ _ (hown.rows j (by omega)))
theorem wpList_append_wsN {ops : Array Oper} {rest : List Oper} {o : Oper} {a : Act} {w : World} {Q : Exit → Act → World → Prop} (hgd : o.guard = none) (s x : Operand)
    (ho : o.op = .call { callee := .builtin .append, args := #[s, x], argTypes := #[23, 23] }) (B : Nat) (v : Value) (m r len c cc : Nat) (rb rc : Nat → Nat) (ws : Nat → List Nat) (p : List Nat) (N : Nat) (hN : w.heap.size = N) (hs : a.eval s = v)
    (hx : a.eval x = .slice (some ⟨N, 0, none⟩) 1 cc) (hown : WsT w B v m rb rc ws) (hr : RowAt w B r len c (natL p.reverse)) (hl : len = p.length) (hm : m ≤ 1099511627776) (hB : B ≤ w.heap.size)
    (h : ∀ v' w', WsT w' B v' (m + 1) (updN rb m r) (updN rc m c) (updW ws m p) → w.grownBy w' v.ownBlock → wpList Try.prog ops Q rest (a.put o.dst v') w') :
    wpList Try.prog ops Q (o :: rest) a (w.alloc (.cells #[.slice (some ⟨r, 0, none⟩) len c] 39)) := by
  subst hN
  exact wpList_append_ws hgd s x ho B v m r len c cc rb rc ws p hs hx hown hr hl hm hB h

/-- The states where the words end, but for the first one. -/
def metL (ws : Nat → List Nat) (m : Nat) : List Int := (List.range (m - 1)).map fun i => (((ws (i + 1)).headD 0 : Nat) : Int)
theorem metL_len (ws : Nat → List Nat) (m : Nat) : (metL ws m).length = m - 1 := by simp [metL]
theorem metL_succ {ws : Nat → List Nat} {m j : Nat} {p : List Nat} (hm : 1 ≤ m) : metL (updW ws m (j :: p)) (m + 1) = metL ws m ++ [(j : Int)] := by
  unfold metL
  rw [show m + 1 - 1 = (m - 1) + 1 by omega, List.range_succ, List.map_append]
  congr 1
  · apply List.map_congr_left
    intro i hi
    have := List.mem_range.1 hi
    rw [show updW ws m (j :: p) (i + 1) = ws (i + 1) from if_neg (by omega)]
  · simp only [List.map_cons, List.map_nil]
    rw [show m - 1 + 1 = m by omega, show updW ws m (j :: p) m = j :: p from if_pos rfl]; rfl
theorem metL_has {g : Nat → Nat → Int} {n a b : Nat} {ws : Nat → List Nat} {m k t : Nat} (h : WsI g n a b ws m k t) (j : Nat) : hasI (metL ws m) j = true ↔ ∃ i v, 1 ≤ i ∧ i < m ∧ ws i = j :: v := by
  unfold hasI metL
  rw [List.any_eq_true]
  constructor
  · rintro ⟨x, hx, he⟩
    obtain ⟨i, hi, rfl⟩ := List.mem_map.1 hx
    have hi' := List.mem_range.1 hi
    have hw := h.walk (i + 1) (by omega)
    cases hq : ws (i + 1) with
    | nil => rw [hq] at hw; exact hw.elim
    | cons y v =>
      rw [hq] at he
      have he2 : ((y : Nat) : Int) = (j : Int) := by simpa using he
      have : y = j := by omega
      subst this
      exact ⟨i + 1, v, by omega, by omega, hq⟩
  · rintro ⟨i, v, h1, h2, h3⟩
    refine ⟨j, List.mem_map.2 ⟨i - 1, List.mem_range.2 (by omega), ?_⟩, by simp⟩
    rw [show i - 1 + 1 = i by omega, h3]; rfl
theorem WsI.wlen {g : Nat → Nat → Int} {n a b : Nat} {ws : Nat → List Nat} {m k t : Nat} (h : WsI g n a b ws m k t) : ∀ i, i < m → (ws i).length ≤ i + 1 := by
  intro i
  induction i using Nat.strongRecOn with
  | _ i ih =>
    intro hi
    by_cases h0 : i = 0
    · subst h0; rw [h.zero]; simp
    · obtain ⟨x, p, e, hp, _, _⟩ := h.from' i (by omega) hi
      have hpi : p < i := by
        apply Decidable.byContradiction
        intro q
        have hs := slt_snoc x (ws p)
        rw [← e] at hs
        by_cases r : i = p
        · subst r; exact slt_irrefl _ hs
        · exact slt_irrefl _ (slt_trans hs (h.sorted i p (by omega) hp))
      have := ih p hpi hp
      rw [e, List.length_cons]; omega
theorem Own.grow {w : World} {B E : Nat} {v : Value} {xs : List Int} (h : Own w B E v xs) (hne : xs ≠ []) : Grow w B v xs := by
  rcases h with ⟨e, _⟩ | ⟨g, cap, _, _, _, h⟩
  · exact absurd e hne
  · exact h

set_option maxRecDepth 100000 in
set_option maxHeartbeats 4000000 in
theorem specShortest_yes (v : Value) (g : List (List Int)) (n a b : Nat) (w : World) (hv : RowsV w v g) (hm : szIntSS g ≤ 1099511627776) (hg : graphB g = true) (hn : g.length = n) (ha : a < n) (hb : b < n) :
    Calls Try.prog 51 #[v, .int .i64 a, .int .i64 b] w (RetOB Own (ShortestWalk_v g a b) w) := by
  obtain ⟨V, hV⟩ : ∃ V, ShortestWalk_v g a b = V := ⟨_, rfl⟩
  rw [hV]
  have hask : walkAsked g a b = true := by
    unfold walkAsked
    simp only [Bool.and_eq_true, inB_true]
    refine ⟨⟨hg, ?_⟩, ?_⟩ <;> omega
  have hB0 : Below w.heap.size w (w.alloc (.cells #[.int .i64 a, .int .i64 b] 3)) := (Below.refl _ _).alloc (Nat.le_refl _) _
  have hh : hasB g [(a : Int), (b : Int)] = true := by
    have h1 : inB (a : Int) 0 ((g.length : Int) - 1) = true := by rw [inB_true]; omega
    have h2 : inB (b : Int) 0 ((g.length : Int) - 1) = true := by rw [inB_true]; omega
    simp [hasB, allB, hg, h1, h2]
  have c1 := grHas_any v _ g [(a : Int), (b : Int)] _ (hv.below hB0) (IntsV.two w a b) hm (by simp)
  rw [hh] at c1
  obtain ⟨bg, off, gcap, ro, rof, rcc, rfl, H⟩ := hv.graph hg hn
  obtain ⟨n1, n8, -, hent⟩ := graphB_true hg
  rw [hn] at n1 n8 hent
  obtain ⟨w1, hw1⟩ : ∃ W, w.alloc (.cells #[.int .i64 a, .int .i64 b] 3) = W := ⟨_, rfl⟩
  rw [hw1] at c1 hB0
  have hz1 : w.heap.size + 1 = w1.heap.size := by rw [← hw1]; simp
  obtain ⟨w2, hw2⟩ : ∃ W, w1.alloc (.cells #[.int .i64 a] 3) = W := ⟨_, rfl⟩
  have hz2 : w1.heap.size + 1 = w2.heap.size := by rw [← hw2]; simp
  obtain ⟨w3, hw3⟩ : ∃ W, w2.alloc (.cells #[.slice (some ⟨w1.heap.size, 0, none⟩) 1 1] 39) = W := ⟨_, rfl⟩
  have hz3 : w2.heap.size + 1 = w3.heap.size := by rw [← hw3]; simp
  have hB2 : Below w.heap.size w w2 := by rw [← hw2]; exact hB0.alloc hB0.size _
  have hB3 : Below w.heap.size w w3 := by rw [← hw3]; exact hB2.alloc hB2.size _
  have hrow2 : RowAt w2 w.heap.size w1.heap.size 1 1 (natL [a]) := by
    rw [← hw2]
    exact ⟨by simp [natL], .inr ⟨w1.heap.size, 1, #[.int .i64 a], rfl, by omega, heap_alloc_new w1 _, Nat.le_refl _, by simp [maxLen], rfl, rfl⟩⟩
  have hT3 : WsT w3 w.heap.size (.slice (some ⟨w2.heap.size, 0, none⟩) 1 1) 1 (fun _ => w1.heap.size) (fun _ => 1) (fun _ => [a]) := by
    refine ⟨?_, fun i _ => ?_⟩
    · rw [← hw3]
      exact ⟨by simp, .inr ⟨w2.heap.size, 1, #[.slice (some ⟨w1.heap.size, 0, none⟩) 1 1], rfl, by omega, heap_alloc_new w2 _, Nat.le_refl _, by simp [maxLen], rfl, rfl⟩⟩
    · have hBx : Below w2.heap.size w2 w3 := by rw [← hw3]; exact (Below.refl _ _).alloc (Nat.le_refl _) _
      exact hrow2.below hBx (by omega)
  have hWs : WsI (ent g) n a b (fun _ => [a]) 1 0 0 := WsI.start
  have hlo : w.heap.size ≤ w3.heap.size := hB3.size
  have hw1' := Lib.hid hw1
  have hw2' := Lib.hid hw2
  have hw3' := Lib.hid hw3
  have c1' := Lib.hid c1
  have H' := Lib.hid H
  have hg' := Lib.hid hg
  have hn' := Lib.hid hn
  have hask' := Lib.hid hask
  have hV' := Lib.hid hV
  have hB3' := Lib.hid hB3
  have hT3' := Lib.hid hT3
  have hWs' := Lib.hid hWs
  have hent' := Lib.hid hent
  clear hw1 hw2 hw3 c1 H hg hn hask hV hB3 hT3 hWs hent
  clear hv hm hB0 hB2 hrow2 hh
  go_enter Try.func51, Try.ntmps51
  go_wp2_with fail
  rw [hw1'.out]
  go_wp2_with fail
  refine (c1'.out).mono ?_
  rintro e w_ ⟨rfl, rfl⟩
  go_wp2
  rw [hw2'.out, hw3'.out]
  clear hz1 hz2 hz3
  go_loopw [8, 9, 10] (fun wv mv i wr => ∃ (k m : Nat) (rb rc : Nat → Nat) (ws : Nat → List Nat), k ≤ m ∧ i = .int .i64 k ∧ WsT wr w.heap.size wv m rb rc ws ∧ Grow wr w.heap.size mv (metL ws m) ∧ (∀ i, i < m → mv.ownBlock ≠ some (rb i)) ∧ Below w.heap.size w wr ∧ Hid (WsI (ent g) n a b ws m k 0)) (fun _ _ i _ => n + 2 - (intOf i).toNat)
  case atStart => exact ⟨0, 1, _, _, _, by omega, rfl, hT3'.out, Grow.nil _ _, fun _ _ e => (by cases e), hB3'.out, hWs'⟩
  case round =>
    clear hT3' hB3' hWs' hw1' hw2' hw3'
    obtain ⟨k, m, rb, rc, ws, hk, rfl, hT, hmet, hsep, hB, hI⟩ := hrel
    have hm9 : m ≤ n + 1 := hI.out.len
    obtain ⟨gw, cw, rfl, hcells⟩ := hT.form (by have := hI.out.one; omega)
    by_cases hlt : k < m
    · obtain ⟨y, u, hyu⟩ : ∃ y u, ws k = y :: u := by
        have := hI.out.walk k hlt
        cases hq : ws k with
        | nil => rw [hq] at this; exact this.elim
        | cons y u => exact ⟨y, u, rfl⟩
      have hyn : y < n := by
        have := hI.out.walk k hlt
        rw [hyu] at this
        exact (rwk_wk ha _ _ this).2
      have p1 := hcells k hlt
      have hrk := hT.rows k hlt
      rw [hyu, List.length_cons] at p1 hrk
      have q1 := hrk.cell (j := u.length) (by omega)
      have hlast : nth (natL (y :: u).reverse) u.length = y := by
        unfold natL
        rw [nth_eq (by simp)]; simp
      rw [hlast] at q1
      have p3 := (H'.out.below hB y hyn).1
      obtain ⟨L, hL⟩ : ∃ L, u.length = L := ⟨_, rfl⟩
      rw [hL] at p1 q1
      have hL8 : L ≤ 1048576 := by
        have := hI.out.wlen k hlt
        rw [hyu, List.length_cons] at this
        omega
      clear hrk hlast hcells
      have hX := Lib.hid (And.intro hT (And.intro hmet (And.intro hsep hB)))
      clear hT hmet hsep
      have hL' := Lib.hid hL
      have hyu' := Lib.hid hyu
      clear hL hyu
      go_wp2_with fail
      go_quiet (fail)
      have hBq : Below wr.heap.size wr (wr.drewN nq) := below_drewN (Below.refl _ _) _
      have hX2 := Lib.hid (And.intro (hX.out.1.below hBq) (And.intro (hX.out.2.1.below hBq) (And.intro hX.out.2.2.1 (hX.out.2.2.2.trans (hBq.mono hX.out.2.2.2.size)))))
      have p3q := bkeepB hBq p3
      clear hX p1 q1 p3
      obtain ⟨wq, hwq⟩ : ∃ W, wr.drewN nq = W := ⟨_, rfl⟩
      rw [hwq] at hX2 p3q ⊢
      clear hBq hwq
      go_wp2
      go_loopw [8, 9, 47] (fun wv mv i wr => ∃ (j m : Nat) (rb rc : Nat → Nat) (ws : Nat → List Nat), j ≤ n ∧ i = .int .i64 j ∧ k < m ∧ ws k = y :: u ∧ WsT wr w.heap.size wv m rb rc ws ∧ Grow wr w.heap.size mv (metL ws m) ∧ (∀ i, i < m → mv.ownBlock ≠ some (rb i)) ∧ Below w.heap.size w wr ∧ Hid (WsI (ent g) n a b ws m k j)) (fun _ _ i _ => n - (intOf i).toNat)
      case atStart => exact ⟨0, m, rb, rc, ws, Nat.zero_le _, rfl, hlt, hyu'.out, hX2.out.1, hX2.out.2.1, hX2.out.2.2.1, hX2.out.2.2.2, hI⟩
      case round =>
        clear hX2 hI hyu' p3q hm9 hlt hk hB
        obtain ⟨j, m, rb, rc, ws, hj, rfl, hlt, hyu, hT, hmet, hsep, hB, hI⟩ := hrel
        have hm9 : m ≤ n + 1 := hI.out.len
        by_cases hltj : j < n
        · have p2 := (H'.out.below hB y hyn).2.2 j hltj
          have hz := hent'.out y j hyn hltj
          obtain ⟨z, hzz⟩ : ∃ z, ent g y j = z := ⟨_, rfl⟩
          rw [hzz] at p2 hz
          by_cases c1 : z = 0
          · have d1 : (z == 0) = true := by rw [beq_iff_eq]; exact c1
            have hI2 := Lib.hid (hI.out.skip (fun y' u' e hg => by
              rw [hyu] at e
              injection e with e1 e2
              rw [← e1, hzz, c1] at hg
              omega))
            clear hI c1
            have hT' := Lib.hid hT
            have hmet' := Lib.hid hmet
            have hsep' := Lib.hid hsep
            have hB' := Lib.hid hB
            have hyu' := Lib.hid hyu
            have hzz' := Lib.hid hzz
            clear hT hmet hsep hB hyu hzz
            go_wp2
            go_roundw
            case rel => exact ⟨j + 1, m, rb, rc, ws, by omega, by go_num, hlt, hyu'.out, hT'.out, hmet'.out, hsep'.out, hB'.out, hI2⟩
            case measure => simp [intOf]; omega
          · have d1 : (z == 0) = false := by rw [beq_eq_false_iff_ne]; exact c1
            have hH := l1Has_any _ (metL ws m) (j : Int) _ hmet.read (by rw [metL_len]; omega)
            cases hhas : hasI (metL ws m) (j : Int)
            · rw [hhas] at hH
              have hnew : ∀ i v, 1 ≤ i → i < m → ws i ≠ j :: v := fun i v h1 h2 e => by
                rw [(metL_has hI.out j).2 ⟨i, v, h1, h2, e⟩] at hhas
                cases hhas
              have hgp : 0 < ent g y j := by rw [hzz]; omega
              obtain ⟨gw, cw, rfl, hcells⟩ := hT.form (by omega)
              have p1 := hcells k hlt
              have hrk := hT.rows k hlt
              have hlen := hI.out.wlen k hlt
              rw [hyu, List.length_cons] at p1 hrk hlen
              have hown1 := l1Own_any _ _ wr hrk.ints (by rw [natL_len, List.length_reverse, List.length_cons]; omega)
              have hbw := fun b hb => (World.ownsRow.lt hmet b hb)
              have hbo := fun b hb => (World.ownsRow.lt hT.outer b hb)
              have hapA := fun (w' : World) (v' u' : Value) (m' : Nat) rb' rc' ws' ys (h1 : WsT w' w.heap.size v' m' rb' rc' ws') (h2 : Grow w' w.heap.size u' ys) => ownsApart h1.outer h2
              have hapB := fun (w' : World) (v' u' : Value) (m' : Nat) rb' rc' ws' ys (h1 : WsT w' w.heap.size v' m' rb' rc' ws') (h2 : Grow w' w.heap.size u' ys) => ownsApart' h1.outer h2
              have hrbs : ∀ i, i < m → rb i < wr.heap.size := fun i hi => (hT.rows i hi).lt.2
              have hmadd : j ≠ b → WsI (ent g) n a b (updW ws m (j :: ws k)) (m + 1) k (j + 1) := fun hjb => hI.out.add hlt hltj hyu hgp hnew hjb
              have hfound : j = b → Least (ent g) n a b (ws k) := fun e => by
                subst e
                exact hI.out.found hlt ha hb hyu hgp
              have hone := hI.out.one
              have hHo := hown1
              obtain ⟨L, hL⟩ : ∃ L, u.length = L := ⟨_, rfl⟩
              rw [hL] at p1 hHo hlen
              have hsw := hB.size
              clear hcells hrk hown1 hhas hnew hI c1 hgp
              have hT' := Lib.hid hT
              have hmet' := Lib.hid hmet
              have hsep' := Lib.hid hsep
              have hB' := Lib.hid hB
              have hyu' := Lib.hid hyu
              have hzz' := Lib.hid hzz
              have hH' := Lib.hid hH
              have hHo' := Lib.hid hHo
              have hbw' := Lib.hid hbw
              have hbo' := Lib.hid hbo
              have hapA' := Lib.hid hapA
              have hapB' := Lib.hid hapB
              have hrbs' := Lib.hid hrbs
              have hmadd' := Lib.hid hmadd
              have hfound' := Lib.hid hfound
              have hL' := Lib.hid hL
              clear hT hmet hsep hB hyu hzz hH hHo hbw hbo hapA hapB hrbs hmadd hfound hL
              go_wp2_with fail
              refine (hH'.out).mono ?_
              rintro e w_ ⟨rfl, rfl⟩
              go_wp2_with fail
              refine hHo'.out.mono ?_
              rintro e w2 ⟨u1, rfl, ho2, hB2⟩
              have hne1 : natL (y :: u).reverse ≠ [] := fun e => by
                have := congrArg List.length e
                rw [natL_len, List.length_reverse, List.length_cons] at this
                simp at this
              have hg2 := ho2.grow hne1
              have hT2 := hT'.out.below hB2
              have hm2 := hmet'.out.below hB2
              have hb2 := hB'.out.trans (hB2.mono hB'.out.size)
              have hs2 := hB2.size
              clear hne1 ho2 hH' hHo' p2 hB2
              have hT2' := Lib.hid hT2
              have hm2' := Lib.hid hm2
              have hb2' := Lib.hid hb2
              clear hT2 hm2 hb2
              go_wp2_with (at_builtin; refine wpList_append_intA rfl _ _ rfl wr.heap.size u1 (natL (y :: u).reverse) (j : Int) _ rfl rfl hg2 (by rw [natL_len, List.length_reverse, List.length_cons, hL'.out]; omega) hs2 ?_)
              intro v5 w5 hg5 hgr5 hfr5
              have hlo1 := fun b hb => (World.ownsRow.lt hg2 b hb)
              have hrow5 : natL (u.reverse ++ [y]) ++ [(j : Int)] = natL (j :: ws k).reverse := by
                rw [hyu'.out]; simp [natL]
              rw [hrow5] at hg5
              have hT5 := hT2'.out.keep hgr5 (.inr (fun e => by
                have h1 := hbo'.out gw rfl
                have h2 := (hlo1 gw e.symm).1
                omega)) (fun i hi e => by have := (hlo1 _ e).1; have := hrbs'.out i hi; omega)
              have hm5 : Grow w5 w.heap.size u9 (metL ws m) := World.ownsRow.kept hm2'.out hgr5 (by
                cases hq : u9.ownBlock with
                | none => exact .inl rfl
                | some q => exact .inr (fun e => by have h1 := (hlo1 q e.symm).1; have h2 := (hbw'.out q hq).2; omega))
              have hb5 := hg2.belowB hb2'.out hsw (Nat.le_trans hsw hs2) hgr5
              have hs5 := hgr5.size
              obtain ⟨r5, c5, rfl, hr5⟩ := hg5.form (by rw [natL_len, List.length_reverse, List.length_cons]; omega)
              have hl5 : (natL (j :: ws k).reverse).length = L + 1 + 1 := by rw [natL_len, List.length_reverse, List.length_cons, hyu'.out, List.length_cons, hL'.out]
              rw [hl5] at hr5 ⊢
              have hr5lt := hr5.lt
              by_cases hjb : j = b
              · have hle := hfound'.out hjb
                have hd := least_path hg'.out (by rw [hn'.out]; exact ha) (by rw [hn'.out]; exact hb) (by rw [hn'.out]; exact hle)
                have hVV := hV'.out
                rw [ShortestWalk_some hask'.out hd.2, ← hd.1] at hVV
                subst hVV
                have ho5 : Own w5 w.heap.size w5.heap.size (.slice (some ⟨r5, 0, none⟩) (L + 1 + 1) c5) (natL (b :: ws k).reverse) := by
                  rw [← hjb]
                  exact hr5.own.mono hsw (Nat.le_refl _)
                have e1 : ((j : Int) == (b : Int)) = true := by rw [beq_iff_eq, hjb]
                clear hg5 hgr5 hfr5 hlo1 hrow5 hl5 hr5 hd hle hV' hm5 hT5
                have ho5' := Lib.hid ho5
                have hb5' := Lib.hid hb5
                clear ho5 hb5
                clear hjb
                go_wp2
                go_ret2
                exact ⟨_, rfl, ho5'.out, hb5'.out⟩
              · have hWn := Lib.hid (hmadd'.out hjb)
                have e1 : ((j : Int) == (b : Int)) = false := by rw [beq_eq_false_iff_ne]; omega
                have hs5w : w.heap.size ≤ w5.heap.size := hb5.size
                clear hg5 hgr5 hfr5 hlo1 hrow5 hg2
                have hr5' := Lib.hid hr5
                have hT5' := Lib.hid hT5
                have hm5' := Lib.hid hm5
                have hb5' := Lib.hid hb5
                have hl5' := Lib.hid hl5
                clear hr5 hT5 hm5 hb5 hl5
                clear hjb
                go_wp2_with (at_builtin; refine wpList_append_intA rfl _ _ rfl w.heap.size u9 (metL ws m) (j : Int) _ rfl rfl hm5'.out (by rw [metL_len]; omega) hs5w ?_)
                intro v6 w6 hg6 hgr6 hfr6
                rw [← metL_succ (p := ws k) hone] at hg6
                have hT6 := hT5'.out.keep hgr6 (hapA'.out _ _ _ _ _ _ _ _ hT5'.out hm5'.out) hsep'.out
                have hr6 := (hr5'.out.mono hsw).kept hgr6 (fun e => by have h1 := (hbw'.out _ e).2; omega)
                have hb6 := hm5'.out.belowB hb5'.out (Nat.le_refl _) hs5w hgr6
                have hs6 := hgr6.size
                have hsep6 : ∀ i, i < m + 1 → v6.ownBlock ≠ some (updN rb m r5 i) := fun i hi e => by
                  unfold updN at e
                  rcases hfr6 with h | h
                  · rw [h] at e
                    by_cases q : i = m
                    · rw [if_pos q] at e
                      have := (hbw'.out _ e).2; omega
                    · rw [if_neg q] at e
                      exact hsep'.out i (by omega) e
                  · rw [h] at e
                    have e2 := Option.some.inj e
                    by_cases q : i = m
                    · rw [if_pos q] at e2; omega
                    · rw [if_neg q] at e2
                      have := hrbs'.out i (by omega); omega
                have hs6w : w.heap.size ≤ w6.heap.size := by omega
                have hl6 : L + 1 + 1 = (j :: ws k).length := by rw [List.length_cons, hyu'.out, List.length_cons, hL'.out]
                clear hgr6 hfr6
                have hT6' := Lib.hid hT6
                have hr6' := Lib.hid hr6
                have hb6' := Lib.hid hb6
                have hsep6' := Lib.hid hsep6
                have hg6' := Lib.hid hg6
                have hl6' := Lib.hid hl6
                clear hT6 hr6 hb6 hsep6 hg6 hl6
                go_wp2_with (at_builtin; refine wpList_append_ws rfl _ _ rfl w.heap.size (.slice (some ⟨gw, 0, none⟩) m cw) m r5 (L + 1 + 1) c5 _ rb rc ws (j :: ws k) rfl rfl hT6'.out hr6'.out hl6'.out (by omega) hs6w ?_)
                intro v7 w7 hT7 hgr7
                have hm7 : Grow w7 w.heap.size v6 (metL (updW ws m (j :: ws k)) (m + 1)) := World.ownsRow.kept hg6'.out hgr7 (hapB'.out _ _ _ _ _ _ _ _ hT6'.out hg6'.out)
                have hb7 := hb6'.out.grown hgr7 hs6w (fun q hq => (World.ownsRow.lt hT6'.out.outer q hq).1)
                have hyu7 : updW ws m (j :: ws k) k = y :: u := by
                  unfold updW; rw [if_neg (by omega)]; exact hyu'.out
                clear hgr7
                have hT7' := Lib.hid hT7
                have hm7' := Lib.hid hm7
                have hb7' := Lib.hid hb7
                have hyu7' := Lib.hid hyu7
                clear hT7 hm7 hb7 hyu7
                go_wp2
                go_roundw
                case rel => exact ⟨j + 1, m + 1, _, _, _, by omega, by go_num, by omega, hyu7'.out, hT7'.out, hm7'.out, hsep6'.out, hb7'.out, hWn⟩
                case measure => simp [intOf]; omega
            · rw [hhas] at hH
              have hI2 := Lib.hid (hI.out.skip (fun y' u' e hg => (metL_has hI.out j).1 hhas))
              clear hI c1 hhas
              have hT' := Lib.hid hT
              have hmet' := Lib.hid hmet
              have hsep' := Lib.hid hsep
              have hB' := Lib.hid hB
              have hyu' := Lib.hid hyu
              have hzz' := Lib.hid hzz
              have hH' := Lib.hid hH
              clear hT hmet hsep hB hyu hzz hH
              go_wp2_with fail
              refine (hH'.out).mono ?_
              rintro e w_ ⟨rfl, rfl⟩
              go_wp2
              go_roundw
              case rel => exact ⟨j + 1, m, rb, rc, ws, by omega, by go_num, hlt, hyu'.out, hT'.out, hmet'.out, hsep'.out, hB'.out, hI2⟩
              case measure => simp [intOf]; omega
        · obtain rfl : n = j := by omega
          have hI2 := Lib.hid hI.out.nextWord
          clear hI hyu
          have hT' := Lib.hid hT
          have hmet' := Lib.hid hmet
          have hsep' := Lib.hid hsep
          have hB' := Lib.hid hB
          clear hT hmet hsep hB
          go_wp2
          go_roundw
          case rel => exact ⟨k + 1, m, rb, rc, ws, by omega, by go_num, hT'.out, hmet'.out, hsep'.out, hB'.out, hI2⟩
          case measure => simp [intOf]; omega
    · obtain rfl : m = k := by omega
      have hd0 : dTo g b a = 0 := by
        have h1 := hI.out.none ha
        have hbl : b < g.length := by rw [hn'.out]; exact hb
        have hal : a < g.length := by rw [hn'.out]; exact ha
        rcases dTo_min hg'.out hbl hal with ⟨h3, _⟩ | ⟨_, h3⟩
        · exact h3
        · rw [hn'.out] at h3
          exact absurd h3.2.1 (h1 _ h3.1 hb)
      have hVV := hV'.out
      rw [ShortestWalk_none hd0] at hVV
      subst hVV
      clear hI hT hmet hsep hd0 hcells hV'
      go_wp2
      go_ret2
      exact ⟨_, rfl, Own.nil _ _ _, hB⟩

end Go.Proofs.Ytblippeklbhepaa

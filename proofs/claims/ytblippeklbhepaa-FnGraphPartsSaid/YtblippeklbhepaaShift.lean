/- p(x + by): what is there times x + by, plus the next coefficient from the end. -/
import Derived.Test.YtblippeklbhepaaPolyOps
import Derived.Test.YtblippeklbhepaaRoot
import Derived.Test.YtblippeklbhepaaDivide
namespace Go.Proofs.Ytblippeklbhepaa
open Go.RowKit

/-- The first k coefficients of out, times x + s, into zeros. -/
def shIn (out : List Int) (s : Int) : Nat → List Int
  | 0 => List.replicate (out.length + 1) 0
  | k + 1 => ((shIn out s k).set k (wrap64 (nth (shIn out s k) k + wrap64 (s * nth out k)))).set (k + 1) (wrap64 (nth ((shIn out s k).set k (wrap64 (nth (shIn out s k) k + wrap64 (s * nth out k)))) (k + 1) + nth out k))
theorem shIn_len (out : List Int) (s : Int) (k : Nat) : (shIn out s k).length = out.length + 1 := by
  induction k with
  | zero => exact List.length_replicate
  | succ k ih => rw [shIn, List.length_set, List.length_set, ih]
theorem shIn_mul (out : List Int) (s : Int) (k : Nat) : mulOut out [s, 1] k = shIn out s k := by
  induction k with
  | zero => rfl
  | succ k ih =>
    rw [mulOut, ih, shIn]
    show mulIn _ _ _ _ 2 = _
    rw [mulIn, mulIn, mulIn]
    have e0 : nth [s, 1] 0 = s := rfl
    have e1 : nth [s, 1] 1 = 1 := rfl
    rw [e0, e1, Nat.add_zero, Int.mul_one, wrap64_add' _ (nth out k), Int.mul_comm s]
/-- One coefficient more. -/
def shNext (out : List Int) (s c : Int) : List Int := (shIn out s out.length).set 0 (wrap64 (nth (shIn out s out.length) 0 + c))
theorem shNext_len (out : List Int) (s c : Int) : (shNext out s c).length = out.length + 1 := by rw [shNext, List.length_set, shIn_len]
/-- The shifted coefficients. -/
def shL (s : Int) : List Int → List Int
  | [] => []
  | c :: xs => shNext (shL s xs) s c
theorem shL_len (s : Int) (xs : List Int) : (shL s xs).length = xs.length := by
  induction xs with
  | nil => rfl
  | cons c xs ih => rw [shL, shNext_len, ih, List.length_cons]
theorem shL_drop (s : Int) {xs : List Int} {m : Nat} (h : m < xs.length) : shL s (xs.drop m) = shNext (shL s (xs.drop (m + 1))) s (nth xs m) := by
  rw [List.drop_eq_getElem_cons h, shL, nth_eq h]
theorem shL_drop_len (s : Int) (xs : List Int) (m : Nat) : (shL s (xs.drop m)).length = xs.length - m := by rw [shL_len, List.length_drop]

/-- What both functions return. -/
def ShiftPoly_v (xs : List Int) (s : Int) : List Int × Bool := if (polyB xs && inB s (-9) 9) = true then ifPoly (shL s xs) else ([], false)
theorem ShiftPoly_len (xs : List Int) (s : Int) : szIntS (ShiftPoly_v xs s).1 ≤ 1099511627776 := by
  unfold ShiftPoly_v szIntS
  split
  · have := ifPoly_len (shL s xs); omega
  · exact Nat.zero_le _
theorem ShiftPoly_no1 {xs : List Int} {s : Int} (h : polyB xs = false) : ShiftPoly_v xs s = ([], false) := by simp [ShiftPoly_v, h]
theorem ShiftPoly_no2 {xs : List Int} {s : Int} (h : inB s (-9) 9 = false) : ShiftPoly_v xs s = ([], false) := by simp [ShiftPoly_v, h]
theorem ShiftPoly_yes {xs : List Int} {s : Int} (h1 : polyB xs = true) (h2 : inB s (-9) 9 = true) : ShiftPoly_v xs s = ifPoly (shL s xs) := by simp [ShiftPoly_v, h1, h2]

set_option maxHeartbeats 1000000 in
theorem specShiftPoly_any (v : Value) (xs : List Int) (s : Int) (w : World) (hv1 : IntsV w v xs) (hm : szIntS xs ≤ 1099511627776) (_hi : I64 s) :
    Calls Try.prog 31 #[v, .int .i64 s] w (RetOB Own (ShiftPoly_v xs s) w) := by
  have c1 := poGood_ret v xs w hv1 hm
  cases h1 : polyB xs
  · rw [ShiftPoly_no1 h1]
    rw [h1] at c1
    have c1' := Lib.hid c1
    clear c1 h1
    go_enter Try.func31, Try.ntmps31
    go_wp2_with fail
    refine c1'.out.mono ?_
    rintro e w1 ⟨rfl, hB1⟩
    go_wp2
    go_ret2
    exact ⟨_, rfl, Own.nil _ _ _, hB1⟩
  · rw [h1] at c1
    have hl9 := polyB_le9 h1
    have c1' := Lib.hid c1
    cases h3 : inB s (-9) 9
    · rw [ShiftPoly_no2 h3]
      have h3' := Lib.hid h3
      clear h1 h3 c1
      go_enter Try.func31, Try.ntmps31
      go_wp2_with fail
      refine c1'.out.mono ?_
      rintro e w1 ⟨rfl, hB1⟩
      go_wp2_with fail
      refine (l1In_any _ _ _ _).mono ?_
      rintro e w_ ⟨rfl, rfl⟩
      rw [h3'.out]
      go_wp2
      go_ret2
      exact ⟨_, rfl, Own.nil _ _ _, hB1⟩
    · rw [ShiftPoly_yes h1 h3]
      have h3' := Lib.hid h3
      have hv' := Lib.hid hv1
      obtain ⟨ao, acap, rfl, -, -, -⟩ := id hv1
      clear c1 hv1 hm h1 h3
      obtain ⟨n, hn⟩ : ∃ n, xs.length = n := ⟨_, rfl⟩
      have hd0 : xs.drop n = [] := by rw [← hn, List.drop_length]
      rw [hn] at c1' hv' hl9 ⊢
      have hn' := Lib.hid hn
      have hd0' := Lib.hid hd0
      clear hn hd0
      obtain ⟨i, hi, hz0, hz1, hz2⟩ := info_parts Try.infoInt
      go_enter Try.func31, Try.ntmps31
      go_wp2_with fail
      refine c1'.out.mono ?_
      rintro e w1 ⟨rfl, hB1⟩
      go_wp2_with fail
      refine (l1In_any _ _ _ _).mono ?_
      rintro e w_ ⟨rfl, rfl⟩
      rw [h3'.out]
      clear c1'
      go_wp2
      go_loopw [6, 7] (fun o i wr => ∃ m : Nat, m ≤ n ∧ i = .int .i64 ((m : Int) - 1) ∧ Own wr w.heap.size wr.heap.size o (shL s (xs.drop m)) ∧ Below w.heap.size w wr) (fun _ i _ => (intOf i + 1).toNat)
      case atStart => exact ⟨n, Nat.le_refl _, rfl, by rw [hd0'.out]; exact Own.nil _ _ _, hB1⟩
      case round =>
        obtain ⟨m, hm, rfl, ho1, hB4⟩ := hrel
        obtain ⟨wo, rfl⟩ : ∃ wo : World, wo = wr := ⟨_, rfl⟩
        rcases m with _ | m
        · have hfin := poIf_any _ _ wo ho1.read (by rw [shL_drop_len, hn'.out]; omega)
          rw [List.drop_zero] at hfin
          have hfin' := Lib.hid hfin
          clear hfin
          go_wp2_with fail
          refine hfin'.out.mono ?_
          rintro e w5 ⟨v5, rfl, ho5, hB7⟩
          have hs5 := hB4.size
          go_wp2
          go_ret2
          exact ⟨_, rfl, ho5.mono hs5 (Nat.le_refl _), hB4.trans (hB7.mono hs5)⟩
        · rw [show ((m + 1 : Nat) : Int) - 1 = m by omega]
          have hlen := shL_drop_len s xs (m + 1)
          have hst := shL_drop s (xs := xs) (m := m) (by rw [hn'.out]; omega)
          obtain ⟨out, hout⟩ : ∃ out, shL s (xs.drop (m + 1)) = out := ⟨_, rfl⟩
          rw [hout] at ho1 hst hlen
          rw [hn'.out] at hlen
          clear hout
          obtain ⟨q, hq⟩ : ∃ q, n - (m + 1) = q := ⟨_, rfl⟩
          rw [hq] at hlen
          have hst' := Lib.hid hst
          clear hst
          have hon := ho1.read
          obtain ⟨oo, ocap, e, -, -, -⟩ := id hon
          rw [hlen] at e
          subst e
          have hsz := hB4.size
          go_wp2_with (at_make; refine wpList_make_full _ rfl _ _ 39 rfl w.heap.size 3 i _ 1 Try.underlying39 hi hz0 hz1 _ _ _ _ (q + 1) rfl rfl (by go_num) (by go_num) (by rw [hz2]; omega) (by unfold maxLen; omega) hsz ?_)
          intro w3 hown hgrow
          have hB3 := below_made (Below.refl wo.heap.size wo) (Nat.le_refl _) hgrow
          have ho := row_made hown
          clear hown hgrow
          have hR0 : RowAt w3 w.heap.size wo.heap.size (q + 1) (q + 1) (shIn out s 0) := by rw [shIn, hlen]; exact ho
          clear ho
          go_wp2
          go_loopw [9, 10, 32] (fun _ _ i wr => ∃ k : Nat, k ≤ q ∧ i = .int .i64 k ∧ RowAt wr w.heap.size wo.heap.size (q + 1) (q + 1) (shIn out s k) ∧ Below wo.heap.size wo wr) (fun _ _ i _ => q - (intOf i).toNat)
          case atStart => exact ⟨0, Nat.zero_le _, rfl, hR0, hB3⟩
          case round =>
            obtain ⟨k, hk, rfl, ho2, hB5⟩ := hrel
            clear hR0 hB3
            obtain ⟨wo2, rfl⟩ : ∃ wo : World, wo = wr := ⟨_, rfl⟩
            by_cases hlt2 : k < q
            · obtain ⟨oo', cap', e, -, -, H⟩ := hon.below hB5
              rw [hlen] at e H
              obtain ⟨rfl, _, rfl⟩ := Value.slice.inj e
              obtain ⟨b, off, rfl, hcell⟩ := H k hlt2
              clear H e
              have hst0 : shIn out s (k + 1) = ((shIn out s k).set k (wrap64 (nth (shIn out s k) k + wrap64 (s * nth out k)))).set (k + 1) (wrap64 (nth ((shIn out s k).set k (wrap64 (nth (shIn out s k) k + wrap64 (s * nth out k)))) (k + 1) + nth out k)) := rfl
              have hstk := Lib.hid hst0
              clear hst0
              have g1 := ho2.cell (j := k) (by omega)
              have g3 := ho2.frozen k
              generalize shIn out s k = M at *
              have hst1 := ho2.stored k (wrap64 (nth M k + wrap64 (s * nth out k)))
              have g2 := hst1.cell (j := k + 1) (by omega)
              have g4 := hst1.frozen (k + 1)
              have hst2 := hst1.stored (k + 1) (wrap64 (nth (M.set k (wrap64 (nth M k + wrap64 (s * nth out k)))) (k + 1) + nth out k))
              have hB6 := (hB5.setCell (p := ⟨wo.heap.size, k, none⟩) (Nat.le_refl _) (.int .i64 (wrap64 (nth M k + wrap64 (s * nth out k))))).setCell (p := ⟨wo.heap.size, k + 1, none⟩) (Nat.le_refl _) (.int .i64 (wrap64 (nth (M.set k (wrap64 (nth M k + wrap64 (s * nth out k)))) (k + 1) + nth out k)))
              go_wp2
              go_roundw
              case rel => exact ⟨k + 1, by omega, by go_num, by rw [hstk.out]; exact hst2, hB6⟩
              case measure => simp [intOf]; omega
            · have ek : k = q := by omega
              subst ek
              obtain ⟨ao', cap', e, -, -, H⟩ := hv'.out.below (hB4.trans (hB5.mono hsz))
              rw [hn'.out] at e H
              obtain ⟨rfl, _, rfl⟩ := Value.slice.inj e
              obtain ⟨b, off, rfl, hcell⟩ := H m (by omega)
              clear H e
              have hnx : shNext out s (nth xs m) = (shIn out s k).set 0 (wrap64 (nth (shIn out s k) 0 + nth xs m)) := by rw [shNext, hlen]
              have hnx' := Lib.hid hnx
              clear hnx
              generalize shIn out s k = M at *
              generalize nth xs m = c at *
              have g1 := ho2.cell (j := 0) (by omega)
              have g3 := ho2.frozen 0
              have hst1 := ho2.stored 0 (wrap64 (nth M 0 + c))
              have hB6 := hB5.setCell (p := ⟨wo.heap.size, 0, none⟩) (Nat.le_refl _) (.int .i64 (wrap64 (nth M 0 + c)))
              go_wp2_with fail
              go_region
              go_wp2
              go_roundw
              case rel => exact ⟨m, by omega, by go_num, by rw [hst'.out, hnx'.out]; exact hst1.own, (hB4.trans (hB6.mono hsz)).drew⟩
              case measure => simp [intOf]

/-- What lies there after the coefficients that have come. -/
def shB (s : Int) (l : List (Int × Int)) : List Int := l.foldl (fun o p => shNext o s p.2) []
theorem shB_snoc (s : Int) (l : List (Int × Int)) (p : Int × Int) : shB s (l ++ [p]) = shNext (shB s l) s p.2 := by simp [shB]
theorem shB_to (s : Int) (xs : List Int) : ∀ k, k ≤ xs.length → shB s (bkTo xs k) = shL s (xs.drop (xs.length - k))
  | 0, _ => by rw [Nat.sub_zero, List.drop_length]; simp [bkTo, shB, shL]
  | k + 1, h => by
    rw [bkTo_succ, shB_snoc, shB_to s xs k (by omega), bkAt, shL_drop s (show xs.length - (k + 1) < xs.length by omega), show xs.length - (k + 1) + 1 = xs.length - k by omega, show xs.length - 1 - k = xs.length - (k + 1) by omega]
theorem shB_all (s : Int) (xs : List Int) : shB s (bkTo xs xs.length) = shL s xs := by
  rw [shB_to s xs _ (Nat.le_refl _), Nat.sub_self, List.drop_zero]
theorem shB_len_aux (s : Int) (l : List (Int × Int)) : ∀ o : List Int, (l.foldl (fun o p => shNext o s p.2) o).length = o.length + l.length := by
  induction l with
  | nil => intro o; rfl
  | cons p l ih => intro o; rw [List.foldl_cons, ih, shNext_len, List.length_cons]; omega
theorem shB_len (s : Int) (l : List (Int × Int)) : (shB s l).length = l.length := by rw [shB, shB_len_aux]; simp
/-- The box a holds a slice that reads out: nil as yet, or a row of the call's own. -/
def ShAt (B : Nat) (a : Addr) (out : List Int) (W : World) : Prop := (out = [] ∧ W.cell? a = some (.slice none 0 0)) ∨ ∃ g cap, W.cell? a = some (.slice (some ⟨g, 0, none⟩) out.length cap) ∧ RowAt W B g out.length cap out ∧ 0 < out.length
theorem ShAt.kept {B : Nat} {a : Addr} {out : List Int} {W W' : World} {row : Option Nat} (h : ShAt B a out W) (hg : W.grownBy W' row) (hr : ∀ r, row = some r → ∃ o : Obj, W.heap[r]? = some o ∧ o.isCells = false) : ShAt B a out W' := by
  rcases h with ⟨e, h⟩ | ⟨g, cap, h1, h2, h3⟩
  · exact .inl ⟨e, cell_kept h hg hr⟩
  · refine .inr ⟨g, cap, cell_kept h1 hg hr, h2.kept hg ?_, h3⟩
    intro e
    obtain ⟨o, ho, hc⟩ := hr g e
    obtain ⟨o', ho', hc'⟩ := cells_of_cell (h2.cell h3)
    rw [ho] at ho'
    cases ho'
    rw [hc] at hc'
    cases hc'

theorem keepsOthers_below {W W' : World} (h : Below W.heap.size W W') : KeepsOthers W W' := ⟨h.size, fun k _ hk _ => (h.block k (Array.getElem?_eq_some_iff.1 hk).1).trans hk⟩
theorem prodL_shift {out : List Int} (s : Int) (h : 0 < out.length) : prodL out [s, 1] = shIn out s out.length := by
  rw [prodL, if_neg (by simp; intro e; simp [e] at h), shIn_mul]
theorem intsV_pair (W : World) (a b : Int) : IntsV (W.alloc (.cells #[.int .i64 a, .int .i64 b] 3)) (.slice (some ⟨W.heap.size, 0, none⟩) 2 2) [a, b] :=
  ⟨some ⟨W.heap.size, 0, none⟩, 2, rfl, ⟨Nat.le_refl _, fun e => by cases e⟩, by unfold maxLen; omega, fun i hi => ⟨W.heap.size, 0, rfl, by
    rw [World.cell?_alloc_at _ _ _ _ rfl]
    rcases i with _ | _ | i
    · rfl
    · rfl
    · simp at hi; omega⟩⟩
/-- The end of a round: the box is given the row, the row's first cell its new value. -/
theorem shift_end {b0 n g N cap : Nat} {s x : Int} {v v' : Value} {w W W2 : World} {M : List Int} (hb : b0 < n) (hK : KeepsOthers W W2) (hk : bkKeeps n (n + 1) W W2)
    (hc : W2.cell? ⟨n, 0, none⟩ = some v') (hf : W2.frozen? ⟨n, 0, none⟩ = false) (hx : W2.cell? ⟨b0, 0, none⟩ = some (.int .i64 s)) (hbs : W2.cell? ⟨n + 1, 0, none⟩ = some v) (hB : Below b0 w W2)
    (hR : RowAt W2 n g N cap M) (hg : n + 1 < g) (h0 : 0 < N) :
    KeepsOthers W ((W2.setCell ⟨n, 0, none⟩ (.slice (some ⟨g, 0, none⟩) N cap)).setCell ⟨g, 0, none⟩ (.int .i64 x)) ∧ bkKeeps n (n + 1) W ((W2.setCell ⟨n, 0, none⟩ (.slice (some ⟨g, 0, none⟩) N cap)).setCell ⟨g, 0, none⟩ (.int .i64 x)) ∧
    (ShAt n ⟨n, 0, none⟩ (M.set 0 x) ((W2.setCell ⟨n, 0, none⟩ (.slice (some ⟨g, 0, none⟩) N cap)).setCell ⟨g, 0, none⟩ (.int .i64 x)) ∧
      ((W2.setCell ⟨n, 0, none⟩ (.slice (some ⟨g, 0, none⟩) N cap)).setCell ⟨g, 0, none⟩ (.int .i64 x)).frozen? ⟨n, 0, none⟩ = false ∧
      ((W2.setCell ⟨n, 0, none⟩ (.slice (some ⟨g, 0, none⟩) N cap)).setCell ⟨g, 0, none⟩ (.int .i64 x)).cell? ⟨b0, 0, none⟩ = some (.int .i64 s) ∧
      ((W2.setCell ⟨n, 0, none⟩ (.slice (some ⟨g, 0, none⟩) N cap)).setCell ⟨g, 0, none⟩ (.int .i64 x)).cell? ⟨n + 1, 0, none⟩ = some v) ∧
    Below b0 w ((W2.setCell ⟨n, 0, none⟩ (.slice (some ⟨g, 0, none⟩) N cap)).setCell ⟨g, 0, none⟩ (.int .i64 x)) := by
  have hl := hR.len
  have e1 : (⟨n, 0, none⟩ : Addr) ≠ ⟨g, 0, none⟩ := by intro e; injection e; omega
  have e2 : (⟨b0, 0, none⟩ : Addr) ≠ ⟨g, 0, none⟩ := by intro e; injection e; omega
  have e3 : (⟨b0, 0, none⟩ : Addr) ≠ ⟨n, 0, none⟩ := by intro e; injection e; omega
  have e4 : (⟨n + 1, 0, none⟩ : Addr) ≠ ⟨g, 0, none⟩ := by intro e; injection e; omega
  have e5 : (⟨n + 1, 0, none⟩ : Addr) ≠ ⟨n, 0, none⟩ := by intro e; injection e; omega
  refine ⟨hK.trans ((KeepsOthers.setCell _ _ _).trans (KeepsOthers.setCell _ _ _)), bkKeeps_t hk ⟨((Below.refl _ _).setCell (p := ⟨n, 0, none⟩) (Nat.le_refl _) _).setCell (p := ⟨g, 0, none⟩) (show n ≤ g by omega) _, ?_⟩, ⟨.inr ⟨g, cap, ?_, ?_, ?_⟩, ?_, ?_, ?_⟩, (hB.setCell (p := ⟨n, 0, none⟩) (show b0 ≤ n by omega) _).setCell (p := ⟨g, 0, none⟩) (show b0 ≤ g by omega) _⟩
  · rw [Below.heap_setCell _ _ _ _ (by show n + 1 ≠ g; omega), Below.heap_setCell _ _ _ _ (by show n + 1 ≠ n; omega)]
  · rw [World.cell?_setCell_other _ _ _ _ e1.symm, List.length_set, hl]; exact World.cell?_setCell_same' _ _ _ (by rw [hc]; rfl)
  · rw [List.length_set, hl]; exact (hR.other (by omega)).stored 0 x
  · rw [List.length_set, hl]; exact h0
  · rw [World.frozen?_setCell, World.frozen?_setCell]; exact hf
  · rw [World.cell?_setCell_other _ _ _ _ e2.symm, World.cell?_setCell_other _ _ _ _ e3.symm]; exact hx
  · rw [World.cell?_setCell_other _ _ _ _ e4.symm, World.cell?_setCell_other _ _ _ _ e5.symm]; exact hbs

theorem ShAt.ints {B : Nat} {a : Addr} {out : List Int} {W : World} (h : ShAt B a out W) : ∃ v, W.cell? a = some v ∧ IntsV W v out := by
  rcases h with ⟨rfl, h⟩ | ⟨g, cap, h1, h2, h3⟩
  · exact ⟨_, h, (Own.nil W 0 0).read⟩
  · exact ⟨_, h1, h2.ints⟩
theorem row_one {W : World} {B : Nat} (hB : B ≤ W.heap.size) (x : Int) : RowAt (W.alloc (.cells #[.int .i64 x] 3)) B W.heap.size 1 1 [x] :=
  ⟨rfl, .inr ⟨W.heap.size, 1, #[.int .i64 x], rfl, hB, World.alloc_heap_new W _, Nat.le_refl _, by unfold maxLen; omega, rfl, by simp⟩⟩

attribute [local go_sem] Oper.semAt_some in
set_option maxRecDepth 100000 in
set_option maxHeartbeats 2000000 in
theorem implShiftPoly_yes (v : Value) (xs : List Int) (s : Int) (w : World) (hv1 : IntsV w v xs) (h1 : polyB xs = true) (h2 : inB s (-9) 9 = true) :
    Calls Try.prog 30 #[v, .int .i64 s] w (RetOB Own (ifPoly (shL s xs)) w) := by
  have hl9 := polyB_le9 h1
  have c1 := fun w' hB => isPolynomial_ret v xs w' (hv1.below hB) (by omega)
  rw [h1] at c1
  have c1' := Lib.hid c1
  have h2' := Lib.hid h2
  have hv' := Lib.hid hv1
  clear c1 h1 h2 hv1
  have hB0 : Below w.heap.size w (w.alloc (.cells #[.int .i64 s] 3)) := (Below.refl _ _).alloc (Nat.le_refl _) _
  have hx0 : (w.alloc (.cells #[.int .i64 s] 3)).cell? ⟨w.heap.size, 0, none⟩ = some (.int .i64 s) := by rw [World.cell?_alloc_at _ _ _ _ rfl]; rfl
  refine (callsIn_wide (n := 8)).1 ?_
  refine callsIn_of_wp_marks Try.func30 rfl trivial ?_ rfl
  simp only [Try.ntmps30, List.size_toArray, List.length_cons, List.length_nil, Nat.reduceAdd, Nat.reduceSub, Array.replicate_succ, Array.replicate_zero, List.push_toArray, List.append_toArray, List.nil_append, List.cons_append]
  gi_wp2_with fail
  refine ⟨trivial, ((callsIn_wide (n := 7)).2 (c1'.out _ hB0)).mono ?_⟩
  rintro e w1 ⟨rfl, hB1⟩
  have hx1 : w1.cell? ⟨w.heap.size, 0, none⟩ = some (.int .i64 s) := (hB1.cell (p := ⟨w.heap.size, 0, none⟩) (by simp)).trans hx0
  have hs1 : w.heap.size + 1 ≤ w1.heap.size := by have := hB1.size; simp at this; omega
  have hB01 := hB0.trans (hB1.mono (by simp))
  clear hB1 hx0 c1'
  gi_wp2_with fail
  refine ⟨trivial, ((callsIn_wide (n := 7)).2 (within_any _ _ _ _)).mono ?_⟩
  rintro e w_ ⟨rfl, rfl⟩
  rw [h2'.out]
  gi_wp2_with fail
  have hB02 : Below w.heap.size w (w1.alloc (.cells #[.slice none 0 0] 39)) := hB01.alloc (by omega) _
  refine ⟨trivial, ((callsIn_wide (n := 7)).2 (backward_any v xs _ (hv'.out.below hB02))).mono ?_⟩
  rintro e w3 ⟨rfl, rfl⟩
  gi_wp2_with fail
  obtain ⟨w3, hw3⟩ : ∃ W, (w1.alloc (.cells #[.slice none 0 0] 39)).alloc (.cells #[v] 39) = W := ⟨_, rfl⟩
  have hs3 : w3.heap.size = w1.heap.size + 2 := by rw [← hw3]; simp
  have hbs : w3.cell? ⟨w1.heap.size + 1, 0, none⟩ = some v := by rw [← hw3, World.cell?_alloc_at _ _ _ _ (by simp)]; rfl
  have ho3 : w3.cell? ⟨w1.heap.size, 0, none⟩ = some (.slice none 0 0) := by rw [← hw3, World.cell?_alloc_past _ _ _ (by simp), World.cell?_alloc_at _ _ _ _ rfl]; rfl
  have hf3 : w3.frozen? ⟨w1.heap.size, 0, none⟩ = false := by rw [← hw3, World.frozen?_alloc_past _ _ _ (by simp)]; exact World.frozen?_alloc_at _ _ _ _ rfl
  have hB03 : Below w.heap.size w w3 := by rw [← hw3]; exact hB02.alloc (by simp; omega) _
  have hB13 : Below w1.heap.size w1 w3 := by rw [← hw3]; exact ((Below.refl _ _).alloc (Nat.le_refl _) _).alloc (by simp) _
  have hx3 : w3.cell? ⟨w.heap.size, 0, none⟩ = some (.int .i64 s) := (hB13.cell (p := ⟨w.heap.size, 0, none⟩) (by show w.heap.size < w1.heap.size; omega)).trans hx1
  rw [hw3]
  clear hw3 hx1 hB0 hB02 hB13
  have hstop := backward_stops 7 (by omega) (w1.heap.size + 1) w1.heap.size v xs w3 (by omega) (by omega) hbs (hv'.out.below hB03) (fun i hi b off cap e => by
    have h := hv'.out
    obtain ⟨ao, cap', e', -, -, H⟩ := h
    obtain ⟨b', off', e2, hc⟩ := H i hi
    rw [e'] at e
    obtain ⟨h1, _, _⟩ := Value.slice.inj e
    rw [e2] at h1
    cases h1
    have := World.block_lt_of_cell? w _ hc
    simp at this; omega) (by omega)
  refine wpIn_rangeFunc_ownF (n := 8) (w0 := w3) rfl (by omega) (gf := 126) (lb := #[.pointer (some ⟨w1.heap.size + 1, 0, none⟩)]) rfl trivial (enters_of Try.func126 (by kernel_rfl) rfl)
    hstop bkKeeps_t (bkKeeps_b (by omega) (by omega)) (Below.refl _ _) (fun _ => rfl)
    (fun pre W => (ShAt w1.heap.size ⟨w1.heap.size, 0, none⟩ (shB s pre) W ∧ W.frozen? ⟨w1.heap.size, 0, none⟩ = false ∧ W.cell? ⟨w.heap.size, 0, none⟩ = some (.int .i64 s) ∧ W.cell? ⟨w1.heap.size + 1, 0, none⟩ = some v) ∧ Below w.heap.size w W)
    (fun _ _ _ => False)
    (OwnFrom.and (fun s' A B row hs hg hr => ⟨hs.1.kept hg (fun r e => (hr r e).2), (frozen_kept (v := (A.cell? ⟨w1.heap.size, 0, none⟩).getD undef) (by rcases hs.1 with ⟨_, h⟩ | ⟨_, _, h, _⟩ <;> rw [h] <;> rfl) hg (fun r e => (hr r e).2)).trans hs.2.1, cell_kept hs.2.2.1 hg (fun r e => (hr r e).2), cell_kept hs.2.2.2 hg (fun r e => (hr r e).2)⟩) (ownFrom_below (Nat.le_refl _) (by omega)))
    (fun _ _ _ _ _ hs _ _ => hs)
    ⟨⟨.inl ⟨rfl, ho3⟩, hf3, hx3, hbs⟩, hB03⟩
    (fun p => { tmps := #[v, .int .i64 s, undef, .pointer (some ⟨w.heap.size, 0, none⟩), .slice none 0 0, .bool false, .pointer (some ⟨w1.heap.size, 0, none⟩), undef, .int .i64 p.2, v, .bool true, .bool false, .bool false, .int .i64 s, .bool true, .bool false, .bool false, v, .func (.func 126) #[] #[.pointer (some ⟨w1.heap.size + 1, 0, none⟩)], .int .i64 p.1, .int .i64 p.2, undef, undef, undef, undef, undef, undef, undef, undef, undef, undef, undef, undef, undef, undef, undef, undef, undef, undef], defers := [] }) ?assign ?body ?done ?stop
  case assign =>
    intro l p W K hK
    gi_wp2
    exact hK
  case body =>
    rintro l pre p W ⟨⟨hsh, hf, hxc, hbc⟩, hB⟩ hlen
    have hsn := shB_snoc s pre p
    have hsn' := Lib.hid hsn
    clear hsn
    obtain ⟨out, hout⟩ : ∃ out, shB s pre = out := ⟨_, rfl⟩
    rw [hout] at hsn' hsh
    rcases hsh with ⟨rfl, hc⟩ | ⟨g, cap, hc, hR, h0⟩
    · have hWl := World.block_lt_of_cell? W _ hbc
      replace hWl : w1.heap.size + 1 < W.heap.size := hWl
      have hsn2 : shB s (pre ++ [p]) = [(0 : Int)].set 0 (wrap64 p.2) := by
        rw [hsn'.out]
        show [wrap64 (0 + p.2)] = [wrap64 p.2]
        rw [Int.zero_add]
      have hsn3 := Lib.hid hsn2
      clear hsn2 hsn'
      gi_wp2_with fail
      have hP := intsV_pair W s 1
      have hBq : Below W.heap.size W (W.alloc (.cells #[.int .i64 s, .int .i64 1] 3)) := (Below.refl _ _).alloc (Nat.le_refl _) _
      have hsq : (W.alloc (.cells #[.int .i64 s, .int .i64 1] 3)).heap.size = W.heap.size + 1 := by simp
      generalize W.alloc (.cells #[.int .i64 s, .int .i64 1] 3) = Wq at *
      refine ⟨trivial, (CallsIn.inRound l ((callsIn_wide (n := 5)).2 (implprod_any _ _ [] [s, 1] _ (Own.nil Wq 0 0).read hP (by simp) (by simp)))).mono ?_⟩
      rintro e W2 ⟨v2, rfl, ho2, hB2⟩
      obtain ⟨ao, cp, rfl⟩ : ∃ ao cp, v2 = .slice ao 0 cp := by
        rcases ho2 with ⟨_, ao, cp, e, _⟩ | ⟨g, cp, e, _⟩
        · exact ⟨ao, cp, e⟩
        · exact ⟨_, cp, e⟩
      have hBW2 : Below W.heap.size W W2 := hBq.trans (hB2.mono (by omega))
      have hsW2 := hB2.size
      have hc2 : W2.cell? ⟨w1.heap.size, 0, none⟩ = some (.slice none 0 0) := (hBW2.cell (p := ⟨w1.heap.size, 0, none⟩) (show w1.heap.size < W.heap.size by omega)).trans hc
      have hf2 : W2.frozen? ⟨w1.heap.size, 0, none⟩ = false := (World.frozen?_of_block (hBW2.block w1.heap.size (by omega))).trans hf
      have hx2 : W2.cell? ⟨w.heap.size, 0, none⟩ = some (.int .i64 s) := (hBW2.cell (p := ⟨w.heap.size, 0, none⟩) (show w.heap.size < W.heap.size by omega)).trans hxc
      have hb2 : W2.cell? ⟨w1.heap.size + 1, 0, none⟩ = some v := (hBW2.cell (p := ⟨w1.heap.size + 1, 0, none⟩) hWl).trans hbc
      obtain ⟨A, hA⟩ : ∃ A, (W2.setCell ⟨w1.heap.size, 0, none⟩ (.slice ao 0 cp)).alloc (.cells #[.int .i64 0] 3) = A := ⟨_, rfl⟩
      have hsS : (W2.setCell ⟨w1.heap.size, 0, none⟩ (.slice ao 0 cp)).heap.size = W2.heap.size := by simp [World.setCell]
      have k0 : A.cell? ⟨w1.heap.size, 0, none⟩ = some (.slice ao 0 cp) := by
        rw [← hA, World.cell?_alloc_past _ _ _ (by rw [hsS]; show w1.heap.size < W2.heap.size; omega)]; exact World.cell?_setCell_same' _ _ _ (by rw [hc2]; rfl)
      have k1 : A.frozen? ⟨w1.heap.size, 0, none⟩ = false := by
        rw [← hA, World.frozen?_alloc_past _ _ _ (by rw [hsS]; show w1.heap.size < W2.heap.size; omega), World.frozen?_setCell]; exact hf2
      have k2 : A.cell? ⟨W2.heap.size, 0, none⟩ = some (.int .i64 0) := by
        rw [← hA, World.cell?_alloc_at _ _ _ _ hsS.symm]; rfl
      have k3 : A.frozen? ⟨W2.heap.size, 0, none⟩ = false := by rw [← hA]; exact World.frozen?_alloc_at _ _ _ _ hsS.symm
      have k4 : A.cell? ⟨w.heap.size, 0, none⟩ = some (.int .i64 s) := by
        rw [← hA, World.cell?_alloc_past _ _ _ (by rw [hsS]; show w.heap.size < W2.heap.size; omega), World.cell?_setCell_other _ _ _ _ (by intro e; injection e; omega)]; exact hx2
      have k5 : A.cell? ⟨w1.heap.size + 1, 0, none⟩ = some v := by
        rw [← hA, World.cell?_alloc_past _ _ _ (by rw [hsS]; show w1.heap.size + 1 < W2.heap.size; omega), World.cell?_setCell_other _ _ _ _ (by intro e; injection e; omega)]; exact hb2
      have hBA : Below w1.heap.size W A := by
        have b1 : Below w1.heap.size W W2 := hBW2.mono (by omega)
        have b2 : Below w1.heap.size W (W2.setCell ⟨w1.heap.size, 0, none⟩ (.slice ao 0 cp)) := b1.setCell (p := ⟨w1.heap.size, 0, none⟩) (show w1.heap.size ≤ w1.heap.size by omega) _
        rw [← hA]; exact b2.alloc (by rw [hsS]; omega) _
      have hKA : KeepsOthers W A := by
        rw [← hA]; exact ((keepsOthers_below hBW2).trans (KeepsOthers.setCell _ _ _)).trans (KeepsOthers.alloc _ _)
      have hhA : A.heap[w1.heap.size + 1]? = W.heap[w1.heap.size + 1]? := by
        rw [← hA, Below.heap_alloc _ _ _ (by rw [hsS]; omega), Below.heap_setCell _ _ _ _ (by show w1.heap.size + 1 ≠ w1.heap.size; omega)]; exact hBW2.block _ hWl
      have hRA : RowAt A w1.heap.size W2.heap.size 1 1 [0] := by rw [← hA]; have := row_one (W := W2.setCell ⟨w1.heap.size, 0, none⟩ (.slice ao 0 cp)) (B := w1.heap.size) (by rw [hsS]; omega) 0; rw [hsS] at this; exact this
      have hfin := shift_end (x := wrap64 p.2) (show w.heap.size < w1.heap.size by omega) hKA ⟨hBA, hhA⟩ k0 k1 k4 k5 (hB.trans (hBA.mono (by omega))) hRA (by omega) (by omega)
      have hne : w1.heap.size ≠ W2.heap.size := by omega
      have hlt1 : w1.heap.size < W2.heap.size := by omega
      have hne1 : W2.heap.size ≠ w1.heap.size := by omega
      have hEq : (A.setCell ⟨w1.heap.size, 0, none⟩ (.slice (some ⟨W2.heap.size, 0, none⟩) 1 1)).setCell ⟨W2.heap.size, 0, none⟩ (.int .i64 (wrap64 p.2)) = ((W2.setCell ⟨w1.heap.size, 0, none⟩ (.slice ao 0 cp)).setCell ⟨w1.heap.size, 0, none⟩ (.slice (some ⟨W2.heap.size, 0, none⟩) 1 1)).alloc (.cells #[.int .i64 (wrap64 p.2)] 3) := by
        rw [← hA]
        simp [go_sem, hlt1]
      rw [hEq] at hfin
      have hfin' := Lib.hid hfin
      clear ho2 hP hfin hRA hhA hKA hBA hsS k0 k1 k2 k3 k4 k5 hA hBq hB2 hsq hsW2 hBW2 hc hf hbc hstop hx2 hb2 hout hv' h2' hbs ho3 hf3 hB03 hB01
      clear hEq
      gi_wp2
      obtain ⟨a1, a2, a3, a4⟩ := hfin'.out
      refine ⟨a1, a2, ?_, a4⟩
      rw [hsn3.out]
      exact a3
    · have hlp := shB_len s pre
      rw [hout] at hlp
      have hWl := World.block_lt_of_cell? W _ hbc
      replace hWl : w1.heap.size + 1 < W.heap.size := hWl
      have hlo : out.length ≤ 9 := by omega
      clear hlp hout hlen
      gi_wp2_with fail
      have hI : IntsV (W.alloc (.cells #[.int .i64 s, .int .i64 1] 3)) (.slice (some ⟨g, 0, none⟩) out.length cap) out := hR.ints.below ((Below.refl _ _).alloc (Nat.le_refl _) _)
      have hP := intsV_pair W s 1
      have hBq : Below W.heap.size W (W.alloc (.cells #[.int .i64 s, .int .i64 1] 3)) := (Below.refl _ _).alloc (Nat.le_refl _) _
      have hsq : (W.alloc (.cells #[.int .i64 s, .int .i64 1] 3)).heap.size = W.heap.size + 1 := by simp
      generalize W.alloc (.cells #[.int .i64 s, .int .i64 1] 3) = Wq at *
      refine ⟨trivial, (CallsIn.inRound l ((callsIn_wide (n := 5)).2 (implprod_any _ _ out [s, 1] _ hI hP (by omega) (by simp)))).mono ?_⟩
      rintro e W2 ⟨v2, rfl, ho2, hB2⟩
      rw [prodL_shift s h0] at ho2
      have hlM := shIn_len out s out.length
      have hsnx : shB s (pre ++ [p]) = (shIn out s out.length).set 0 (wrap64 (nth (shIn out s out.length) 0 + p.2)) := by rw [hsn'.out, shNext]
      have hsn2 := Lib.hid hsnx
      clear hsnx hsn'
      generalize shIn out s out.length = M at *
      obtain ⟨g2, cap2, rfl, hg2, hR2⟩ := ho2.row_of (by omega)
      have hR2l := hR2.lt
      have hBW2 : Below W.heap.size W W2 := hBq.trans (hB2.mono (by omega))
      have hc2 : W2.cell? ⟨w1.heap.size, 0, none⟩ = some (.slice (some ⟨g, 0, none⟩) out.length cap) := (hBW2.cell (p := ⟨w1.heap.size, 0, none⟩) (show w1.heap.size < W.heap.size by omega)).trans hc
      have hf2 : W2.frozen? ⟨w1.heap.size, 0, none⟩ = false := (World.frozen?_of_block (hBW2.block w1.heap.size (by omega))).trans hf
      have hx2 : W2.cell? ⟨w.heap.size, 0, none⟩ = some (.int .i64 s) := (hBW2.cell (p := ⟨w.heap.size, 0, none⟩) (show w.heap.size < W.heap.size by omega)).trans hxc
      have hb2 : W2.cell? ⟨w1.heap.size + 1, 0, none⟩ = some v := (hBW2.cell (p := ⟨w1.heap.size + 1, 0, none⟩) hWl).trans hbc
      have hfin := shift_end (x := wrap64 (nth M 0 + p.2)) (show w.heap.size < w1.heap.size by omega) (keepsOthers_below hBW2) ⟨hBW2.mono (by omega), hBW2.block _ hWl⟩ hc2 hf2 hx2 hb2 (hB.trans (hBW2.mono hB.size)) (World.ownsRow.mono hR2 (show w1.heap.size ≤ Wq.heap.size by omega)) (by omega) (by omega)
      have hfin' := Lib.hid hfin
      have k1 := hR2.cell (j := 0) (by omega)
      have k2 := hR2.frozen 0
      have hne : w1.heap.size ≠ g2 := by omega
      have hne' : g2 ≠ w1.heap.size := by omega
      have k4 : ((M.length : Int) == 0) = false := by rw [beq_eq_false_iff_ne]; omega
      clear hfin hR2 ho2 hI hP
      generalize M.length = ml at *
      subst hlM
      gi_wp2
      obtain ⟨a1, a2, a3, a4⟩ := hfin'.out
      refine ⟨a1, a2, ?_, a4⟩
      rw [hsn2.out]
      exact a3
  case done =>
    rintro D ys W hD rfl ⟨⟨hsh, hf, hxc, hbc⟩, hB⟩ hK
    rw [shB_all] at hsh
    obtain ⟨vb, hvb, hIb⟩ := hsh.ints
    have hll := shL_len s xs
    have hll' := Lib.hid hll
    have hc2 := polynomial_any vb _ W hIb (by omega)
    have hc' := Lib.hid hc2
    have hDl := (Array.getElem?_eq_some_iff.1 hK).1
    clear hll hsh hIb hc2
    gi_wp2_with fail
    refine ⟨trivial, ((callsIn_wide (n := 7)).2 hc'.out).mono ?_⟩
    rintro e W5 ⟨v5, rfl, ho5, hB5⟩
    have hK5 : W5.heap[D]? = some (.deferred (some [])) := (hB5.block D hDl).trans hK
    gi_wp2
    refine ⟨by simp, .inl ⟨_, _, rfl, run_takeDeferred hK5, ?_⟩⟩
    refine ⟨_, results_tmp2 rfl _ _ _, v5, rfl, ?_, ?_⟩
    · refine ((ho5.kept (grownBy_putObj' W5 D _) (fun g e => by cases e; left; exact hDl))).mono hB.size ?_
      simp
    · exact (hB.trans (hB5.mono hB.size)).trans (belowK_b (w := w) (Nat.le_refl _) W5 D _ _ (by omega) hK5 rfl rfl)
  case stop =>
    rintro D c pre W _ _ h _
    exact h.elim

set_option maxHeartbeats 400000 in
theorem implShiftPoly_any (v : Value) (xs : List Int) (s : Int) (w : World) (hv : IntsV w v xs) (hm : szIntS xs ≤ 1099511627776) (_hi : I64 s) :
    Calls Try.prog 30 #[v, .int .i64 s] w (RetOB Own (ShiftPoly_v xs s) w) := by
  have hm' : xs.length ≤ 1099511627776 := hm
  clear hm
  have hB0 : Below w.heap.size w (w.alloc (.cells #[.int .i64 s] 3)) := (Below.refl _ _).alloc (Nat.le_refl _) _
  have hx0 : (w.alloc (.cells #[.int .i64 s] 3)).cell? ⟨w.heap.size, 0, none⟩ = some (.int .i64 s) := by rw [World.cell?_alloc_at _ _ _ _ rfl]; rfl
  cases h1 : polyB xs
  · rw [ShiftPoly_no1 h1]
    have c1 := fun w' hB => isPolynomial_ret v xs w' (hv.below hB) hm'
    rw [h1] at c1
    have c1' := Lib.hid c1
    clear c1 h1
    go_enter Try.func30, Try.ntmps30
    go_wp2_with fail
    refine (c1'.out _ hB0).mono ?_
    rintro e w1 ⟨rfl, hB1⟩
    have hB01 := hB0.trans (hB1.mono (by simp))
    go_wp2
    go_ret2
    exact ⟨_, rfl, Own.nil _ _ _, hB01⟩
  · cases h2 : inB s (-9) 9
    · rw [ShiftPoly_no2 h2]
      have c1 := fun w' hB => isPolynomial_ret v xs w' (hv.below hB) hm'
      rw [h1] at c1
      have c1' := Lib.hid c1
      have h2' := Lib.hid h2
      clear c1 h1 h2
      go_enter Try.func30, Try.ntmps30
      go_wp2_with fail
      refine (c1'.out _ hB0).mono ?_
      rintro e w1 ⟨rfl, hB1⟩
      have hx1 : w1.cell? ⟨w.heap.size, 0, none⟩ = some (.int .i64 s) := (hB1.cell (p := ⟨w.heap.size, 0, none⟩) (by simp)).trans hx0
      have hB01 := hB0.trans (hB1.mono (by simp))
      go_wp2_with fail
      refine (within_any _ _ _ _).mono ?_
      rintro e w_ ⟨rfl, rfl⟩
      rw [h2'.out]
      go_wp2
      go_ret2
      exact ⟨_, rfl, Own.nil _ _ _, hB01⟩
    · rw [ShiftPoly_yes h1 h2]
      exact implShiftPoly_yes v xs s w hv h1 h2

end Go.Proofs.Ytblippeklbhepaa

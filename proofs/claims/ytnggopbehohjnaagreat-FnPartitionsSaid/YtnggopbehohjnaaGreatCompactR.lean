/- slices.Compact on a row of fractions. No conditions but small sizes. -/
import Derived.Test.YtnggopbehohjnaaGreatSortedR
import Derived.Lib.SliceRun
namespace Go.Proofs.YtnggopbehohjnaaGreat
open Go.Shelf Go.RowKit

theorem cmpL_cons {c z : Int × Int} {X : List (Int × Int)} (h : X.head? = some z) : cmpL (c :: X) = if c = z then cmpL X else c :: cmpL X := by
  cases X with
  | nil => simp at h
  | cons b s =>
    obtain rfl : b = z := by simpa using h
    by_cases e : c = b
    · subst e; rw [cmpL_same, if_pos rfl]
    · rw [cmpL_new e, if_neg e]
theorem cmpL_snoc (a b : Int × Int) : ∀ l : List (Int × Int), cmpL (l ++ [a, b]) = cmpL (l ++ [a]) ++ (if a = b then [] else [b]) := by
  intro l
  induction l with
  | nil =>
    by_cases e : a = b
    · subst e; simp [cmpL_same, cmpL_one]
    · simp [cmpL_new e, cmpL_one, e]
  | cons c t ih =>
    obtain ⟨z, h1⟩ : ∃ z, (t ++ [a]).head? = some z := by cases t <;> simp
    have h2 : (t ++ [a, b]).head? = some z := by cases t <;> simpa using h1
    rw [List.cons_append, List.cons_append, cmpL_cons h1, cmpL_cons h2, ih]
    split
    · rfl
    · rfl
theorem cmpL_take {xs : List (Int × Int)} {k : Nat} (h : k + 1 < xs.length) : cmpL (xs.take (k + 1 + 1)) = cmpL (xs.take (k + 1)) ++ (if nthR xs k = nthR xs (k + 1) then [] else [nthR xs (k + 1)]) := by
  rw [take_nthR h, take_nthR (show k < xs.length by omega), List.append_assoc]
  exact cmpL_snoc _ _ _
theorem RowC.congr {w : World} {g n : Nat} {Z Z' : Nat → Int × Int} (h : RowC w g n Z) (hz : ∀ i, i < n → Z i = Z' i) : RowC w g n Z' := fun i hi => by rw [← hz i hi]; exact h i hi
theorem RowC.store {w : World} {g n K : Nat} {Z : Nat → Int × Int} (h : RowC w g n Z) (hK : K < n) (x : Int × Int) : RowC ((w.setCell ⟨g, K * 2, none⟩ (.int .i64 x.1)).setCell ⟨g, K * 2 + 1, none⟩ (.int .i64 x.2)) g n (fun i => if i = K then x else Z i) := by
  intro i hi
  obtain ⟨⟨c0, c1⟩, f0, f1⟩ := h i hi
  obtain ⟨⟨k0, k1⟩, _, _⟩ := h K hK
  refine ⟨?_, by rw [World.frozen?_setCell, World.frozen?_setCell]; exact f0, by rw [World.frozen?_setCell, World.frozen?_setCell]; exact f1⟩
  have oth : ∀ (W : World) (a b : Nat) (v : Value), a ≠ b → (W.setCell ⟨g, a, none⟩ v).cell? ⟨g, b, none⟩ = W.cell? ⟨g, b, none⟩ := fun W a b v hne => World.cell?_setCell_other W _ _ v (fun e => hne (by injection e))
  have sam : ∀ (W : World) (a : Nat) (v u : Value), W.cell? ⟨g, a, none⟩ = some u → (W.setCell ⟨g, a, none⟩ v).cell? ⟨g, a, none⟩ = some v := fun W a v u hu => World.cell?_setCell_same W _ v hu
  by_cases e : i = K
  · subst e
    simp only [if_true]
    refine ⟨?_, ?_⟩
    · rw [oth _ _ _ _ (by omega)]
      exact sam _ _ _ _ c0
    · exact sam _ _ _ _ ((oth _ _ _ _ (by omega)).trans c1)
  · simp only [if_neg e]
    exact ⟨by rw [oth _ _ _ _ (by omega), oth _ _ _ _ (by omega)]; exact c0, by rw [oth _ _ _ _ (by omega), oth _ _ _ _ (by omega)]; exact c1⟩

theorem run_clear_rats (w : World) (ty : TypeId) (b o n c : Nat) (hn : 0 < n) (hc : ∀ j, j < n * 2 → (w.cell? ⟨b, o + j, none⟩).isSome = true) (hf : ∀ j, j < n * 2 → w.frozen? ⟨b, o + j, none⟩ = false) :
    (Builtin.clear_ #[24] ty #[.slice (some ⟨b, o, none⟩) n c]).run Tryz.prog w = .ok (.tuple #[]) (w.setCells b o (List.replicate (n * 2) (.int .i64 0))) := by
  have hzc : (Builtin.zeroCells (Value.agg #[.int .i64 0, .int .i64 0]).cells n).toList = List.replicate (n * 2) (.int .i64 0) := by
    apply List.ext_getElem?
    intro j
    by_cases hj : j < n * 2
    · have := Nat.mod_lt j (show 0 < 2 by decide)
      rcases Nat.mod_two_eq_zero_or_one j with q | q <;> simp [Builtin.zeroCells, Value.cells, hj, q]
    · simp [Builtin.zeroCells, Value.cells, hj]
  have hst := run_storeCells_cells (P := Tryz.prog) b o (List.replicate (n * 2) (.int .i64 0)) 0 w (by simpa using hc) (by simpa using hf) (by intro v hv'; rw [List.eq_of_mem_replicate hv']; rfl)
  simp only [Nat.add_zero] at hst
  obtain ⟨m, rfl⟩ : ∃ m, n = m + 1 := ⟨n - 1, by omega⟩
  simp [Builtin.clear_, run_underlying Tryz.underlying24, Tryz.zeroValue50, hzc, hst]

set_option maxHeartbeats 3200000 in
theorem compact_any (g cap : Nat) (xs : List (Int × Int)) (w : World) (hr : RowC w g xs.length (nthR xs)) (hc : xs.length ≤ cap ∧ cap ≤ maxLen) (hm : xs.length ≤ 1099511627776) :
    Calls Tryz.prog 176 #[.slice (some ⟨g, 0, none⟩) xs.length cap] w fun e w' => e = .returned (.slice (some ⟨g, 0, none⟩) (cmpL xs).length cap) ∧ RowC w' g (cmpL xs).length (nthR (cmpL xs)) ∧ (∀ c, ShapeC w g c → ShapeC w' g c) ∧ Upon g w w' := by
  have hwhole : cmpL xs = xs → (cmpL xs).length = xs.length ∧ RowC w g (cmpL xs).length (nthR (cmpL xs)) := fun h => by rw [h]; exact ⟨rfl, hr⟩
  have h2 : xs.length < 2 → cmpL xs = xs := fun h => by
    rcases xs with _ | ⟨a, _ | ⟨b, t⟩⟩
    · rfl
    · exact cmpL_one a
    · simp only [List.length_cons] at h; omega
  have ht1 : 1 ≤ xs.length → cmpL (xs.take 1) = xs.take 1 := fun h => by
    rcases xs with _ | ⟨a, t⟩
    · simp at h
    · simp [cmpL_one]
  have htn : xs.take xs.length = xs := List.take_length
  have hsn := fun k h => cmpL_take (xs := xs) (k := k) h
  have htk := fun k (h : k < xs.length) => take_nthR (xs := xs) (k := k) h
  have hln : ∀ k, k ≤ xs.length → (xs.take k).length = k := fun k h => by simp; omega
  obtain ⟨n, hn⟩ : ∃ n, xs.length = n := ⟨_, rfl⟩
  simp only [hn] at hr hc hm hwhole h2 ht1 htn hsn htk hln ⊢
  have hr' := Lib.hid hr
  have hwhole' := Lib.hid hwhole
  have h2' := Lib.hid h2
  have ht1' := Lib.hid ht1
  have htn' := Lib.hid htn
  have hsn' := Lib.hid hsn
  have htk' := Lib.hid htk
  have hln' := Lib.hid hln
  have hn' := Lib.hid hn
  clear hr hwhole h2 ht1 htn hsn htk hln hn
  by_cases hn2 : n < 2
  · go_enter Tryz.func176, Tryz.ntmps176
    have h3 : (n : Int) < 2 := by omega
    go_wp2
    go_ret
    obtain ⟨z1, z2⟩ := hwhole'.out (h2'.out hn2)
    exact ⟨by rw [z1]; rfl, z2, fun _ h => h, Upon.refl _ _⟩
  have h3 : ¬ (n : Int) < 2 := by omega
  go_enter Tryz.func176, Tryz.ntmps176
  go_wp2_with fail
  go_loopw [3] (fun i wr => ∃ k : Nat, 0 < k ∧ k ≤ n ∧ i = .int .i64 k ∧ cmpL (xs.take k) = xs.take k ∧ ∃ q, wr = w.drewN q) (fun i _ => n - (intOf i).toNat)
  case atStart => exact ⟨1, by omega, by omega, rfl, ht1'.out (by omega), 0, rfl⟩
  case round =>
    obtain ⟨k, hk0, hk, rfl, hcm, q, rfl⟩ := hrel
    by_cases hlt : k < n
    · obtain ⟨j, hj⟩ : ∃ j, j + 1 = k := ⟨k - 1, by omega⟩
      have g1 : IntKind.i64.wrap ((k : Int) - 1) = (j : Int) := by rw [IntKind.wrap_i64]; omega
      have g2 : (0 : Int) ≤ (k : Int) := by omega
      have g3 : (k : Int) < (n : Int) := by omega
      have g4 : (j : Int) < (n : Int) := by omega
      have g5 : j < n := by omega
      obtain ⟨⟨c0, c1⟩, _⟩ := hr'.out k hlt
      obtain ⟨⟨d0, d1⟩, _⟩ := hr'.out j g5
      have hs := hsn'.out j (by omega)
      have hs2 := htk'.out k hlt
      rw [hj] at hs
      obtain ⟨x, hx⟩ : ∃ x, nthR xs k = x := ⟨_, rfl⟩
      obtain ⟨y, hy⟩ : ∃ y, nthR xs j = y := ⟨_, rfl⟩
      rw [hx] at c0 c1 hs hs2
      rw [hy] at d0 d1 hs
      obtain ⟨x1, x2⟩ := x
      obtain ⟨y1, y2⟩ := y
      simp only at c0 c1 d0 d1
      have hj' := Lib.hid hj
      have hs' := Lib.hid hs
      have hs2' := Lib.hid hs2
      have hx' := Lib.hid hx
      have hy' := Lib.hid hy
      have hcm' := Lib.hid hcm
      clear hj hs hs2 hx hy hcm
      by_cases heq : (y1, y2) = (x1, x2)
      · have hs3 := hs'.out
        rw [if_pos heq, List.append_nil, hcm'.out] at hs3
        obtain ⟨rfl, rfl⟩ := Prod.mk.inj heq
        clear heq hs'
        have hs3' := Lib.hid hs3
        clear hs3
        go_wp2_with fail
        go_quiet (fail)
        go_wp2_with fail
        have hB0 : Upon g w (w.drewN (q + nq)) := (Upon.refl _ _).drewN _
        have hR0 : RowC (w.drewN (q + nq)) g n (nthR xs) := hr'.out
        have hS0 : ∀ c, ShapeC w g c → ShapeC (w.drewN (q + nq)) g c := fun _ h => h
        obtain ⟨W, hW⟩ : ∃ W, w.drewN (q + nq) = W := ⟨_, rfl⟩
        rw [hW] at hB0 hR0 hS0 ⊢
        obtain ⟨m, hmk⟩ : ∃ m, n - k = m := ⟨_, rfl⟩
        obtain ⟨cm, hck⟩ : ∃ cm, cap - k = cm := ⟨_, rfl⟩
        rw [hmk, hck]
        have hm0 : 0 < m := by omega
        have hmk2 : k + m = n := by omega
        have hm9 : m ≤ 1099511627776 := by omega
        have hW' := Lib.hid hW
        have hmk' := Lib.hid hmk
        have hck' := Lib.hid hck
        have hB0' := Lib.hid hB0
        have hR0' := Lib.hid hR0
        have hS0' := Lib.hid hS0
        have hmk2' := Lib.hid hmk2
        clear hW hmk hck hB0 hR0 hS0 hmk2
        clear c0 c1 d0 d1
        go_loopw [3, 5] (fun a b wr => ∃ K J : Nat, 0 < J ∧ J ≤ m ∧ a = .int .i64 K ∧ b = .int .i64 J ∧ K + 1 ≤ k + J ∧ (cmpL (xs.take (k + J))).length = K ∧ RowC wr g n (fun i => if i < K then nthR (cmpL (xs.take (k + J))) i else nthR xs i) ∧ (∀ c, ShapeC w g c → ShapeC wr g c) ∧ Upon g w wr) (fun _ b _ => m - (intOf b).toNat)
        case atStart => exact ⟨k, 1, by omega, by omega, rfl, rfl, Nat.le_refl _, by rw [hs3'.out]; exact hln'.out k hk, hR0'.out.congr (fun i hi => by
          rw [hs3'.out]
          split
          · rename_i h; exact (nthR_take h).symm
          · rfl), hS0'.out, hB0'.out⟩
        case round =>
          obtain ⟨K, J, hJ0, hJm, rfl, rfl, hKJ, hKl, hR, hSw, hBw⟩ := hrel
          by_cases hJ : J < m
          · obtain ⟨j2, hj2⟩ : ∃ j, j + 1 = J := ⟨J - 1, by omega⟩
            have hmkk := hmk2'.out
            have b1 : IntKind.i64.wrap ((J : Int) - 1) = (j2 : Int) := by rw [IntKind.wrap_i64]; omega
            have b2 : (0 : Int) ≤ (J : Int) := by omega
            have b3 : (J : Int) < (m : Int) := by omega
            have b4 : (j2 : Int) < (m : Int) := by omega
            have b5 : j2 < m := by omega
            have b6 : (K : Int) < (n : Int) := by omega
            have b7 : K < n := by omega
            obtain ⟨⟨c0, c1⟩, _⟩ := hR (k + J) (by omega)
            obtain ⟨⟨d0, d1⟩, _⟩ := hR (k + j2) (by omega)
            obtain ⟨⟨e0, e1⟩, f0, f1⟩ := hR K b7
            simp only at c0 c1 d0 d1 e0 e1
            rw [if_neg (show ¬ k + J < K by omega)] at c0 c1
            rw [if_neg (show ¬ k + j2 < K by omega)] at d0 d1
            rw [if_neg (show ¬ K < K by omega)] at e0 e1
            have hs := hsn'.out (k + j2) (by omega)
            rw [show k + j2 + 1 = k + J by omega] at hs
            rw [show (k + J) * 2 = k * 2 + J * 2 by omega] at c0 c1
            rw [show (k + j2) * 2 = k * 2 + j2 * 2 by omega] at d0 d1
            obtain ⟨u, hu⟩ : ∃ x, nthR xs (k + J) = x := ⟨_, rfl⟩
            obtain ⟨v, hv⟩ : ∃ y, nthR xs (k + j2) = y := ⟨_, rfl⟩
            obtain ⟨o, ho⟩ : ∃ y, nthR xs K = y := ⟨_, rfl⟩
            rw [hu] at c0 c1 hs
            rw [hv] at d0 d1 hs
            rw [ho] at e0 e1
            obtain ⟨u1, u2⟩ := u
            obtain ⟨v1, v2⟩ := v
            obtain ⟨o1, o2⟩ := o
            simp only at c0 c1 d0 d1 e0 e1
            have hj2' := Lib.hid hj2
            have hmkk' := Lib.hid hmkk
            have hs' := Lib.hid hs
            have hu' := Lib.hid hu
            have hv' := Lib.hid hv
            have ho' := Lib.hid ho
            have hKl' := Lib.hid hKl
            have hR' := Lib.hid hR
            have hKJ' := Lib.hid hKJ
            have hSw' := Lib.hid hSw
            have hBw' := Lib.hid hBw
            clear hj2 hmkk hs hu hv ho hKl hR hKJ hSw hBw
            by_cases heq : (v1, v2) = (u1, u2)
            · have hs4 := hs'.out
              rw [if_pos heq, List.append_nil] at hs4
              obtain ⟨rfl, rfl⟩ := Prod.mk.inj heq
              clear heq hs'
              have hs4' := Lib.hid hs4
              clear hs4
              go_wp2_with fail
              go_quiet (fail)
              go_wp2_with fail
              go_roundw
              case rel =>
                exact ⟨K, J + 1, by omega, by omega, rfl, by go_num, by have := hKJ'.out; omega, by rw [show k + (J + 1) = k + J + 1 by omega, hs4'.out]; exact hKl'.out, (RowC.congr hR'.out (fun i hi => by rw [show k + (J + 1) = k + J + 1 by omega, hs4'.out])), hSw'.out, hBw'.out.drewN _⟩
              case measure => simp [intOf]; omega
            · have hs4 := hs'.out
              rw [if_neg heq] at hs4
              have hne : ¬ v1 = u1 ∨ v1 = u1 ∧ ¬ v2 = u2 := by
                by_cases h1 : v1 = u1
                · exact .inr ⟨h1, fun h2 => heq (by rw [h1, h2])⟩
                · exact .inl h1
              clear heq hs'
              have hR2 : RowC ((wr.drew.setCell ⟨g, K * 2, none⟩ (.int .i64 u1)).setCell ⟨g, K * 2 + 1, none⟩ (.int .i64 u2)) g n (fun i => if i < K + 1 then nthR (cmpL (xs.take (k + (J + 1)))) i else nthR xs i) := by
                refine (RowC.store (w := wr.drew) hR'.out b7 (u1, u2)).congr (fun i hi => ?_)
                rw [show k + (J + 1) = k + J + 1 by omega, hs4]
                by_cases e1 : i = K
                · subst e1
                  rw [if_pos rfl, if_pos (by omega), nthR, List.getElem?_append_right (by rw [hKl'.out]; exact Nat.le_refl _), hKl'.out, Nat.sub_self]
                  rfl
                · rw [if_neg e1]
                  by_cases e2 : i < K
                  · rw [if_pos e2, if_pos (by omega), nthR, nthR, List.getElem?_append_left (by rw [hKl'.out]; exact e2)]
                  · rw [if_neg e2, if_neg (by omega)]
              have hK2 : (cmpL (xs.take (k + (J + 1)))).length = K + 1 := by
                rw [show k + (J + 1) = k + J + 1 by omega, hs4, List.length_append, hKl'.out]; rfl
              have hs4' := Lib.hid hs4
              have hR2' := Lib.hid hR2
              have hK2' := Lib.hid hK2
              clear hs4 hR2 hK2
              rcases hne with hne | ⟨hna, hne⟩
              · have hne' : ¬ u1 = v1 := fun h => hne h.symm
                clear hne
                go_wp2_with fail
                go_quiet (fail)
                go_wp2_with fail
                go_roundw
                case rel =>
                  exact ⟨K + 1, J + 1, by omega, by omega, by go_num, by go_num, by have := hKJ'.out; omega, hK2'.out, hR2'.out, fun c h => ((hSw'.out c h).setCell ⟨g, K * 2, none⟩ _).setCell ⟨g, K * 2 + 1, none⟩ _, ((hBw'.out.drewN _).setCell (K * 2) _).setCell (K * 2 + 1) _⟩
                case measure => simp [intOf]; omega
              · subst hna
                have hne' : ¬ u2 = v2 := fun h => hne h.symm
                clear hne
                go_wp2_with fail
                go_quiet (fail)
                go_wp2_with fail
                go_roundw
                case rel =>
                  exact ⟨K + 1, J + 1, by omega, by omega, by go_num, by go_num, by have := hKJ'.out; omega, hK2'.out, hR2'.out, fun c h => ((hSw'.out c h).setCell ⟨g, K * 2, none⟩ _).setCell ⟨g, K * 2 + 1, none⟩ _, ((hBw'.out.drewN _).setCell (K * 2) _).setCell (K * 2 + 1) _⟩
                case measure => simp [intOf]; omega
          · have hJm2 : J = m := by omega
            have hmkk := hmk2'.out
            have hall : k + J = n := by omega
            rw [hall, htn'.out] at hKl hR
            rw [hall] at hKJ
            have hcl : ∀ ty, (Builtin.clear_ #[24] ty #[.slice (some ⟨g, K * 2, none⟩) (n - K) (cap - K)]).run Tryz.prog wr = .ok (.tuple #[]) (wr.setCells g (K * 2) (List.replicate ((n - K) * 2) (.int .i64 0))) := fun ty =>
              run_clear_rats wr ty g (K * 2) (n - K) (cap - K) (by omega) (fun j hj => by
                obtain ⟨⟨c0, c1⟩, _⟩ := hR ((K * 2 + j) / 2) (by omega)
                rcases Nat.mod_two_eq_zero_or_one j with q | q
                · rw [show (K * 2 + j) / 2 * 2 = K * 2 + j by omega] at c0; rw [c0]; rfl
                · rw [show (K * 2 + j) / 2 * 2 + 1 = K * 2 + j by omega] at c1; rw [c1]; rfl) (fun j hj => by
                obtain ⟨_, f0, f1⟩ := hR ((K * 2 + j) / 2) (by omega)
                rcases Nat.mod_two_eq_zero_or_one j with q | q
                · rw [show (K * 2 + j) / 2 * 2 = K * 2 + j by omega] at f0; exact f0
                · rw [show (K * 2 + j) / 2 * 2 + 1 = K * 2 + j by omega] at f1; exact f1)
            have hR2 : RowC (wr.setCells g (K * 2) (List.replicate ((n - K) * 2) (.int .i64 0))) g K (nthR (cmpL xs)) := fun i hi => by
              obtain ⟨⟨c0, c1⟩, f0, f1⟩ := hR i (by omega)
              simp only [if_pos hi] at c0 c1
              refine ⟨⟨?_, ?_⟩, by rw [World.frozen?_setCells]; exact f0, by rw [World.frozen?_setCells]; exact f1⟩
              · rw [World.cell?_setCells_out _ _ _ _ _ (fun _ _ => .inl (by show i * 2 < K * 2; omega))]; exact c0
              · rw [World.cell?_setCells_out _ _ _ _ _ (fun _ _ => .inl (by show i * 2 + 1 < K * 2; omega))]; exact c1
            have hB2 : Upon g w (wr.setCells g (K * 2) (List.replicate ((n - K) * 2) (.int .i64 0))) := hBw.setCells _ _
            have hS2 : ∀ c, ShapeC w g c → ShapeC (wr.setCells g (K * 2) (List.replicate ((n - K) * 2) (.int .i64 0))) g c := fun c h => ShapeC.setCells _ _ _ (hSw c h)
            have x1 : K ≤ n := by omega
            have x2 : ¬ cap = K := by omega
            have x3 : K ≤ cap := by omega
            have x4 : ¬ J < m := hJ
            have x5 : ¬ (J : Int) < (m : Int) := by omega
            have hmkk' := Lib.hid hmkk
            have hall' := Lib.hid hall
            have hKl' := Lib.hid hKl
            have hR' := Lib.hid hR
            have hR2' := Lib.hid hR2
            have hB2' := Lib.hid hB2
            have hS2' := Lib.hid hS2
            have hJm2' := Lib.hid hJm2
            have hBw' := Lib.hid hBw
            have hSw' := Lib.hid hSw
            clear hmkk hall hKl hR hR2 hB2 hS2 hJm2 hBw hSw
            go_wp2
            go_ret
            exact ⟨by rw [hKl'.out]; rfl, by rw [hKl'.out]; exact hR2'.out, hS2'.out, hB2'.out⟩
      · have hne : ¬ y1 = x1 ∨ y1 = x1 ∧ ¬ y2 = x2 := by
          by_cases h1 : y1 = x1
          · exact .inr ⟨h1, fun h2 => heq (by rw [h1, h2])⟩
          · exact .inl h1
        have hs3 := hs'.out
        rw [if_neg heq, hcm'.out] at hs3
        have hs4 := hs3.trans hs2'.out.symm
        clear heq hs' hs3
        have hs4' := Lib.hid hs4
        clear hs4
        rcases hne with hne | ⟨hna, hne⟩
        · have hne' : ¬ x1 = y1 := fun h => hne h.symm
          clear hne
          go_wp2_with fail
          go_quiet (fail)
          go_wp2_with fail
          go_roundw
          case rel => exact ⟨k + 1, by omega, by omega, by go_num, hs4'.out, _, rfl⟩
          case measure => simp [intOf]; omega
        · subst hna
          have hne' : ¬ x2 = y2 := fun h => hne h.symm
          clear hne
          go_wp2_with fail
          go_quiet (fail)
          go_wp2_with fail
          go_roundw
          case rel => exact ⟨k + 1, by omega, by omega, by go_num, hs4'.out, _, rfl⟩
          case measure => simp [intOf]; omega
    · obtain rfl : k = n := by omega
      rw [htn'.out] at hcm
      have hcm' := Lib.hid hcm
      clear hcm
      go_wp2
      go_ret
      obtain ⟨z1, z2⟩ := hwhole'.out hcm'.out
      exact ⟨by rw [z1]; rfl, z2, fun _ h => h, (Upon.refl _ _).drewN _⟩

end Go.Proofs.YtnggopbehohjnaaGreat

/- Sum, product, derivative of polynomials: the reference's walk and the program's compute the same lists (wrapping arithmetic). -/
import Derived.Test.YtblippeklbhepaaTrim
namespace Go.Proofs.Ytblippeklbhepaa
open Go.RowKit

/-- The first k elements of xs added into out. -/
def addTo (out xs : List Int) : Nat → List Int
  | 0 => out
  | k + 1 => (addTo out xs k).set k (wrap64 (nth (addTo out xs k) k + nth xs k))
theorem addTo_len (out xs : List Int) (k : Nat) : (addTo out xs k).length = out.length := by
  induction k with
  | zero => rfl
  | succ k ih => rw [addTo, List.length_set, ih]
/-- The sum before it is trimmed. -/
def sumL (p q : List Int) : List Int := addTo (addTo (List.replicate (max p.length q.length) 0) p p.length) q q.length
theorem sumL_len (p q : List Int) : (sumL p q).length = max p.length q.length := by
  unfold sumL; rw [addTo_len, addTo_len, List.length_replicate]
def AddPolys_v (p q : List Int) : List Int × Bool := if (polyB p && polyB q) = true then ifPoly (sumL p q) else ([], false)
theorem AddPolys_len (p q : List Int) : szIntS (AddPolys_v p q).1 ≤ 1099511627776 := by
  unfold AddPolys_v szIntS
  split
  · have := ifPoly_len (sumL p q); omega
  · exact Nat.zero_le _
theorem AddPolys_no1 {p q : List Int} (h : polyB p = false) : AddPolys_v p q = ([], false) := by simp [AddPolys_v, h]
theorem AddPolys_no2 {p q : List Int} (h : polyB q = false) : AddPolys_v p q = ([], false) := by simp [AddPolys_v, h]
theorem AddPolys_yes {p q : List Int} (h1 : polyB p = true) (h2 : polyB q = true) : AddPolys_v p q = ifPoly (sumL p q) := by simp [AddPolys_v, h1, h2]

theorem l1Most_any (a b m : Int) (w : World) (hm : m = max a b) : Calls Try.prog 87 #[.int .i64 a, .int .i64 b] w (Same (.int .i64 m) w) := by
  by_cases h : b < a
  · obtain rfl : m = a := by omega
    clear hm
    go_enter Try.func87, Try.ntmps87
    go_wp2
    go_ret
    exact ⟨rfl, rfl⟩
  · obtain rfl : m = b := by omega
    clear hm
    go_enter Try.func87, Try.ntmps87
    go_wp2
    go_ret
    exact ⟨rfl, rfl⟩

set_option maxHeartbeats 1000000 in
theorem specAddPolys_lt (v u : Value) (p q : List Int) (w : World) (hv : IntsV w v p) (hu : IntsV w u q) (h1 : polyB p = true) (h2 : polyB q = true) (hc : p.length < q.length) :
    Calls Try.prog 25 #[v, u] w (RetOB Own (ifPoly (sumL p q)) w) := by
  have l1 := polyB_le9 h1
  have l2 := polyB_le9 h2
  have c1 := poGood_ret v p w hv (by omega)
  have c2 := fun w' hB => poGood_ret u q w' (hu.below hB) (by omega)
  rw [h1] at c1
  rw [h2] at c2
  have hv' := Lib.hid hv
  have hu' := Lib.hid hu
  obtain ⟨ao, acap, rfl, -, -, -⟩ := id hv
  obtain ⟨bo, bcap, rfl, -, -, -⟩ := id hu
  have c1' := Lib.hid c1
  have c2' := Lib.hid c2
  clear c1 c2 hv hu
  obtain ⟨n, hn⟩ : ∃ n, p.length = n := ⟨_, rfl⟩
  obtain ⟨k, hk⟩ : ∃ k, q.length = k := ⟨_, rfl⟩
  have hs := sumL_len p q
  rw [hn] at c1' hv' l1 hc hs ⊢
  rw [hk] at c2' hu' l2 hc hs ⊢
  have hn' := Lib.hid hn
  have hk' := Lib.hid hk
  have hM : max n k = k := by omega
  rw [hM] at hs
  have hs' := Lib.hid hs
  have hM' := Lib.hid hM
  clear hn hk h1 h2 hM hs
  obtain ⟨i, hi, hz0, hz1, hz2⟩ := info_parts Try.infoInt
  go_enter Try.func25, Try.ntmps25
  go_wp2_with fail
  refine c1'.out.mono ?_
  rintro e w1 ⟨rfl, hB1⟩
  go_wp2_with fail
  refine (c2'.out _ hB1).mono ?_
  rintro e w2 ⟨rfl, hB2⟩
  have hB02 := hB1.trans (hB2.mono hB1.size)
  have hs0 := hB02.size
  clear c1' c2'
  go_wp2_with fail
  refine (l1Most_any _ _ k _ (by omega)).mono ?_
  rintro e w_ ⟨rfl, rfl⟩
  go_wp2_with (at_make; refine wpList_make_full _ rfl _ _ 39 rfl w.heap.size 3 i _ 1 Try.underlying39 hi hz0 hz1 _ _ _ _ k rfl rfl rfl rfl (by rw [hz2]; omega) (by unfold maxLen; omega) hs0 ?_)
  intro w3 hown hgrow
  have hB3 := below_made hB02 hs0 hgrow
  have ho := row_made hown
  clear hown hgrow hi hz0 hz1 hz2
  go_wp2
  go_loopw [27] (fun i wr => ∃ j : Nat, j ≤ n ∧ i = .int .i64 j ∧ RowAt wr w.heap.size w2.heap.size k k (addTo (List.replicate k 0) p j) ∧ Below w.heap.size w wr) (fun i _ => n - (intOf i).toNat)
  case atStart => exact ⟨0, Nat.zero_le _, rfl, ho, hB3⟩
  case round =>
    obtain ⟨j, hj, rfl, ho1, hB4⟩ := hrel
    clear ho hB3
    obtain ⟨wo, rfl⟩ : ∃ wo : World, wo = wr := ⟨_, rfl⟩
    by_cases hlt : j < n
    · obtain ⟨ao', cap', e, -, -, H⟩ := hv'.out.below hB4
      rw [hn'.out] at e H
      obtain ⟨rfl, _, rfl⟩ := Value.slice.inj e
      obtain ⟨b, off, rfl, hcell⟩ := H j hlt
      clear H e
      have g1 := ho1.cell (j := j) (by omega)
      have g3 := ho1.frozen j
      have hst := ho1.stored j (wrap64 (nth (addTo (List.replicate k 0) p j) j + nth p j))
      have hB5 := hB4.setCell (p := ⟨w2.heap.size, j, none⟩) hs0 (.int .i64 (wrap64 (nth (addTo (List.replicate k 0) p j) j + nth p j)))
      go_wp2
      go_roundw
      case rel => exact ⟨j + 1, by omega, by go_num, hst, hB5⟩
      case measure => simp [intOf]; omega
    · obtain rfl : j = n := by omega
      go_wp2
      go_loopw [42] (fun i wr => ∃ l : Nat, l ≤ k ∧ i = .int .i64 l ∧ RowAt wr w.heap.size w2.heap.size k k (addTo (addTo (List.replicate k 0) p j) q l) ∧ Below w.heap.size w wr) (fun i _ => k - (intOf i).toNat)
      case atStart => exact ⟨0, Nat.zero_le _, rfl, ho1, hB4⟩
      case round =>
        obtain ⟨l, hl, rfl, ho2, hB5⟩ := hrel
        clear ho1 hB4
        obtain ⟨wo2, rfl⟩ : ∃ wo : World, wo = wr := ⟨_, rfl⟩
        by_cases hlt2 : l < k
        · obtain ⟨bo', cap', e, -, -, H⟩ := hu'.out.below hB5
          rw [hk'.out] at e H
          obtain ⟨rfl, _, rfl⟩ := Value.slice.inj e
          obtain ⟨b, off, rfl, hcell⟩ := H l hlt2
          clear H e
          have g1 := ho2.cell (j := l) (by omega)
          have g3 := ho2.frozen l
          have hst := ho2.stored l (wrap64 (nth (addTo (addTo (List.replicate k 0) p j) q l) l + nth q l))
          have hB6 := hB5.setCell (p := ⟨w2.heap.size, l, none⟩) hs0 (.int .i64 (wrap64 (nth (addTo (addTo (List.replicate k 0) p j) q l) l + nth q l)))
          go_wp2
          go_roundw
          case rel => exact ⟨l + 1, by omega, by go_num, hst, hB6⟩
          case measure => simp [intOf]; omega
        · have el : l = k := by omega
          subst el
          have hrow : RowAt wo2 w.heap.size w2.heap.size l l (sumL p q) := by
            unfold sumL; rw [hn'.out, hk'.out, hM'.out]; exact ho2
          clear ho2
          have hfin := poIf_any _ _ wo2 hrow.ints (by rw [hs'.out]; omega)
          have hfin' := Lib.hid hfin
          clear hfin
          go_wp2_with fail
          refine hfin'.out.mono ?_
          rintro e w5 ⟨v5, rfl, ho5, hB7⟩
          have hs5 := hB5.size
          go_wp2
          go_ret2
          exact ⟨_, rfl, ho5.mono hs5 (Nat.le_refl _), hB5.trans (hB7.mono hs5)⟩
set_option maxHeartbeats 1000000 in
theorem specAddPolys_ge (v u : Value) (p q : List Int) (w : World) (hv : IntsV w v p) (hu : IntsV w u q) (h1 : polyB p = true) (h2 : polyB q = true) (hc : q.length ≤ p.length) :
    Calls Try.prog 25 #[v, u] w (RetOB Own (ifPoly (sumL p q)) w) := by
  have l1 := polyB_le9 h1
  have l2 := polyB_le9 h2
  have c1 := poGood_ret v p w hv (by omega)
  have c2 := fun w' hB => poGood_ret u q w' (hu.below hB) (by omega)
  rw [h1] at c1
  rw [h2] at c2
  have hv' := Lib.hid hv
  have hu' := Lib.hid hu
  obtain ⟨ao, acap, rfl, -, -, -⟩ := id hv
  obtain ⟨bo, bcap, rfl, -, -, -⟩ := id hu
  have c1' := Lib.hid c1
  have c2' := Lib.hid c2
  clear c1 c2 hv hu
  obtain ⟨n, hn⟩ : ∃ n, p.length = n := ⟨_, rfl⟩
  obtain ⟨k, hk⟩ : ∃ k, q.length = k := ⟨_, rfl⟩
  have hs := sumL_len p q
  rw [hn] at c1' hv' l1 hc hs ⊢
  rw [hk] at c2' hu' l2 hc hs ⊢
  have hn' := Lib.hid hn
  have hk' := Lib.hid hk
  have hM : max n k = n := by omega
  rw [hM] at hs
  have hs' := Lib.hid hs
  have hM' := Lib.hid hM
  clear hn hk h1 h2 hM hs
  obtain ⟨i, hi, hz0, hz1, hz2⟩ := info_parts Try.infoInt
  go_enter Try.func25, Try.ntmps25
  go_wp2_with fail
  refine c1'.out.mono ?_
  rintro e w1 ⟨rfl, hB1⟩
  go_wp2_with fail
  refine (c2'.out _ hB1).mono ?_
  rintro e w2 ⟨rfl, hB2⟩
  have hB02 := hB1.trans (hB2.mono hB1.size)
  have hs0 := hB02.size
  clear c1' c2'
  go_wp2_with fail
  refine (l1Most_any _ _ n _ (by omega)).mono ?_
  rintro e w_ ⟨rfl, rfl⟩
  go_wp2_with (at_make; refine wpList_make_full _ rfl _ _ 39 rfl w.heap.size 3 i _ 1 Try.underlying39 hi hz0 hz1 _ _ _ _ n rfl rfl rfl rfl (by rw [hz2]; omega) (by unfold maxLen; omega) hs0 ?_)
  intro w3 hown hgrow
  have hB3 := below_made hB02 hs0 hgrow
  have ho := row_made hown
  clear hown hgrow hi hz0 hz1 hz2
  go_wp2
  go_loopw [27] (fun i wr => ∃ j : Nat, j ≤ n ∧ i = .int .i64 j ∧ RowAt wr w.heap.size w2.heap.size n n (addTo (List.replicate n 0) p j) ∧ Below w.heap.size w wr) (fun i _ => n - (intOf i).toNat)
  case atStart => exact ⟨0, Nat.zero_le _, rfl, ho, hB3⟩
  case round =>
    obtain ⟨j, hj, rfl, ho1, hB4⟩ := hrel
    clear ho hB3
    obtain ⟨wo, rfl⟩ : ∃ wo : World, wo = wr := ⟨_, rfl⟩
    by_cases hlt : j < n
    · obtain ⟨ao', cap', e, -, -, H⟩ := hv'.out.below hB4
      rw [hn'.out] at e H
      obtain ⟨rfl, _, rfl⟩ := Value.slice.inj e
      obtain ⟨b, off, rfl, hcell⟩ := H j hlt
      clear H e
      have g1 := ho1.cell (j := j) (by omega)
      have g3 := ho1.frozen j
      have hst := ho1.stored j (wrap64 (nth (addTo (List.replicate n 0) p j) j + nth p j))
      have hB5 := hB4.setCell (p := ⟨w2.heap.size, j, none⟩) hs0 (.int .i64 (wrap64 (nth (addTo (List.replicate n 0) p j) j + nth p j)))
      go_wp2
      go_roundw
      case rel => exact ⟨j + 1, by omega, by go_num, hst, hB5⟩
      case measure => simp [intOf]; omega
    · obtain rfl : j = n := by omega
      go_wp2
      go_loopw [42] (fun i wr => ∃ l : Nat, l ≤ k ∧ i = .int .i64 l ∧ RowAt wr w.heap.size w2.heap.size j j (addTo (addTo (List.replicate j 0) p j) q l) ∧ Below w.heap.size w wr) (fun i _ => k - (intOf i).toNat)
      case atStart => exact ⟨0, Nat.zero_le _, rfl, ho1, hB4⟩
      case round =>
        obtain ⟨l, hl, rfl, ho2, hB5⟩ := hrel
        clear ho1 hB4
        obtain ⟨wo2, rfl⟩ : ∃ wo : World, wo = wr := ⟨_, rfl⟩
        by_cases hlt2 : l < k
        · obtain ⟨bo', cap', e, -, -, H⟩ := hu'.out.below hB5
          rw [hk'.out] at e H
          obtain ⟨rfl, _, rfl⟩ := Value.slice.inj e
          obtain ⟨b, off, rfl, hcell⟩ := H l hlt2
          clear H e
          have g1 := ho2.cell (j := l) (by omega)
          have g3 := ho2.frozen l
          have hst := ho2.stored l (wrap64 (nth (addTo (addTo (List.replicate j 0) p j) q l) l + nth q l))
          have hB6 := hB5.setCell (p := ⟨w2.heap.size, l, none⟩) hs0 (.int .i64 (wrap64 (nth (addTo (addTo (List.replicate j 0) p j) q l) l + nth q l)))
          go_wp2
          go_roundw
          case rel => exact ⟨l + 1, by omega, by go_num, hst, hB6⟩
          case measure => simp [intOf]; omega
        · have el : l = k := by omega
          subst el
          have hrow : RowAt wo2 w.heap.size w2.heap.size j j (sumL p q) := by
            unfold sumL; rw [hn'.out, hk'.out, hM'.out]; exact ho2
          clear ho2
          have hfin := poIf_any _ _ wo2 hrow.ints (by rw [hs'.out]; omega)
          have hfin' := Lib.hid hfin
          clear hfin
          go_wp2_with fail
          refine hfin'.out.mono ?_
          rintro e w5 ⟨v5, rfl, ho5, hB7⟩
          have hs5 := hB5.size
          go_wp2
          go_ret2
          exact ⟨_, rfl, ho5.mono hs5 (Nat.le_refl _), hB5.trans (hB7.mono hs5)⟩
set_option maxHeartbeats 1000000 in
theorem implAddPolys_lt (v u : Value) (p q : List Int) (w : World) (hv : IntsV w v p) (hu : IntsV w u q) (h1 : polyB p = true) (h2 : polyB q = true) (hc : p.length < q.length) :
    Calls Try.prog 24 #[v, u] w (RetOB Own (ifPoly (sumL p q)) w) := by
  have l1 := polyB_le9 h1
  have l2 := polyB_le9 h2
  have c1 := isPolynomial_ret v p w hv (by omega)
  have c2 := fun w' hB => isPolynomial_ret u q w' (hu.below hB) (by omega)
  rw [h1] at c1
  rw [h2] at c2
  have hv' := Lib.hid hv
  have hu' := Lib.hid hu
  obtain ⟨ao, acap, rfl, -, -, -⟩ := id hv
  obtain ⟨bo, bcap, rfl, -, -, -⟩ := id hu
  have c1' := Lib.hid c1
  have c2' := Lib.hid c2
  clear c1 c2 hv hu
  obtain ⟨n, hn⟩ : ∃ n, p.length = n := ⟨_, rfl⟩
  obtain ⟨k, hk⟩ : ∃ k, q.length = k := ⟨_, rfl⟩
  have hs := sumL_len p q
  rw [hn] at c1' hv' l1 hc hs ⊢
  rw [hk] at c2' hu' l2 hc hs ⊢
  have hn' := Lib.hid hn
  have hk' := Lib.hid hk
  have hM : max n k = k := by omega
  rw [hM] at hs
  have hs' := Lib.hid hs
  have hM' := Lib.hid hM
  clear hn hk h1 h2 hM hs
  obtain ⟨i, hi, hz0, hz1, hz2⟩ := info_parts Try.infoInt
  go_enter Try.func24, Try.ntmps24
  go_wp2_with fail
  refine c1'.out.mono ?_
  rintro e w1 ⟨rfl, hB1⟩
  go_wp2_with fail
  refine (c2'.out _ hB1).mono ?_
  rintro e w2 ⟨rfl, hB2⟩
  have hB02 := hB1.trans (hB2.mono hB1.size)
  have hs0 := hB02.size
  clear c1' c2'
  go_wp2_with (at_make; refine wpList_make_full _ rfl _ _ 39 rfl w.heap.size 3 i _ 1 Try.underlying39 hi hz0 hz1 _ _ _ _ k rfl rfl rfl rfl (by rw [hz2]; omega) (by unfold maxLen; omega) hs0 ?_)
  intro w3 hown hgrow
  have hB3 := below_made hB02 hs0 hgrow
  have ho := row_made hown
  clear hown hgrow hi hz0 hz1 hz2
  go_wp2
  go_loopw [27] (fun i wr => ∃ j : Nat, j ≤ n ∧ i = .int .i64 j ∧ RowAt wr w.heap.size w2.heap.size k k (addTo (List.replicate k 0) p j) ∧ Below w.heap.size w wr) (fun i _ => n - (intOf i).toNat)
  case atStart => exact ⟨0, Nat.zero_le _, rfl, ho, hB3⟩
  case round =>
    obtain ⟨j, hj, rfl, ho1, hB4⟩ := hrel
    clear ho hB3
    obtain ⟨wo, rfl⟩ : ∃ wo : World, wo = wr := ⟨_, rfl⟩
    by_cases hlt : j < n
    · obtain ⟨ao', cap', e, -, -, H⟩ := hv'.out.below hB4
      rw [hn'.out] at e H
      obtain ⟨rfl, _, rfl⟩ := Value.slice.inj e
      obtain ⟨b, off, rfl, hcell⟩ := H j hlt
      clear H e
      have g1 := ho1.cell (j := j) (by omega)
      have g3 := ho1.frozen j
      have hst := ho1.stored j (wrap64 (nth (addTo (List.replicate k 0) p j) j + nth p j))
      have hB5 := hB4.setCell (p := ⟨w2.heap.size, j, none⟩) hs0 (.int .i64 (wrap64 (nth (addTo (List.replicate k 0) p j) j + nth p j)))
      go_wp2
      go_roundw
      case rel => exact ⟨j + 1, by omega, by go_num, hst, hB5⟩
      case measure => simp [intOf]; omega
    · obtain rfl : j = n := by omega
      go_wp2
      go_loopw [42] (fun i wr => ∃ l : Nat, l ≤ k ∧ i = .int .i64 l ∧ RowAt wr w.heap.size w2.heap.size k k (addTo (addTo (List.replicate k 0) p j) q l) ∧ Below w.heap.size w wr) (fun i _ => k - (intOf i).toNat)
      case atStart => exact ⟨0, Nat.zero_le _, rfl, ho1, hB4⟩
      case round =>
        obtain ⟨l, hl, rfl, ho2, hB5⟩ := hrel
        clear ho1 hB4
        obtain ⟨wo2, rfl⟩ : ∃ wo : World, wo = wr := ⟨_, rfl⟩
        by_cases hlt2 : l < k
        · obtain ⟨bo', cap', e, -, -, H⟩ := hu'.out.below hB5
          rw [hk'.out] at e H
          obtain ⟨rfl, _, rfl⟩ := Value.slice.inj e
          obtain ⟨b, off, rfl, hcell⟩ := H l hlt2
          clear H e
          have g1 := ho2.cell (j := l) (by omega)
          have g3 := ho2.frozen l
          have hst := ho2.stored l (wrap64 (nth (addTo (addTo (List.replicate k 0) p j) q l) l + nth q l))
          have hB6 := hB5.setCell (p := ⟨w2.heap.size, l, none⟩) hs0 (.int .i64 (wrap64 (nth (addTo (addTo (List.replicate k 0) p j) q l) l + nth q l)))
          go_wp2
          go_roundw
          case rel => exact ⟨l + 1, by omega, by go_num, hst, hB6⟩
          case measure => simp [intOf]; omega
        · have el : l = k := by omega
          subst el
          have hrow : RowAt wo2 w.heap.size w2.heap.size l l (sumL p q) := by
            unfold sumL; rw [hn'.out, hk'.out, hM'.out]; exact ho2
          clear ho2
          have hfin := polynomial_any _ _ wo2 hrow.ints (by rw [hs'.out]; omega)
          have hfin' := Lib.hid hfin
          clear hfin
          go_wp2_with fail
          refine hfin'.out.mono ?_
          rintro e w5 ⟨v5, rfl, ho5, hB7⟩
          have hs5 := hB5.size
          go_wp2
          go_ret2
          exact ⟨_, rfl, ho5.mono hs5 (Nat.le_refl _), hB5.trans (hB7.mono hs5)⟩
set_option maxHeartbeats 1000000 in
theorem implAddPolys_ge (v u : Value) (p q : List Int) (w : World) (hv : IntsV w v p) (hu : IntsV w u q) (h1 : polyB p = true) (h2 : polyB q = true) (hc : q.length ≤ p.length) :
    Calls Try.prog 24 #[v, u] w (RetOB Own (ifPoly (sumL p q)) w) := by
  have l1 := polyB_le9 h1
  have l2 := polyB_le9 h2
  have c1 := isPolynomial_ret v p w hv (by omega)
  have c2 := fun w' hB => isPolynomial_ret u q w' (hu.below hB) (by omega)
  rw [h1] at c1
  rw [h2] at c2
  have hv' := Lib.hid hv
  have hu' := Lib.hid hu
  obtain ⟨ao, acap, rfl, -, -, -⟩ := id hv
  obtain ⟨bo, bcap, rfl, -, -, -⟩ := id hu
  have c1' := Lib.hid c1
  have c2' := Lib.hid c2
  clear c1 c2 hv hu
  obtain ⟨n, hn⟩ : ∃ n, p.length = n := ⟨_, rfl⟩
  obtain ⟨k, hk⟩ : ∃ k, q.length = k := ⟨_, rfl⟩
  have hs := sumL_len p q
  rw [hn] at c1' hv' l1 hc hs ⊢
  rw [hk] at c2' hu' l2 hc hs ⊢
  have hn' := Lib.hid hn
  have hk' := Lib.hid hk
  have hM : max n k = n := by omega
  rw [hM] at hs
  have hs' := Lib.hid hs
  have hM' := Lib.hid hM
  clear hn hk h1 h2 hM hs
  obtain ⟨i, hi, hz0, hz1, hz2⟩ := info_parts Try.infoInt
  go_enter Try.func24, Try.ntmps24
  go_wp2_with fail
  refine c1'.out.mono ?_
  rintro e w1 ⟨rfl, hB1⟩
  go_wp2_with fail
  refine (c2'.out _ hB1).mono ?_
  rintro e w2 ⟨rfl, hB2⟩
  have hB02 := hB1.trans (hB2.mono hB1.size)
  have hs0 := hB02.size
  clear c1' c2'
  go_wp2_with (at_make; refine wpList_make_full _ rfl _ _ 39 rfl w.heap.size 3 i _ 1 Try.underlying39 hi hz0 hz1 _ _ _ _ n rfl rfl rfl rfl (by rw [hz2]; omega) (by unfold maxLen; omega) hs0 ?_)
  intro w3 hown hgrow
  have hB3 := below_made hB02 hs0 hgrow
  have ho := row_made hown
  clear hown hgrow hi hz0 hz1 hz2
  go_wp2
  go_loopw [27] (fun i wr => ∃ j : Nat, j ≤ n ∧ i = .int .i64 j ∧ RowAt wr w.heap.size w2.heap.size n n (addTo (List.replicate n 0) p j) ∧ Below w.heap.size w wr) (fun i _ => n - (intOf i).toNat)
  case atStart => exact ⟨0, Nat.zero_le _, rfl, ho, hB3⟩
  case round =>
    obtain ⟨j, hj, rfl, ho1, hB4⟩ := hrel
    clear ho hB3
    obtain ⟨wo, rfl⟩ : ∃ wo : World, wo = wr := ⟨_, rfl⟩
    by_cases hlt : j < n
    · obtain ⟨ao', cap', e, -, -, H⟩ := hv'.out.below hB4
      rw [hn'.out] at e H
      obtain ⟨rfl, _, rfl⟩ := Value.slice.inj e
      obtain ⟨b, off, rfl, hcell⟩ := H j hlt
      clear H e
      have g1 := ho1.cell (j := j) (by omega)
      have g3 := ho1.frozen j
      have hst := ho1.stored j (wrap64 (nth (addTo (List.replicate n 0) p j) j + nth p j))
      have hB5 := hB4.setCell (p := ⟨w2.heap.size, j, none⟩) hs0 (.int .i64 (wrap64 (nth (addTo (List.replicate n 0) p j) j + nth p j)))
      go_wp2
      go_roundw
      case rel => exact ⟨j + 1, by omega, by go_num, hst, hB5⟩
      case measure => simp [intOf]; omega
    · obtain rfl : j = n := by omega
      go_wp2
      go_loopw [42] (fun i wr => ∃ l : Nat, l ≤ k ∧ i = .int .i64 l ∧ RowAt wr w.heap.size w2.heap.size j j (addTo (addTo (List.replicate j 0) p j) q l) ∧ Below w.heap.size w wr) (fun i _ => k - (intOf i).toNat)
      case atStart => exact ⟨0, Nat.zero_le _, rfl, ho1, hB4⟩
      case round =>
        obtain ⟨l, hl, rfl, ho2, hB5⟩ := hrel
        clear ho1 hB4
        obtain ⟨wo2, rfl⟩ : ∃ wo : World, wo = wr := ⟨_, rfl⟩
        by_cases hlt2 : l < k
        · obtain ⟨bo', cap', e, -, -, H⟩ := hu'.out.below hB5
          rw [hk'.out] at e H
          obtain ⟨rfl, _, rfl⟩ := Value.slice.inj e
          obtain ⟨b, off, rfl, hcell⟩ := H l hlt2
          clear H e
          have g1 := ho2.cell (j := l) (by omega)
          have g3 := ho2.frozen l
          have hst := ho2.stored l (wrap64 (nth (addTo (addTo (List.replicate j 0) p j) q l) l + nth q l))
          have hB6 := hB5.setCell (p := ⟨w2.heap.size, l, none⟩) hs0 (.int .i64 (wrap64 (nth (addTo (addTo (List.replicate j 0) p j) q l) l + nth q l)))
          go_wp2
          go_roundw
          case rel => exact ⟨l + 1, by omega, by go_num, hst, hB6⟩
          case measure => simp [intOf]; omega
        · have el : l = k := by omega
          subst el
          have hrow : RowAt wo2 w.heap.size w2.heap.size j j (sumL p q) := by
            unfold sumL; rw [hn'.out, hk'.out, hM'.out]; exact ho2
          clear ho2
          have hfin := polynomial_any _ _ wo2 hrow.ints (by rw [hs'.out]; omega)
          have hfin' := Lib.hid hfin
          clear hfin
          go_wp2_with fail
          refine hfin'.out.mono ?_
          rintro e w5 ⟨v5, rfl, ho5, hB7⟩
          have hs5 := hB5.size
          go_wp2
          go_ret2
          exact ⟨_, rfl, ho5.mono hs5 (Nat.le_refl _), hB5.trans (hB7.mono hs5)⟩

set_option maxHeartbeats 400000 in
theorem specAddPolys_any (v : Value) (p : List Int) (u : Value) (q : List Int) (w : World) (hv : IntsV w v p) (hm : szIntS p ≤ 1099511627776) (hu : IntsV w u q) (hm2 : szIntS q ≤ 1099511627776) :
    Calls Try.prog 25 #[v, u] w (RetOB Own (AddPolys_v p q) w) := by
  have c1 := poGood_ret v p w hv hm
  have c2 := fun w' hB => poGood_ret u q w' (hu.below hB) hm2
  cases h1 : polyB p
  · rw [AddPolys_no1 h1]
    rw [h1] at c1
    have c1' := Lib.hid c1
    clear c1 c2 h1
    go_enter Try.func25, Try.ntmps25
    go_wp2_with fail
    refine c1'.out.mono ?_
    rintro e w1 ⟨rfl, hB1⟩
    go_wp2
    go_ret2
    exact ⟨_, rfl, Own.nil _ _ _, hB1⟩
  · cases h2 : polyB q
    · rw [AddPolys_no2 h2]
      rw [h1] at c1
      rw [h2] at c2
      have c1' := Lib.hid c1
      have c2' := Lib.hid c2
      clear c1 c2 h1 h2
      go_enter Try.func25, Try.ntmps25
      go_wp2_with fail
      refine c1'.out.mono ?_
      rintro e w1 ⟨rfl, hB1⟩
      go_wp2_with fail
      refine (c2'.out _ hB1).mono ?_
      rintro e w2 ⟨rfl, hB2⟩
      go_wp2
      go_ret2
      exact ⟨_, rfl, Own.nil _ _ _, hB1.trans (hB2.mono hB1.size)⟩
    · rw [AddPolys_yes h1 h2]
      rcases Nat.lt_or_ge p.length q.length with hc | hc
      · exact specAddPolys_lt v u p q w hv hu h1 h2 hc
      · exact specAddPolys_ge v u p q w hv hu h1 h2 hc
set_option maxHeartbeats 400000 in
theorem implAddPolys_any (v : Value) (p : List Int) (u : Value) (q : List Int) (w : World) (hv : IntsV w v p) (hm : szIntS p ≤ 1099511627776) (hu : IntsV w u q) (hm2 : szIntS q ≤ 1099511627776) :
    Calls Try.prog 24 #[v, u] w (RetOB Own (AddPolys_v p q) w) := by
  have c1 := isPolynomial_ret v p w hv hm
  have c2 := fun w' hB => isPolynomial_ret u q w' (hu.below hB) hm2
  cases h1 : polyB p
  · rw [AddPolys_no1 h1]
    rw [h1] at c1
    have c1' := Lib.hid c1
    clear c1 c2 h1
    go_enter Try.func24, Try.ntmps24
    go_wp2_with fail
    refine c1'.out.mono ?_
    rintro e w1 ⟨rfl, hB1⟩
    go_wp2
    go_ret2
    exact ⟨_, rfl, Own.nil _ _ _, hB1⟩
  · cases h2 : polyB q
    · rw [AddPolys_no2 h2]
      rw [h1] at c1
      rw [h2] at c2
      have c1' := Lib.hid c1
      have c2' := Lib.hid c2
      clear c1 c2 h1 h2
      go_enter Try.func24, Try.ntmps24
      go_wp2_with fail
      refine c1'.out.mono ?_
      rintro e w1 ⟨rfl, hB1⟩
      go_wp2_with fail
      refine (c2'.out _ hB1).mono ?_
      rintro e w2 ⟨rfl, hB2⟩
      go_wp2
      go_ret2
      exact ⟨_, rfl, Own.nil _ _ _, hB1.trans (hB2.mono hB1.size)⟩
    · rw [AddPolys_yes h1 h2]
      rcases Nat.lt_or_ge p.length q.length with hc | hc
      · exact implAddPolys_lt v u p q w hv hu h1 h2 hc
      · exact implAddPolys_ge v u p q w hv hu h1 h2 hc

/-- The derivative of the first k coefficients. -/
def derTo (p : List Int) : Nat → List Int
  | 0 => []
  | k + 1 => if k = 0 then [] else derTo p k ++ [wrap64 (k * nth p k)]
theorem derTo_len (p : List Int) : ∀ k, (derTo p k).length ≤ k
  | 0 => Nat.le_refl _
  | k + 1 => by
    unfold derTo
    split
    · exact Nat.zero_le _
    · rw [List.length_append]; have := derTo_len p k; simp only [List.length_cons, List.length_nil]; omega
def DerivePoly_v (p : List Int) : List Int × Bool := if polyB p = true then ifPoly (derTo p p.length) else ([], false)
theorem DerivePoly_len (p : List Int) : szIntS (DerivePoly_v p).1 ≤ 1099511627776 := by
  unfold DerivePoly_v szIntS
  split
  · have := ifPoly_len (derTo p p.length); omega
  · exact Nat.zero_le _
theorem DerivePoly_no {p : List Int} (h : polyB p = false) : DerivePoly_v p = ([], false) := by simp [DerivePoly_v, h]
theorem DerivePoly_yes {p : List Int} (h : polyB p = true) : DerivePoly_v p = ifPoly (derTo p p.length) := by simp [DerivePoly_v, h]

set_option maxHeartbeats 1000000 in
theorem specDerivePoly_any (v : Value) (p : List Int) (w : World) (hv : IntsV w v p) (hm : szIntS p ≤ 1099511627776) :
    Calls Try.prog 34 #[v] w (RetOB Own (DerivePoly_v p) w) := by
  have c1 := poGood_ret v p w hv hm
  cases h1 : polyB p
  · rw [DerivePoly_no h1]
    rw [h1] at c1
    have c1' := Lib.hid c1
    clear c1 h1
    go_enter Try.func34, Try.ntmps34
    go_wp2_with fail
    refine c1'.out.mono ?_
    rintro e w1 ⟨rfl, hB1⟩
    go_wp2
    go_ret2
    exact ⟨_, rfl, Own.nil _ _ _, hB1⟩
  · rw [DerivePoly_yes h1]
    rw [h1] at c1
    have l1 := polyB_le9 h1
    have hv' := Lib.hid hv
    obtain ⟨ao, acap, rfl, -, -, -⟩ := id hv
    have c1' := Lib.hid c1
    clear c1 hv h1 hm
    obtain ⟨n, hn⟩ : ∃ n, p.length = n := ⟨_, rfl⟩
    rw [hn] at c1' hv' l1 ⊢
    have hn' := Lib.hid hn
    clear hn
    go_enter Try.func34, Try.ntmps34
    go_wp2_with fail
    refine c1'.out.mono ?_
    rintro e w1 ⟨rfl, hB1⟩
    have hs0 := hB1.size
    clear c1'
    go_wp2
    go_loopw [4, 12] (fun o i wr => ∃ j : Nat, j ≤ n ∧ i = .int .i64 j ∧ Grow wr w.heap.size o (derTo p j) ∧ Below w.heap.size w wr) (fun _ i _ => n - (intOf i).toNat)
    case atStart => exact ⟨0, Nat.zero_le _, rfl, Grow.nil _ _, hB1⟩
    case round =>
      obtain ⟨j, hj, rfl, ho1, hB4⟩ := hrel
      obtain ⟨wo, rfl⟩ : ∃ wo : World, wo = wr := ⟨_, rfl⟩
      by_cases hlt : j < n
      · obtain ⟨ao', cap', e, -, -, H⟩ := hv'.out.below hB4
        rw [hn'.out] at e H
        obtain ⟨rfl, _, rfl⟩ := Value.slice.inj e
        obtain ⟨b, off, rfl, hcell⟩ := H j hlt
        clear H e
        have hsz := hB4.size
        by_cases hj0 : j = 0
        · subst hj0
          rw [Nat.add_zero] at hcell
          go_wp2
          go_roundw
          case rel => exact ⟨1, by omega, by go_num, ho1, hB4⟩
          case measure => simp [intOf]; omega
        · have hst : derTo p (j + 1) = derTo p j ++ [wrap64 (j * nth p j)] := by rw [derTo, if_neg hj0]
          have hl := derTo_len p j
          have hst' := Lib.hid hst
          have hp : 0 < j := by omega
          clear hst hj0
          go_wp2_with (at_builtin; refine wpList_append_int rfl _ _ rfl w.heap.size u4 (derTo p j) (wrap64 (j * nth p j)) _ rfl rfl ho1 (by omega) hsz ?_)
          intro v' w' hg' hgrow
          go_wp2
          go_roundw
          case rel => exact ⟨j + 1, by omega, by go_num, by rw [hst'.out]; exact hg', ho1.belowB hB4 (Nat.le_refl _) hsz hgrow⟩
          case measure => simp [intOf]; omega
      · have ej : n = j := by omega
        subst ej
        have hfin := poIf_any _ _ wo ho1.read (by have := derTo_len p n; omega)
        have hfin' := Lib.hid hfin
        clear hfin
        go_wp2_with fail
        refine hfin'.out.mono ?_
        rintro e w5 ⟨v5, rfl, ho5, hB7⟩
        have hs5 := hB4.size
        go_wp2
        go_ret2
        exact ⟨_, rfl, ho5.mono hs5 (Nat.le_refl _), hB4.trans (hB7.mono hs5)⟩
set_option maxHeartbeats 1000000 in
theorem implDerivePoly_any (v : Value) (p : List Int) (w : World) (hv : IntsV w v p) (hm : szIntS p ≤ 1099511627776) :
    Calls Try.prog 33 #[v] w (RetOB Own (DerivePoly_v p) w) := by
  have c1 := isPolynomial_ret v p w hv hm
  cases h1 : polyB p
  · rw [DerivePoly_no h1]
    rw [h1] at c1
    have c1' := Lib.hid c1
    clear c1 h1
    go_enter Try.func33, Try.ntmps33
    go_wp2_with fail
    refine c1'.out.mono ?_
    rintro e w1 ⟨rfl, hB1⟩
    go_wp2
    go_ret2
    exact ⟨_, rfl, Own.nil _ _ _, hB1⟩
  · rw [DerivePoly_yes h1]
    rw [h1] at c1
    have l1 := polyB_le9 h1
    have hv' := Lib.hid hv
    obtain ⟨ao, acap, rfl, -, -, -⟩ := id hv
    have c1' := Lib.hid c1
    clear c1 hv h1 hm
    obtain ⟨n, hn⟩ : ∃ n, p.length = n := ⟨_, rfl⟩
    rw [hn] at c1' hv' l1 ⊢
    have hn' := Lib.hid hn
    clear hn
    go_enter Try.func33, Try.ntmps33
    go_wp2_with fail
    refine c1'.out.mono ?_
    rintro e w1 ⟨rfl, hB1⟩
    have hs0 := hB1.size
    clear c1'
    go_wp2
    go_loopw [4, 12] (fun o i wr => ∃ j : Nat, j ≤ n ∧ i = .int .i64 j ∧ Grow wr w.heap.size o (derTo p j) ∧ Below w.heap.size w wr) (fun _ i _ => n - (intOf i).toNat)
    case atStart => exact ⟨0, Nat.zero_le _, rfl, Grow.nil _ _, hB1⟩
    case round =>
      obtain ⟨j, hj, rfl, ho1, hB4⟩ := hrel
      obtain ⟨wo, rfl⟩ : ∃ wo : World, wo = wr := ⟨_, rfl⟩
      by_cases hlt : j < n
      · obtain ⟨ao', cap', e, -, -, H⟩ := hv'.out.below hB4
        rw [hn'.out] at e H
        obtain ⟨rfl, _, rfl⟩ := Value.slice.inj e
        obtain ⟨b, off, rfl, hcell⟩ := H j hlt
        clear H e
        have hsz := hB4.size
        by_cases hj0 : j = 0
        · subst hj0
          rw [Nat.add_zero] at hcell
          go_wp2
          go_roundw
          case rel => exact ⟨1, by omega, by go_num, ho1, hB4⟩
          case measure => simp [intOf]; omega
        · have hst : derTo p (j + 1) = derTo p j ++ [wrap64 (j * nth p j)] := by rw [derTo, if_neg hj0]
          have hl := derTo_len p j
          have hst' := Lib.hid hst
          have hp : 0 < j := by omega
          clear hst hj0
          go_wp2_with (at_builtin; refine wpList_append_int rfl _ _ rfl w.heap.size u4 (derTo p j) (wrap64 (j * nth p j)) _ rfl rfl ho1 (by omega) hsz ?_)
          intro v' w' hg' hgrow
          go_wp2
          go_roundw
          case rel => exact ⟨j + 1, by omega, by go_num, by rw [hst'.out]; exact hg', ho1.belowB hB4 (Nat.le_refl _) hsz hgrow⟩
          case measure => simp [intOf]; omega
      · have ej : n = j := by omega
        subst ej
        have hfin := polynomial_any _ _ wo ho1.read (by have := derTo_len p n; omega)
        have hfin' := Lib.hid hfin
        clear hfin
        go_wp2_with fail
        refine hfin'.out.mono ?_
        rintro e w5 ⟨v5, rfl, ho5, hB7⟩
        have hs5 := hB4.size
        go_wp2
        go_ret2
        exact ⟨_, rfl, ho5.mono hs5 (Nat.le_refl _), hB4.trans (hB7.mono hs5)⟩

/-- out[i + k] += p[i] * q[k], for the first k. -/
def mulIn (out p q : List Int) (i : Nat) : Nat → List Int
  | 0 => out
  | k + 1 => (mulIn out p q i k).set (i + k) (wrap64 (nth (mulIn out p q i k) (i + k) + wrap64 (nth p i * nth q k)))
theorem mulIn_len (out p q : List Int) (i k : Nat) : (mulIn out p q i k).length = out.length := by
  induction k with
  | zero => rfl
  | succ k ih => rw [mulIn, List.length_set, ih]
/-- The rows of the first i coefficients. -/
def mulOut (p q : List Int) : Nat → List Int
  | 0 => List.replicate (p.length + q.length - 1) 0
  | i + 1 => mulIn (mulOut p q i) p q i q.length
theorem mulOut_len (p q : List Int) (i : Nat) : (mulOut p q i).length = p.length + q.length - 1 := by
  induction i with
  | zero => exact List.length_replicate
  | succ i ih => rw [mulOut, mulIn_len, ih]
/-- The product's coefficients. -/
def prodL (p q : List Int) : List Int := if p.length = 0 ∨ q.length = 0 then [] else mulOut p q p.length
theorem prodL_len (p q : List Int) : (prodL p q).length ≤ p.length + q.length := by
  unfold prodL
  split
  · exact Nat.zero_le _
  · rw [mulOut_len]; omega

set_option maxHeartbeats 1000000 in
theorem specprod_any (v u : Value) (p q : List Int) (w : World) (hv : IntsV w v p) (hu : IntsV w u q) (l1 : p.length ≤ 1099511627776) (l2 : q.length ≤ 1099511627776) :
    Calls Try.prog 86 #[v, u] w (RetO Own (prodL p q) w) := by
  have hv' := Lib.hid hv
  have hu' := Lib.hid hu
  obtain ⟨ao, acap, rfl, -, -, -⟩ := id hv
  obtain ⟨bo, bcap, rfl, -, -, -⟩ := id hu
  clear hv hu
  by_cases hp0 : p.length = 0
  · have e : prodL p q = [] := by rw [prodL, if_pos (.inl hp0)]
    rw [e, hp0]
    clear e hp0 hv' hu' l1
    generalize q.length = k at l2 ⊢
    go_enter Try.func86, Try.ntmps86
    go_wp2
    go_ret
    exact ⟨_, rfl, Own.nil _ _ _, Below.refl _ _⟩
  · by_cases hq0 : q.length = 0
    · have e : prodL p q = [] := by rw [prodL, if_pos (.inr hq0)]
      rw [e, hq0]
      clear e hq0 hv' hu' l2
      generalize p.length = n at l1 hp0 ⊢
      have hz : ((n : Int) == 0) = false := by rw [beq_eq_false_iff_ne]; omega
      go_enter Try.func86, Try.ntmps86
      go_wp2
      go_ret
      exact ⟨_, rfl, Own.nil _ _ _, Below.refl _ _⟩
    · have e : prodL p q = mulOut p q p.length := by rw [prodL, if_neg (by omega)]
      rw [e]
      obtain ⟨n, hn⟩ : ∃ n, p.length = n := ⟨_, rfl⟩
      obtain ⟨k, hk⟩ : ∃ k, q.length = k := ⟨_, rfl⟩
      have h00 : mulOut p q 0 = List.replicate (n + k - 1) 0 := by rw [mulOut, hn, hk]
      rw [hn] at hv' l1 hp0 ⊢
      rw [hk] at hu' l2 hq0 ⊢
      have hn' := Lib.hid hn
      have hk' := Lib.hid hk
      have h00' := Lib.hid h00
      clear hn hk e h00
      have hz : ((n : Int) == 0) = false := by rw [beq_eq_false_iff_ne]; omega
      have hz' : ((k : Int) == 0) = false := by rw [beq_eq_false_iff_ne]; omega
      obtain ⟨i, hi, hz0, hz1, hz2⟩ := info_parts Try.infoInt
      go_enter Try.func86, Try.ntmps86
      go_wp2_with (at_make; refine wpList_make_full _ rfl _ _ 39 rfl w.heap.size 3 i _ 1 Try.underlying39 hi hz0 hz1 _ _ _ _ (n + k - 1) rfl rfl (by omega) (by omega) (by rw [hz2]; omega) (by unfold maxLen; omega) (Nat.le_refl _) ?_)
      intro w3 hown hgrow
      have hB3 := below_made (Below.refl w.heap.size w) (Nat.le_refl _) hgrow
      have ho := row_made hown
      rw [← h00'.out] at ho
      clear hown hgrow hi hz0 hz1 hz2
      go_wp2
      go_loopw [27] (fun i wr => ∃ j : Nat, j ≤ n ∧ i = .int .i64 j ∧ RowAt wr w.heap.size w.heap.size (n + k - 1) (n + k - 1) (mulOut p q j) ∧ Below w.heap.size w wr) (fun i _ => n - (intOf i).toNat)
      case atStart => exact ⟨0, Nat.zero_le _, rfl, ho, hB3⟩
      case round =>
        obtain ⟨j, hj, rfl, ho1, hB4⟩ := hrel
        clear ho hB3
        obtain ⟨wo, rfl⟩ : ∃ wo : World, wo = wr := ⟨_, rfl⟩
        by_cases hlt : j < n
        · obtain ⟨ao', cap', e, -, -, H⟩ := hv'.out.below hB4
          rw [hn'.out] at e H
          obtain ⟨rfl, _, rfl⟩ := Value.slice.inj e
          obtain ⟨b, off, rfl, hcell⟩ := H j hlt
          clear H e
          go_wp2
          go_loopw [34] (fun i wr => ∃ l : Nat, l ≤ k ∧ i = .int .i64 l ∧ RowAt wr w.heap.size w.heap.size (n + k - 1) (n + k - 1) (mulIn (mulOut p q j) p q j l) ∧ Below w.heap.size w wr) (fun i _ => k - (intOf i).toNat)
          case atStart => exact ⟨0, Nat.zero_le _, rfl, ho1, hB4⟩
          case round =>
            obtain ⟨l, hl, rfl, ho2, hB5⟩ := hrel
            clear ho1 hB4 hcell
            obtain ⟨wo2, rfl⟩ : ∃ wo : World, wo = wr := ⟨_, rfl⟩
            by_cases hlt2 : l < k
            · obtain ⟨bo', cap', e, -, -, H⟩ := hu'.out.below hB5
              rw [hk'.out] at e H
              obtain ⟨rfl, _, rfl⟩ := Value.slice.inj e
              obtain ⟨b2, off2, rfl, hcell⟩ := H l hlt2
              clear H e
              have g1 := ho2.cell (j := j + l) (by omega)
              have g3 := ho2.frozen (j + l)
              have hst := ho2.stored (j + l) (wrap64 (nth (mulIn (mulOut p q j) p q j l) (j + l) + wrap64 (nth p j * nth q l)))
              have hB6 := hB5.setCell (p := ⟨w.heap.size, j + l, none⟩) (Nat.le_refl _) (.int .i64 (wrap64 (nth (mulIn (mulOut p q j) p q j l) (j + l) + wrap64 (nth p j * nth q l))))
              go_wp2
              go_roundw
              case rel => exact ⟨l + 1, by omega, by go_num, hst, hB6⟩
              case measure => simp [intOf]; omega
            · have el : l = k := by omega
              subst el
              go_wp2
              go_roundw
              case rel => exact ⟨j + 1, by omega, by go_num, by rw [mulOut, hk'.out]; exact ho2, hB5⟩
              case measure => simp [intOf]; omega
        · have ej : j = n := by omega
          subst ej
          go_wp2
          go_ret
          exact ⟨_, rfl, ho1.own, hB4⟩
set_option maxHeartbeats 1000000 in
theorem implprod_any (v u : Value) (p q : List Int) (w : World) (hv : IntsV w v p) (hu : IntsV w u q) (l1 : p.length ≤ 1099511627776) (l2 : q.length ≤ 1099511627776) :
    Calls Try.prog 83 #[v, u] w (RetO Own (prodL p q) w) := by
  have hv' := Lib.hid hv
  have hu' := Lib.hid hu
  obtain ⟨ao, acap, rfl, -, -, -⟩ := id hv
  obtain ⟨bo, bcap, rfl, -, -, -⟩ := id hu
  clear hv hu
  by_cases hp0 : p.length = 0
  · have e : prodL p q = [] := by rw [prodL, if_pos (.inl hp0)]
    rw [e, hp0]
    clear e hp0 hv' hu' l1
    generalize q.length = k at l2 ⊢
    go_enter Try.func83, Try.ntmps83
    go_wp2
    go_ret
    exact ⟨_, rfl, Own.nil _ _ _, Below.refl _ _⟩
  · by_cases hq0 : q.length = 0
    · have e : prodL p q = [] := by rw [prodL, if_pos (.inr hq0)]
      rw [e, hq0]
      clear e hq0 hv' hu' l2
      generalize p.length = n at l1 hp0 ⊢
      have hz : ((n : Int) == 0) = false := by rw [beq_eq_false_iff_ne]; omega
      go_enter Try.func83, Try.ntmps83
      go_wp2
      go_ret
      exact ⟨_, rfl, Own.nil _ _ _, Below.refl _ _⟩
    · have e : prodL p q = mulOut p q p.length := by rw [prodL, if_neg (by omega)]
      rw [e]
      obtain ⟨n, hn⟩ : ∃ n, p.length = n := ⟨_, rfl⟩
      obtain ⟨k, hk⟩ : ∃ k, q.length = k := ⟨_, rfl⟩
      have h00 : mulOut p q 0 = List.replicate (n + k - 1) 0 := by rw [mulOut, hn, hk]
      rw [hn] at hv' l1 hp0 ⊢
      rw [hk] at hu' l2 hq0 ⊢
      have hn' := Lib.hid hn
      have hk' := Lib.hid hk
      have h00' := Lib.hid h00
      clear hn hk e h00
      have hz : ((n : Int) == 0) = false := by rw [beq_eq_false_iff_ne]; omega
      have hz' : ((k : Int) == 0) = false := by rw [beq_eq_false_iff_ne]; omega
      obtain ⟨i, hi, hz0, hz1, hz2⟩ := info_parts Try.infoInt
      go_enter Try.func83, Try.ntmps83
      go_wp2_with (at_make; refine wpList_make_full _ rfl _ _ 39 rfl w.heap.size 3 i _ 1 Try.underlying39 hi hz0 hz1 _ _ _ _ (n + k - 1) rfl rfl (by omega) (by omega) (by rw [hz2]; omega) (by unfold maxLen; omega) (Nat.le_refl _) ?_)
      intro w3 hown hgrow
      have hB3 := below_made (Below.refl w.heap.size w) (Nat.le_refl _) hgrow
      have ho := row_made hown
      rw [← h00'.out] at ho
      clear hown hgrow hi hz0 hz1 hz2
      go_wp2
      go_loopw [27] (fun i wr => ∃ j : Nat, j ≤ n ∧ i = .int .i64 j ∧ RowAt wr w.heap.size w.heap.size (n + k - 1) (n + k - 1) (mulOut p q j) ∧ Below w.heap.size w wr) (fun i _ => n - (intOf i).toNat)
      case atStart => exact ⟨0, Nat.zero_le _, rfl, ho, hB3⟩
      case round =>
        obtain ⟨j, hj, rfl, ho1, hB4⟩ := hrel
        clear ho hB3
        obtain ⟨wo, rfl⟩ : ∃ wo : World, wo = wr := ⟨_, rfl⟩
        by_cases hlt : j < n
        · obtain ⟨ao', cap', e, -, -, H⟩ := hv'.out.below hB4
          rw [hn'.out] at e H
          obtain ⟨rfl, _, rfl⟩ := Value.slice.inj e
          obtain ⟨b, off, rfl, hcell⟩ := H j hlt
          clear H e
          go_wp2
          go_loopw [34] (fun i wr => ∃ l : Nat, l ≤ k ∧ i = .int .i64 l ∧ RowAt wr w.heap.size w.heap.size (n + k - 1) (n + k - 1) (mulIn (mulOut p q j) p q j l) ∧ Below w.heap.size w wr) (fun i _ => k - (intOf i).toNat)
          case atStart => exact ⟨0, Nat.zero_le _, rfl, ho1, hB4⟩
          case round =>
            obtain ⟨l, hl, rfl, ho2, hB5⟩ := hrel
            clear ho1 hB4 hcell
            obtain ⟨wo2, rfl⟩ : ∃ wo : World, wo = wr := ⟨_, rfl⟩
            by_cases hlt2 : l < k
            · obtain ⟨bo', cap', e, -, -, H⟩ := hu'.out.below hB5
              rw [hk'.out] at e H
              obtain ⟨rfl, _, rfl⟩ := Value.slice.inj e
              obtain ⟨b2, off2, rfl, hcell⟩ := H l hlt2
              clear H e
              have g1 := ho2.cell (j := j + l) (by omega)
              have g3 := ho2.frozen (j + l)
              have hst := ho2.stored (j + l) (wrap64 (nth (mulIn (mulOut p q j) p q j l) (j + l) + wrap64 (nth p j * nth q l)))
              have hB6 := hB5.setCell (p := ⟨w.heap.size, j + l, none⟩) (Nat.le_refl _) (.int .i64 (wrap64 (nth (mulIn (mulOut p q j) p q j l) (j + l) + wrap64 (nth p j * nth q l))))
              go_wp2
              go_roundw
              case rel => exact ⟨l + 1, by omega, by go_num, hst, hB6⟩
              case measure => simp [intOf]; omega
            · have el : l = k := by omega
              subst el
              go_wp2
              go_roundw
              case rel => exact ⟨j + 1, by omega, by go_num, by rw [mulOut, hk'.out]; exact ho2, hB5⟩
              case measure => simp [intOf]; omega
        · have ej : j = n := by omega
          subst ej
          go_wp2
          go_ret
          exact ⟨_, rfl, ho1.own, hB4⟩

def MultiplyPolys_v (p q : List Int) : List Int × Bool := if (polyB p && polyB q) = true then ifPoly (prodL p q) else ([], false)
theorem MultiplyPolys_len (p q : List Int) : szIntS (MultiplyPolys_v p q).1 ≤ 1099511627776 := by
  unfold MultiplyPolys_v szIntS
  split
  · have := ifPoly_len (prodL p q); omega
  · exact Nat.zero_le _
theorem MultiplyPolys_no1 {p q : List Int} (h : polyB p = false) : MultiplyPolys_v p q = ([], false) := by simp [MultiplyPolys_v, h]
theorem MultiplyPolys_no2 {p q : List Int} (h : polyB q = false) : MultiplyPolys_v p q = ([], false) := by simp [MultiplyPolys_v, h]
theorem MultiplyPolys_yes {p q : List Int} (h1 : polyB p = true) (h2 : polyB q = true) : MultiplyPolys_v p q = ifPoly (prodL p q) := by simp [MultiplyPolys_v, h1, h2]

set_option maxHeartbeats 400000 in
theorem specMultiplyPolys_any (v : Value) (p : List Int) (u : Value) (q : List Int) (w : World) (hv : IntsV w v p) (hm : szIntS p ≤ 1099511627776) (hu : IntsV w u q) (hm2 : szIntS q ≤ 1099511627776) :
    Calls Try.prog 23 #[v, u] w (RetOB Own (MultiplyPolys_v p q) w) := by
  have c1 := poGood_ret v p w hv hm
  have c2 := fun w' hB => poGood_ret u q w' (hu.below hB) hm2
  cases h1 : polyB p
  · rw [MultiplyPolys_no1 h1]
    rw [h1] at c1
    have c1' := Lib.hid c1
    clear c1 c2 h1
    go_enter Try.func23, Try.ntmps23
    go_wp2_with fail
    refine c1'.out.mono ?_
    rintro e w1 ⟨rfl, hB1⟩
    go_wp2
    go_ret2
    exact ⟨_, rfl, Own.nil _ _ _, hB1⟩
  · cases h2 : polyB q
    · rw [MultiplyPolys_no2 h2]
      rw [h1] at c1
      rw [h2] at c2
      have c1' := Lib.hid c1
      have c2' := Lib.hid c2
      clear c1 c2 h1 h2
      go_enter Try.func23, Try.ntmps23
      go_wp2_with fail
      refine c1'.out.mono ?_
      rintro e w1 ⟨rfl, hB1⟩
      go_wp2_with fail
      refine (c2'.out _ hB1).mono ?_
      rintro e w2 ⟨rfl, hB2⟩
      go_wp2
      go_ret2
      exact ⟨_, rfl, Own.nil _ _ _, hB1.trans (hB2.mono hB1.size)⟩
    · rw [MultiplyPolys_yes h1 h2]
      rw [h1] at c1
      rw [h2] at c2
      have c1' := Lib.hid c1
      have c2' := Lib.hid c2
      have l1 := polyB_le9 h1
      have l2 := polyB_le9 h2
      have hl := prodL_len p q
      have hv' := Lib.hid hv
      have hu' := Lib.hid hu
      clear c1 c2 h1 h2 hv hu
      go_enter Try.func23, Try.ntmps23
      go_wp2_with fail
      refine c1'.out.mono ?_
      rintro e w1 ⟨rfl, hB1⟩
      go_wp2_with fail
      refine (c2'.out _ hB1).mono ?_
      rintro e w2 ⟨rfl, hB2⟩
      have hB02 := hB1.trans (hB2.mono hB1.size)
      go_wp2_with fail
      refine (specprod_any _ _ p q _ (hv'.out.below hB02) (hu'.out.below hB02) hm hm2).mono ?_
      rintro e w3 ⟨v3, rfl, ho3, hB3⟩
      have hB03 := hB02.trans (hB3.mono hB02.size)
      go_wp2_with fail
      refine (poIf_any _ _ _ ho3.read (by omega)).mono ?_
      rintro e w5 ⟨v5, rfl, ho5, hB7⟩
      have hs5 := hB03.size
      go_wp2
      go_ret2
      exact ⟨_, rfl, ho5.mono hs5 (Nat.le_refl _), hB03.trans (hB7.mono hs5)⟩
set_option maxHeartbeats 400000 in
theorem implMultiplyPolys_any (v : Value) (p : List Int) (u : Value) (q : List Int) (w : World) (hv : IntsV w v p) (hm : szIntS p ≤ 1099511627776) (hu : IntsV w u q) (hm2 : szIntS q ≤ 1099511627776) :
    Calls Try.prog 22 #[v, u] w (RetOB Own (MultiplyPolys_v p q) w) := by
  have c1 := isPolynomial_ret v p w hv hm
  have c2 := fun w' hB => isPolynomial_ret u q w' (hu.below hB) hm2
  cases h1 : polyB p
  · rw [MultiplyPolys_no1 h1]
    rw [h1] at c1
    have c1' := Lib.hid c1
    clear c1 c2 h1
    go_enter Try.func22, Try.ntmps22
    go_wp2_with fail
    refine c1'.out.mono ?_
    rintro e w1 ⟨rfl, hB1⟩
    go_wp2
    go_ret2
    exact ⟨_, rfl, Own.nil _ _ _, hB1⟩
  · cases h2 : polyB q
    · rw [MultiplyPolys_no2 h2]
      rw [h1] at c1
      rw [h2] at c2
      have c1' := Lib.hid c1
      have c2' := Lib.hid c2
      clear c1 c2 h1 h2
      go_enter Try.func22, Try.ntmps22
      go_wp2_with fail
      refine c1'.out.mono ?_
      rintro e w1 ⟨rfl, hB1⟩
      go_wp2_with fail
      refine (c2'.out _ hB1).mono ?_
      rintro e w2 ⟨rfl, hB2⟩
      go_wp2
      go_ret2
      exact ⟨_, rfl, Own.nil _ _ _, hB1.trans (hB2.mono hB1.size)⟩
    · rw [MultiplyPolys_yes h1 h2]
      rw [h1] at c1
      rw [h2] at c2
      have c1' := Lib.hid c1
      have c2' := Lib.hid c2
      have l1 := polyB_le9 h1
      have l2 := polyB_le9 h2
      have hl := prodL_len p q
      have hv' := Lib.hid hv
      have hu' := Lib.hid hu
      clear c1 c2 h1 h2 hv hu
      go_enter Try.func22, Try.ntmps22
      go_wp2_with fail
      refine c1'.out.mono ?_
      rintro e w1 ⟨rfl, hB1⟩
      go_wp2_with fail
      refine (c2'.out _ hB1).mono ?_
      rintro e w2 ⟨rfl, hB2⟩
      have hB02 := hB1.trans (hB2.mono hB1.size)
      go_wp2_with fail
      refine (implprod_any _ _ p q _ (hv'.out.below hB02) (hu'.out.below hB02) hm hm2).mono ?_
      rintro e w3 ⟨v3, rfl, ho3, hB3⟩
      have hB03 := hB02.trans (hB3.mono hB02.size)
      go_wp2_with fail
      refine (polynomial_any _ _ _ ho3.read (by omega)).mono ?_
      rintro e w5 ⟨v5, rfl, ho5, hB7⟩
      have hs5 := hB03.size
      go_wp2
      go_ret2
      exact ⟨_, rfl, ho5.mono hs5 (Nat.le_refl _), hB03.trans (hB7.mono hs5)⟩

end Go.Proofs.Ytblippeklbhepaa

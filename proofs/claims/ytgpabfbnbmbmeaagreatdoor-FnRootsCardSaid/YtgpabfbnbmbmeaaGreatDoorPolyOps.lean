/- Sum, product, derivative of polynomials: the reference's walk and the program's compute the same lists (wrapping arithmetic). -/
import Derived.Test.YtgpabfbnbmbmeaaGreatDoorPkB
namespace Go.Proofs.YtgpabfbnbmbmeaaGreatDoor
open Go.RowKit

/-- The first k elements of xs added into out. -/
def addTo (out xs : List Int) : Nat → List Int
  | 0 => out
  | k + 1 => (addTo out xs k).set k (wrap64 (nth (addTo out xs k) k + nth xs k))
theorem addTo_len (out xs : List Int) (k : Nat) : (addTo out xs k).length = out.length := by
  induction k with
  | zero => rfl
  | succ k ih => rw [addTo, List.length_set, ih]
/-- The sum before it is trimmed. -/
def sumL (p q : List Int) : List Int := addTo (addTo (List.replicate (max p.length q.length) 0) p p.length) q q.length
theorem sumL_len (p q : List Int) : (sumL p q).length = max p.length q.length := by
  unfold sumL; rw [addTo_len, addTo_len, List.length_replicate]
def AddPolys_v (p q : List Int) : List Int × Bool := if (polyB p && polyB q) = true then ifPoly (sumL p q) else ([], false)
theorem AddPolys_len (p q : List Int) : szIntS (AddPolys_v p q).1 ≤ 1099511627776 := by
  unfold AddPolys_v szIntS
  split
  · have := ifPoly_len (sumL p q); omega
  · exact Nat.zero_le _
theorem AddPolys_no1 {p q : List Int} (h : polyB p = false) : AddPolys_v p q = ([], false) := by simp [AddPolys_v, h]
theorem AddPolys_no2 {p q : List Int} (h : polyB q = false) : AddPolys_v p q = ([], false) := by simp [AddPolys_v, h]
theorem AddPolys_yes {p q : List Int} (h1 : polyB p = true) (h2 : polyB q = true) : AddPolys_v p q = ifPoly (sumL p q) := by simp [AddPolys_v, h1, h2]

theorem l1Most_any (a b m : Int) (w : World) (hm : m = max a b) : Calls Tryz.prog 37 #[.int .i64 a, .int .i64 b] w (Same (.int .i64 m) w) := by
  by_cases h : b < a
  · obtain rfl : m = a := by omega
    clear hm
    go_enter Tryz.func37, Tryz.ntmps37
    go_wp2
    go_ret
    exact ⟨rfl, rfl⟩
  · obtain rfl : m = b := by omega
    clear hm
    go_enter Tryz.func37, Tryz.ntmps37
    go_wp2
    go_ret
    exact ⟨rfl, rfl⟩



/-- The derivative of the first k coefficients. -/
def derTo (p : List Int) : Nat → List Int
  | 0 => []
  | k + 1 => if k = 0 then [] else derTo p k ++ [wrap64 (k * nth p k)]
theorem derTo_len (p : List Int) : ∀ k, (derTo p k).length ≤ k
  | 0 => Nat.le_refl _
  | k + 1 => by
    unfold derTo
    split
    · exact Nat.zero_le _
    · rw [List.length_append]; have := derTo_len p k; simp only [List.length_cons, List.length_nil]; omega
def DerivePoly_v (p : List Int) : List Int × Bool := if polyB p = true then ifPoly (derTo p p.length) else ([], false)
theorem DerivePoly_len (p : List Int) : szIntS (DerivePoly_v p).1 ≤ 1099511627776 := by
  unfold DerivePoly_v szIntS
  split
  · have := ifPoly_len (derTo p p.length); omega
  · exact Nat.zero_le _
theorem DerivePoly_no {p : List Int} (h : polyB p = false) : DerivePoly_v p = ([], false) := by simp [DerivePoly_v, h]
theorem DerivePoly_yes {p : List Int} (h : polyB p = true) : DerivePoly_v p = ifPoly (derTo p p.length) := by simp [DerivePoly_v, h]


/-- out[i + k] += p[i] * q[k], for the first k. -/
def mulIn (out p q : List Int) (i : Nat) : Nat → List Int
  | 0 => out
  | k + 1 => (mulIn out p q i k).set (i + k) (wrap64 (nth (mulIn out p q i k) (i + k) + wrap64 (nth p i * nth q k)))
theorem mulIn_len (out p q : List Int) (i k : Nat) : (mulIn out p q i k).length = out.length := by
  induction k with
  | zero => rfl
  | succ k ih => rw [mulIn, List.length_set, ih]
/-- The rows of the first i coefficients. -/
def mulOut (p q : List Int) : Nat → List Int
  | 0 => List.replicate (p.length + q.length - 1) 0
  | i + 1 => mulIn (mulOut p q i) p q i q.length
theorem mulOut_len (p q : List Int) (i : Nat) : (mulOut p q i).length = p.length + q.length - 1 := by
  induction i with
  | zero => exact List.length_replicate
  | succ i ih => rw [mulOut, mulIn_len, ih]
/-- The product's coefficients. -/
def prodL (p q : List Int) : List Int := if p.length = 0 ∨ q.length = 0 then [] else mulOut p q p.length
theorem prodL_len (p q : List Int) : (prodL p q).length ≤ p.length + q.length := by
  unfold prodL
  split
  · exact Nat.zero_le _
  · rw [mulOut_len]; omega

set_option maxHeartbeats 1000000 in
theorem specprod_any (v u : Value) (p q : List Int) (w : World) (hv : IntsV w v p) (hu : IntsV w u q) (l1 : p.length ≤ 1099511627776) (l2 : q.length ≤ 1099511627776) :
    Calls Tryz.prog 26 #[v, u] w (RetO Own (prodL p q) w) := by
  have hv' := Lib.hid hv
  have hu' := Lib.hid hu
  obtain ⟨ao, acap, rfl, -, -, -⟩ := id hv
  obtain ⟨bo, bcap, rfl, -, -, -⟩ := id hu
  clear hv hu
  by_cases hp0 : p.length = 0
  · have e : prodL p q = [] := by rw [prodL, if_pos (.inl hp0)]
    rw [e, hp0]
    clear e hp0 hv' hu' l1
    generalize q.length = k at l2 ⊢
    go_enter Tryz.func26, Tryz.ntmps26
    go_wp2
    go_ret
    exact ⟨_, rfl, Own.nil _ _ _, Below.refl _ _⟩
  · by_cases hq0 : q.length = 0
    · have e : prodL p q = [] := by rw [prodL, if_pos (.inr hq0)]
      rw [e, hq0]
      clear e hq0 hv' hu' l2
      generalize p.length = n at l1 hp0 ⊢
      have hz : ((n : Int) == 0) = false := by rw [beq_eq_false_iff_ne]; omega
      go_enter Tryz.func26, Tryz.ntmps26
      go_wp2
      go_ret
      exact ⟨_, rfl, Own.nil _ _ _, Below.refl _ _⟩
    · have e : prodL p q = mulOut p q p.length := by rw [prodL, if_neg (by omega)]
      rw [e]
      obtain ⟨n, hn⟩ : ∃ n, p.length = n := ⟨_, rfl⟩
      obtain ⟨k, hk⟩ : ∃ k, q.length = k := ⟨_, rfl⟩
      have h00 : mulOut p q 0 = List.replicate (n + k - 1) 0 := by rw [mulOut, hn, hk]
      rw [hn] at hv' l1 hp0 ⊢
      rw [hk] at hu' l2 hq0 ⊢
      have hn' := Lib.hid hn
      have hk' := Lib.hid hk
      have h00' := Lib.hid h00
      clear hn hk e h00
      have hz : ((n : Int) == 0) = false := by rw [beq_eq_false_iff_ne]; omega
      have hz' : ((k : Int) == 0) = false := by rw [beq_eq_false_iff_ne]; omega
      obtain ⟨i, hi, hz0, hz1, hz2⟩ := info_parts Tryz.infoInt
      go_enter Tryz.func26, Tryz.ntmps26
      go_wp2_with (at_make; refine wpList_make_full _ rfl _ _ 23 rfl w.heap.size 3 i _ 1 Tryz.underlying23 hi hz0 hz1 _ _ _ _ (n + k - 1) rfl rfl (by omega) (by omega) (by rw [hz2]; omega) (by unfold maxLen; omega) (Nat.le_refl _) ?_)
      intro w3 hown hgrow
      have hB3 := below_made (Below.refl w.heap.size w) (Nat.le_refl _) hgrow
      have ho := row_made hown
      rw [← h00'.out] at ho
      clear hown hgrow hi hz0 hz1 hz2
      go_wp2
      go_loopw [27] (fun i wr => ∃ j : Nat, j ≤ n ∧ i = .int .i64 j ∧ RowAt wr w.heap.size w.heap.size (n + k - 1) (n + k - 1) (mulOut p q j) ∧ Below w.heap.size w wr) (fun i _ => n - (intOf i).toNat)
      case atStart => exact ⟨0, Nat.zero_le _, rfl, ho, hB3⟩
      case round =>
        obtain ⟨j, hj, rfl, ho1, hB4⟩ := hrel
        clear ho hB3
        obtain ⟨wo, rfl⟩ : ∃ wo : World, wo = wr := ⟨_, rfl⟩
        by_cases hlt : j < n
        · obtain ⟨ao', cap', e, -, -, H⟩ := hv'.out.below hB4
          rw [hn'.out] at e H
          obtain ⟨rfl, _, rfl⟩ := Value.slice.inj e
          obtain ⟨b, off, rfl, hcell⟩ := H j hlt
          clear H e
          go_wp2
          go_loopw [34] (fun i wr => ∃ l : Nat, l ≤ k ∧ i = .int .i64 l ∧ RowAt wr w.heap.size w.heap.size (n + k - 1) (n + k - 1) (mulIn (mulOut p q j) p q j l) ∧ Below w.heap.size w wr) (fun i _ => k - (intOf i).toNat)
          case atStart => exact ⟨0, Nat.zero_le _, rfl, ho1, hB4⟩
          case round =>
            obtain ⟨l, hl, rfl, ho2, hB5⟩ := hrel
            clear ho1 hB4 hcell
            obtain ⟨wo2, rfl⟩ : ∃ wo : World, wo = wr := ⟨_, rfl⟩
            by_cases hlt2 : l < k
            · obtain ⟨bo', cap', e, -, -, H⟩ := hu'.out.below hB5
              rw [hk'.out] at e H
              obtain ⟨rfl, _, rfl⟩ := Value.slice.inj e
              obtain ⟨b2, off2, rfl, hcell⟩ := H l hlt2
              clear H e
              have g1 := ho2.cell (j := j + l) (by omega)
              have g3 := ho2.frozen (j + l)
              have hst := ho2.stored (j + l) (wrap64 (nth (mulIn (mulOut p q j) p q j l) (j + l) + wrap64 (nth p j * nth q l)))
              have hB6 := hB5.setCell (p := ⟨w.heap.size, j + l, none⟩) (Nat.le_refl _) (.int .i64 (wrap64 (nth (mulIn (mulOut p q j) p q j l) (j + l) + wrap64 (nth p j * nth q l))))
              go_wp2
              go_roundw
              case rel => exact ⟨l + 1, by omega, by go_num, hst, hB6⟩
              case measure => simp [intOf]; omega
            · have el : l = k := by omega
              subst el
              go_wp2
              go_roundw
              case rel => exact ⟨j + 1, by omega, by go_num, by rw [mulOut, hk'.out]; exact ho2, hB5⟩
              case measure => simp [intOf]; omega
        · have ej : j = n := by omega
          subst ej
          go_wp2
          go_ret
          exact ⟨_, rfl, ho1.own, hB4⟩

def MultiplyPolys_v (p q : List Int) : List Int × Bool := if (polyB p && polyB q) = true then ifPoly (prodL p q) else ([], false)
theorem MultiplyPolys_len (p q : List Int) : szIntS (MultiplyPolys_v p q).1 ≤ 1099511627776 := by
  unfold MultiplyPolys_v szIntS
  split
  · have := ifPoly_len (prodL p q); omega
  · exact Nat.zero_le _
theorem MultiplyPolys_no1 {p q : List Int} (h : polyB p = false) : MultiplyPolys_v p q = ([], false) := by simp [MultiplyPolys_v, h]
theorem MultiplyPolys_no2 {p q : List Int} (h : polyB q = false) : MultiplyPolys_v p q = ([], false) := by simp [MultiplyPolys_v, h]
theorem MultiplyPolys_yes {p q : List Int} (h1 : polyB p = true) (h2 : polyB q = true) : MultiplyPolys_v p q = ifPoly (prodL p q) := by simp [MultiplyPolys_v, h1, h2]


end Go.Proofs.YtgpabfbnbmbmeaaGreatDoor

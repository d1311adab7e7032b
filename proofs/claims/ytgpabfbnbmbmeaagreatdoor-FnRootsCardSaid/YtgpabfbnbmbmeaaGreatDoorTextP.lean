/- The text of a polynomial: the program's and the reference's. No conditions but valid polynomials. -/
import Derived.Test.YtgpabfbnbmbmeaaGreatDoorTextS
import Derived.Test.YtgpabfbnbmbmeaaGreatDoorPkA
import Derived.Test.YtgpabfbnbmbmeaaGreatDoorPkB
namespace Go.Proofs.YtgpabfbnbmbmeaaGreatDoor
open Go.Shelf Go.RowKit

/-- The text of the first k numbers. -/
def jnK (p : List Int) (k : Nat) : Bytes := Lib.join ((p.take k).map Lib.itoa) [32]
theorem jn_snoc (xs : List Bytes) (x y : Bytes) : Lib.join (x :: xs ++ [y]) [32] = Lib.join (x :: xs) [32] ++ [32] ++ y := by
  have ht : ∀ r : List Bytes, Lib.joinTail [32] (r ++ [y]) = Lib.joinTail [32] r ++ [32] ++ y := by
    intro r
    simp [Lib.joinTail]
  rw [List.cons_append, Lib.join_cons, Lib.join_cons, ht]
  simp
theorem jnK_zero (p : List Int) : jnK p 0 = [] := rfl
theorem jnK_one {p : List Int} (h : 0 < p.length) : jnK p 1 = Lib.itoa (nth p 0) := by
  unfold jnK
  match p with
  | [] => simp at h
  | x :: r => simp [nth, Lib.join_one]
theorem jnK_step {p : List Int} {k : Nat} (h : k + 1 < p.length) : jnK p (k + 2) = jnK p (k + 1) ++ [32] ++ Lib.itoa (nth p (k + 1)) := by
  unfold jnK
  have e : p.take (k + 2) = p.take (k + 1) ++ [nth p (k + 1)] := by
    rw [show k + 2 = (k + 1) + 1 from rfl, List.take_add_one, List.getElem?_eq_getElem h]
    simp [nth, List.getElem?_eq_getElem h]
  rw [e, List.map_append]
  match p with
  | [] => simp at h
  | x :: r =>
    rw [List.take_succ_cons, List.map_cons]
    exact jn_snoc _ _ _
theorem itoa_len {n : Int} (h1 : -1000000 ≤ n) (h2 : n ≤ 1000000) : (Lib.itoa n).length ≤ 8 := by
  unfold Lib.itoa
  split
  · have := decDigits_len 7 n.natAbs (by omega) (by omega); simp; omega
  · have := decDigits_len 7 n.toNat (by omega) (by omega); omega
theorem jnK_len {p : List Int} (hp : ∀ n ∈ p, -1000000 ≤ n ∧ n ≤ 1000000) : ∀ k, k ≤ p.length → (jnK p k).length ≤ 9 * k := by
  intro k
  induction k with
  | zero => intro _; simp [jnK_zero]
  | succ k ih =>
    intro hk
    have h2 := ih (by omega)
    have hm : nth p k ∈ p := by
      unfold nth
      rw [List.getElem?_eq_getElem (by omega)]
      exact List.getElem_mem _
    have h3 := itoa_len (hp _ hm).1 (hp _ hm).2
    match k with
    | 0 => rw [jnK_one (by omega)]; omega
    | j + 1 =>
      rw [jnK_step (by omega)]
      simp only [List.length_append, List.length_cons, List.length_nil]
      omega
theorem jnK_all (p : List Int) (h : p ≠ []) : jnK p p.length = textP p := by
  unfold jnK textP
  rw [if_neg h, List.take_length]
theorem polyB_mem {p : List Int} (h : polyB p = true) : ∀ n ∈ p, -1000000 ≤ n ∧ n ≤ 1000000 := by
  intro n hn
  have ha : allB p (-1000000) 1000000 = true := by
    cases hb : allB p (-1000000) 1000000
    · rw [polyB_all hb] at h; cases h
    · rfl
  unfold allB at ha
  rw [List.all_eq_true] at ha
  exact inB_true.1 (ha n hn)

set_option linter.unusedSimpArgs false in
set_option maxRecDepth 20000 in
set_option maxHeartbeats 2000000 in
theorem poTextW_any (v : Value) (p : List Int) (w : World) (hv : IntsV w v p) (hl9 : p.length ≤ 9) (hmem : ∀ n ∈ p, -1000000 ≤ n ∧ n ≤ 1000000) :
    Calls Tryz.prog 42 #[v] w fun e w' => e = .returned (.string ⟨(textP p).toArray⟩) ∧ Below w.heap.size w w' := by
  obtain ⟨ao, cap, rfl, _, _, H⟩ := hv
  by_cases h0 : p = []
  · subst h0
    go_enter Tryz.func42, Tryz.ntmps42
    go_wp2
    go_ret
    exact ⟨rfl, Below.refl _ _⟩
  have hlen := jnK_len hmem
  have h00 := jnK_zero p
  have hn0 : 0 < p.length := by cases p with | nil => exact absurd rfl h0 | cons _ _ => simp
  have h01 := jnK_one hn0
  have hst := @jnK_step p
  have hall := jnK_all p h0
  have hnm : ∀ k, k < p.length → (-1000000 ≤ nth p k ∧ nth p k ≤ 1000000) := fun k hk => hmem _ (by unfold nth; rw [List.getElem?_eq_getElem hk]; exact List.getElem_mem _)
  have hil := fun k hk => itoa_len (hnm k hk).1 (hnm k hk).2
  have cI := fun k w' hk => l1Int_any (nth p k) w' (hnm k hk).1 (hnm k hk).2
  obtain ⟨n, hn⟩ : ∃ n, p.length = n := ⟨_, rfl⟩
  rw [hn] at H hl9 hlen hn0 hall hil cI ⊢
  have hst2 : ∀ k, k + 1 < n → jnK p (k + 2) = jnK p (k + 1) ++ [32] ++ Lib.itoa (nth p (k + 1)) := fun k hk => hst (by omega)
  have q0 : ¬ (n : Int) = 0 := by omega
  have q1 : ¬ n = 0 := by omega
  have q2 : ((n : Int) == 0) = false := by rw [beq_eq_false_iff_ne]; exact q0
  generalize textP p = TX at *
  generalize jnK p = J at *
  clear hst hmem h0 hnm
  have H' := Lib.hid H
  have hlen' := Lib.hid hlen
  have h00' := Lib.hid h00
  have h01' := Lib.hid h01
  have hst2' := Lib.hid hst2
  have hall' := Lib.hid hall
  have hil' := Lib.hid hil
  have cI' := Lib.hid cI
  have hn' := Lib.hid hn
  clear H hlen h00 h01 hst2 hall hil cI hn
  go_enter Tryz.func42, Tryz.ntmps42
  go_wp2
  go_loopw [3, 11] (fun s i wr => ∃ k : Nat, k ≤ n ∧ i = .int .i64 k ∧ s = .string ⟨(J k).toArray⟩ ∧ Below w.heap.size w wr) (fun _ i _ => n - (intOf i).toNat)
  case atStart => exact ⟨0, Nat.zero_le _, rfl, by rw [h00'.out], Below.refl _ _⟩
  case round =>
    obtain ⟨k, hk, rfl, rfl, hB⟩ := hrel
    by_cases hlt : k < n
    · obtain ⟨b, off, rfl, d0⟩ := H'.out k hlt
      replace d0 := keepC hB d0
      have cI1 := fun w' => cI'.out k w' hlt
      have hil1 := hil'.out k hlt
      have hl1 := hlen'.out k (by omega)
      match k with
      | 0 =>
        have e1 := h01'.out
        have e0 := h00'.out
        simp only [Nat.add_zero] at d0
        generalize Lib.itoa (nth p 0) = I at *
        generalize nth p 0 = N at *
        have hz : ¬ 9223372036854775807 < I.length := by omega
        have hz2 : ¬ 9223372036854775807 < 0 + I.length := by omega
        have hb := bytes_add [] I
        rw [e0]
        rw [e0] at hl1
        have cI1' := Lib.hid cI1
        have e1' := Lib.hid e1
        have hB' := Lib.hid hB
        have hb' := Lib.hid hb
        have e0' := Lib.hid e0
        clear cI1 e1 hB hb e0
        go_wp2_with fail
        refine (cI1'.out _).mono ?_
        rintro e w5 ⟨rfl, hB5⟩
        have hb5 := hB'.out.trans (hB5.mono hB'.out.size)
        clear hB5
        have hb5' := Lib.hid hb5
        clear hb5
        go_wp2
        go_roundw
        case rel => exact ⟨1, by omega, by go_num, by rw [e1'.out]; exact congrArg Value.string hb'.out, hb5'.out⟩
        case measure => simp [intOf]; omega
      | j + 1 =>
        have e1 := hst2'.out j hlt
        generalize Lib.itoa (nth p (j + 1)) = I at *
        generalize nth p (j + 1) = N at *
        obtain ⟨i, hi⟩ : ∃ i : Nat, i = j + 1 := ⟨_, rfl⟩
        rw [← hi] at d0 hlt hl1 e1
        rw [show j + 1 = i by omega]
        have g1 : (0 : Int) < (i : Int) := by omega
        have g2 : 0 < i := by omega
        obtain ⟨D, hD⟩ : ∃ D, J i = D := ⟨_, rfl⟩
        rw [hD] at e1 hl1 ⊢
        have hz : ¬ 9223372036854775807 < D.length + 1 := by omega
        have hz2 : ¬ 9223372036854775807 < D.length + 1 + I.length := by omega
        have hb := bytes_add (D ++ [32]) I
        have hb0 := bytes_add D [32]
        rw [← hb0] at hb
        have cI1' := Lib.hid cI1
        have e1' := Lib.hid e1
        have hB' := Lib.hid hB
        have hb' := Lib.hid hb
        have hD' := Lib.hid hD
        have hi' := Lib.hid hi
        clear cI1 e1 hB hb hD hi
        clear hb0
        go_wp2_with fail
        refine (cI1'.out _).mono ?_
        rintro e w5 ⟨rfl, hB5⟩
        have hb5 := hB'.out.trans (hB5.mono hB'.out.size)
        clear hB5
        have hb5' := Lib.hid hb5
        clear hb5
        go_wp2
        go_roundw
        case rel => exact ⟨i + 1, by omega, by go_num, by have := hi'.out; subst this; rw [e1'.out]; exact congrArg Value.string hb'.out, hb5'.out⟩
        case measure => simp [intOf]; omega
    · obtain rfl : k = n := by omega
      have e1 := hall'.out
      rw [e1]
      clear H' hlen' h00' h01' hst2' hall' hil' cI' hn' e1
      have hB' := Lib.hid hB
      clear hB
      go_wp2
      go_ret
      exact ⟨rfl, hB'.out⟩
theorem poText_any (v : Value) (p : List Int) (w : World) (hv : IntsV w v p) (hp : polyB p = true) :
    Calls Tryz.prog 42 #[v] w fun e w' => e = .returned (.string ⟨(textP p).toArray⟩) ∧ Below w.heap.size w w' :=
  poTextW_any v p w hv (polyB_le9 hp) (polyB_mem hp)
end Go.Proofs.YtgpabfbnbmbmeaaGreatDoor

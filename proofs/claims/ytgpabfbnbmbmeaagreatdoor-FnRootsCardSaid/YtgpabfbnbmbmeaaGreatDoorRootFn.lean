/- What FnRoots calls besides: the draw of a text, the place of a sign, qHas. No conditions but those stated. -/
import Derived.Test.YtgpabfbnbmbmeaaGreatDoorRootLaw
import Derived.Test.YtgpabfbnbmbmeaaGreatDoorDrawTx
import Derived.Test.YtgpabfbnbmbmeaaGreatDoorDrawRt
import Derived.Test.YtgpabfbnbmbmeaaGreatDoorSt
import Derived.Test.YtgpabfbnbmbmeaaGreatDoorLiftC
namespace Go.Proofs.YtgpabfbnbmbmeaaGreatDoor
open Go.Shelf Go.RowKit

theorem textP_len {p : List Int} (hl : p.length ≤ 9) (h : ∀ n ∈ p, -1000000 ≤ n ∧ n ≤ 1000000) : (textP p).length ≤ 100 := by
  unfold textP
  split
  · simp
  · have := jnK_len h p.length (Nat.le_refl _)
    unfold jnK at this
    rw [List.take_length] at this
    exact Nat.le_trans this (by omega)
def DrawT (w : World) (e : Ending) (w' : World) : Prop := ∃ S : ByteArray, e = .returned (.string S) ∧ S.size ≤ 1100 ∧ Below w.heap.size w w'
theorem DrawParsePoly_any (v : Value) (n : Nat) (w : World) (h : CodeV w v n) : Calls Tryz.prog 16 #[v] w (DrawT w) := by
  have c1 := polyBd_any w.heap.size 0 _ (CurAt.start h) (by omega)
  obtain ⟨ao, cap, rfl, -, -⟩ := h
  have c1' := Lib.hid c1
  clear c1
  go_enter Tryz.func16, Tryz.ntmps16
  go_wp2_with fail
  refine (c1'.out).mono ?_
  rintro e w1 ⟨u, p, rfl, hi, hl, hb, hc1, hg1⟩
  obtain ⟨T, hT⟩ : ∃ T : ByteArray, (⟨(textP p).toArray⟩ : ByteArray) = T := ⟨_, rfl⟩
  have hz : T.size ≤ 1000 := by
    rw [← hT]
    have := textP_len hl hb
    show (textP p).toArray.size ≤ 1000
    simp only [List.size_toArray]
    omega
  have c2 := poTextW_any u p w1 hi hl hb
  rw [hT] at c2
  clear c1'
  have c2' := Lib.hid c2
  have hz' := Lib.hid hz
  have hT' := Lib.hid hT
  clear c2 hz hT
  go_wp2_with fail
  refine (c2'.out).mono ?_
  rintro e w2 ⟨rfl, hB2⟩
  have hc2 := hc1.below hB2 hc1.lt
  have hg2 := grown_below hg1 hB2 hg1.size
  clear c2' hc1 hg1 hB2
  go_wp2_with fail
  refine (one_any w.heap.size _ 3 w2 hc2 (by omega) (by omega) (by omega)).mono ?_
  rintro e w3 ⟨v3, rfl, ⟨b, rfl⟩, hc3, hg3⟩
  have hg := hg2.trans hg3
  clear hg2 hg3 hc2
  have hg' := Lib.hid hg
  clear hg
  cases b
  · clear hc3
    go_wp2
    go_ret
    exact ⟨T, rfl, by have := hz'.out; omega, start_below hg'.out⟩
  · go_wp2_with fail
    refine (spoilt_any w.heap.size _ T w3 hc3 (by omega) hz'.out).mono ?_
    rintro e w4 ⟨S, rfl, hS, hc4, hg4⟩
    have hgg := hg'.out.trans hg4
    clear hc3 hc4 hg4
    have hgg' := Lib.hid hgg
    have hS' := Lib.hid hS
    clear hgg hS
    go_wp2
    go_ret
    exact ⟨S, rfl, by have := hS'.out; omega, start_below hgg'.out⟩

theorem MakeRat_any (x y : Int) (w : World) (hx : 0 ≤ x ∧ x ≤ 100) (hy : 1 ≤ y ∧ y ≤ 100) :
    Calls Tryz.prog 54 #[.int .i64 x, .int .i64 y] w (Ret (.tuple #[ratV (mkR x y).1, .bool (mkR x y).2]) w) := by
  have c := fun w => raMake_any x y w (by omega) (by omega) (by omega)
  have i1 : inB x (-1000000000000000000) 1000000000000000000 = true := by rw [inB_true]; omega
  have i2 : inB y (-1000000000000000000) 1000000000000000000 = true := by rw [inB_true]; omega
  have b0 : (y == 0) = false := by rw [beq_eq_false_iff_ne]; omega
  have hB := (Below.refl w.heap.size w).alloc (Nat.le_refl _) (.cells #[.int .i64 0, .int .i64 0] 29)
  generalize mkR x y = r at *
  obtain ⟨⟨p, q⟩, ok⟩ := r
  have c' := Lib.hid c
  clear c
  go_enter Tryz.func54, Tryz.ntmps54
  go_wp2_with fail
  refine (l1In_any x (-1000000000000000000) 1000000000000000000 _).mono ?_
  rintro e w_ ⟨rfl, rfl⟩
  go_wp2_with fail
  refine (l1In_any y (-1000000000000000000) 1000000000000000000 _).mono ?_
  rintro e w_ ⟨rfl, rfl⟩
  go_wp2_with fail
  refine (c'.out _).mono ?_
  rintro e w3 ⟨rfl, hB3⟩
  obtain ⟨hc, hf⟩ := bcell hB3
  have hBz := hB.trans (hB3.mono hB.size)
  have q0 : w3.cell? ⟨w.heap.size, 0, none⟩ = some (.int .i64 0) := by rw [hc _ _ (by simp)]; simp [go_sem]
  have q1 : w3.cell? ⟨w.heap.size, 1, none⟩ = some (.int .i64 0) := by rw [hc _ _ (by simp)]; simp [go_sem]
  go_wp2
  refine bodyPost_ret (v := .tuple #[ratV (p, q), .bool ok]) (by simp [results, Tryz.results54, go_sem, q0, q1, ratV]) rfl ⟨rfl, ?_⟩
  exact (hBz.setCell (p := ⟨w.heap.size, 0, none⟩) (Nat.le_refl _) _).setCell (p := ⟨w.heap.size, 1, none⟩) (Nat.le_refl _) _

theorem qPlace_any (v : Value) (p : List Int) (k : Nat) (d : Int) (w : World) (hv : IntsV w v p) (hp : polyB p = true) (hk : k ≤ 30) (hd : 1 ≤ d ∧ d ≤ 30) :
    Calls Tryz.prog 22 #[v, .int .i64 k, .int .i64 d] w (Ret (.tuple #[.int .i64 (signV p k d), .bool true]) w) := by
  obtain ⟨f1, f2, f3⟩ := place_fact hp hk hd
  have hm : szIntS p ≤ 1099511627776 := by have := (poly_parts hp).1; show p.length ≤ _; omega
  have c0 := MakeRat_any k d w (by omega) (by omega)
  have c1 := fun w' (hB : Below w.heap.size w w') => specSignAt_any v p (mkR k d).1 w' (hv.below hB) hm f2
  have c2 := fun w' (hB : Below w.heap.size w w') => implSignAt_any v p (mkR k d).1 w' (hv.below hB) hm f2
  rw [f3] at c1 c2
  rw [f1] at c0
  obtain ⟨ao, cap, rfl, -, -, -⟩ := hv
  generalize signV p k d = s at *
  obtain ⟨⟨x, y⟩, hr⟩ : ∃ r, (mkR k d).1 = r := ⟨_, rfl⟩
  rw [hr] at c0 c1 c2
  clear f1 f2 f3 hr hm hp
  have c0' := Lib.hid c0
  have c1' := Lib.hid c1
  have c2' := Lib.hid c2
  clear c0 c1 c2
  go_enter Tryz.func22, Tryz.ntmps22
  go_wp2_with fail
  refine (c0'.out).mono ?_
  rintro e w1 ⟨rfl, hB1⟩
  obtain ⟨w2, hw2⟩ : ∃ W, w1.alloc (.cells #[.int .i64 x, .int .i64 y] 29) = W := ⟨_, rfl⟩
  have hB2 : Below w1.heap.size w1 w2 := by rw [← hw2]; exact (Below.refl _ _).alloc (Nat.le_refl _) _
  have hx : BoxO w2 w1.heap.size x y := by rw [← hw2]; exact BoxO.new _ _ _ _
  have hB3 := hB1.trans (hB2.mono hB1.size)
  clear hB1 hB2 c0'
  have hw2' := Lib.hid hw2
  have hB3' := Lib.hid hB3
  clear hw2 hB3
  go_upto_region 2 with fail
  rw [hw2'.out]
  obtain ⟨x0, x1, -, -⟩ := id hx
  go_wp2_with fail
  refine (c2'.out w2 hB3'.out).mono ?_
  rintro e w3 ⟨rfl, hB4⟩
  have hx3 := hx.below hB4
  have hB5 := hB3'.out.trans (hB4.mono hB3'.out.size)
  clear hx x0 x1 hB4 hB3'
  obtain ⟨x0, x1, -, -⟩ := hx3
  have hB5' := Lib.hid hB5
  clear hB5
  go_wp2_with fail
  refine (c1'.out w3 hB5'.out).mono ?_
  rintro e w4 ⟨rfl, hB6⟩
  have hB7 := hB5'.out.trans (hB6.mono hB5'.out.size)
  clear hB5' hB6
  have hB7' := Lib.hid hB7
  clear hB7
  have e1 : (s == s) = true := by simp
  go_wp2
  go_ret2
  exact ⟨rfl, hB7'.out⟩
def hasJ (xs : List Int) (x : Int) : Bool := xs.any fun y => decide (y = x)
theorem qHas_any (v : Value) (xs : List Int) (x : Int) (w : World) (hv : IntsV w v xs) (hm : xs.length ≤ 1099511627776) :
    Calls Tryz.prog 23 #[v, .int .i64 x] w (Same (.bool (hasJ xs x)) w) := by
  obtain ⟨ao, cap, rfl, _, _, H⟩ := hv
  obtain ⟨n, hn⟩ : ∃ n, xs.length = n := ⟨_, rfl⟩
  have hyes : ∀ k, k < xs.length → nth xs k = x → hasJ xs x = true := fun k hk e => by
    unfold hasJ; rw [List.any_eq_true]; exact ⟨nth xs k, nth_mem hk, by rw [e]; simp⟩
  have hno : (∀ k, k < xs.length → nth xs k ≠ x) → hasJ xs x = false := fun h => by
    unfold hasJ; rw [List.any_eq_false]; intro y hy
    obtain ⟨j, hj, rfl⟩ := List.getElem_of_mem hy
    have := h j hj
    rw [nth_eq hj] at this; simpa using this
  rw [hn] at hm H hno hyes ⊢
  have hn' := Lib.hid hn
  have hno' := Lib.hid hno
  have hyes' := Lib.hid hyes
  have H' := Lib.hid H
  clear hn hno hyes H
  go_enter Tryz.func23, Tryz.ntmps23
  go_wp2
  go_loop [9] (fun i => ∃ k : Nat, k ≤ n ∧ i = .int .i64 k ∧ Hid (∀ j, j < k → nth xs j ≠ x)) (fun i => n - (intOf i).toNat)
  case atStart => exact ⟨0, Nat.zero_le _, rfl, Lib.hid (fun j hj => absurd hj (Nat.not_lt_zero j))⟩
  case round =>
    obtain ⟨k, hk, rfl, hI⟩ := hrel
    by_cases hlt : k < n
    · obtain ⟨b, off, rfl, hc⟩ := H'.out k hlt
      by_cases e : nth xs k = x
      · have hy := hyes'.out k hlt e
        have e1 : (nth xs k == x) = true := by rw [beq_iff_eq]; exact e
        have hy' := Lib.hid hy
        clear hy
        clear e
        go_wp2
        go_ret
        rw [hy'.out]
        exact ⟨rfl, rfl⟩
      · have hI2 : ∀ j, j < k + 1 → nth xs j ≠ x := fun j hj => by
          by_cases e2 : j = k
          · rw [e2]; exact e
          · exact hI.out j (by omega)
        have e1 : (nth xs k == x) = false := by rw [beq_eq_false_iff_ne]; exact e
        have hI2' := Lib.hid hI2
        clear hI2
        clear e
        go_wp2
        go_round
        case rel => exact ⟨k + 1, by omega, by go_num, hI2'⟩
        case measure => simp [intOf]; omega
    · obtain rfl : n = k := by omega
      have hy := hno'.out hI.out
      have hy' := Lib.hid hy
      clear hy
      go_wp2
      go_ret
      rw [hy'.out]
      exact ⟨rfl, rfl⟩
end Go.Proofs.YtgpabfbnbmbmeaaGreatDoor

/- Several texts in one: AppR PutR SortR SortedR CompactR GrowR Rising PutOwn NilR HasR RisHas. No conditions but those that each theorem states. -/
import Derived.Test.YtjkgilenhoomoaaGreatPkD
import Derived.Test.YtjkgilenhoomoaaGreatPkI
import Derived.Test.YtjkgilenhoomoaaGreatPkB
import Derived.Shelf.SlSortCmp.NoneTotal
import Derived.Shelf.SlLaysF0
import Derived.Lib.SliceRun
import Derived.Shelf.Spec.SlicesGrow
import Derived.Laws.OwnMore

namespace Go.Proofs.YtjkgilenhoomoaaGreat
open Go.RowKit

theorem wpList_append_rats {ops : Array Oper} {rest : List Oper} {o : Oper} {a : Act} {w : World} {Q : Exit → Act → World → Prop} (hgd : o.guard = none) (s x : Operand)
    (ho : o.op = .call { callee := .builtin .append, args := #[s, x], argTypes := #[67, 67] }) (B : Nat) (v u : Value) (xs ys : List (Int × Int)) (hs : a.eval s = v)
    (hx : a.eval x = u) (hown : GrowR w B v xs) (hu : RatsV w u ys) (hl : xs.length + ys.length ≤ 4398046511104) (hB : B ≤ w.heap.size)
    (h : ∀ v' w', GrowR w' B v' (xs ++ ys) → w.grownBy w' v.ownBlock → wpList Tryz.prog ops Q rest (a.put o.dst v') w') : wpList Tryz.prog ops Q (o :: rest) a w := by
  obtain ⟨i, hi, hz0, hz1, hz2⟩ := info_parts Tryz.infoRat
  obtain ⟨ao, cap, rfl, ⟨hcap, hnil⟩, _, H⟩ := hu
  cases ao with
  | none =>
    obtain rfl := hnil rfl
    have : ys = [] := List.eq_nil_of_length_eq_zero (by omega)
    subst this
    refine wpList_append_own_none hgd s x 67 ho B 42 i 2 Tryz.underlying67 hi v xs.length _ hs hown hx ?_
    exact h v w (by rw [List.append_nil]; exact hown) (World.grownBy.refl _ _)
  | some ad =>
    refine wpList_append_own _ hgd s x 67 ho B 42 i (.agg #[.int .i64 0, .int .i64 0]) 2 16 Tryz.underlying67 hi hz0 hz1 hz2 rfl (by decide) v xs.length _ hs hown ad ys.length cap ((flR ys).map (Value.int .i64)) hx (by simp [flR_len]) ?_ ?_ (by unfold maxLen; omega) (by omega) hB ?_
    · intro j z hj
      have hj' : j < (flR ys).length := by
        have := (List.getElem?_eq_some_iff.1 hj).1
        simpa using this
      obtain ⟨b, off, e, hc⟩ := H j (by rw [flR_len] at hj'; exact hj')
      cases e
      rw [Addr.add_lit, hc]
      rw [List.getElem?_map, List.getElem?_eq_getElem hj'] at hj
      rw [nth_eq hj']; exact hj
    · intro z hz
      obtain ⟨_, _, rfl⟩ := List.mem_map.1 hz
      rfl
    · intro v' w' h1 h2 _
      refine h v' w' ?_ h2
      unfold GrowR GrowF
      rw [flR_append, List.map_append, List.length_append]; exact h1

end Go.Proofs.YtjkgilenhoomoaaGreat

namespace Go.Proofs.YtjkgilenhoomoaaGreat
open Go.RowKit
set_option maxRecDepth 100000

theorem putN_lt {l : List (Int × Int)} {x : Int × Int} {k : Nat} (h : k < putN l x) : ltB (nthR l k).1 (nthR l k).2 x.1 x.2 = true := by
  have h1 := putN_le l x
  have hk : k < l.length := by omega
  refine putN_below (l := l) (x := x) _ ?_
  rw [nthR_eq hk]
  exact List.mem_take_iff_getElem.2 ⟨k, by omega, rfl⟩
theorem nthR_take {l : List (Int × Int)} {k i : Nat} (h : i < k) : nthR (l.take k) i = nthR l i := by
  unfold nthR; rw [List.getElem?_take_of_lt h]
theorem nthR_drop (l : List (Int × Int)) (k i : Nat) : nthR (l.drop k) i = nthR l (k + i) := by
  unfold nthR; rw [List.getElem?_drop]
/-- The head of a slice, its tail. -/
theorem RatsV.take {w : World} {b off n cap : Nat} {xs : List (Int × Int)} (h : RatsV w (.slice (some ⟨b, off, none⟩) n cap) xs) {k : Nat} (hk : k ≤ xs.length) : RatsV w (.slice (some ⟨b, off, none⟩) k cap) (xs.take k) := by
  obtain ⟨ao, c, e, h1, h2, H⟩ := h.form
  cases e
  have hl : (xs.take k).length = k := by simp; omega
  have := RatsV.mk (w := w) (ao := some ⟨b, off, none⟩) (cap := cap) (xs := xs.take k) ⟨by omega, fun e => by cases e⟩ h2 (fun i hi => by
    rw [nthR_take (by omega)]
    exact H i (by omega))
  rw [hl] at this
  exact this
theorem RatsV.drop {w : World} {b off n cap : Nat} {xs : List (Int × Int)} (h : RatsV w (.slice (some ⟨b, off, none⟩) n cap) xs) {k m c' o' : Nat} (hk : k ≤ xs.length) (hm : m = xs.length - k) (hc : m ≤ c' ∧ c' ≤ maxLen) (ho : k < xs.length → o' = off + k * 2) : RatsV w (.slice (some ⟨b, o', none⟩) m c') (xs.drop k) := by
  obtain ⟨ao, c, e, h1, h2, H⟩ := h.form
  cases e
  have hl : (xs.drop k).length = m := by simp; omega
  have := RatsV.mk (w := w) (ao := some ⟨b, o', none⟩) (cap := c') (xs := xs.drop k) ⟨by omega, fun e => by cases e⟩ hc.2 (fun i hi => by
    obtain ⟨b1, o1, e1, c0, c1⟩ := H (k + i) (by omega)
    cases e1
    rw [nthR_drop]
    refine ⟨b, o', rfl, ?_, ?_⟩
    · rw [ho (by omega), ← c0]; congr 2; omega
    · rw [ho (by omega), ← c1]; congr 2; omega)
  rw [hl] at this
  exact this

theorem GrowR.mono {w : World} {B B' : Nat} {v : Value} {xs : List (Int × Int)} (h : GrowR w B v xs) (hB : B' ≤ B) : GrowR w B' v xs := World.ownsRow.mono h hB
theorem GrowR.empty {w : World} {B : Nat} (hB : B ≤ w.heap.size) : GrowR (w.alloc (.cells #[] 42)) B (.slice (some ⟨w.heap.size, 0, none⟩) 0 0) [] := by
  exact ⟨rfl, .inr ⟨w.heap.size, 0, #[], rfl, hB, heap_alloc_new _ _, Nat.le_refl _, Nat.zero_le _, rfl, rfl⟩⟩
theorem GrowR.empty' {E : Nat} {w0 w : World} {B : Nat} (_h : Below E w0 (w.alloc (.cells #[] 42))) (hB : B ≤ w.heap.size) : GrowR (w.alloc (.cells #[] 42)) B (.slice (some ⟨w.heap.size, 0, none⟩) 0 0) [] := GrowR.empty hB
theorem grow_alloc {E : Nat} {w0 w : World} {o : Obj} (_h : Below E w0 (w.alloc o)) {B : Nat} {v : Value} {xs : List (Int × Int)} (h : GrowR w B v xs) : GrowR (w.alloc o) B v xs := h.below ((Below.refl _ _).alloc (Nat.le_refl _) _)
theorem rats_alloc {E : Nat} {w0 w : World} {o : Obj} (_h : Below E w0 (w.alloc o)) {v : Value} {xs : List (Int × Int)} (h : RatsV w v xs) : RatsV (w.alloc o) v xs := h.below ((Below.refl _ _).alloc (Nat.le_refl _) _)
theorem rats_kept {w w' : World} {g off n cap : Nat} {xs : List (Int × Int)} {row : Option Nat} (h : RatsV w (.slice (some ⟨g, off, none⟩) n cap) xs) (hg : w.grownBy w' row) (hr : some g ≠ row) : RatsV w' (.slice (some ⟨g, off, none⟩) n cap) xs := by
  obtain ⟨ao, c, e, h1, h2, H⟩ := h
  cases e
  refine ⟨_, _, rfl, h1, h2, fun j hj => ?_⟩
  obtain ⟨b, o, e, hc⟩ := H j hj
  cases e
  exact ⟨_, _, rfl, hg.cell hc hr⟩
theorem ratsV_lit (w : World) (p q : Int) : RatsV (w.alloc (.cells #[.int .i64 p, .int .i64 q] 42)) (.slice (some ⟨w.heap.size, 0, none⟩) 1 1) [(p, q)] := by
  refine RatsV.mk (xs := [(p, q)]) ⟨Nat.le_refl _, fun e => by cases e⟩ (by simp [maxLen]) (fun i hi => ?_)
  obtain rfl : i = 0 := by simpa using hi
  exact ⟨_, _, rfl, by simp [go_sem, nthR], by simp [go_sem, nthR]⟩
theorem ratsV_lit' {E : Nat} {w0 w : World} {p q : Int} (_h : Below E w0 (w.alloc (.cells #[.int .i64 p, .int .i64 q] 42))) : RatsV (w.alloc (.cells #[.int .i64 p, .int .i64 q] 42)) (.slice (some ⟨w.heap.size, 0, none⟩) 1 1) [(p, q)] := ratsV_lit w p q
theorem wp_append_rats {o : Oper} {a : Act} {w : World} {KK : Act → World → Prop} {Q : Exit → Act → World → Prop} (s x : Operand)
    (ho : o.op = .call { callee := .builtin .append, args := #[s, x], argTypes := #[67, 67] }) (B : Nat) (v : Value) (ad : Addr) (m c : Nat) (xs ys : List (Int × Int)) (hs : a.eval s = v)
    (hx : a.eval x = .slice (some ad) m c) (hown : GrowR w B v xs) (hu : RatsV w (.slice (some ad) m c) ys) (hl : xs.length + ys.length ≤ 4398046511104) (hB : B ≤ w.heap.size)
    (h : ∀ v' w', GrowR w' B v' (xs ++ ys) → w.grownBy w' v.ownBlock → KK (a.put o.dst v') w') : o.wp Tryz.prog a w KK Q := by
  obtain ⟨i, hi, hz0, hz1, hz2⟩ := info_parts Tryz.infoRat
  obtain ⟨ao, cap, e, ⟨hcap, hnil⟩, _, H⟩ := hu
  cases e
  refine wp_append_own _ s x 67 ho B 42 i (.agg #[.int .i64 0, .int .i64 0]) 2 16 Tryz.underlying67 hi hz0 hz1 hz2 rfl (by decide) v xs.length _ hs hown ad ys.length c ((flR ys).map (Value.int .i64)) hx (by simp [flR_len]) ?_ ?_ (by unfold maxLen; omega) (by omega) hB ?_
  · intro j z hj
    have hj' : j < (flR ys).length := by
      have := (List.getElem?_eq_some_iff.1 hj).1
      simpa using this
    obtain ⟨b, off, e, hc⟩ := H j (by rw [flR_len] at hj'; exact hj')
    cases e
    rw [Addr.add_lit, hc]
    rw [List.getElem?_map, List.getElem?_eq_getElem hj'] at hj
    rw [nth_eq hj']; exact hj
  · intro z hz
    obtain ⟨_, _, rfl⟩ := List.mem_map.1 hz
    rfl
  · intro v' w' h1 h2 _
    refine h v' w' ?_ h2
    unfold GrowR GrowF
    rw [flR_append, List.map_append, List.length_append]; exact h1

set_option linter.unusedSimpArgs false in
set_option maxHeartbeats 1600000 in
theorem imPut_some (b off cap : Nat) (xs : List (Int × Int)) (x : Int × Int) (w : World) (hv : RatsV w (.slice (some ⟨b, off, none⟩) xs.length cap) xs) (hm : xs.length ≤ 1099511627776) (hx : BdR x.1 x.2) (hb : ∀ i, i < xs.length → BdR (nthR xs i).1 (nthR xs i).2) :
    Calls Tryz.prog 30 #[.slice (some ⟨b, off, none⟩) xs.length cap, .agg #[.int .i64 x.1, .int .i64 x.2]] w fun e w' => ∃ v', e = .returned v' ∧ (v' = .slice (some ⟨b, off, none⟩) xs.length cap ∧ putR xs x = xs ∨ GrowR w' w.heap.size v' (putR xs x)) ∧ Below w.heap.size w w' := by
  obtain ⟨_, _, e, hcc, hcap, H⟩ := hv.form
  cases e
  have hKn := putN_le xs x
  have hbl := fun k (h : k < putN xs x) => putN_lt h
  have hat := fun (h : putN xs x < xs.length) => putN_at h
  have hput : putR xs x = if nthR xs (putN xs x) = x ∧ putN xs x < xs.length then xs else xs.take (putN xs x) ++ x :: xs.drop (putN xs x) := rfl
  obtain ⟨P, hP⟩ : ∃ P, putR xs x = P := ⟨_, rfl⟩
  rw [hP] at hput ⊢
  obtain ⟨K, hK⟩ : ∃ K, putN xs x = K := ⟨_, rfl⟩
  rw [hK] at hKn hbl hat hput
  have htk := RatsV.take hv hKn
  have hdr := fun (m c' o' : Nat) => RatsV.drop hv (k := K) (m := m) (c' := c') (o' := o') hKn
  have htl : (xs.take K).length = K := by simp; omega
  have hdl : (xs.drop K).length = xs.length - K := by simp
  obtain ⟨XT, hXT⟩ : ∃ X, xs.take K = X := ⟨_, rfl⟩
  obtain ⟨XD, hXD⟩ : ∃ X, xs.drop K = X := ⟨_, rfl⟩
  rw [hXT] at htk htl hput
  rw [hXD] at hdl hput
  rw [hXD] at hdr
  have cl := fun (w' : World) k (h : k < xs.length) => raCmp_any (nthR xs k).1 (nthR xs k).2 x.1 x.2 w' (hb k h) hx
  have ce := fun k => cmpN_lt (nthR xs k).1 (nthR xs k).2 x.1 x.2
  obtain ⟨n, hn⟩ : ∃ n, xs.length = n := ⟨_, rfl⟩
  simp only [hn] at hv H hm hKn hat hput hdl hdr cl hcc ⊢
  clear hb
  obtain ⟨p, q⟩ := x
  simp only at cl hbl hat ce
  obtain ⟨w0, hw0⟩ : ∃ W, w.alloc (.cells #[.int .i64 p, .int .i64 q] 42) = W := ⟨_, rfl⟩
  have hB0 : Below w.heap.size w w0 := by rw [← hw0]; exact (Below.refl _ _).alloc (Nat.le_refl _) _
  have hx0 : w0.cell? ⟨w.heap.size, 0, none⟩ = some (.int .i64 p) := by rw [← hw0]; simp [go_sem]
  have hx1 : w0.cell? ⟨w.heap.size, 1, none⟩ = some (.int .i64 q) := by rw [← hw0]; simp [go_sem]
  have hbl' := Lib.hid hbl
  have hat' := Lib.hid hat
  have hput' := Lib.hid hput
  have cl' := Lib.hid cl
  have ce' := Lib.hid ce
  have hw0' := Lib.hid hw0
  have hv' := Lib.hid hv
  have H' := Lib.hid H
  have hn' := Lib.hid hn
  have htk' := Lib.hid htk
  have hdr' := Lib.hid hdr
  have htl' := Lib.hid htl
  have hdl' := Lib.hid hdl
  have hXT' := Lib.hid hXT
  have hXD' := Lib.hid hXD
  have hK' := Lib.hid hK
  have hP' := Lib.hid hP
  have hx' := Lib.hid hx
  have hcc' := Lib.hid hcc
  clear hbl hat hput cl ce hw0 hv H hn htk hdr htl hdl hXT hXD hK hP hx hcc
  show Calls _ _ #[_, .agg #[.int .i64 p, .int .i64 q]] w _
  go_enter Tryz.func30, Tryz.ntmps30
  go_wp2_with fail
  rw [hw0'.out]
  go_loopw [5] (fun i wr => ∃ k : Nat, k ≤ K ∧ i = .int .i64 k ∧ Below w0.heap.size w0 wr) (fun i _ => K - (intOf i).toNat)
  case atStart => exact ⟨0, Nat.zero_le _, rfl, Below.refl _ _⟩
  case round =>
    obtain ⟨k, hk, rfl, hB⟩ := hrel
    have g1 : (0 : Int) ≤ (k : Int) := by omega
    have u0 := bkeep hB hx0
    have u1 := bkeep hB hx1
    by_cases hkn : k < n
    · have g3 : (k : Int) < (n : Int) := by omega
      obtain ⟨_, _, e', d0, d1⟩ := H'.out k hkn
      cases e'
      replace d0 := bkeep hB (bkeep hB0 d0)
      replace d1 := bkeep hB (bkeep hB0 d1)
      have e1 := fun w' => cl'.out w' k hkn
      have f1 := ce'.out k
      have hbk := hbl'.out k
      have hak := hat'.out
      have hpk : k = K → nthR xs K = nthR xs k := fun e => by rw [e]
      rw [← f1] at hbk
      generalize cmpN (nthR xs k).1 (nthR xs k).2 p q = C1 at *
      obtain ⟨r, hr⟩ : ∃ r, nthR xs k = r := ⟨_, rfl⟩
      rw [hr] at d0 d1 e1 f1 hpk
      obtain ⟨a1, a2⟩ := r
      simp only at d0 d1 e1 f1
      have hd : Below wr.heap.size wr wr.drew := (Below.refl _ _).drew
      have at' : ∀ w' : World, Below wr.heap.size wr w' → (w'.cell? ⟨w.heap.size, 0, none⟩ = some (.int .i64 p) ∧ w'.cell? ⟨w.heap.size, 1, none⟩ = some (.int .i64 q)) ∧ w'.cell? ⟨b, off + k * 2, none⟩ = some (.int .i64 a1) ∧ w'.cell? ⟨b, off + k * 2 + 1, none⟩ = some (.int .i64 a2) :=
        fun w' h => ⟨⟨bkeep h u0, bkeep h u1⟩, bkeep h d0, bkeep h d1⟩
      clear d0 d1 u0 u1
      have e1' := Lib.hid e1
      have at'' := Lib.hid at'
      have hr' := Lib.hid hr
      have hak' := Lib.hid hak
      have f1' := Lib.hid f1
      clear e1 at' hr hak f1
      by_cases hkK : k < K
      · have hC1 : C1 < 0 := by simpa using hbk hkK
        clear hbk hpk
        go_wp2_with fail
        refine wp_region_held_drew (S := (fun w' => (w'.cell? ⟨w.heap.size, 0, none⟩ = some (.int .i64 p) ∧ w'.cell? ⟨w.heap.size, 1, none⟩ = some (.int .i64 q)) ∧ w'.cell? ⟨b, off + k * 2, none⟩ = some (.int .i64 a1) ∧ w'.cell? ⟨b, off + k * 2 + 1, none⟩ = some (.int .i64 a2))) (by kernel_rfl) (by (try dsimp only); (first | exact at''.out _ hd | exact at''.out _ hd5)) (fun hHeld => ?_)
        refine ly_q 0 (v := ?_) hHeld ?_
        try simp only [Act.put, lyA, lyB, lyC]
        refine ly_q 1 (v := ?_) hHeld ?_
        try simp only [Act.put, lyA, lyB, lyC]
        refine ly_q 2 (v := ?_) hHeld ?_
        try simp only [Act.put, lyA, lyB, lyC]
        refine ly_q 3 (v := ?_) hHeld ?_
        try simp only [Act.put, lyA, lyB, lyC]
        refine ly_q 4 (v := ?_) hHeld ?_
        try simp only [Act.put, lyA, lyB, lyC]
        refine ly_q 5 (v := ?_) hHeld ?_
        try simp only [Act.put, lyA, lyB, lyC]
        refine ly_q 6 (v := ?_) hHeld ?_
        try simp only [Act.put, lyA, lyB, lyC]
        refine ly_q 7 (v := ?_) hHeld ?_
        try simp only [Act.put, lyA, lyB, lyC]
        refine ly_q 8 (v := ?_) hHeld ?_
        try simp only [Act.put, lyA, lyB, lyC]
        refine ly_q 9 (v := ?_) hHeld ?_
        try simp only [Act.put, lyA, lyB, lyC]
        refine ly_a 10 (fun KK hKK => ?_)
        go_simp
        refine (e1'.out _).mono ?_
        rintro e w5 ⟨rfl, hB5⟩
        have hd5 := hd.trans (hB5.mono hd.size)
        try dsimp only
        refine hKK.out _ _ (by (try dsimp only); (first | exact at''.out _ hd | exact at''.out _ hd5)) (fun hHeld => ?_)
        clear hKK KK
        try simp only [Act.put, lyA, lyB, lyC]
        refine ly_q 11 (v := .bool true) (hy := by intro wS hSw; (try dsimp only at hSw); go_simp; all_goals (simp [hC1])) hHeld ?_
        try simp only [Act.put, lyA, lyB, lyC]
        refine ly_q 12 (v := ?_) hHeld ?_
        try simp only [Act.put, lyA, lyB, lyC]
        refine wpAnyH_done (by kernel_rfl) ?_ _
        have hb5 := hB.trans (hd5.mono hB.size)
        clear hHeld
        go_wp2
        go_roundw
        case rel => exact ⟨k + 1, by omega, by go_num, hb5⟩
        case measure => simp [intOf]; omega
      · obtain hkK2 : k = K := by omega
        have hC1 : ¬ C1 < 0 := by
          have h1 := hak'.out (by omega)
          have h2 := f1'.out
          rw [← hkK2, hr'.out] at h1
          simp only at h1
          rw [h1] at h2
          simpa using h2
        replace hpk := hpk hkK2
        subst hkK2
        clear hbk
        have hpx := hput'.out
        rw [hr'.out] at hpx
        by_cases heq : (a1, a2) = (p, q)
        · obtain ⟨rfl, rfl⟩ := Prod.mk.inj heq
          rw [if_pos ⟨rfl, hkn⟩] at hpx
          have hpx' := Lib.hid hpx
          have hpk' := Lib.hid hpk
          have heq' := Lib.hid heq
          clear hpx hpk heq
          go_wp2_with fail
          refine wp_region_held_drew (S := (fun w' => (w'.cell? ⟨w.heap.size, 0, none⟩ = some (.int .i64 a1) ∧ w'.cell? ⟨w.heap.size, 1, none⟩ = some (.int .i64 a2)) ∧ w'.cell? ⟨b, off + k * 2, none⟩ = some (.int .i64 a1) ∧ w'.cell? ⟨b, off + k * 2 + 1, none⟩ = some (.int .i64 a2))) (by kernel_rfl) (by (try dsimp only); (first | exact at''.out _ hd | exact at''.out _ hd5)) (fun hHeld => ?_)
          refine ly_q 0 (v := ?_) hHeld ?_
          try simp only [Act.put, lyA, lyB, lyC]
          refine ly_q 1 (v := ?_) hHeld ?_
          try simp only [Act.put, lyA, lyB, lyC]
          refine ly_q 2 (v := ?_) hHeld ?_
          try simp only [Act.put, lyA, lyB, lyC]
          refine ly_q 3 (v := ?_) hHeld ?_
          try simp only [Act.put, lyA, lyB, lyC]
          refine ly_q 4 (v := ?_) hHeld ?_
          try simp only [Act.put, lyA, lyB, lyC]
          refine ly_q 5 (v := ?_) hHeld ?_
          try simp only [Act.put, lyA, lyB, lyC]
          refine ly_q 6 (v := ?_) hHeld ?_
          try simp only [Act.put, lyA, lyB, lyC]
          refine ly_q 7 (v := ?_) hHeld ?_
          try simp only [Act.put, lyA, lyB, lyC]
          refine ly_q 8 (v := ?_) hHeld ?_
          try simp only [Act.put, lyA, lyB, lyC]
          refine ly_q 9 (v := ?_) hHeld ?_
          try simp only [Act.put, lyA, lyB, lyC]
          refine ly_a 10 (fun KK hKK => ?_)
          go_simp
          refine (e1'.out _).mono ?_
          rintro e w5 ⟨rfl, hB5⟩
          have hd5 := hd.trans (hB5.mono hd.size)
          try dsimp only
          refine hKK.out _ _ (by (try dsimp only); (first | exact at''.out _ hd | exact at''.out _ hd5)) (fun hHeld => ?_)
          clear hKK KK
          try simp only [Act.put, lyA, lyB, lyC]
          refine ly_q 11 (v := .bool false) (hy := by intro wS hSw; (try dsimp only at hSw); go_simp; all_goals (simp [hC1])) hHeld ?_
          try simp only [Act.put, lyA, lyB, lyC]
          refine ly_q 12 (v := ?_) hHeld ?_
          try simp only [Act.put, lyA, lyB, lyC]
          refine wpAnyH_done (by kernel_rfl) ?_ _
          have hb5 := hB0.trans ((hB.trans (hd5.mono hB.size)).mono hB0.size)
          obtain ⟨⟨z0, z1⟩, z2, z3⟩ := hHeld
          go_wp2_with fail
          go_quiet (fail)
          go_wp2
          go_ret
          have hb6 : Below w.heap.size w (w5.drewN nq) := below_drewN hb5 _
          exact ⟨_, rfl, .inl ⟨rfl, hpx'.out⟩, hb6⟩
        · rw [if_neg (fun h => heq h.1)] at hpx
          have hne : ¬ a1 = p ∨ a1 = p ∧ ¬ a2 = q := by
            by_cases h1 : a1 = p
            · exact .inr ⟨h1, fun h2 => heq (by rw [h1, h2])⟩
            · exact .inl h1
          have hpx' := Lib.hid hpx
          have hpk' := Lib.hid hpk
          have heq' := Lib.hid heq
          clear hpx hpk heq
          go_wp2_with fail
          refine wp_region_held_drew (S := (fun w' => (w'.cell? ⟨w.heap.size, 0, none⟩ = some (.int .i64 p) ∧ w'.cell? ⟨w.heap.size, 1, none⟩ = some (.int .i64 q)) ∧ w'.cell? ⟨b, off + k * 2, none⟩ = some (.int .i64 a1) ∧ w'.cell? ⟨b, off + k * 2 + 1, none⟩ = some (.int .i64 a2))) (by kernel_rfl) (by (try dsimp only); (first | exact at''.out _ hd | exact at''.out _ hd5)) (fun hHeld => ?_)
          refine ly_q 0 (v := ?_) hHeld ?_
          try simp only [Act.put, lyA, lyB, lyC]
          refine ly_q 1 (v := ?_) hHeld ?_
          try simp only [Act.put, lyA, lyB, lyC]
          refine ly_q 2 (v := ?_) hHeld ?_
          try simp only [Act.put, lyA, lyB, lyC]
          refine ly_q 3 (v := ?_) hHeld ?_
          try simp only [Act.put, lyA, lyB, lyC]
          refine ly_q 4 (v := ?_) hHeld ?_
          try simp only [Act.put, lyA, lyB, lyC]
          refine ly_q 5 (v := ?_) hHeld ?_
          try simp only [Act.put, lyA, lyB, lyC]
          refine ly_q 6 (v := ?_) hHeld ?_
          try simp only [Act.put, lyA, lyB, lyC]
          refine ly_q 7 (v := ?_) hHeld ?_
          try simp only [Act.put, lyA, lyB, lyC]
          refine ly_q 8 (v := ?_) hHeld ?_
          try simp only [Act.put, lyA, lyB, lyC]
          refine ly_q 9 (v := ?_) hHeld ?_
          try simp only [Act.put, lyA, lyB, lyC]
          refine ly_a 10 (fun KK hKK => ?_)
          go_simp
          refine (e1'.out _).mono ?_
          rintro e w5 ⟨rfl, hB5⟩
          have hd5 := hd.trans (hB5.mono hd.size)
          try dsimp only
          refine hKK.out _ _ (by (try dsimp only); (first | exact at''.out _ hd | exact at''.out _ hd5)) (fun hHeld => ?_)
          clear hKK KK
          try simp only [Act.put, lyA, lyB, lyC]
          refine ly_q 11 (v := .bool false) (hy := by intro wS hSw; (try dsimp only at hSw); go_simp; all_goals (simp [hC1])) hHeld ?_
          try simp only [Act.put, lyA, lyB, lyC]
          refine ly_q 12 (v := ?_) hHeld ?_
          try simp only [Act.put, lyA, lyB, lyC]
          refine wpAnyH_done (by kernel_rfl) ?_ _
          have hb5 := hB0.trans ((hB.trans (hd5.mono hB.size)).mono hB0.size)
          obtain ⟨⟨z0, z1⟩, z2, z3⟩ := hHeld
          have hd0 := hd
          clear hd
          rcases hne with hne | ⟨hap, hne⟩
          · go_wp2_with fail
            go_quiet (fail)
            go_wp2_with fail
            have hbW : Below w.heap.size w (w5.drewN nq) := below_drewN hb5 _
            have y0 : (w5.drewN nq).cell? ⟨w.heap.size, 0, none⟩ = some (.int .i64 p) := z0
            have y1 : (w5.drewN nq).cell? ⟨w.heap.size, 1, none⟩ = some (.int .i64 q) := z1
            obtain ⟨W5, hW5⟩ : ∃ W, w5.drewN nq = W := ⟨_, rfl⟩
            rw [hW5] at hbW y0 y1 ⊢
            have ta := fun (w' : World) (h : Below W5.heap.size W5 w') => And.intro (bkeep h y0) (bkeep h y1)
            have hd : Below W5.heap.size W5 W5.drew := (Below.refl _ _).drew
            have hck : ¬ cap = k := by have := hcc'.out.1; omega
            have hkc : k ≤ cap := by have := hcc'.out.1; omega
            have hnc : n ≤ cap := hcc'.out.1
            clear z0 z1 z2 z3 hHeld hB5 hd5 hb5 hC1 hd0
            have ta' := Lib.hid ta
            have hW5' := Lib.hid hW5
            have y0' := Lib.hid y0
            have y1' := Lib.hid y1
            have hcap' := Lib.hid hcap
            have hne' := Lib.hid hne
            clear ta hW5 y0 y1 hcap hne
            clear hW5'
            refine wp_region_held_drew (S := (fun w' => w'.cell? ⟨w.heap.size, 0, none⟩ = some (.int .i64 p) ∧ w'.cell? ⟨w.heap.size, 1, none⟩ = some (.int .i64 q))) (by kernel_rfl) (by (try dsimp only); exact ta'.out _ hd) (fun hHeld => ?_)
            refine ly_q 1 (v := ?_) hHeld ?_
            try simp only [Act.put, lyA, lyB, lyC]
            refine ly_q 2 (v := ?_) hHeld ?_
            try simp only [Act.put, lyA, lyB, lyC]
            refine ly_q 3 (v := ?_) hHeld ?_
            try simp only [Act.put, lyA, lyB, lyC]
            refine ly_q 5 (v := ?_) hHeld ?_
            try simp only [Act.put, lyA, lyB, lyC]
            refine ly_q 8 (v := ?_) hHeld ?_
            try simp only [Act.put, lyA, lyB, lyC]
            refine ly_q 9 (v := ?_) hHeld ?_
            try simp only [Act.put, lyA, lyB, lyC]
            refine ly_q 10 (v := ?_) hHeld ?_
            try simp only [Act.put, lyA, lyB, lyC]
            refine wpAnyH_ready (rs := [0, 6]) (by kernel_rfl) (by simp) ?_
            refine AllReadyH.cons (o := Oper.mk _ _ _ _ _ _) rfl (fun KK hKK => ?_) (AllReadyH.cons (o := Oper.mk _ _ _ _ _ _) rfl (fun KK hKK => ?_) (AllReadyH.nil))
            · rw [if_pos (by kernel_rfl)]
              go_simp
              have hs := hd.size
              replace hd := hd.alloc hs (.cells #[] 42)
              have hg := GrowR.empty' hd hs
              (try simp [go_sem] at hg)
              (try replace hlit := rats_alloc hd hlit)
              try dsimp only
              refine hKK.out _ _ (by (try dsimp only); exact ta'.out _ hd) (fun hHeld => ?_)
              clear hKK KK
              try simp only [Act.put, lyA, lyB, lyC]
              refine wpAnyH_ready (rs := [4, 6]) (by kernel_rfl) (by simp) ?_
              refine AllReadyH.cons (o := Oper.mk _ _ _ _ _ _) rfl (fun KK hKK => ?_) (AllReadyH.cons (o := Oper.mk _ _ _ _ _ _) rfl (fun KK hKK => ?_) (AllReadyH.nil))
              · rw [if_pos (by kernel_rfl)]
                refine wp_append_rats _ _ rfl W5.heap.size _ _ _ _ [] XT rfl rfl hg (htk'.out.below (hbW.trans (hd.mono hbW.size))) (by have h1 := htl'.out; rw [h1]; simp only [List.length_nil]; omega) hd.size ?_
                intro v4 w4 hg4 hgr4
                (try replace hlit := rats_kept hlit hgr4 (by change some _ ≠ some _; intro hh; have hh := Option.some.inj hh; first | omega | (simp [go_sem] at hh; done) | (simp [go_sem] at hh; omega)))
                replace hd := hg.belowB hd (Nat.le_refl _) hd.size hgr4
                replace hg := hg4
                try dsimp only
                refine hKK.out _ _ (by (try dsimp only); exact ta'.out _ hd) (fun hHeld => ?_)
                clear hKK KK
                try simp only [Act.put, lyA, lyB, lyC]
                refine ly_a 6 (fun KK hKK => ?_)
                go_simp
                have hs := hd.size
                replace hd := hd.alloc hs (.cells #[.int .i64 p, .int .i64 q] 42)
                have hlit := ratsV_lit' hd
                (try simp [go_sem] at hlit)
                (try replace hg := grow_alloc hd hg)
                try dsimp only
                refine hKK.out _ _ (by (try dsimp only); exact ta'.out _ hd) (fun hHeld => ?_)
                clear hKK KK
                try simp only [Act.put, lyA, lyB, lyC]
                refine ly_a 7 (fun KK hKK => ?_)
                refine wp_append_rats _ _ rfl W5.heap.size _ _ _ _ ([] ++ XT) [(p, q)] rfl rfl hg hlit (by have h1 := htl'.out; rw [List.nil_append, h1]; simp only [List.length_cons, List.length_nil]; omega) hd.size ?_
                intro v7 w7 hg7 hgr7
                replace hd := hg.belowB hd (Nat.le_refl _) hd.size hgr7
                replace hg := hg7
                clear hlit
                try dsimp only
                refine hKK.out _ _ (by (try dsimp only); exact ta'.out _ hd) (fun hHeld => ?_)
                clear hKK KK
                try simp only [Act.put, lyA, lyB, lyC]
                refine ly_a 11 (fun KK hKK => ?_)
                refine wp_append_rats _ _ rfl W5.heap.size _ _ _ _ ([] ++ XT ++ [(p, q)]) XD rfl rfl hg ((hdr'.out (n - k) _ _ rfl ⟨by omega, by have := hcap'.out; omega⟩ (fun _ => by omega)).below (hbW.trans (hd.mono hbW.size))) (by have h1 := htl'.out; have h2 := hdl'.out; rw [List.nil_append, List.length_append, h1, h2]; simp only [List.length_cons, List.length_nil]; omega) hd.size ?_
                intro v11 w11 hg11 hgr11
                replace hd := hg.belowB hd (Nat.le_refl _) hd.size hgr11
                replace hg := hg11
                try dsimp only
                refine hKK.out _ _ (by (try dsimp only); exact ta'.out _ hd) (fun hHeld => ?_)
                clear hKK KK
                try simp only [Act.put, lyA, lyB, lyC]
                refine ly_q 12 (v := ?_) hHeld ?_
                try simp only [Act.put, lyA, lyB, lyC]
                refine wpAnyH_done (by kernel_rfl) ?_ _
                have hq := GrowR.mono hg hbW.size
                rw [List.nil_append, List.append_assoc] at hq
                go_wp2
                go_ret
                exact ⟨_, rfl, .inr (by rw [hpx'.out]; exact hq), hbW.trans (hd.mono hbW.size)⟩
              · rw [if_pos (by kernel_rfl)]
                go_simp
                have hs := hd.size
                replace hd := hd.alloc hs (.cells #[.int .i64 p, .int .i64 q] 42)
                have hlit := ratsV_lit' hd
                (try simp [go_sem] at hlit)
                (try replace hg := grow_alloc hd hg)
                try dsimp only
                refine hKK.out _ _ (by (try dsimp only); exact ta'.out _ hd) (fun hHeld => ?_)
                clear hKK KK
                try simp only [Act.put, lyA, lyB, lyC]
                refine ly_a 4 (fun KK hKK => ?_)
                refine wp_append_rats _ _ rfl W5.heap.size _ _ _ _ [] XT rfl rfl hg (htk'.out.below (hbW.trans (hd.mono hbW.size))) (by have h1 := htl'.out; rw [h1]; simp only [List.length_nil]; omega) hd.size ?_
                intro v4 w4 hg4 hgr4
                (try replace hlit := rats_kept hlit hgr4 (by change some _ ≠ some _; intro hh; have hh := Option.some.inj hh; first | omega | (simp [go_sem] at hh; done) | (simp [go_sem] at hh; omega)))
                replace hd := hg.belowB hd (Nat.le_refl _) hd.size hgr4
                replace hg := hg4
                try dsimp only
                refine hKK.out _ _ (by (try dsimp only); exact ta'.out _ hd) (fun hHeld => ?_)
                clear hKK KK
                try simp only [Act.put, lyA, lyB, lyC]
                refine ly_a 7 (fun KK hKK => ?_)
                refine wp_append_rats _ _ rfl W5.heap.size _ _ _ _ ([] ++ XT) [(p, q)] rfl rfl hg hlit (by have h1 := htl'.out; rw [List.nil_append, h1]; simp only [List.length_cons, List.length_nil]; omega) hd.size ?_
                intro v7 w7 hg7 hgr7
                replace hd := hg.belowB hd (Nat.le_refl _) hd.size hgr7
                replace hg := hg7
                clear hlit
                try dsimp only
                refine hKK.out _ _ (by (try dsimp only); exact ta'.out _ hd) (fun hHeld => ?_)
                clear hKK KK
                try simp only [Act.put, lyA, lyB, lyC]
                refine ly_a 11 (fun KK hKK => ?_)
                refine wp_append_rats _ _ rfl W5.heap.size _ _ _ _ ([] ++ XT ++ [(p, q)]) XD rfl rfl hg ((hdr'.out (n - k) _ _ rfl ⟨by omega, by have := hcap'.out; omega⟩ (fun _ => by omega)).below (hbW.trans (hd.mono hbW.size))) (by have h1 := htl'.out; have h2 := hdl'.out; rw [List.nil_append, List.length_append, h1, h2]; simp only [List.length_cons, List.length_nil]; omega) hd.size ?_
                intro v11 w11 hg11 hgr11
                replace hd := hg.belowB hd (Nat.le_refl _) hd.size hgr11
                replace hg := hg11
                try dsimp only
                refine hKK.out _ _ (by (try dsimp only); exact ta'.out _ hd) (fun hHeld => ?_)
                clear hKK KK
                try simp only [Act.put, lyA, lyB, lyC]
                refine ly_q 12 (v := ?_) hHeld ?_
                try simp only [Act.put, lyA, lyB, lyC]
                refine wpAnyH_done (by kernel_rfl) ?_ _
                have hq := GrowR.mono hg hbW.size
                rw [List.nil_append, List.append_assoc] at hq
                go_wp2
                go_ret
                exact ⟨_, rfl, .inr (by rw [hpx'.out]; exact hq), hbW.trans (hd.mono hbW.size)⟩
            · rw [if_pos (by kernel_rfl)]
              go_simp
              have hs := hd.size
              replace hd := hd.alloc hs (.cells #[.int .i64 p, .int .i64 q] 42)
              have hlit := ratsV_lit' hd
              (try simp [go_sem] at hlit)
              (try replace hg := grow_alloc hd hg)
              try dsimp only
              refine hKK.out _ _ (by (try dsimp only); exact ta'.out _ hd) (fun hHeld => ?_)
              clear hKK KK
              try simp only [Act.put, lyA, lyB, lyC]
              refine ly_a 0 (fun KK hKK => ?_)
              go_simp
              have hs := hd.size
              replace hd := hd.alloc hs (.cells #[] 42)
              have hg := GrowR.empty' hd hs
              (try simp [go_sem] at hg)
              (try replace hlit := rats_alloc hd hlit)
              try dsimp only
              refine hKK.out _ _ (by (try dsimp only); exact ta'.out _ hd) (fun hHeld => ?_)
              clear hKK KK
              try simp only [Act.put, lyA, lyB, lyC]
              refine ly_a 4 (fun KK hKK => ?_)
              refine wp_append_rats _ _ rfl W5.heap.size _ _ _ _ [] XT rfl rfl hg (htk'.out.below (hbW.trans (hd.mono hbW.size))) (by have h1 := htl'.out; rw [h1]; simp only [List.length_nil]; omega) hd.size ?_
              intro v4 w4 hg4 hgr4
              (try replace hlit := rats_kept hlit hgr4 (by change some _ ≠ some _; intro hh; have hh := Option.some.inj hh; first | omega | (simp [go_sem] at hh; done) | (simp [go_sem] at hh; omega)))
              replace hd := hg.belowB hd (Nat.le_refl _) hd.size hgr4
              replace hg := hg4
              try dsimp only
              refine hKK.out _ _ (by (try dsimp only); exact ta'.out _ hd) (fun hHeld => ?_)
              clear hKK KK
              try simp only [Act.put, lyA, lyB, lyC]
              refine ly_a 7 (fun KK hKK => ?_)
              refine wp_append_rats _ _ rfl W5.heap.size _ _ _ _ ([] ++ XT) [(p, q)] rfl rfl hg hlit (by have h1 := htl'.out; rw [List.nil_append, h1]; simp only [List.length_cons, List.length_nil]; omega) hd.size ?_
              intro v7 w7 hg7 hgr7
              replace hd := hg.belowB hd (Nat.le_refl _) hd.size hgr7
              replace hg := hg7
              clear hlit
              try dsimp only
              refine hKK.out _ _ (by (try dsimp only); exact ta'.out _ hd) (fun hHeld => ?_)
              clear hKK KK
              try simp only [Act.put, lyA, lyB, lyC]
              refine ly_a 11 (fun KK hKK => ?_)
              refine wp_append_rats _ _ rfl W5.heap.size _ _ _ _ ([] ++ XT ++ [(p, q)]) XD rfl rfl hg ((hdr'.out (n - k) _ _ rfl ⟨by omega, by have := hcap'.out; omega⟩ (fun _ => by omega)).below (hbW.trans (hd.mono hbW.size))) (by have h1 := htl'.out; have h2 := hdl'.out; rw [List.nil_append, List.length_append, h1, h2]; simp only [List.length_cons, List.length_nil]; omega) hd.size ?_
              intro v11 w11 hg11 hgr11
              replace hd := hg.belowB hd (Nat.le_refl _) hd.size hgr11
              replace hg := hg11
              try dsimp only
              refine hKK.out _ _ (by (try dsimp only); exact ta'.out _ hd) (fun hHeld => ?_)
              clear hKK KK
              try simp only [Act.put, lyA, lyB, lyC]
              refine ly_q 12 (v := ?_) hHeld ?_
              try simp only [Act.put, lyA, lyB, lyC]
              refine wpAnyH_done (by kernel_rfl) ?_ _
              have hq := GrowR.mono hg hbW.size
              rw [List.nil_append, List.append_assoc] at hq
              go_wp2
              go_ret
              exact ⟨_, rfl, .inr (by rw [hpx'.out]; exact hq), hbW.trans (hd.mono hbW.size)⟩
          · obtain rfl := hap.symm
            go_wp2_with fail
            go_quiet (fail)
            go_wp2_with fail
            have hbW : Below w.heap.size w (w5.drewN nq) := below_drewN hb5 _
            have y0 : (w5.drewN nq).cell? ⟨w.heap.size, 0, none⟩ = some (.int .i64 p) := z0
            have y1 : (w5.drewN nq).cell? ⟨w.heap.size, 1, none⟩ = some (.int .i64 q) := z1
            obtain ⟨W5, hW5⟩ : ∃ W, w5.drewN nq = W := ⟨_, rfl⟩
            rw [hW5] at hbW y0 y1 ⊢
            have ta := fun (w' : World) (h : Below W5.heap.size W5 w') => And.intro (bkeep h y0) (bkeep h y1)
            have hd : Below W5.heap.size W5 W5.drew := (Below.refl _ _).drew
            have hck : ¬ cap = k := by have := hcc'.out.1; omega
            have hkc : k ≤ cap := by have := hcc'.out.1; omega
            have hnc : n ≤ cap := hcc'.out.1
            clear z0 z1 z2 z3 hHeld hB5 hd5 hb5 hC1 hd0
            have ta' := Lib.hid ta
            have hW5' := Lib.hid hW5
            have y0' := Lib.hid y0
            have y1' := Lib.hid y1
            have hcap' := Lib.hid hcap
            have hne' := Lib.hid hne
            clear ta hW5 y0 y1 hcap hne
            clear hW5'
            refine wp_region_held_drew (S := (fun w' => w'.cell? ⟨w.heap.size, 0, none⟩ = some (.int .i64 p) ∧ w'.cell? ⟨w.heap.size, 1, none⟩ = some (.int .i64 q))) (by kernel_rfl) (by (try dsimp only); exact ta'.out _ hd) (fun hHeld => ?_)
            refine ly_q 1 (v := ?_) hHeld ?_
            try simp only [Act.put, lyA, lyB, lyC]
            refine ly_q 2 (v := ?_) hHeld ?_
            try simp only [Act.put, lyA, lyB, lyC]
            refine ly_q 3 (v := ?_) hHeld ?_
            try simp only [Act.put, lyA, lyB, lyC]
            refine ly_q 5 (v := ?_) hHeld ?_
            try simp only [Act.put, lyA, lyB, lyC]
            refine ly_q 8 (v := ?_) hHeld ?_
            try simp only [Act.put, lyA, lyB, lyC]
            refine ly_q 9 (v := ?_) hHeld ?_
            try simp only [Act.put, lyA, lyB, lyC]
            refine ly_q 10 (v := ?_) hHeld ?_
            try simp only [Act.put, lyA, lyB, lyC]
            refine wpAnyH_ready (rs := [0, 6]) (by kernel_rfl) (by simp) ?_
            refine AllReadyH.cons (o := Oper.mk _ _ _ _ _ _) rfl (fun KK hKK => ?_) (AllReadyH.cons (o := Oper.mk _ _ _ _ _ _) rfl (fun KK hKK => ?_) (AllReadyH.nil))
            · rw [if_pos (by kernel_rfl)]
              go_simp
              have hs := hd.size
              replace hd := hd.alloc hs (.cells #[] 42)
              have hg := GrowR.empty' hd hs
              (try simp [go_sem] at hg)
              (try replace hlit := rats_alloc hd hlit)
              try dsimp only
              refine hKK.out _ _ (by (try dsimp only); exact ta'.out _ hd) (fun hHeld => ?_)
              clear hKK KK
              try simp only [Act.put, lyA, lyB, lyC]
              refine wpAnyH_ready (rs := [4, 6]) (by kernel_rfl) (by simp) ?_
              refine AllReadyH.cons (o := Oper.mk _ _ _ _ _ _) rfl (fun KK hKK => ?_) (AllReadyH.cons (o := Oper.mk _ _ _ _ _ _) rfl (fun KK hKK => ?_) (AllReadyH.nil))
              · rw [if_pos (by kernel_rfl)]
                refine wp_append_rats _ _ rfl W5.heap.size _ _ _ _ [] XT rfl rfl hg (htk'.out.below (hbW.trans (hd.mono hbW.size))) (by have h1 := htl'.out; rw [h1]; simp only [List.length_nil]; omega) hd.size ?_
                intro v4 w4 hg4 hgr4
                (try replace hlit := rats_kept hlit hgr4 (by change some _ ≠ some _; intro hh; have hh := Option.some.inj hh; first | omega | (simp [go_sem] at hh; done) | (simp [go_sem] at hh; omega)))
                replace hd := hg.belowB hd (Nat.le_refl _) hd.size hgr4
                replace hg := hg4
                try dsimp only
                refine hKK.out _ _ (by (try dsimp only); exact ta'.out _ hd) (fun hHeld => ?_)
                clear hKK KK
                try simp only [Act.put, lyA, lyB, lyC]
                refine ly_a 6 (fun KK hKK => ?_)
                go_simp
                have hs := hd.size
                replace hd := hd.alloc hs (.cells #[.int .i64 p, .int .i64 q] 42)
                have hlit := ratsV_lit' hd
                (try simp [go_sem] at hlit)
                (try replace hg := grow_alloc hd hg)
                try dsimp only
                refine hKK.out _ _ (by (try dsimp only); exact ta'.out _ hd) (fun hHeld => ?_)
                clear hKK KK
                try simp only [Act.put, lyA, lyB, lyC]
                refine ly_a 7 (fun KK hKK => ?_)
                refine wp_append_rats _ _ rfl W5.heap.size _ _ _ _ ([] ++ XT) [(p, q)] rfl rfl hg hlit (by have h1 := htl'.out; rw [List.nil_append, h1]; simp only [List.length_cons, List.length_nil]; omega) hd.size ?_
                intro v7 w7 hg7 hgr7
                replace hd := hg.belowB hd (Nat.le_refl _) hd.size hgr7
                replace hg := hg7
                clear hlit
                try dsimp only
                refine hKK.out _ _ (by (try dsimp only); exact ta'.out _ hd) (fun hHeld => ?_)
                clear hKK KK
                try simp only [Act.put, lyA, lyB, lyC]
                refine ly_a 11 (fun KK hKK => ?_)
                refine wp_append_rats _ _ rfl W5.heap.size _ _ _ _ ([] ++ XT ++ [(p, q)]) XD rfl rfl hg ((hdr'.out (n - k) _ _ rfl ⟨by omega, by have := hcap'.out; omega⟩ (fun _ => by omega)).below (hbW.trans (hd.mono hbW.size))) (by have h1 := htl'.out; have h2 := hdl'.out; rw [List.nil_append, List.length_append, h1, h2]; simp only [List.length_cons, List.length_nil]; omega) hd.size ?_
                intro v11 w11 hg11 hgr11
                replace hd := hg.belowB hd (Nat.le_refl _) hd.size hgr11
                replace hg := hg11
                try dsimp only
                refine hKK.out _ _ (by (try dsimp only); exact ta'.out _ hd) (fun hHeld => ?_)
                clear hKK KK
                try simp only [Act.put, lyA, lyB, lyC]
                refine ly_q 12 (v := ?_) hHeld ?_
                try simp only [Act.put, lyA, lyB, lyC]
                refine wpAnyH_done (by kernel_rfl) ?_ _
                have hq := GrowR.mono hg hbW.size
                rw [List.nil_append, List.append_assoc] at hq
                go_wp2
                go_ret
                exact ⟨_, rfl, .inr (by rw [hpx'.out]; exact hq), hbW.trans (hd.mono hbW.size)⟩
              · rw [if_pos (by kernel_rfl)]
                go_simp
                have hs := hd.size
                replace hd := hd.alloc hs (.cells #[.int .i64 p, .int .i64 q] 42)
                have hlit := ratsV_lit' hd
                (try simp [go_sem] at hlit)
                (try replace hg := grow_alloc hd hg)
                try dsimp only
                refine hKK.out _ _ (by (try dsimp only); exact ta'.out _ hd) (fun hHeld => ?_)
                clear hKK KK
                try simp only [Act.put, lyA, lyB, lyC]
                refine ly_a 4 (fun KK hKK => ?_)
                refine wp_append_rats _ _ rfl W5.heap.size _ _ _ _ [] XT rfl rfl hg (htk'.out.below (hbW.trans (hd.mono hbW.size))) (by have h1 := htl'.out; rw [h1]; simp only [List.length_nil]; omega) hd.size ?_
                intro v4 w4 hg4 hgr4
                (try replace hlit := rats_kept hlit hgr4 (by change some _ ≠ some _; intro hh; have hh := Option.some.inj hh; first | omega | (simp [go_sem] at hh; done) | (simp [go_sem] at hh; omega)))
                replace hd := hg.belowB hd (Nat.le_refl _) hd.size hgr4
                replace hg := hg4
                try dsimp only
                refine hKK.out _ _ (by (try dsimp only); exact ta'.out _ hd) (fun hHeld => ?_)
                clear hKK KK
                try simp only [Act.put, lyA, lyB, lyC]
                refine ly_a 7 (fun KK hKK => ?_)
                refine wp_append_rats _ _ rfl W5.heap.size _ _ _ _ ([] ++ XT) [(p, q)] rfl rfl hg hlit (by have h1 := htl'.out; rw [List.nil_append, h1]; simp only [List.length_cons, List.length_nil]; omega) hd.size ?_
                intro v7 w7 hg7 hgr7
                replace hd := hg.belowB hd (Nat.le_refl _) hd.size hgr7
                replace hg := hg7
                clear hlit
                try dsimp only
                refine hKK.out _ _ (by (try dsimp only); exact ta'.out _ hd) (fun hHeld => ?_)
                clear hKK KK
                try simp only [Act.put, lyA, lyB, lyC]
                refine ly_a 11 (fun KK hKK => ?_)
                refine wp_append_rats _ _ rfl W5.heap.size _ _ _ _ ([] ++ XT ++ [(p, q)]) XD rfl rfl hg ((hdr'.out (n - k) _ _ rfl ⟨by omega, by have := hcap'.out; omega⟩ (fun _ => by omega)).below (hbW.trans (hd.mono hbW.size))) (by have h1 := htl'.out; have h2 := hdl'.out; rw [List.nil_append, List.length_append, h1, h2]; simp only [List.length_cons, List.length_nil]; omega) hd.size ?_
                intro v11 w11 hg11 hgr11
                replace hd := hg.belowB hd (Nat.le_refl _) hd.size hgr11
                replace hg := hg11
                try dsimp only
                refine hKK.out _ _ (by (try dsimp only); exact ta'.out _ hd) (fun hHeld => ?_)
                clear hKK KK
                try simp only [Act.put, lyA, lyB, lyC]
                refine ly_q 12 (v := ?_) hHeld ?_
                try simp only [Act.put, lyA, lyB, lyC]
                refine wpAnyH_done (by kernel_rfl) ?_ _
                have hq := GrowR.mono hg hbW.size
                rw [List.nil_append, List.append_assoc] at hq
                go_wp2
                go_ret
                exact ⟨_, rfl, .inr (by rw [hpx'.out]; exact hq), hbW.trans (hd.mono hbW.size)⟩
            · rw [if_pos (by kernel_rfl)]
              go_simp
              have hs := hd.size
              replace hd := hd.alloc hs (.cells #[.int .i64 p, .int .i64 q] 42)
              have hlit := ratsV_lit' hd
              (try simp [go_sem] at hlit)
              (try replace hg := grow_alloc hd hg)
              try dsimp only
              refine hKK.out _ _ (by (try dsimp only); exact ta'.out _ hd) (fun hHeld => ?_)
              clear hKK KK
              try simp only [Act.put, lyA, lyB, lyC]
              refine ly_a 0 (fun KK hKK => ?_)
              go_simp
              have hs := hd.size
              replace hd := hd.alloc hs (.cells #[] 42)
              have hg := GrowR.empty' hd hs
              (try simp [go_sem] at hg)
              (try replace hlit := rats_alloc hd hlit)
              try dsimp only
              refine hKK.out _ _ (by (try dsimp only); exact ta'.out _ hd) (fun hHeld => ?_)
              clear hKK KK
              try simp only [Act.put, lyA, lyB, lyC]
              refine ly_a 4 (fun KK hKK => ?_)
              refine wp_append_rats _ _ rfl W5.heap.size _ _ _ _ [] XT rfl rfl hg (htk'.out.below (hbW.trans (hd.mono hbW.size))) (by have h1 := htl'.out; rw [h1]; simp only [List.length_nil]; omega) hd.size ?_
              intro v4 w4 hg4 hgr4
              (try replace hlit := rats_kept hlit hgr4 (by change some _ ≠ some _; intro hh; have hh := Option.some.inj hh; first | omega | (simp [go_sem] at hh; done) | (simp [go_sem] at hh; omega)))
              replace hd := hg.belowB hd (Nat.le_refl _) hd.size hgr4
              replace hg := hg4
              try dsimp only
              refine hKK.out _ _ (by (try dsimp only); exact ta'.out _ hd) (fun hHeld => ?_)
              clear hKK KK
              try simp only [Act.put, lyA, lyB, lyC]
              refine ly_a 7 (fun KK hKK => ?_)
              refine wp_append_rats _ _ rfl W5.heap.size _ _ _ _ ([] ++ XT) [(p, q)] rfl rfl hg hlit (by have h1 := htl'.out; rw [List.nil_append, h1]; simp only [List.length_cons, List.length_nil]; omega) hd.size ?_
              intro v7 w7 hg7 hgr7
              replace hd := hg.belowB hd (Nat.le_refl _) hd.size hgr7
              replace hg := hg7
              clear hlit
              try dsimp only
              refine hKK.out _ _ (by (try dsimp only); exact ta'.out _ hd) (fun hHeld => ?_)
              clear hKK KK
              try simp only [Act.put, lyA, lyB, lyC]
              refine ly_a 11 (fun KK hKK => ?_)
              refine wp_append_rats _ _ rfl W5.heap.size _ _ _ _ ([] ++ XT ++ [(p, q)]) XD rfl rfl hg ((hdr'.out (n - k) _ _ rfl ⟨by omega, by have := hcap'.out; omega⟩ (fun _ => by omega)).below (hbW.trans (hd.mono hbW.size))) (by have h1 := htl'.out; have h2 := hdl'.out; rw [List.nil_append, List.length_append, h1, h2]; simp only [List.length_cons, List.length_nil]; omega) hd.size ?_
              intro v11 w11 hg11 hgr11
              replace hd := hg.belowB hd (Nat.le_refl _) hd.size hgr11
              replace hg := hg11
              try dsimp only
              refine hKK.out _ _ (by (try dsimp only); exact ta'.out _ hd) (fun hHeld => ?_)
              clear hKK KK
              try simp only [Act.put, lyA, lyB, lyC]
              refine ly_q 12 (v := ?_) hHeld ?_
              try simp only [Act.put, lyA, lyB, lyC]
              refine wpAnyH_done (by kernel_rfl) ?_ _
              have hq := GrowR.mono hg hbW.size
              rw [List.nil_append, List.append_assoc] at hq
              go_wp2
              go_ret
              exact ⟨_, rfl, .inr (by rw [hpx'.out]; exact hq), hbW.trans (hd.mono hbW.size)⟩
    · skip
      obtain rfl : k = n := by omega
      obtain rfl : k = K := by omega
      have hpx := hput'.out
      rw [if_neg (fun h => hkn h.2)] at hpx
      have hlt2 : ¬ (k : Int) < (k : Int) := by omega
      have hb9 := hB0.trans (hB.mono hB0.size)
      have hd : Below wr.heap.size wr wr.drew := (Below.refl _ _).drew
      have at' : ∀ w' : World, Below wr.heap.size wr w' → (w'.cell? ⟨w.heap.size, 0, none⟩ = some (.int .i64 p) ∧ w'.cell? ⟨w.heap.size, 1, none⟩ = some (.int .i64 q)) :=
        fun w' h => ⟨bkeep h u0, bkeep h u1⟩
      have hpx' := Lib.hid hpx
      have at'' := Lib.hid at'
      clear hpx at'
      go_wp2_with fail
      refine wp_region_held_drew (S := (fun w' => w'.cell? ⟨w.heap.size, 0, none⟩ = some (.int .i64 p) ∧ w'.cell? ⟨w.heap.size, 1, none⟩ = some (.int .i64 q))) (by kernel_rfl) (by (try dsimp only); exact at''.out _ hd) (fun hHeld => ?_)
      refine ly_q 0 (v := ?_) hHeld ?_
      try simp only [Act.put, lyA, lyB, lyC]
      refine ly_q 1 (v := ?_) hHeld ?_
      try simp only [Act.put, lyA, lyB, lyC]
      refine ly_q 2 (v := ?_) hHeld ?_
      try simp only [Act.put, lyA, lyB, lyC]
      refine ly_q 3 (v := .bool false) (hy := by intro wS hSw; (try dsimp only at hSw); go_simp; all_goals (simp)) hHeld ?_
      try simp only [Act.put, lyA, lyB, lyC]
      refine ly_q 4 (v := ?_) hHeld ?_
      try simp only [Act.put, lyA, lyB, lyC]
      refine ly_off 5 hHeld ?_
      try simp only [Act.put, lyA, lyB, lyC]
      refine ly_off 6 hHeld ?_
      try simp only [Act.put, lyA, lyB, lyC]
      refine ly_off 7 hHeld ?_
      try simp only [Act.put, lyA, lyB, lyC]
      refine ly_off 8 hHeld ?_
      try simp only [Act.put, lyA, lyB, lyC]
      refine ly_off 9 hHeld ?_
      try simp only [Act.put, lyA, lyB, lyC]
      refine ly_off 10 hHeld ?_
      try simp only [Act.put, lyA, lyB, lyC]
      refine ly_off 11 hHeld ?_
      try simp only [Act.put, lyA, lyB, lyC]
      refine ly_q 12 (v := ?_) hHeld ?_
      try simp only [Act.put, lyA, lyB, lyC]
      refine wpAnyH_done (by kernel_rfl) ?_ _
      clear hd hHeld
      go_wp2_with fail
      go_quiet (fail)
      go_wp2_with fail
      have hbW : Below w.heap.size w (wr.drew.drewN nq) := below_drewN hb9.drew _
      have y0 : (wr.drew.drewN nq).cell? ⟨w.heap.size, 0, none⟩ = some (.int .i64 p) := u0
      have y1 : (wr.drew.drewN nq).cell? ⟨w.heap.size, 1, none⟩ = some (.int .i64 q) := u1
      obtain ⟨W5, hW5⟩ : ∃ W, wr.drew.drewN nq = W := ⟨_, rfl⟩
      rw [hW5] at hbW y0 y1 ⊢
      have ta := fun (w' : World) (h : Below W5.heap.size W5 w') => And.intro (bkeep h y0) (bkeep h y1)
      have hd : Below W5.heap.size W5 W5.drew := (Below.refl _ _).drew
      have hkc : k ≤ cap := by have := hcc'.out.1; omega
      have ta' := Lib.hid ta
      have hW5' := Lib.hid hW5
      have y0' := Lib.hid y0
      have y1' := Lib.hid y1
      have hcap' := Lib.hid hcap
      clear ta hW5 y0 y1 hcap
      clear hW5' hb9 u0 u1 hx0 hx1
      by_cases hck : cap = k
      · subst hck
        refine wp_region_held_drew (S := (fun w' => w'.cell? ⟨w.heap.size, 0, none⟩ = some (.int .i64 p) ∧ w'.cell? ⟨w.heap.size, 1, none⟩ = some (.int .i64 q))) (by kernel_rfl) (by (try dsimp only); exact ta'.out _ hd) (fun hHeld => ?_)
        refine ly_q 1 (v := ?_) hHeld ?_
        try simp only [Act.put, lyA, lyB, lyC]
        refine ly_q 2 (v := ?_) hHeld ?_
        try simp only [Act.put, lyA, lyB, lyC]
        refine ly_q 3 (v := ?_) hHeld ?_
        try simp only [Act.put, lyA, lyB, lyC]
        refine ly_q 5 (v := ?_) hHeld ?_
        try simp only [Act.put, lyA, lyB, lyC]
        refine ly_q 8 (v := ?_) hHeld ?_
        try simp only [Act.put, lyA, lyB, lyC]
        refine ly_q 9 (v := ?_) hHeld ?_
        try simp only [Act.put, lyA, lyB, lyC]
        refine ly_q 10 (v := ?_) hHeld ?_
        try simp only [Act.put, lyA, lyB, lyC]
        refine wpAnyH_ready (rs := [0, 6]) (by kernel_rfl) (by simp) ?_
        refine AllReadyH.cons (o := Oper.mk _ _ _ _ _ _) rfl (fun KK hKK => ?_) (AllReadyH.cons (o := Oper.mk _ _ _ _ _ _) rfl (fun KK hKK => ?_) (AllReadyH.nil))
        · rw [if_pos (by kernel_rfl)]
          go_simp
          have hs := hd.size
          replace hd := hd.alloc hs (.cells #[] 42)
          have hg := GrowR.empty' hd hs
          (try simp [go_sem] at hg)
          (try replace hlit := rats_alloc hd hlit)
          try dsimp only
          refine hKK.out _ _ (by (try dsimp only); exact ta'.out _ hd) (fun hHeld => ?_)
          clear hKK KK
          try simp only [Act.put, lyA, lyB, lyC]
          refine wpAnyH_ready (rs := [4, 6]) (by kernel_rfl) (by simp) ?_
          refine AllReadyH.cons (o := Oper.mk _ _ _ _ _ _) rfl (fun KK hKK => ?_) (AllReadyH.cons (o := Oper.mk _ _ _ _ _ _) rfl (fun KK hKK => ?_) (AllReadyH.nil))
          · rw [if_pos (by kernel_rfl)]
            refine wp_append_rats _ _ rfl W5.heap.size _ _ _ _ [] XT rfl rfl hg (htk'.out.below (hbW.trans (hd.mono hbW.size))) (by have h1 := htl'.out; rw [h1]; simp only [List.length_nil]; omega) hd.size ?_
            intro v4 w4 hg4 hgr4
            (try replace hlit := rats_kept hlit hgr4 (by change some _ ≠ some _; intro hh; have hh := Option.some.inj hh; first | omega | (simp [go_sem] at hh; done) | (simp [go_sem] at hh; omega)))
            replace hd := hg.belowB hd (Nat.le_refl _) hd.size hgr4
            replace hg := hg4
            try dsimp only
            refine hKK.out _ _ (by (try dsimp only); exact ta'.out _ hd) (fun hHeld => ?_)
            clear hKK KK
            try simp only [Act.put, lyA, lyB, lyC]
            refine ly_a 6 (fun KK hKK => ?_)
            go_simp
            have hs := hd.size
            replace hd := hd.alloc hs (.cells #[.int .i64 p, .int .i64 q] 42)
            have hlit := ratsV_lit' hd
            (try simp [go_sem] at hlit)
            (try replace hg := grow_alloc hd hg)
            try dsimp only
            refine hKK.out _ _ (by (try dsimp only); exact ta'.out _ hd) (fun hHeld => ?_)
            clear hKK KK
            try simp only [Act.put, lyA, lyB, lyC]
            refine ly_a 7 (fun KK hKK => ?_)
            refine wp_append_rats _ _ rfl W5.heap.size _ _ _ _ ([] ++ XT) [(p, q)] rfl rfl hg hlit (by have h1 := htl'.out; rw [List.nil_append, h1]; simp only [List.length_cons, List.length_nil]; omega) hd.size ?_
            intro v7 w7 hg7 hgr7
            replace hd := hg.belowB hd (Nat.le_refl _) hd.size hgr7
            replace hg := hg7
            clear hlit
            try dsimp only
            refine hKK.out _ _ (by (try dsimp only); exact ta'.out _ hd) (fun hHeld => ?_)
            clear hKK KK
            try simp only [Act.put, lyA, lyB, lyC]
            refine ly_a 11 (fun KK hKK => ?_)
            refine wp_append_rats _ _ rfl W5.heap.size _ _ _ _ ([] ++ XT ++ [(p, q)]) XD rfl rfl hg ((hdr'.out _ _ _ (by omega) ⟨by omega, by have := hcap'.out; omega⟩ (fun h => absurd h (by omega))).below (hbW.trans (hd.mono hbW.size))) (by have h1 := htl'.out; have h2 := hdl'.out; rw [List.nil_append, List.length_append, h1, h2]; simp only [List.length_cons, List.length_nil]; omega) hd.size ?_
            intro v11 w11 hg11 hgr11
            replace hd := hg.belowB hd (Nat.le_refl _) hd.size hgr11
            replace hg := hg11
            try dsimp only
            refine hKK.out _ _ (by (try dsimp only); exact ta'.out _ hd) (fun hHeld => ?_)
            clear hKK KK
            try simp only [Act.put, lyA, lyB, lyC]
            refine ly_q 12 (v := ?_) hHeld ?_
            try simp only [Act.put, lyA, lyB, lyC]
            refine wpAnyH_done (by kernel_rfl) ?_ _
            have hq := GrowR.mono hg hbW.size
            rw [List.nil_append, List.append_assoc] at hq
            go_wp2
            go_ret
            exact ⟨_, rfl, .inr (by rw [hpx'.out]; exact hq), hbW.trans (hd.mono hbW.size)⟩
          · rw [if_pos (by kernel_rfl)]
            go_simp
            have hs := hd.size
            replace hd := hd.alloc hs (.cells #[.int .i64 p, .int .i64 q] 42)
            have hlit := ratsV_lit' hd
            (try simp [go_sem] at hlit)
            (try replace hg := grow_alloc hd hg)
            try dsimp only
            refine hKK.out _ _ (by (try dsimp only); exact ta'.out _ hd) (fun hHeld => ?_)
            clear hKK KK
            try simp only [Act.put, lyA, lyB, lyC]
            refine ly_a 4 (fun KK hKK => ?_)
            refine wp_append_rats _ _ rfl W5.heap.size _ _ _ _ [] XT rfl rfl hg (htk'.out.below (hbW.trans (hd.mono hbW.size))) (by have h1 := htl'.out; rw [h1]; simp only [List.length_nil]; omega) hd.size ?_
            intro v4 w4 hg4 hgr4
            (try replace hlit := rats_kept hlit hgr4 (by change some _ ≠ some _; intro hh; have hh := Option.some.inj hh; first | omega | (simp [go_sem] at hh; done) | (simp [go_sem] at hh; omega)))
            replace hd := hg.belowB hd (Nat.le_refl _) hd.size hgr4
            replace hg := hg4
            try dsimp only
            refine hKK.out _ _ (by (try dsimp only); exact ta'.out _ hd) (fun hHeld => ?_)
            clear hKK KK
            try simp only [Act.put, lyA, lyB, lyC]
            refine ly_a 7 (fun KK hKK => ?_)
            refine wp_append_rats _ _ rfl W5.heap.size _ _ _ _ ([] ++ XT) [(p, q)] rfl rfl hg hlit (by have h1 := htl'.out; rw [List.nil_append, h1]; simp only [List.length_cons, List.length_nil]; omega) hd.size ?_
            intro v7 w7 hg7 hgr7
            replace hd := hg.belowB hd (Nat.le_refl _) hd.size hgr7
            replace hg := hg7
            clear hlit
            try dsimp only
            refine hKK.out _ _ (by (try dsimp only); exact ta'.out _ hd) (fun hHeld => ?_)
            clear hKK KK
            try simp only [Act.put, lyA, lyB, lyC]
            refine ly_a 11 (fun KK hKK => ?_)
            refine wp_append_rats _ _ rfl W5.heap.size _ _ _ _ ([] ++ XT ++ [(p, q)]) XD rfl rfl hg ((hdr'.out _ _ _ (by omega) ⟨by omega, by have := hcap'.out; omega⟩ (fun h => absurd h (by omega))).below (hbW.trans (hd.mono hbW.size))) (by have h1 := htl'.out; have h2 := hdl'.out; rw [List.nil_append, List.length_append, h1, h2]; simp only [List.length_cons, List.length_nil]; omega) hd.size ?_
            intro v11 w11 hg11 hgr11
            replace hd := hg.belowB hd (Nat.le_refl _) hd.size hgr11
            replace hg := hg11
            try dsimp only
            refine hKK.out _ _ (by (try dsimp only); exact ta'.out _ hd) (fun hHeld => ?_)
            clear hKK KK
            try simp only [Act.put, lyA, lyB, lyC]
            refine ly_q 12 (v := ?_) hHeld ?_
            try simp only [Act.put, lyA, lyB, lyC]
            refine wpAnyH_done (by kernel_rfl) ?_ _
            have hq := GrowR.mono hg hbW.size
            rw [List.nil_append, List.append_assoc] at hq
            go_wp2
            go_ret
            exact ⟨_, rfl, .inr (by rw [hpx'.out]; exact hq), hbW.trans (hd.mono hbW.size)⟩
        · rw [if_pos (by kernel_rfl)]
          go_simp
          have hs := hd.size
          replace hd := hd.alloc hs (.cells #[.int .i64 p, .int .i64 q] 42)
          have hlit := ratsV_lit' hd
          (try simp [go_sem] at hlit)
          (try replace hg := grow_alloc hd hg)
          try dsimp only
          refine hKK.out _ _ (by (try dsimp only); exact ta'.out _ hd) (fun hHeld => ?_)
          clear hKK KK
          try simp only [Act.put, lyA, lyB, lyC]
          refine ly_a 0 (fun KK hKK => ?_)
          go_simp
          have hs := hd.size
          replace hd := hd.alloc hs (.cells #[] 42)
          have hg := GrowR.empty' hd hs
          (try simp [go_sem] at hg)
          (try replace hlit := rats_alloc hd hlit)
          try dsimp only
          refine hKK.out _ _ (by (try dsimp only); exact ta'.out _ hd) (fun hHeld => ?_)
          clear hKK KK
          try simp only [Act.put, lyA, lyB, lyC]
          refine ly_a 4 (fun KK hKK => ?_)
          refine wp_append_rats _ _ rfl W5.heap.size _ _ _ _ [] XT rfl rfl hg (htk'.out.below (hbW.trans (hd.mono hbW.size))) (by have h1 := htl'.out; rw [h1]; simp only [List.length_nil]; omega) hd.size ?_
          intro v4 w4 hg4 hgr4
          (try replace hlit := rats_kept hlit hgr4 (by change some _ ≠ some _; intro hh; have hh := Option.some.inj hh; first | omega | (simp [go_sem] at hh; done) | (simp [go_sem] at hh; omega)))
          replace hd := hg.belowB hd (Nat.le_refl _) hd.size hgr4
          replace hg := hg4
          try dsimp only
          refine hKK.out _ _ (by (try dsimp only); exact ta'.out _ hd) (fun hHeld => ?_)
          clear hKK KK
          try simp only [Act.put, lyA, lyB, lyC]
          refine ly_a 7 (fun KK hKK => ?_)
          refine wp_append_rats _ _ rfl W5.heap.size _ _ _ _ ([] ++ XT) [(p, q)] rfl rfl hg hlit (by have h1 := htl'.out; rw [List.nil_append, h1]; simp only [List.length_cons, List.length_nil]; omega) hd.size ?_
          intro v7 w7 hg7 hgr7
          replace hd := hg.belowB hd (Nat.le_refl _) hd.size hgr7
          replace hg := hg7
          clear hlit
          try dsimp only
          refine hKK.out _ _ (by (try dsimp only); exact ta'.out _ hd) (fun hHeld => ?_)
          clear hKK KK
          try simp only [Act.put, lyA, lyB, lyC]
          refine ly_a 11 (fun KK hKK => ?_)
          refine wp_append_rats _ _ rfl W5.heap.size _ _ _ _ ([] ++ XT ++ [(p, q)]) XD rfl rfl hg ((hdr'.out _ _ _ (by omega) ⟨by omega, by have := hcap'.out; omega⟩ (fun h => absurd h (by omega))).below (hbW.trans (hd.mono hbW.size))) (by have h1 := htl'.out; have h2 := hdl'.out; rw [List.nil_append, List.length_append, h1, h2]; simp only [List.length_cons, List.length_nil]; omega) hd.size ?_
          intro v11 w11 hg11 hgr11
          replace hd := hg.belowB hd (Nat.le_refl _) hd.size hgr11
          replace hg := hg11
          try dsimp only
          refine hKK.out _ _ (by (try dsimp only); exact ta'.out _ hd) (fun hHeld => ?_)
          clear hKK KK
          try simp only [Act.put, lyA, lyB, lyC]
          refine ly_q 12 (v := ?_) hHeld ?_
          try simp only [Act.put, lyA, lyB, lyC]
          refine wpAnyH_done (by kernel_rfl) ?_ _
          have hq := GrowR.mono hg hbW.size
          rw [List.nil_append, List.append_assoc] at hq
          go_wp2
          go_ret
          exact ⟨_, rfl, .inr (by rw [hpx'.out]; exact hq), hbW.trans (hd.mono hbW.size)⟩
      · skip
        refine wp_region_held_drew (S := (fun w' => w'.cell? ⟨w.heap.size, 0, none⟩ = some (.int .i64 p) ∧ w'.cell? ⟨w.heap.size, 1, none⟩ = some (.int .i64 q))) (by kernel_rfl) (by (try dsimp only); exact ta'.out _ hd) (fun hHeld => ?_)
        refine ly_q 1 (v := ?_) hHeld ?_
        try simp only [Act.put, lyA, lyB, lyC]
        refine ly_q 2 (v := ?_) hHeld ?_
        try simp only [Act.put, lyA, lyB, lyC]
        refine ly_q 3 (v := ?_) hHeld ?_
        try simp only [Act.put, lyA, lyB, lyC]
        refine ly_q 5 (v := ?_) hHeld ?_
        try simp only [Act.put, lyA, lyB, lyC]
        refine ly_q 8 (v := ?_) hHeld ?_
        try simp only [Act.put, lyA, lyB, lyC]
        refine ly_q 9 (v := ?_) hHeld ?_
        try simp only [Act.put, lyA, lyB, lyC]
        refine ly_q 10 (v := ?_) hHeld ?_
        try simp only [Act.put, lyA, lyB, lyC]
        refine wpAnyH_ready (rs := [0, 6]) (by kernel_rfl) (by simp) ?_
        refine AllReadyH.cons (o := Oper.mk _ _ _ _ _ _) rfl (fun KK hKK => ?_) (AllReadyH.cons (o := Oper.mk _ _ _ _ _ _) rfl (fun KK hKK => ?_) (AllReadyH.nil))
        · rw [if_pos (by kernel_rfl)]
          go_simp
          have hs := hd.size
          replace hd := hd.alloc hs (.cells #[] 42)
          have hg := GrowR.empty' hd hs
          (try simp [go_sem] at hg)
          (try replace hlit := rats_alloc hd hlit)
          try dsimp only
          refine hKK.out _ _ (by (try dsimp only); exact ta'.out _ hd) (fun hHeld => ?_)
          clear hKK KK
          try simp only [Act.put, lyA, lyB, lyC]
          refine wpAnyH_ready (rs := [4, 6]) (by kernel_rfl) (by simp) ?_
          refine AllReadyH.cons (o := Oper.mk _ _ _ _ _ _) rfl (fun KK hKK => ?_) (AllReadyH.cons (o := Oper.mk _ _ _ _ _ _) rfl (fun KK hKK => ?_) (AllReadyH.nil))
          · rw [if_pos (by kernel_rfl)]
            refine wp_append_rats _ _ rfl W5.heap.size _ _ _ _ [] XT rfl rfl hg (htk'.out.below (hbW.trans (hd.mono hbW.size))) (by have h1 := htl'.out; rw [h1]; simp only [List.length_nil]; omega) hd.size ?_
            intro v4 w4 hg4 hgr4
            (try replace hlit := rats_kept hlit hgr4 (by change some _ ≠ some _; intro hh; have hh := Option.some.inj hh; first | omega | (simp [go_sem] at hh; done) | (simp [go_sem] at hh; omega)))
            replace hd := hg.belowB hd (Nat.le_refl _) hd.size hgr4
            replace hg := hg4
            try dsimp only
            refine hKK.out _ _ (by (try dsimp only); exact ta'.out _ hd) (fun hHeld => ?_)
            clear hKK KK
            try simp only [Act.put, lyA, lyB, lyC]
            refine ly_a 6 (fun KK hKK => ?_)
            go_simp
            have hs := hd.size
            replace hd := hd.alloc hs (.cells #[.int .i64 p, .int .i64 q] 42)
            have hlit := ratsV_lit' hd
            (try simp [go_sem] at hlit)
            (try replace hg := grow_alloc hd hg)
            try dsimp only
            refine hKK.out _ _ (by (try dsimp only); exact ta'.out _ hd) (fun hHeld => ?_)
            clear hKK KK
            try simp only [Act.put, lyA, lyB, lyC]
            refine ly_a 7 (fun KK hKK => ?_)
            refine wp_append_rats _ _ rfl W5.heap.size _ _ _ _ ([] ++ XT) [(p, q)] rfl rfl hg hlit (by have h1 := htl'.out; rw [List.nil_append, h1]; simp only [List.length_cons, List.length_nil]; omega) hd.size ?_
            intro v7 w7 hg7 hgr7
            replace hd := hg.belowB hd (Nat.le_refl _) hd.size hgr7
            replace hg := hg7
            clear hlit
            try dsimp only
            refine hKK.out _ _ (by (try dsimp only); exact ta'.out _ hd) (fun hHeld => ?_)
            clear hKK KK
            try simp only [Act.put, lyA, lyB, lyC]
            refine ly_a 11 (fun KK hKK => ?_)
            refine wp_append_rats _ _ rfl W5.heap.size _ _ _ _ ([] ++ XT ++ [(p, q)]) XD rfl rfl hg ((hdr'.out _ _ _ (by omega) ⟨by omega, by have := hcap'.out; omega⟩ (fun h => absurd h (by omega))).below (hbW.trans (hd.mono hbW.size))) (by have h1 := htl'.out; have h2 := hdl'.out; rw [List.nil_append, List.length_append, h1, h2]; simp only [List.length_cons, List.length_nil]; omega) hd.size ?_
            intro v11 w11 hg11 hgr11
            replace hd := hg.belowB hd (Nat.le_refl _) hd.size hgr11
            replace hg := hg11
            try dsimp only
            refine hKK.out _ _ (by (try dsimp only); exact ta'.out _ hd) (fun hHeld => ?_)
            clear hKK KK
            try simp only [Act.put, lyA, lyB, lyC]
            refine ly_q 12 (v := ?_) hHeld ?_
            try simp only [Act.put, lyA, lyB, lyC]
            refine wpAnyH_done (by kernel_rfl) ?_ _
            have hq := GrowR.mono hg hbW.size
            rw [List.nil_append, List.append_assoc] at hq
            go_wp2
            go_ret
            exact ⟨_, rfl, .inr (by rw [hpx'.out]; exact hq), hbW.trans (hd.mono hbW.size)⟩
          · rw [if_pos (by kernel_rfl)]
            go_simp
            have hs := hd.size
            replace hd := hd.alloc hs (.cells #[.int .i64 p, .int .i64 q] 42)
            have hlit := ratsV_lit' hd
            (try simp [go_sem] at hlit)
            (try replace hg := grow_alloc hd hg)
            try dsimp only
            refine hKK.out _ _ (by (try dsimp only); exact ta'.out _ hd) (fun hHeld => ?_)
            clear hKK KK
            try simp only [Act.put, lyA, lyB, lyC]
            refine ly_a 4 (fun KK hKK => ?_)
            refine wp_append_rats _ _ rfl W5.heap.size _ _ _ _ [] XT rfl rfl hg (htk'.out.below (hbW.trans (hd.mono hbW.size))) (by have h1 := htl'.out; rw [h1]; simp only [List.length_nil]; omega) hd.size ?_
            intro v4 w4 hg4 hgr4
            (try replace hlit := rats_kept hlit hgr4 (by change some _ ≠ some _; intro hh; have hh := Option.some.inj hh; first | omega | (simp [go_sem] at hh; done) | (simp [go_sem] at hh; omega)))
            replace hd := hg.belowB hd (Nat.le_refl _) hd.size hgr4
            replace hg := hg4
            try dsimp only
            refine hKK.out _ _ (by (try dsimp only); exact ta'.out _ hd) (fun hHeld => ?_)
            clear hKK KK
            try simp only [Act.put, lyA, lyB, lyC]
            refine ly_a 7 (fun KK hKK => ?_)
            refine wp_append_rats _ _ rfl W5.heap.size _ _ _ _ ([] ++ XT) [(p, q)] rfl rfl hg hlit (by have h1 := htl'.out; rw [List.nil_append, h1]; simp only [List.length_cons, List.length_nil]; omega) hd.size ?_
            intro v7 w7 hg7 hgr7
            replace hd := hg.belowB hd (Nat.le_refl _) hd.size hgr7
            replace hg := hg7
            clear hlit
            try dsimp only
            refine hKK.out _ _ (by (try dsimp only); exact ta'.out _ hd) (fun hHeld => ?_)
            clear hKK KK
            try simp only [Act.put, lyA, lyB, lyC]
            refine ly_a 11 (fun KK hKK => ?_)
            refine wp_append_rats _ _ rfl W5.heap.size _ _ _ _ ([] ++ XT ++ [(p, q)]) XD rfl rfl hg ((hdr'.out _ _ _ (by omega) ⟨by omega, by have := hcap'.out; omega⟩ (fun h => absurd h (by omega))).below (hbW.trans (hd.mono hbW.size))) (by have h1 := htl'.out; have h2 := hdl'.out; rw [List.nil_append, List.length_append, h1, h2]; simp only [List.length_cons, List.length_nil]; omega) hd.size ?_
            intro v11 w11 hg11 hgr11
            replace hd := hg.belowB hd (Nat.le_refl _) hd.size hgr11
            replace hg := hg11
            try dsimp only
            refine hKK.out _ _ (by (try dsimp only); exact ta'.out _ hd) (fun hHeld => ?_)
            clear hKK KK
            try simp only [Act.put, lyA, lyB, lyC]
            refine ly_q 12 (v := ?_) hHeld ?_
            try simp only [Act.put, lyA, lyB, lyC]
            refine wpAnyH_done (by kernel_rfl) ?_ _
            have hq := GrowR.mono hg hbW.size
            rw [List.nil_append, List.append_assoc] at hq
            go_wp2
            go_ret
            exact ⟨_, rfl, .inr (by rw [hpx'.out]; exact hq), hbW.trans (hd.mono hbW.size)⟩
        · rw [if_pos (by kernel_rfl)]
          go_simp
          have hs := hd.size
          replace hd := hd.alloc hs (.cells #[.int .i64 p, .int .i64 q] 42)
          have hlit := ratsV_lit' hd
          (try simp [go_sem] at hlit)
          (try replace hg := grow_alloc hd hg)
          try dsimp only
          refine hKK.out _ _ (by (try dsimp only); exact ta'.out _ hd) (fun hHeld => ?_)
          clear hKK KK
          try simp only [Act.put, lyA, lyB, lyC]
          refine ly_a 0 (fun KK hKK => ?_)
          go_simp
          have hs := hd.size
          replace hd := hd.alloc hs (.cells #[] 42)
          have hg := GrowR.empty' hd hs
          (try simp [go_sem] at hg)
          (try replace hlit := rats_alloc hd hlit)
          try dsimp only
          refine hKK.out _ _ (by (try dsimp only); exact ta'.out _ hd) (fun hHeld => ?_)
          clear hKK KK
          try simp only [Act.put, lyA, lyB, lyC]
          refine ly_a 4 (fun KK hKK => ?_)
          refine wp_append_rats _ _ rfl W5.heap.size _ _ _ _ [] XT rfl rfl hg (htk'.out.below (hbW.trans (hd.mono hbW.size))) (by have h1 := htl'.out; rw [h1]; simp only [List.length_nil]; omega) hd.size ?_
          intro v4 w4 hg4 hgr4
          (try replace hlit := rats_kept hlit hgr4 (by change some _ ≠ some _; intro hh; have hh := Option.some.inj hh; first | omega | (simp [go_sem] at hh; done) | (simp [go_sem] at hh; omega)))
          replace hd := hg.belowB hd (Nat.le_refl _) hd.size hgr4
          replace hg := hg4
          try dsimp only
          refine hKK.out _ _ (by (try dsimp only); exact ta'.out _ hd) (fun hHeld => ?_)
          clear hKK KK
          try simp only [Act.put, lyA, lyB, lyC]
          refine ly_a 7 (fun KK hKK => ?_)
          refine wp_append_rats _ _ rfl W5.heap.size _ _ _ _ ([] ++ XT) [(p, q)] rfl rfl hg hlit (by have h1 := htl'.out; rw [List.nil_append, h1]; simp only [List.length_cons, List.length_nil]; omega) hd.size ?_
          intro v7 w7 hg7 hgr7
          replace hd := hg.belowB hd (Nat.le_refl _) hd.size hgr7
          replace hg := hg7
          clear hlit
          try dsimp only
          refine hKK.out _ _ (by (try dsimp only); exact ta'.out _ hd) (fun hHeld => ?_)
          clear hKK KK
          try simp only [Act.put, lyA, lyB, lyC]
          refine ly_a 11 (fun KK hKK => ?_)
          refine wp_append_rats _ _ rfl W5.heap.size _ _ _ _ ([] ++ XT ++ [(p, q)]) XD rfl rfl hg ((hdr'.out _ _ _ (by omega) ⟨by omega, by have := hcap'.out; omega⟩ (fun h => absurd h (by omega))).below (hbW.trans (hd.mono hbW.size))) (by have h1 := htl'.out; have h2 := hdl'.out; rw [List.nil_append, List.length_append, h1, h2]; simp only [List.length_cons, List.length_nil]; omega) hd.size ?_
          intro v11 w11 hg11 hgr11
          replace hd := hg.belowB hd (Nat.le_refl _) hd.size hgr11
          replace hg := hg11
          try dsimp only
          refine hKK.out _ _ (by (try dsimp only); exact ta'.out _ hd) (fun hHeld => ?_)
          clear hKK KK
          try simp only [Act.put, lyA, lyB, lyC]
          refine ly_q 12 (v := ?_) hHeld ?_
          try simp only [Act.put, lyA, lyB, lyC]
          refine wpAnyH_done (by kernel_rfl) ?_ _
          have hq := GrowR.mono hg hbW.size
          rw [List.nil_append, List.append_assoc] at hq
          go_wp2
          go_ret
          exact ⟨_, rfl, .inr (by rw [hpx'.out]; exact hq), hbW.trans (hd.mono hbW.size)⟩

end Go.Proofs.YtjkgilenhoomoaaGreat

namespace Go.Proofs.YtjkgilenhoomoaaGreat
open Go.Shelf Go.RowKit

theorem bears_of {P : Program} {f : FuncId} {F B : Func} (h : P.funcs[f]? = some F) (he : F = { B with name := F.name }) (hn : (F.name == "runtime.NumGoroutine") = false) : Bears P f B := ⟨F.name, hn, by rw [h, ← he]⟩

def sortR_ren : Go.Shelf.Ren := ⟨fun | 6 => 56 | 15 => 74 | 14 => 73 | 28 => 104 | 29 => 105 | 20 => 96 | 21 => 97 | 22 => 98 | 23 => 99 | 24 => 100 | 25 => 101 | 26 => 102 | 27 => 103 | 46 => 114 | 47 => 115 | 48 => 116 | 49 => 117 | 50 => 118 | 57 => 124 | n => n, fun | 22 => 67 | 24 => 42 | 25 => 70 | 3 => 3 | 39 => 102 | 0 => 0 | 53 => 120 | 55 => 122 | 4 => 4 | 46 => 113 | 45 => 112 | 50 => 117 | 5 => 5 | 9 => 9 | 66 => 127 | 70 => 131 | 76 => 134 | 77 => 135 | n => n, fun n => n⟩
set_option maxRecDepth 100000 in
theorem sortR : SlLaysF0.n6 Tryz.prog sortR_ren where
  mixed := by kernel_rfl
  f6 := bears_of Tryz.func56 (by kernel_rfl) (by kernel_rfl)
  f14 := bears_of Tryz.func73 (by kernel_rfl) (by kernel_rfl)
  f15 := Tryz.func74.trans (congrArg some (by kernel_rfl))
  f20 := bears_of Tryz.func96 (by kernel_rfl) (by kernel_rfl)
  f21 := bears_of Tryz.func97 (by kernel_rfl) (by kernel_rfl)
  f22 := bears_of Tryz.func98 (by kernel_rfl) (by kernel_rfl)
  f23 := bears_of Tryz.func99 (by kernel_rfl) (by kernel_rfl)
  f24 := bears_of Tryz.func100 (by kernel_rfl) (by kernel_rfl)
  f25 := bears_of Tryz.func101 (by kernel_rfl) (by kernel_rfl)
  f26 := bears_of Tryz.func102 (by kernel_rfl) (by kernel_rfl)
  f27 := bears_of Tryz.func103 (by kernel_rfl) (by kernel_rfl)
  f28 := Tryz.func104.trans (congrArg some (by kernel_rfl))
  f29 := Tryz.func105.trans (congrArg some (by kernel_rfl))
  f46 := bears_of Tryz.func114 (by kernel_rfl) (by kernel_rfl)
  f47 := Tryz.func115.trans (congrArg some (by kernel_rfl))
  f48 := Tryz.func116.trans (congrArg some (by kernel_rfl))
  f49 := bears_of Tryz.func117 (by kernel_rfl) (by kernel_rfl)
  f50 := bears_of Tryz.func118 (by kernel_rfl) (by kernel_rfl)
  f57 := bears_of Tryz.func124 (by kernel_rfl) (by kernel_rfl)
  t0 := Tryz.underlying0
  a0 := Tryz.isAgg0
  z0 := Tryz.sizeOf0
  v0 := Tryz.zeroValue0
  t3 := Tryz.underlying3
  a3 := Tryz.isAgg3
  z3 := Tryz.sizeOf3
  v3 := Tryz.zeroValue3
  t4 := Tryz.underlying4
  a4 := Tryz.isAgg4
  z4 := Tryz.sizeOf4
  v4 := Tryz.zeroValue4
  t5 := Tryz.underlying5
  a5 := Tryz.isAgg5
  z5 := Tryz.sizeOf5
  v5 := Tryz.zeroValue5
  t9 := Tryz.underlying9
  a9 := Tryz.isAgg9
  z9 := Tryz.sizeOf9
  v9 := Tryz.zeroValue9
  t22 := Tryz.underlying67
  a22 := Tryz.isAgg67
  z22 := Tryz.sizeOf67
  v22 := Tryz.zeroValue67
  t25 := Tryz.underlying70
  a25 := Tryz.isAgg70
  z25 := Tryz.sizeOf70
  v25 := Tryz.zeroValue70
  t39 := Tryz.underlying102
  a39 := Tryz.isAgg102
  z39 := Tryz.sizeOf102
  v39 := Tryz.zeroValue102
  t45 := Tryz.underlying112
  a45 := Tryz.isAgg112
  z45 := Tryz.sizeOf112
  v45 := Tryz.zeroValue112
  t46 := Tryz.underlying113
  a46 := Tryz.isAgg113
  z46 := Tryz.sizeOf113
  v46 := Tryz.zeroValue113
  t50 := Tryz.underlying117
  a50 := Tryz.isAgg117
  z50 := Tryz.sizeOf117
  v50 := Tryz.zeroValue117
  t53 := Tryz.underlying120
  a53 := Tryz.isAgg120
  z53 := Tryz.sizeOf120
  v53 := Tryz.zeroValue120
  t55 := Tryz.underlying122
  a55 := Tryz.isAgg122
  z55 := Tryz.sizeOf122
  v55 := Tryz.zeroValue122
  t66 := Tryz.underlying127
  a66 := Tryz.isAgg127
  z66 := Tryz.sizeOf127
  v66 := Tryz.zeroValue127
  t70 := Tryz.underlying131
  a70 := Tryz.isAgg131
  z70 := Tryz.sizeOf131
  v70 := Tryz.zeroValue131
  t76 := Tryz.underlying134
  a76 := Tryz.isAgg134
  z76 := Tryz.sizeOf134
  v76 := Tryz.zeroValue134
  t77 := Tryz.underlying135
  a77 := Tryz.isAgg135
  z77 := Tryz.sizeOf135
  v77 := Tryz.zeroValue135

/-- A fraction that is good. -/
abbrev GoodR : Type := { x : Int × Int // goodR x.1 x.2 = true }
instance : Inhabited GoodR := ⟨⟨(0, 1), by decide⟩⟩
def encR (x : GoodR) : List Value := [.int .i64 x.1.1, .int .i64 x.1.2]
def cfR (x y : GoodR) : Int := cmpN x.1.1 x.1.2 y.1.1 y.1.2

set_option maxHeartbeats 400000 in
theorem compare_lays (x y : GoodR) (w : World) :
    Calls Tryz.prog 51 #[.agg #[.int .i64 x.1.1, .int .i64 x.1.2], .agg #[.int .i64 y.1.1, .int .i64 y.1.2]] w fun e w' => e = .returned (.int .i64 (cfR x y)) ∧ ∃ q os', w' = Go.Sort.grow (w.drewN q) os' := by
  obtain ⟨⟨n, d⟩, gx⟩ := x
  obtain ⟨⟨n', d'⟩, gy⟩ := y
  have h1 : BdR n d := ⟨(goodR_all gx).1, (goodR_all gx).2.1⟩
  have h2 : BdR n' d' := ⟨(goodR_all gy).1, (goodR_all gy).2.1⟩
  have hgrow : ∀ q, (((w.alloc (.cells #[.int .i64 n, .int .i64 d] 42)).alloc (.cells #[.int .i64 n', .int .i64 d'] 42)).drewN q) = Go.Sort.grow (w.drewN q) #[.cells #[.int .i64 n, .int .i64 d] 42, .cells #[.int .i64 n', .int .i64 d'] 42] := fun q => by
    rw [Go.Sort.alloc_eq_grow, Go.Sort.alloc_eq_grow, Go.Sort.grow_grow]; rfl
  show Calls Tryz.prog 51 #[.agg #[.int .i64 n, .int .i64 d], .agg #[.int .i64 n', .int .i64 d']] w fun e w' => e = .returned (.int .i64 (cmpN n d n' d')) ∧ _
  have p1 := h1.prod h2
  have p2 := h2.prod h1
  unfold cmpN
  obtain ⟨x, hx⟩ : ∃ x, n * d' = x := ⟨_, rfl⟩
  obtain ⟨y, hy⟩ : ∃ y, n' * d = y := ⟨_, rfl⟩
  rw [hx] at p1 ⊢
  rw [hy] at p2 ⊢
  clear h1 h2 gx gy
  have hgrow' := Lib.hid hgrow
  clear hgrow
  by_cases hlt : x < y
  · rw [show sgn (x - y) = -1 by unfold sgn; rw [if_neg (by omega), if_pos (by omega)]]
    go_enter Tryz.func51, Tryz.ntmps51
    go_wp2_with fail
    go_quiet (fail)
    go_wp2
    go_ret
    exact ⟨rfl, _, _, hgrow'.out _⟩
  · by_cases hgt : y < x
    · rw [show sgn (x - y) = 1 by unfold sgn; rw [if_pos (by omega)]]
      go_enter Tryz.func51, Tryz.ntmps51
      go_wp2_with fail
      go_quiet (fail)
      go_wp2
      go_ret
      exact ⟨rfl, _, _, hgrow'.out _⟩
    · rw [show sgn (x - y) = 0 by unfold sgn; rw [if_neg (by omega), if_neg (by omega)]]
      go_enter Tryz.func51, Tryz.ntmps51
      go_wp2_with fail
      go_quiet (fail)
      go_wp2
      go_ret
      exact ⟨rfl, _, _, hgrow'.out _⟩

theorem ltR (x y : GoodR) : ltOf cfR x y = true ↔ qv x.1 < qv y.1 := by
  unfold ltOf cfR
  rw [cmpN_lt]; exact ltB_qv x.2 y.2
theorem ltRf (x y : GoodR) : ltOf cfR x y = false ↔ qv y.1 ≤ qv x.1 := by
  unfold ltOf cfR
  rw [cmpN_lt]; exact ltB_qvf x.2 y.2
theorem swoR : Go.Sort.SWO (ltOf cfR) where
  irrefl x := by rw [ltRf]; exact Rat.le_refl
  trans x y z h1 h2 := by rw [ltR] at *; grind
  ntrans x y z h1 h2 := by rw [ltRf] at *; grind
theorem totR (x y : GoodR) (h1 : ltOf cfR x y = false) (h2 : ltOf cfR y x = false) : x = y := by
  rw [ltRf] at h1 h2
  exact Subtype.ext (qv_inj x.2 y.2 (by grind))

theorem sortFunc_any (blk off cap : Nat) (d : Array GoodR) (w : World) (hH : Go.Sort.HoldsK encR 2 w blk off d) (hblk : blk < w.heap.size) (hsz : d.size ≤ 1099511627776) :
    Calls Tryz.prog 56 #[.slice (some ⟨blk, off, none⟩) d.size cap, .func (.func 51) #[] #[]] w fun e w' =>
      e = .returned (.tuple #[]) ∧ ∃ n os, w' = sortWorldK encR 2 w blk off n (d.toList.mergeSort fun x y => !(ltOf cfR) y x).toArray os := by
  have eg : ∀ args w, (callFunc 51 args).run Tryz.prog w = .ok (.enter 51 args) w := enters_of Tryz.func51 (by kernel_rfl) rfl
  have hcon := AnyQ.slices_SortFunc_total sortR 2 Tryz.isAgg42 Tryz.sizeOf42 encR (fun _ => rfl) (fun x v hv => by simp [encR] at hv; rcases hv with rfl | rfl <;> rfl) cfR swoR 51 #[] blk off cap d w eg (fun _ _ _ _ x y => compare_lays x y _) hH hblk (by omega) totR
  exact hcon

end Go.Proofs.YtjkgilenhoomoaaGreat

namespace Go.Proofs.YtjkgilenhoomoaaGreat
open Go.Shelf Go.RowKit

/-- A row of n fractions at the head of block g. -/
def RowC (w : World) (g n : Nat) (Z : Nat → Int × Int) : Prop :=
  ∀ i, i < n → (w.cell? ⟨g, i * 2, none⟩ = some (.int .i64 (Z i).1) ∧ w.cell? ⟨g, i * 2 + 1, none⟩ = some (.int .i64 (Z i).2)) ∧ w.frozen? ⟨g, i * 2, none⟩ = false ∧ w.frozen? ⟨g, i * 2 + 1, none⟩ = false
theorem RowC.rats {w : World} {g n k cap : Nat} {Z : Nat → Int × Int} {zs : List (Int × Int)} (h : RowC w g n Z) (hk : zs.length = k) (hkn : k ≤ n) (hz : ∀ i, i < k → Z i = nthR zs i) (hc : k ≤ cap ∧ cap ≤ maxLen) : RatsV w (.slice (some ⟨g, 0, none⟩) k cap) zs := by
  subst hk
  refine RatsV.mk ⟨hc.1, fun e => by cases e⟩ hc.2 (fun i hi => ?_)
  obtain ⟨⟨c0, c1⟩, _⟩ := h i (by omega)
  rw [hz i hi] at c0 c1
  exact ⟨g, 0, rfl, by rw [Nat.zero_add]; exact c0, by rw [Nat.zero_add]; exact c1⟩
theorem RowC.of {w : World} {B g cap : Nat} {xs : List (Int × Int)} (h : RowF 42 2 w B g xs.length cap (flR xs)) : RowC w g xs.length (nthR xs) := fun i hi => by
  obtain ⟨n0, n1⟩ := nth_flR hi
  have c0 := h.cell (j := i * 2) (by omega)
  have c1 := h.cell (j := i * 2 + 1) (by omega)
  rw [n0] at c0; rw [n1] at c1
  exact ⟨⟨c0, c1⟩, h.frozen _, h.frozen _⟩
/-- The block is a row of fractions, of that room. -/
def ShapeC (w : World) (g cap : Nat) : Prop := ∃ cur, w.heap[g]? = some (.cells cur 42 (0, 0)) ∧ cur.size = cap * 2
theorem ShapeC.of {w : World} {B g n cap : Nat} {ys : List Int} (h : RowF 42 2 w B g n cap ys) : ShapeC w g cap := by
  rcases h.2 with ⟨h0, _⟩ | ⟨g', cap', cur, e, _, h2, _, _, h5, _⟩
  · cases h0
  · cases e
    exact ⟨cur, h2, h5⟩
theorem ShapeC.setCell {w : World} {g cap : Nat} (h : ShapeC w g cap) (p : Addr) (v : Value) : ShapeC (w.setCell p v) g cap := by
  obtain ⟨cur, h1, h2⟩ := h
  unfold ShapeC World.setCell
  simp only [Array.getElem?_modify]
  by_cases e : p.block = g
  · rw [if_pos e, h1]
    refine ⟨_, rfl, ?_⟩
    split
    · exact h2
    · simpa using h2
  · rw [if_neg e, h1]
    exact ⟨cur, rfl, h2⟩
theorem ShapeC.setCells {g cap b : Nat} : ∀ (vs : List Value) (o : Nat) (w : World), ShapeC w g cap → ShapeC (w.setCells b o vs) g cap
  | [], _, _, h => h
  | v :: r, o, _, h => ShapeC.setCells r (o + 1) _ (h.setCell ⟨b, o, none⟩ v)
theorem ShapeC.sorted {α : Type} {enc : α → List Value} [Inhabited α] {k : Nat} {w : World} {g cap : Nat} (h : ShapeC w g cap) (off n : Nat) (dk : Array α) (os : Array Obj) : ShapeC (sortWorldK enc k w g off n dk os) g cap := by
  obtain ⟨cur, h1, h2⟩ := h
  have hlt : g < w.heap.size := (Array.getElem?_eq_some_iff.1 h1).1
  unfold ShapeC sortWorldK Go.Sort.grow Go.Sort.putRowK Go.Sort.putRow Go.Sort.mapBlock Go.Sort.ahead
  simp only
  rw [Array.getElem?_append_left (by simp; omega), Array.getElem?_modify, if_pos rfl, h1]
  refine ⟨_, rfl, ?_⟩
  unfold Go.Sort.putCells
  rw [Array.size_mapIdx]
  exact h2
theorem own_of {w : World} {B g cap : Nat} {ys : List (Int × Int)} (hr : RowC w g ys.length (nthR ys)) (hs : ShapeC w g cap) (hB : B ≤ g) (hc : ys.length ≤ cap ∧ cap ≤ maxLen) : OwnR w B w.heap.size (.slice (some ⟨g, 0, none⟩) ys.length cap) ys := by
  obtain ⟨cur, h1, h2⟩ := hs
  have hlt : g < w.heap.size := (Array.getElem?_eq_some_iff.1 h1).1
  refine .inr ⟨g, cap, rfl, hB, hlt, by rw [List.length_map, flR_len], .inr ⟨g, cap, cur, rfl, hB, h1, hc.1, hc.2, h2, ?_⟩⟩
  have hcell : ∀ j, w.cell? ⟨g, j, none⟩ = cur[j]? := fun j => by simp [World.cell?, h1]
  apply List.ext_getElem?
  intro j
  by_cases hj : j < ys.length * 2
  · rw [List.getElem?_take_of_lt hj, Array.getElem?_toList, ← hcell, List.getElem?_map, List.getElem?_eq_getElem (by rw [flR_len]; exact hj)]
    obtain ⟨⟨c0, c1⟩, _⟩ := hr (j / 2) (by omega)
    obtain ⟨n0, n1⟩ := nth_flR (xs := ys) (i := j / 2) (by omega)
    rw [← nth_eq]
    rcases Nat.mod_two_eq_zero_or_one j with q | q
    · rw [show j / 2 * 2 = j by omega] at c0 n0
      rw [c0, n0]; rfl
    · rw [show j / 2 * 2 + 1 = j by omega] at c1 n1
      rw [c1, n1]; rfl
  · rw [List.getElem?_eq_none (by simp [h2]; omega), List.getElem?_eq_none (by rw [List.length_map, flR_len]; omega)]
/-- Block g alone may have turned; new blocks may lie behind. -/
def Upon (g : Nat) (w w' : World) : Prop := w.grownBy w' (some g)
theorem Upon.refl (g : Nat) (w : World) : Upon g w w := World.grownBy.refl _ _
theorem Upon.trans {g : Nat} {a b c : World} (h : Upon g a b) (k : Upon g b c) : Upon g a c := World.grownBy.trans h k
theorem Upon.drewN {g : Nat} {w w' : World} (h : Upon g w w') (n : Nat) : Upon g w (w'.drewN n) :=
  h.trans ⟨(below_drewN (Below.refl w'.heap.size _) n).os, (below_drewN (Below.refl w'.heap.size _) n).tape, (below_drewN (Below.refl w'.heap.size _) n).output, (below_drewN (Below.refl w'.heap.size _) n).size, fun k hk _ => (below_drewN (Below.refl w'.heap.size _) n).block k hk⟩
theorem Upon.setCell {g : Nat} {w w' : World} (h : Upon g w w') (o : Nat) (u : Value) : Upon g w (w'.setCell ⟨g, o, none⟩ u) :=
  h.trans ⟨rfl, rfl, rfl, by simp [World.setCell], fun k _ hne => Below.heap_setCell _ _ _ _ (fun e => hne (by rw [e]))⟩
theorem Upon.setCells {g : Nat} {w : World} : ∀ (vs : List Value) (o : Nat) {w' : World}, Upon g w w' → Upon g w (w'.setCells g o vs)
  | [], _, _, h => h
  | v :: r, o, _, h => Upon.setCells r (o + 1) (h.setCell o v)
theorem Upon.below {g B : Nat} {w w' : World} (h : Upon g w w') (hB : B ≤ g) (hg : g < w.heap.size) : Below B w w' :=
  ⟨h.os, h.tape, h.output, h.size, fun k hk => h.block k (by omega) (fun e => by have := Option.some.inj e; omega)⟩
theorem upon_sorted {α : Type} {enc : α → List Value} [Inhabited α] {k : Nat} (w : World) (blk off n : Nat) (dk : Array α) (os : Array Obj) : Upon blk w (sortWorldK enc k w blk off n dk os) := by
  refine ⟨rfl, rfl, rfl, size_sortWorldK_c (enc := enc) (k := k) (w := w) _ _ _ _ _, fun j hj hne => ?_⟩
  unfold sortWorldK Go.Sort.grow Go.Sort.putRowK Go.Sort.putRow Go.Sort.mapBlock Go.Sort.ahead
  simp only
  rw [Array.getElem?_append_left (by simp; omega), Array.getElem?_modify, if_neg (by intro e; exact hne (by rw [e]))]
theorem getD_map (xs : List (Int × Int)) (d : List GoodR) (h : d.map Subtype.val = xs) {i : Nat} (hi : i < xs.length) : (d.toArray[i]!).1 = nthR xs i := by
  subst h
  have hi' : i < d.length := by simpa using hi
  rw [nthR_eq hi, List.getElem_map, getElem!_pos _ i (by simpa using hi')]
  simp
theorem sorted_any (g cap : Nat) (xs : List (Int × Int)) (w : World) (hr : RowC w g xs.length (nthR xs)) (hgd : ∀ x ∈ xs, goodR x.1 x.2 = true) (hblk : g < w.heap.size) (hm : xs.length ≤ 1099511627776) :
    Calls Tryz.prog 56 #[.slice (some ⟨g, 0, none⟩) xs.length cap, .func (.func 51) #[] #[]] w fun e w' =>
      e = .returned (.tuple #[]) ∧ (∃ ys : List (Int × Int), ys.length = xs.length ∧ (∀ y, y ∈ ys ↔ y ∈ xs) ∧ (ys.Pairwise fun a b => qv a ≤ qv b) ∧ RowC w' g xs.length (nthR ys)) ∧ (∀ c, ShapeC w g c → ShapeC w' g c) ∧ Upon g w w' := by
  obtain ⟨d, hd⟩ : ∃ d : List GoodR, d.map Subtype.val = xs := ⟨xs.attach.map fun x => ⟨x.1, hgd x.1 x.2⟩, by rw [List.map_map]; exact (List.attach_map_val (l := xs) (f := id)).trans (List.map_id xs)⟩
  have hl : d.length = xs.length := by rw [← hd]; simp
  have hl2 : d.toArray.size = xs.length := by simpa using hl
  have hH : Go.Sort.HoldsK encR 2 w g 0 d.toArray := by
    intro j hj
    rw [Go.Sort.size_flatK, hl2] at hj
    rw [Go.Sort.get_flatK _ _ _ _ (by rw [hl2]; exact hj)]
    obtain ⟨⟨c0, c1⟩, f0, f1⟩ := hr (j / 2) (by omega)
    have e := getD_map xs d hd (i := j / 2) (by omega)
    rcases Nat.mod_two_eq_zero_or_one j with q | q
    · have ej : j / 2 * 2 = j := by omega
      rw [ej] at c0 f0
      rw [q, Nat.zero_add]
      exact ⟨by rw [c0, ← e]; rfl, f0⟩
    · have ej : j / 2 * 2 + 1 = j := by omega
      rw [ej] at c1 f1
      rw [q, Nat.zero_add]
      exact ⟨by rw [c1, ← e]; rfl, f1⟩
  have hcon := sortFunc_any g 0 cap d.toArray w hH hblk (by omega)
  rw [hl2] at hcon
  refine hcon.mono ?_
  rintro e w' ⟨rfl, n, os, rfl⟩
  have ht : (d.toArray.toList) = d := rfl
  rw [ht]
  obtain ⟨s, hs⟩ : ∃ s, (d.mergeSort fun x y => !(ltOf cfR) y x) = s := ⟨_, rfl⟩
  have hsl : s.length = d.length := by rw [← hs]; exact List.length_mergeSort ..
  have hsm : ∀ y, y ∈ s ↔ y ∈ d := fun y => by rw [← hs]; exact List.mem_mergeSort
  have hsp : s.Pairwise fun x y => (!(ltOf cfR) y x) = true := by
    rw [← hs]
    refine List.pairwise_mergeSort (fun a b c h1 h2 => ?_) (fun a b => ?_) d
    · have h1' : ltOf cfR b a = false := by simpa using h1
      have h2' : ltOf cfR c b = false := by simpa using h2
      rw [ltRf] at h1' h2'
      have : ltOf cfR c a = false := by rw [ltRf]; grind
      simp [this]
    · by_cases h : ltOf cfR b a = true
      · have : ltOf cfR a b = false := by rw [ltR] at h; rw [ltRf]; grind
        simp [this]
      · simp [Bool.eq_false_iff.2 h]
  rw [hs]
  refine ⟨rfl, ⟨s.map Subtype.val, by simp [hsl, hl], fun y => ?_, ?_, ?_⟩, fun c h => h.sorted 0 n s.toArray os, upon_sorted w g 0 n s.toArray os⟩
  · rw [← hd, List.mem_map, List.mem_map]
    constructor
    · rintro ⟨a, h, e⟩; exact ⟨a, (hsm a).1 h, e⟩
    · rintro ⟨a, h, e⟩; exact ⟨a, (hsm a).2 h, e⟩
  · rw [List.pairwise_map]
    refine hsp.imp fun {a b} h => ?_
    have h' : ltOf cfR b a = false := by simpa using h
    exact (ltRf b a).1 h'
  · have hH2 : Go.Sort.HoldsK encR 2 (sortWorldK encR 2 w g 0 n s.toArray os) g 0 s.toArray := holdsK_sortWorldK_c encR 2 w g 0 d.toArray s.toArray n os hH hblk (by simp [hsl])
    intro i hi
    have hi2 : i < s.toArray.size := by simp [hsl]; omega
    have e := getD_map (s.map Subtype.val) s rfl (i := i) (by simp [hsl]; omega)
    obtain ⟨c0, f0⟩ := hH2.cell (c := 0) hi2 (by decide)
    obtain ⟨c1, f1⟩ := hH2.cell (c := 1) hi2 (by decide)
    rw [Nat.zero_add, Nat.add_zero] at c0 f0
    rw [Nat.zero_add] at c1 f1
    exact ⟨⟨by rw [c0, ← e]; rfl, by rw [c1, ← e]; rfl⟩, f0, f1⟩

end Go.Proofs.YtjkgilenhoomoaaGreat

namespace Go.Proofs.YtjkgilenhoomoaaGreat
open Go.Shelf Go.RowKit

theorem cmpL_cons {c z : Int × Int} {X : List (Int × Int)} (h : X.head? = some z) : cmpL (c :: X) = if c = z then cmpL X else c :: cmpL X := by
  cases X with
  | nil => simp at h
  | cons b s =>
    obtain rfl : b = z := by simpa using h
    by_cases e : c = b
    · subst e; rw [cmpL_same, if_pos rfl]
    · rw [cmpL_new e, if_neg e]
theorem cmpL_snoc (a b : Int × Int) : ∀ l : List (Int × Int), cmpL (l ++ [a, b]) = cmpL (l ++ [a]) ++ (if a = b then [] else [b]) := by
  intro l
  induction l with
  | nil =>
    by_cases e : a = b
    · subst e; simp [cmpL_same, cmpL_one]
    · simp [cmpL_new e, cmpL_one, e]
  | cons c t ih =>
    obtain ⟨z, h1⟩ : ∃ z, (t ++ [a]).head? = some z := by cases t <;> simp
    have h2 : (t ++ [a, b]).head? = some z := by cases t <;> simpa using h1
    rw [List.cons_append, List.cons_append, cmpL_cons h1, cmpL_cons h2, ih]
    split
    · rfl
    · rfl
theorem cmpL_take {xs : List (Int × Int)} {k : Nat} (h : k + 1 < xs.length) : cmpL (xs.take (k + 1 + 1)) = cmpL (xs.take (k + 1)) ++ (if nthR xs k = nthR xs (k + 1) then [] else [nthR xs (k + 1)]) := by
  rw [take_nthR h, take_nthR (show k < xs.length by omega), List.append_assoc]
  exact cmpL_snoc _ _ _
theorem RowC.congr {w : World} {g n : Nat} {Z Z' : Nat → Int × Int} (h : RowC w g n Z) (hz : ∀ i, i < n → Z i = Z' i) : RowC w g n Z' := fun i hi => by rw [← hz i hi]; exact h i hi
theorem RowC.store {w : World} {g n K : Nat} {Z : Nat → Int × Int} (h : RowC w g n Z) (hK : K < n) (x : Int × Int) : RowC ((w.setCell ⟨g, K * 2, none⟩ (.int .i64 x.1)).setCell ⟨g, K * 2 + 1, none⟩ (.int .i64 x.2)) g n (fun i => if i = K then x else Z i) := by
  intro i hi
  obtain ⟨⟨c0, c1⟩, f0, f1⟩ := h i hi
  obtain ⟨⟨k0, k1⟩, _, _⟩ := h K hK
  refine ⟨?_, by rw [World.frozen?_setCell, World.frozen?_setCell]; exact f0, by rw [World.frozen?_setCell, World.frozen?_setCell]; exact f1⟩
  have oth : ∀ (W : World) (a b : Nat) (v : Value), a ≠ b → (W.setCell ⟨g, a, none⟩ v).cell? ⟨g, b, none⟩ = W.cell? ⟨g, b, none⟩ := fun W a b v hne => World.cell?_setCell_other W _ _ v (fun e => hne (by injection e))
  have sam : ∀ (W : World) (a : Nat) (v u : Value), W.cell? ⟨g, a, none⟩ = some u → (W.setCell ⟨g, a, none⟩ v).cell? ⟨g, a, none⟩ = some v := fun W a v u hu => World.cell?_setCell_same W _ v hu
  by_cases e : i = K
  · subst e
    simp only [if_true]
    refine ⟨?_, ?_⟩
    · rw [oth _ _ _ _ (by omega)]
      exact sam _ _ _ _ c0
    · exact sam _ _ _ _ ((oth _ _ _ _ (by omega)).trans c1)
  · simp only [if_neg e]
    exact ⟨by rw [oth _ _ _ _ (by omega), oth _ _ _ _ (by omega)]; exact c0, by rw [oth _ _ _ _ (by omega), oth _ _ _ _ (by omega)]; exact c1⟩

theorem run_clear_rats (w : World) (ty : TypeId) (b o n c : Nat) (hn : 0 < n) (hc : ∀ j, j < n * 2 → (w.cell? ⟨b, o + j, none⟩).isSome = true) (hf : ∀ j, j < n * 2 → w.frozen? ⟨b, o + j, none⟩ = false) :
    (Builtin.clear_ #[67] ty #[.slice (some ⟨b, o, none⟩) n c]).run Tryz.prog w = .ok (.tuple #[]) (w.setCells b o (List.replicate (n * 2) (.int .i64 0))) := by
  have hzc : (Builtin.zeroCells (Value.agg #[.int .i64 0, .int .i64 0]).cells n).toList = List.replicate (n * 2) (.int .i64 0) := by
    apply List.ext_getElem?
    intro j
    by_cases hj : j < n * 2
    · have := Nat.mod_lt j (show 0 < 2 by decide)
      rcases Nat.mod_two_eq_zero_or_one j with q | q <;> simp [Builtin.zeroCells, Value.cells, hj, q]
    · simp [Builtin.zeroCells, Value.cells, hj]
  have hst := run_storeCells_cells (P := Tryz.prog) b o (List.replicate (n * 2) (.int .i64 0)) 0 w (by simpa using hc) (by simpa using hf) (by intro v hv'; rw [List.eq_of_mem_replicate hv']; rfl)
  simp only [Nat.add_zero] at hst
  obtain ⟨m, rfl⟩ : ∃ m, n = m + 1 := ⟨n - 1, by omega⟩
  simp [Builtin.clear_, run_underlying Tryz.underlying67, Tryz.zeroValue42, hzc, hst]

set_option maxHeartbeats 3200000 in
theorem compact_any (g cap : Nat) (xs : List (Int × Int)) (w : World) (hr : RowC w g xs.length (nthR xs)) (hc : xs.length ≤ cap ∧ cap ≤ maxLen) (hm : xs.length ≤ 1099511627776) :
    Calls Tryz.prog 57 #[.slice (some ⟨g, 0, none⟩) xs.length cap] w fun e w' => e = .returned (.slice (some ⟨g, 0, none⟩) (cmpL xs).length cap) ∧ RowC w' g (cmpL xs).length (nthR (cmpL xs)) ∧ (∀ c, ShapeC w g c → ShapeC w' g c) ∧ Upon g w w' := by
  have hwhole : cmpL xs = xs → (cmpL xs).length = xs.length ∧ RowC w g (cmpL xs).length (nthR (cmpL xs)) := fun h => by rw [h]; exact ⟨rfl, hr⟩
  have h2 : xs.length < 2 → cmpL xs = xs := fun h => by
    rcases xs with _ | ⟨a, _ | ⟨b, t⟩⟩
    · rfl
    · exact cmpL_one a
    · simp only [List.length_cons] at h; omega
  have ht1 : 1 ≤ xs.length → cmpL (xs.take 1) = xs.take 1 := fun h => by
    rcases xs with _ | ⟨a, t⟩
    · simp at h
    · simp [cmpL_one]
  have htn : xs.take xs.length = xs := List.take_length
  have hsn := fun k h => cmpL_take (xs := xs) (k := k) h
  have htk := fun k (h : k < xs.length) => take_nthR (xs := xs) (k := k) h
  have hln : ∀ k, k ≤ xs.length → (xs.take k).length = k := fun k h => by simp; omega
  obtain ⟨n, hn⟩ : ∃ n, xs.length = n := ⟨_, rfl⟩
  simp only [hn] at hr hc hm hwhole h2 ht1 htn hsn htk hln ⊢
  have hr' := Lib.hid hr
  have hwhole' := Lib.hid hwhole
  have h2' := Lib.hid h2
  have ht1' := Lib.hid ht1
  have htn' := Lib.hid htn
  have hsn' := Lib.hid hsn
  have htk' := Lib.hid htk
  have hln' := Lib.hid hln
  have hn' := Lib.hid hn
  clear hr hwhole h2 ht1 htn hsn htk hln hn
  by_cases hn2 : n < 2
  · go_enter Tryz.func57, Tryz.ntmps57
    have h3 : (n : Int) < 2 := by omega
    go_wp2
    go_ret
    obtain ⟨z1, z2⟩ := hwhole'.out (h2'.out hn2)
    exact ⟨by rw [z1]; rfl, z2, fun _ h => h, Upon.refl _ _⟩
  have h3 : ¬ (n : Int) < 2 := by omega
  go_enter Tryz.func57, Tryz.ntmps57
  go_wp2_with fail
  go_loopw [3] (fun i wr => ∃ k : Nat, 0 < k ∧ k ≤ n ∧ i = .int .i64 k ∧ cmpL (xs.take k) = xs.take k ∧ ∃ q, wr = w.drewN q) (fun i _ => n - (intOf i).toNat)
  case atStart => exact ⟨1, by omega, by omega, rfl, ht1'.out (by omega), 0, rfl⟩
  case round =>
    obtain ⟨k, hk0, hk, rfl, hcm, q, rfl⟩ := hrel
    by_cases hlt : k < n
    · obtain ⟨j, hj⟩ : ∃ j, j + 1 = k := ⟨k - 1, by omega⟩
      have g1 : IntKind.i64.wrap ((k : Int) - 1) = (j : Int) := by rw [IntKind.wrap_i64]; omega
      have g2 : (0 : Int) ≤ (k : Int) := by omega
      have g3 : (k : Int) < (n : Int) := by omega
      have g4 : (j : Int) < (n : Int) := by omega
      have g5 : j < n := by omega
      obtain ⟨⟨c0, c1⟩, _⟩ := hr'.out k hlt
      obtain ⟨⟨d0, d1⟩, _⟩ := hr'.out j g5
      have hs := hsn'.out j (by omega)
      have hs2 := htk'.out k hlt
      rw [hj] at hs
      obtain ⟨x, hx⟩ : ∃ x, nthR xs k = x := ⟨_, rfl⟩
      obtain ⟨y, hy⟩ : ∃ y, nthR xs j = y := ⟨_, rfl⟩
      rw [hx] at c0 c1 hs hs2
      rw [hy] at d0 d1 hs
      obtain ⟨x1, x2⟩ := x
      obtain ⟨y1, y2⟩ := y
      simp only at c0 c1 d0 d1
      have hj' := Lib.hid hj
      have hs' := Lib.hid hs
      have hs2' := Lib.hid hs2
      have hx' := Lib.hid hx
      have hy' := Lib.hid hy
      have hcm' := Lib.hid hcm
      clear hj hs hs2 hx hy hcm
      by_cases heq : (y1, y2) = (x1, x2)
      · have hs3 := hs'.out
        rw [if_pos heq, List.append_nil, hcm'.out] at hs3
        obtain ⟨rfl, rfl⟩ := Prod.mk.inj heq
        clear heq hs'
        have hs3' := Lib.hid hs3
        clear hs3
        go_wp2_with fail
        go_quiet (fail)
        go_wp2_with fail
        have hB0 : Upon g w (w.drewN (q + nq)) := (Upon.refl _ _).drewN _
        have hR0 : RowC (w.drewN (q + nq)) g n (nthR xs) := hr'.out
        have hS0 : ∀ c, ShapeC w g c → ShapeC (w.drewN (q + nq)) g c := fun _ h => h
        obtain ⟨W, hW⟩ : ∃ W, w.drewN (q + nq) = W := ⟨_, rfl⟩
        rw [hW] at hB0 hR0 hS0 ⊢
        obtain ⟨m, hmk⟩ : ∃ m, n - k = m := ⟨_, rfl⟩
        obtain ⟨cm, hck⟩ : ∃ cm, cap - k = cm := ⟨_, rfl⟩
        rw [hmk, hck]
        have hm0 : 0 < m := by omega
        have hmk2 : k + m = n := by omega
        have hm9 : m ≤ 1099511627776 := by omega
        have hW' := Lib.hid hW
        have hmk' := Lib.hid hmk
        have hck' := Lib.hid hck
        have hB0' := Lib.hid hB0
        have hR0' := Lib.hid hR0
        have hS0' := Lib.hid hS0
        have hmk2' := Lib.hid hmk2
        clear hW hmk hck hB0 hR0 hS0 hmk2
        clear c0 c1 d0 d1
        go_loopw [3, 5] (fun a b wr => ∃ K J : Nat, 0 < J ∧ J ≤ m ∧ a = .int .i64 K ∧ b = .int .i64 J ∧ K + 1 ≤ k + J ∧ (cmpL (xs.take (k + J))).length = K ∧ RowC wr g n (fun i => if i < K then nthR (cmpL (xs.take (k + J))) i else nthR xs i) ∧ (∀ c, ShapeC w g c → ShapeC wr g c) ∧ Upon g w wr) (fun _ b _ => m - (intOf b).toNat)
        case atStart => exact ⟨k, 1, by omega, by omega, rfl, rfl, Nat.le_refl _, by rw [hs3'.out]; exact hln'.out k hk, hR0'.out.congr (fun i hi => by
          rw [hs3'.out]
          split
          · rename_i h; exact (nthR_take h).symm
          · rfl), hS0'.out, hB0'.out⟩
        case round =>
          obtain ⟨K, J, hJ0, hJm, rfl, rfl, hKJ, hKl, hR, hSw, hBw⟩ := hrel
          by_cases hJ : J < m
          · obtain ⟨j2, hj2⟩ : ∃ j, j + 1 = J := ⟨J - 1, by omega⟩
            have hmkk := hmk2'.out
            have b1 : IntKind.i64.wrap ((J : Int) - 1) = (j2 : Int) := by rw [IntKind.wrap_i64]; omega
            have b2 : (0 : Int) ≤ (J : Int) := by omega
            have b3 : (J : Int) < (m : Int) := by omega
            have b4 : (j2 : Int) < (m : Int) := by omega
            have b5 : j2 < m := by omega
            have b6 : (K : Int) < (n : Int) := by omega
            have b7 : K < n := by omega
            obtain ⟨⟨c0, c1⟩, _⟩ := hR (k + J) (by omega)
            obtain ⟨⟨d0, d1⟩, _⟩ := hR (k + j2) (by omega)
            obtain ⟨⟨e0, e1⟩, f0, f1⟩ := hR K b7
            simp only at c0 c1 d0 d1 e0 e1
            rw [if_neg (show ¬ k + J < K by omega)] at c0 c1
            rw [if_neg (show ¬ k + j2 < K by omega)] at d0 d1
            rw [if_neg (show ¬ K < K by omega)] at e0 e1
            have hs := hsn'.out (k + j2) (by omega)
            rw [show k + j2 + 1 = k + J by omega] at hs
            rw [show (k + J) * 2 = k * 2 + J * 2 by omega] at c0 c1
            rw [show (k + j2) * 2 = k * 2 + j2 * 2 by omega] at d0 d1
            obtain ⟨u, hu⟩ : ∃ x, nthR xs (k + J) = x := ⟨_, rfl⟩
            obtain ⟨v, hv⟩ : ∃ y, nthR xs (k + j2) = y := ⟨_, rfl⟩
            obtain ⟨o, ho⟩ : ∃ y, nthR xs K = y := ⟨_, rfl⟩
            rw [hu] at c0 c1 hs
            rw [hv] at d0 d1 hs
            rw [ho] at e0 e1
            obtain ⟨u1, u2⟩ := u
            obtain ⟨v1, v2⟩ := v
            obtain ⟨o1, o2⟩ := o
            simp only at c0 c1 d0 d1 e0 e1
            have hj2' := Lib.hid hj2
            have hmkk' := Lib.hid hmkk
            have hs' := Lib.hid hs
            have hu' := Lib.hid hu
            have hv' := Lib.hid hv
            have ho' := Lib.hid ho
            have hKl' := Lib.hid hKl
            have hR' := Lib.hid hR
            have hKJ' := Lib.hid hKJ
            have hSw' := Lib.hid hSw
            have hBw' := Lib.hid hBw
            clear hj2 hmkk hs hu hv ho hKl hR hKJ hSw hBw
            by_cases heq : (v1, v2) = (u1, u2)
            · have hs4 := hs'.out
              rw [if_pos heq, List.append_nil] at hs4
              obtain ⟨rfl, rfl⟩ := Prod.mk.inj heq
              clear heq hs'
              have hs4' := Lib.hid hs4
              clear hs4
              go_wp2_with fail
              go_quiet (fail)
              go_wp2_with fail
              go_roundw
              case rel =>
                exact ⟨K, J + 1, by omega, by omega, rfl, by go_num, by have := hKJ'.out; omega, by rw [show k + (J + 1) = k + J + 1 by omega, hs4'.out]; exact hKl'.out, (RowC.congr hR'.out (fun i hi => by rw [show k + (J + 1) = k + J + 1 by omega, hs4'.out])), hSw'.out, hBw'.out.drewN _⟩
              case measure => simp [intOf]; omega
            · have hs4 := hs'.out
              rw [if_neg heq] at hs4
              have hne : ¬ v1 = u1 ∨ v1 = u1 ∧ ¬ v2 = u2 := by
                by_cases h1 : v1 = u1
                · exact .inr ⟨h1, fun h2 => heq (by rw [h1, h2])⟩
                · exact .inl h1
              clear heq hs'
              have hR2 : RowC ((wr.drew.setCell ⟨g, K * 2, none⟩ (.int .i64 u1)).setCell ⟨g, K * 2 + 1, none⟩ (.int .i64 u2)) g n (fun i => if i < K + 1 then nthR (cmpL (xs.take (k + (J + 1)))) i else nthR xs i) := by
                refine (RowC.store (w := wr.drew) hR'.out b7 (u1, u2)).congr (fun i hi => ?_)
                rw [show k + (J + 1) = k + J + 1 by omega, hs4]
                by_cases e1 : i = K
                · subst e1
                  rw [if_pos rfl, if_pos (by omega), nthR, List.getElem?_append_right (by rw [hKl'.out]; exact Nat.le_refl _), hKl'.out, Nat.sub_self]
                  rfl
                · rw [if_neg e1]
                  by_cases e2 : i < K
                  · rw [if_pos e2, if_pos (by omega), nthR, nthR, List.getElem?_append_left (by rw [hKl'.out]; exact e2)]
                  · rw [if_neg e2, if_neg (by omega)]
              have hK2 : (cmpL (xs.take (k + (J + 1)))).length = K + 1 := by
                rw [show k + (J + 1) = k + J + 1 by omega, hs4, List.length_append, hKl'.out]; rfl
              have hs4' := Lib.hid hs4
              have hR2' := Lib.hid hR2
              have hK2' := Lib.hid hK2
              clear hs4 hR2 hK2
              rcases hne with hne | ⟨hna, hne⟩
              · have hne' : ¬ u1 = v1 := fun h => hne h.symm
                clear hne
                go_wp2_with fail
                go_quiet (fail)
                go_wp2_with fail
                go_roundw
                case rel =>
                  exact ⟨K + 1, J + 1, by omega, by omega, by go_num, by go_num, by have := hKJ'.out; omega, hK2'.out, hR2'.out, fun c h => ((hSw'.out c h).setCell ⟨g, K * 2, none⟩ _).setCell ⟨g, K * 2 + 1, none⟩ _, ((hBw'.out.drewN _).setCell (K * 2) _).setCell (K * 2 + 1) _⟩
                case measure => simp [intOf]; omega
              · subst hna
                have hne' : ¬ u2 = v2 := fun h => hne h.symm
                clear hne
                go_wp2_with fail
                go_quiet (fail)
                go_wp2_with fail
                go_roundw
                case rel =>
                  exact ⟨K + 1, J + 1, by omega, by omega, by go_num, by go_num, by have := hKJ'.out; omega, hK2'.out, hR2'.out, fun c h => ((hSw'.out c h).setCell ⟨g, K * 2, none⟩ _).setCell ⟨g, K * 2 + 1, none⟩ _, ((hBw'.out.drewN _).setCell (K * 2) _).setCell (K * 2 + 1) _⟩
                case measure => simp [intOf]; omega
          · have hJm2 : J = m := by omega
            have hmkk := hmk2'.out
            have hall : k + J = n := by omega
            rw [hall, htn'.out] at hKl hR
            rw [hall] at hKJ
            have hcl : ∀ ty, (Builtin.clear_ #[67] ty #[.slice (some ⟨g, K * 2, none⟩) (n - K) (cap - K)]).run Tryz.prog wr = .ok (.tuple #[]) (wr.setCells g (K * 2) (List.replicate ((n - K) * 2) (.int .i64 0))) := fun ty =>
              run_clear_rats wr ty g (K * 2) (n - K) (cap - K) (by omega) (fun j hj => by
                obtain ⟨⟨c0, c1⟩, _⟩ := hR ((K * 2 + j) / 2) (by omega)
                rcases Nat.mod_two_eq_zero_or_one j with q | q
                · rw [show (K * 2 + j) / 2 * 2 = K * 2 + j by omega] at c0; rw [c0]; rfl
                · rw [show (K * 2 + j) / 2 * 2 + 1 = K * 2 + j by omega] at c1; rw [c1]; rfl) (fun j hj => by
                obtain ⟨_, f0, f1⟩ := hR ((K * 2 + j) / 2) (by omega)
                rcases Nat.mod_two_eq_zero_or_one j with q | q
                · rw [show (K * 2 + j) / 2 * 2 = K * 2 + j by omega] at f0; exact f0
                · rw [show (K * 2 + j) / 2 * 2 + 1 = K * 2 + j by omega] at f1; exact f1)
            have hR2 : RowC (wr.setCells g (K * 2) (List.replicate ((n - K) * 2) (.int .i64 0))) g K (nthR (cmpL xs)) := fun i hi => by
              obtain ⟨⟨c0, c1⟩, f0, f1⟩ := hR i (by omega)
              simp only [if_pos hi] at c0 c1
              refine ⟨⟨?_, ?_⟩, by rw [World.frozen?_setCells]; exact f0, by rw [World.frozen?_setCells]; exact f1⟩
              · rw [World.cell?_setCells_out _ _ _ _ _ (fun _ _ => .inl (by show i * 2 < K * 2; omega))]; exact c0
              · rw [World.cell?_setCells_out _ _ _ _ _ (fun _ _ => .inl (by show i * 2 + 1 < K * 2; omega))]; exact c1
            have hB2 : Upon g w (wr.setCells g (K * 2) (List.replicate ((n - K) * 2) (.int .i64 0))) := hBw.setCells _ _
            have hS2 : ∀ c, ShapeC w g c → ShapeC (wr.setCells g (K * 2) (List.replicate ((n - K) * 2) (.int .i64 0))) g c := fun c h => ShapeC.setCells _ _ _ (hSw c h)
            have x1 : K ≤ n := by omega
            have x2 : ¬ cap = K := by omega
            have x3 : K ≤ cap := by omega
            have x4 : ¬ J < m := hJ
            have x5 : ¬ (J : Int) < (m : Int) := by omega
            have hmkk' := Lib.hid hmkk
            have hall' := Lib.hid hall
            have hKl' := Lib.hid hKl
            have hR' := Lib.hid hR
            have hR2' := Lib.hid hR2
            have hB2' := Lib.hid hB2
            have hS2' := Lib.hid hS2
            have hJm2' := Lib.hid hJm2
            have hBw' := Lib.hid hBw
            have hSw' := Lib.hid hSw
            clear hmkk hall hKl hR hR2 hB2 hS2 hJm2 hBw hSw
            go_wp2
            go_ret
            exact ⟨by rw [hKl'.out]; rfl, by rw [hKl'.out]; exact hR2'.out, hS2'.out, hB2'.out⟩
      · have hne : ¬ y1 = x1 ∨ y1 = x1 ∧ ¬ y2 = x2 := by
          by_cases h1 : y1 = x1
          · exact .inr ⟨h1, fun h2 => heq (by rw [h1, h2])⟩
          · exact .inl h1
        have hs3 := hs'.out
        rw [if_neg heq, hcm'.out] at hs3
        have hs4 := hs3.trans hs2'.out.symm
        clear heq hs' hs3
        have hs4' := Lib.hid hs4
        clear hs4
        rcases hne with hne | ⟨hna, hne⟩
        · have hne' : ¬ x1 = y1 := fun h => hne h.symm
          clear hne
          go_wp2_with fail
          go_quiet (fail)
          go_wp2_with fail
          go_roundw
          case rel => exact ⟨k + 1, by omega, by omega, by go_num, hs4'.out, _, rfl⟩
          case measure => simp [intOf]; omega
        · subst hna
          have hne' : ¬ x2 = y2 := fun h => hne h.symm
          clear hne
          go_wp2_with fail
          go_quiet (fail)
          go_wp2_with fail
          go_roundw
          case rel => exact ⟨k + 1, by omega, by omega, by go_num, hs4'.out, _, rfl⟩
          case measure => simp [intOf]; omega
    · obtain rfl : k = n := by omega
      rw [htn'.out] at hcm
      have hcm' := Lib.hid hcm
      clear hcm
      go_wp2
      go_ret
      obtain ⟨z1, z2⟩ := hwhole'.out hcm'.out
      exact ⟨by rw [z1]; rfl, z2, fun _ h => h, (Upon.refl _ _).drewN _⟩

end Go.Proofs.YtjkgilenhoomoaaGreat

namespace Go.Proofs.YtjkgilenhoomoaaGreat
open Go.Shelf Go.RowKit

end Go.Proofs.YtjkgilenhoomoaaGreat

namespace Go.Proofs.YtjkgilenhoomoaaGreat
open Go.RowKit

theorem cmpL_len : ∀ l : List (Int × Int), (cmpL l).length ≤ l.length := by
  intro l
  induction l with
  | nil => exact Nat.le_refl _
  | cons a t ih =>
    cases t with
    | nil => rw [cmpL_one]; exact Nat.le_refl _
    | cons b s =>
      by_cases h : a = b
      · subst h; rw [cmpL_same]; simp only [List.length_cons] at ih ⊢; omega
      · rw [cmpL_new h]; simp only [List.length_cons] at ih ⊢; omega

theorem GrowR.ofOwn {w : World} {B E : Nat} {v : Value} {xs : List (Int × Int)} (h : OwnR w B E v xs) (hn : 0 < xs.length) : GrowR w B v xs := by
  rcases h with ⟨h0, _⟩ | ⟨g, cap, e, _, _, h3⟩
  · omega
  · exact h3
set_option maxHeartbeats 800000 in
theorem rising_row (B g cap : Nat) (xs : List (Int × Int)) (w : World) (hg : GrowR w B (.slice (some ⟨g, 0, none⟩) xs.length cap) xs) (hn : 0 < xs.length) (hgd : ∀ x ∈ xs, goodR x.1 x.2 = true) (hm : xs.length ≤ 1099511627776) :
    Calls Tryz.prog 38 #[.slice (some ⟨g, 0, none⟩) xs.length cap] w fun e w' => ∃ v', e = .returned v' ∧ (∃ ys : List (Int × Int), (∀ y, y ∈ ys ↔ y ∈ xs) ∧ (ys.Pairwise fun a b => qv a ≤ qv b) ∧ OwnR w' B w'.heap.size v' (cmpL ys) ∧ v' = .slice (some ⟨g, 0, none⟩) (cmpL ys).length cap) ∧ Upon g w w' := by
  obtain ⟨g', cap', e, hrow⟩ := GrowF.form hg hn
  obtain ⟨rfl, rfl⟩ : g = g' ∧ cap = cap' := by cases e; exact ⟨rfl, rfl⟩
  clear e
  obtain ⟨hc1, hc2⟩ : xs.length ≤ cap ∧ cap ≤ maxLen := by
    obtain ⟨_, _, e, h1, h2, _⟩ := hg.read.form
    cases e
    exact ⟨h1.1, h2⟩
  have hrc := RowC.of hrow
  have hsh := ShapeC.of hrow
  have hlt := hrow.lt
  have c1 := sorted_any g cap xs w hrc hgd hlt.2 hm
  obtain ⟨n, hn'⟩ : ∃ n, xs.length = n := ⟨_, rfl⟩
  rw [hn'] at c1 hc1 hm ⊢
  have c1' := Lib.hid c1
  have hsh' := Lib.hid hsh
  have hn'' := Lib.hid hn'
  have hrc' := Lib.hid hrc
  have hrow' := Lib.hid hrow
  have hg' := Lib.hid hg
  have hgd' := Lib.hid hgd
  clear c1 hsh hn' hrc hrow hg hgd
  go_enter Tryz.func38, Tryz.ntmps38
  go_wp2_with fail
  refine (c1'.out).mono ?_
  rintro e w1 ⟨rfl, ⟨ys, hl, hmem, hpw, hr1⟩, hs1, hB1⟩
  rw [← hl] at hr1 hc1 hm
  have c2 := compact_any g cap ys w1 hr1 ⟨hc1, hc2⟩ hm
  rw [hl] at c2
  have c2' := Lib.hid c2
  have hs1' := Lib.hid hs1
  have hB1' := Lib.hid hB1
  have hr1' := Lib.hid hr1
  have hmem' := Lib.hid hmem
  have hpw' := Lib.hid hpw
  have hl' := Lib.hid hl
  clear c2 hs1 hB1 hr1 hmem hpw hl
  go_wp2_with fail
  refine (c2'.out).mono ?_
  rintro e w2 ⟨rfl, hr2, hs2, hB2⟩
  have hcl : (cmpL ys).length ≤ ys.length := cmpL_len ys
  have hown := own_of hr2 (hs2 cap (hs1'.out cap hsh'.out)) hlt.1 ⟨by omega, hc2⟩
  have hb := hB1'.out.trans hB2
  have hown' := Lib.hid hown
  have hs2' := Lib.hid hs2
  have hB2' := Lib.hid hB2
  have hr2' := Lib.hid hr2
  have hcl' := Lib.hid hcl
  have hb' := Lib.hid hb
  clear hown hs2 hB2 hr2 hcl hb
  go_wp2
  go_ret
  exact ⟨_, rfl, ⟨ys, hmem'.out, hpw'.out, hown'.out, rfl⟩, hb'.out⟩
theorem rising_any (B : Nat) (v : Value) (xs : List (Int × Int)) (w : World) (hg : GrowR w B v xs) (hn : 0 < xs.length) (hgd : ∀ x ∈ xs, goodR x.1 x.2 = true) (hm : xs.length ≤ 1099511627776) :
    Calls Tryz.prog 38 #[v] w fun e w' => ∃ v', e = .returned v' ∧ (∃ ys : List (Int × Int), (∀ y, y ∈ ys ↔ y ∈ xs) ∧ (ys.Pairwise fun a b => qv a ≤ qv b) ∧ OwnR w' B w'.heap.size v' (cmpL ys)) ∧ Below B w w' := by
  obtain ⟨g, cap, rfl, hrow⟩ := GrowF.form hg hn
  have hlt := hrow.lt
  refine (rising_row B g cap xs w hg hn hgd hm).mono ?_
  rintro e w' ⟨v', h1, ⟨ys, h2, h4, h5, _⟩, h3⟩
  exact ⟨v', h1, ⟨ys, h2, h4, h5⟩, h3.below hlt.1 hlt.2⟩
end Go.Proofs.YtjkgilenhoomoaaGreat

namespace Go.Proofs.YtjkgilenhoomoaaGreat
open Go.RowKit

/-- A literal of one fraction is a slice of one's own. -/
theorem GrowR.put1 {w : World} {B : Nat} {p q : Int} (hB : B ≤ w.heap.size) : GrowR (w.alloc (.cells #[.int .i64 p, .int .i64 q] 42)) B (.slice (some ⟨w.heap.size, 0, none⟩) 1 1) [(p, q)] :=
  ⟨rfl, .inr ⟨w.heap.size, 1, #[.int .i64 p, .int .i64 q], rfl, hB, heap_alloc_new _ _, Nat.le_refl _, by simp [maxLen], rfl, rfl⟩⟩
/-- A literal of two fractions. -/
theorem GrowR.put2 {w : World} {B : Nat} {p q p' q' : Int} (hB : B ≤ w.heap.size) : GrowR (w.alloc (.cells #[.int .i64 p, .int .i64 q, .int .i64 p', .int .i64 q'] 42)) B (.slice (some ⟨w.heap.size, 0, none⟩) 2 2) [(p, q), (p', q')] :=
  ⟨rfl, .inr ⟨w.heap.size, 2, #[.int .i64 p, .int .i64 q, .int .i64 p', .int .i64 q'], rfl, hB, heap_alloc_new _ _, Nat.le_refl _, by simp [maxLen], rfl, rfl⟩⟩
/-- imPut at a slice of one's own that is not empty. -/
theorem imPut_own (B : Nat) (v : Value) (xs : List (Int × Int)) (x : Int × Int) (w : World) (hg : GrowR w B v xs) (h0 : 0 < xs.length) (hB : B ≤ w.heap.size) (hm : xs.length ≤ 1099511627776) (hx : BdR x.1 x.2) (hb : ∀ i, i < xs.length → BdR (nthR xs i).1 (nthR xs i).2) :
    Calls Tryz.prog 30 #[v, .agg #[.int .i64 x.1, .int .i64 x.2]] w fun e w' => ∃ v', e = .returned v' ∧ GrowR w' B v' (putR xs x) ∧ Below w.heap.size w w' := by
  obtain ⟨g, gc, rfl, hrow⟩ := GrowF.form hg h0
  refine (imPut_some g 0 gc xs x w hg.read hm hx hb).mono ?_
  rintro e w' ⟨v', rfl, h, hBl⟩
  refine ⟨v', rfl, ?_, hBl⟩
  rcases h with ⟨rfl, he⟩ | h
  · rw [he]; exact hg.below hBl
  · exact h.mono hB
end Go.Proofs.YtjkgilenhoomoaaGreat

namespace Go.Proofs.YtjkgilenhoomoaaGreat
open Go.Shelf Go.RowKit

theorem sortFunc_nil (fv : Value) (w : World) :
    Calls Tryz.prog 56 #[.slice none 0 0, fv] w fun e w' => e = .returned (.tuple #[]) ∧ w' = w :=
  AnyF.slices_SortFunc_none sortR none 0 fv w
theorem compact_nil (w : World) :
    Calls Tryz.prog 57 #[.slice none 0 0] w (Ret (.slice none 0 0) w) := by
  go_enter Tryz.func57, Tryz.ntmps57
  go_wp2
  go_ret
  exact ⟨rfl, Below.refl _ _⟩
theorem rising_nil (w : World) :
    Calls Tryz.prog 38 #[.slice none 0 0] w (Ret (.slice none 0 0) w) := by
  have c1 := fun fv w => sortFunc_nil fv w
  have c2 := fun w => compact_nil w
  have c1' := Lib.hid c1
  have c2' := Lib.hid c2
  clear c1 c2
  go_enter Tryz.func38, Tryz.ntmps38
  go_wp2_with fail
  refine (c1'.out _ _).mono ?_
  rintro e w1 ⟨rfl, rfl⟩
  go_wp2_with fail
  refine (c2'.out _).mono ?_
  rintro e w2 ⟨rfl, hB2⟩
  go_wp2
  go_ret
  exact ⟨rfl, hB2⟩
/-- An append of nothing. -/
theorem wp_append_rats0 {o : Oper} {a : Act} {w : World} {KK : Act → World → Prop} {Q : Exit → Act → World → Prop} (s x : Operand)
    (ho : o.op = .call { callee := .builtin .append, args := #[s, x], argTypes := #[67, 67] }) (B : Nat) (v : Value) (xs : List (Int × Int)) (hs : a.eval s = v)
    (hx : a.eval x = .slice none 0 0) (hown : GrowR w B v xs) (h : KK (a.put o.dst v) w) : o.wp Tryz.prog a w KK Q := by
  obtain ⟨i, hi, hz0, hz1, hz2⟩ := info_parts Tryz.infoRat
  have hrun := run_append_owned_none (P := Tryz.prog) (w := w) B 67 o.type 42 i 2 Tryz.underlying67 hi v xs.length _ hown
  unfold Oper.wp
  simp [execOp, ho, resolve, invoke, builtin, hs, hx, hrun, Result.andThen]
  exact h
set_option linter.unusedSimpArgs false in
set_option maxHeartbeats 1600000 in
theorem imPut_nil (x : Int × Int) (w : World) :
    Calls Tryz.prog 30 #[.slice none 0 0, .agg #[.int .i64 x.1, .int .i64 x.2]] w fun e w' => ∃ v', e = .returned v' ∧ GrowR w' w.heap.size v' [x] ∧ Below w.heap.size w w' := by
  obtain ⟨p, q⟩ := x
  obtain ⟨w0, hw0⟩ : ∃ W, w.alloc (.cells #[.int .i64 p, .int .i64 q] 42) = W := ⟨_, rfl⟩
  have hB0 : Below w.heap.size w w0 := by rw [← hw0]; exact (Below.refl _ _).alloc (Nat.le_refl _) _
  have hx0 : w0.cell? ⟨w.heap.size, 0, none⟩ = some (.int .i64 p) := by rw [← hw0]; simp [go_sem]
  have hx1 : w0.cell? ⟨w.heap.size, 1, none⟩ = some (.int .i64 q) := by rw [← hw0]; simp [go_sem]
  have hw0' := Lib.hid hw0
  clear hw0
  show Calls _ _ #[_, .agg #[.int .i64 p, .int .i64 q]] w _
  go_enter Tryz.func30, Tryz.ntmps30
  go_wp2_with fail
  rw [hw0'.out]
  go_loopw [5] (fun i wr => i = .int .i64 0 ∧ Below w0.heap.size w0 wr) (fun _ _ => 0)
  case atStart => exact ⟨rfl, Below.refl _ _⟩
  case round =>
    obtain ⟨rfl, hB⟩ := hrel
    have u0 := bkeep hB hx0
    have u1 := bkeep hB hx1
    have hb9 := hB0.trans (hB.mono hB0.size)
    have hd : Below wr.heap.size wr wr.drew := (Below.refl _ _).drew
    have at' : ∀ w' : World, Below wr.heap.size wr w' → (w'.cell? ⟨w.heap.size, 0, none⟩ = some (.int .i64 p) ∧ w'.cell? ⟨w.heap.size, 1, none⟩ = some (.int .i64 q)) :=
      fun w' h => ⟨bkeep h u0, bkeep h u1⟩
    have at'' := Lib.hid at'
    clear at'
    go_wp2_with fail
    refine wp_region_held_drew (S := (fun w' => w'.cell? ⟨w.heap.size, 0, none⟩ = some (.int .i64 p) ∧ w'.cell? ⟨w.heap.size, 1, none⟩ = some (.int .i64 q))) (by kernel_rfl) (by (try dsimp only); exact at''.out _ hd) (fun hHeld => ?_)
    refine ly_q 0 (v := ?_) hHeld ?_
    try simp only [Act.put, lyA, lyB, lyC]
    refine ly_q 1 (v := ?_) hHeld ?_
    try simp only [Act.put, lyA, lyB, lyC]
    refine ly_q 2 (v := ?_) hHeld ?_
    try simp only [Act.put, lyA, lyB, lyC]
    refine ly_q 3 (v := .bool false) (hy := by intro wS hSw; (try dsimp only at hSw); go_simp; all_goals (simp)) hHeld ?_
    try simp only [Act.put, lyA, lyB, lyC]
    refine ly_q 4 (v := ?_) hHeld ?_
    try simp only [Act.put, lyA, lyB, lyC]
    refine ly_off 5 hHeld ?_
    try simp only [Act.put, lyA, lyB, lyC]
    refine ly_off 6 hHeld ?_
    try simp only [Act.put, lyA, lyB, lyC]
    refine ly_off 7 hHeld ?_
    try simp only [Act.put, lyA, lyB, lyC]
    refine ly_off 8 hHeld ?_
    try simp only [Act.put, lyA, lyB, lyC]
    refine ly_off 9 hHeld ?_
    try simp only [Act.put, lyA, lyB, lyC]
    refine ly_off 10 hHeld ?_
    try simp only [Act.put, lyA, lyB, lyC]
    refine ly_off 11 hHeld ?_
    try simp only [Act.put, lyA, lyB, lyC]
    refine ly_q 12 (v := ?_) hHeld ?_
    try simp only [Act.put, lyA, lyB, lyC]
    refine wpAnyH_done (by kernel_rfl) ?_ _
    clear hd hHeld
    go_wp2_with fail
    go_quiet (fail)
    go_wp2_with fail
    have hbW : Below w.heap.size w (wr.drew.drewN nq) := below_drewN hb9.drew _
    have y0 : (wr.drew.drewN nq).cell? ⟨w.heap.size, 0, none⟩ = some (.int .i64 p) := u0
    have y1 : (wr.drew.drewN nq).cell? ⟨w.heap.size, 1, none⟩ = some (.int .i64 q) := u1
    obtain ⟨W5, hW5⟩ : ∃ W, wr.drew.drewN nq = W := ⟨_, rfl⟩
    rw [hW5] at hbW y0 y1 ⊢
    have ta := fun (w' : World) (h : Below W5.heap.size W5 w') => And.intro (bkeep h y0) (bkeep h y1)
    have hd : Below W5.heap.size W5 W5.drew := (Below.refl _ _).drew
    have ta' := Lib.hid ta
    have hW5' := Lib.hid hW5
    have y0' := Lib.hid y0
    have y1' := Lib.hid y1
    clear ta hW5 y0 y1
    clear hW5' hb9 u0 u1 hx0 hx1
    refine wp_region_held_drew (S := (fun w' => w'.cell? ⟨w.heap.size, 0, none⟩ = some (.int .i64 p) ∧ w'.cell? ⟨w.heap.size, 1, none⟩ = some (.int .i64 q))) (by kernel_rfl) (by (try dsimp only); exact ta'.out _ hd) (fun hHeld => ?_)
    refine ly_q 1 (v := ?_) hHeld ?_
    try simp only [Act.put, lyA, lyB, lyC]
    refine ly_q 2 (v := ?_) hHeld ?_
    try simp only [Act.put, lyA, lyB, lyC]
    refine ly_q 3 (v := ?_) hHeld ?_
    try simp only [Act.put, lyA, lyB, lyC]
    refine ly_q 5 (v := ?_) hHeld ?_
    try simp only [Act.put, lyA, lyB, lyC]
    refine ly_q 8 (v := ?_) hHeld ?_
    try simp only [Act.put, lyA, lyB, lyC]
    refine ly_q 9 (v := ?_) hHeld ?_
    try simp only [Act.put, lyA, lyB, lyC]
    refine ly_q 10 (v := ?_) hHeld ?_
    try simp only [Act.put, lyA, lyB, lyC]
    refine wpAnyH_ready (rs := [0, 6]) (by kernel_rfl) (by simp) ?_
    refine AllReadyH.cons (o := Oper.mk _ _ _ _ _ _) rfl (fun KK hKK => ?_) (AllReadyH.cons (o := Oper.mk _ _ _ _ _ _) rfl (fun KK hKK => ?_) (AllReadyH.nil))
    · rw [if_pos (by kernel_rfl)]
      go_simp
      have hs := hd.size
      replace hd := hd.alloc hs (.cells #[] 42)
      have hg := GrowR.empty' hd hs
      (try simp [go_sem] at hg)
      (try replace hlit := rats_alloc hd hlit)
      try dsimp only
      refine hKK.out _ _ (by (try dsimp only); exact ta'.out _ hd) (fun hHeld => ?_)
      clear hKK KK
      try simp only [Act.put, lyA, lyB, lyC]
      refine wpAnyH_ready (rs := [4, 6]) (by kernel_rfl) (by simp) ?_
      refine AllReadyH.cons (o := Oper.mk _ _ _ _ _ _) rfl (fun KK hKK => ?_) (AllReadyH.cons (o := Oper.mk _ _ _ _ _ _) rfl (fun KK hKK => ?_) (AllReadyH.nil))
      · rw [if_pos (by kernel_rfl)]
        refine wp_append_rats0 _ _ rfl W5.heap.size _ [] rfl rfl hg ?_
        try dsimp only
        refine hKK.out _ _ (by (try dsimp only); exact ta'.out _ hd) (fun hHeld => ?_)
        clear hKK KK
        try simp only [Act.put, lyA, lyB, lyC]
        refine ly_a 6 (fun KK hKK => ?_)
        go_simp
        have hs := hd.size
        replace hd := hd.alloc hs (.cells #[.int .i64 p, .int .i64 q] 42)
        have hlit := ratsV_lit' hd
        (try simp [go_sem] at hlit)
        (try replace hg := grow_alloc hd hg)
        try dsimp only
        refine hKK.out _ _ (by (try dsimp only); exact ta'.out _ hd) (fun hHeld => ?_)
        clear hKK KK
        try simp only [Act.put, lyA, lyB, lyC]
        refine ly_a 7 (fun KK hKK => ?_)
        refine wp_append_rats _ _ rfl W5.heap.size _ _ _ _ [] [(p, q)] rfl rfl hg hlit (by simp) hd.size ?_
        intro v7 w7 hg7 hgr7
        replace hd := hg.belowB hd (Nat.le_refl _) hd.size hgr7
        replace hg := hg7
        clear hlit
        try dsimp only
        refine hKK.out _ _ (by (try dsimp only); exact ta'.out _ hd) (fun hHeld => ?_)
        clear hKK KK
        try simp only [Act.put, lyA, lyB, lyC]
        refine ly_a 11 (fun KK hKK => ?_)
        refine wp_append_rats0 _ _ rfl W5.heap.size _ ([] ++ [(p, q)]) rfl rfl hg ?_
        try dsimp only
        refine hKK.out _ _ (by (try dsimp only); exact ta'.out _ hd) (fun hHeld => ?_)
        clear hKK KK
        try simp only [Act.put, lyA, lyB, lyC]
        refine ly_q 12 (v := ?_) hHeld ?_
        try simp only [Act.put, lyA, lyB, lyC]
        refine wpAnyH_done (by kernel_rfl) ?_ _
        have hq := GrowR.mono hg hbW.size
        go_wp2
        go_ret
        exact ⟨_, rfl, hq, hbW.trans (hd.mono hbW.size)⟩
      · rw [if_pos (by kernel_rfl)]
        go_simp
        have hs := hd.size
        replace hd := hd.alloc hs (.cells #[.int .i64 p, .int .i64 q] 42)
        have hlit := ratsV_lit' hd
        (try simp [go_sem] at hlit)
        (try replace hg := grow_alloc hd hg)
        try dsimp only
        refine hKK.out _ _ (by (try dsimp only); exact ta'.out _ hd) (fun hHeld => ?_)
        clear hKK KK
        try simp only [Act.put, lyA, lyB, lyC]
        refine ly_a 4 (fun KK hKK => ?_)
        refine wp_append_rats0 _ _ rfl W5.heap.size _ [] rfl rfl hg ?_
        try dsimp only
        refine hKK.out _ _ (by (try dsimp only); exact ta'.out _ hd) (fun hHeld => ?_)
        clear hKK KK
        try simp only [Act.put, lyA, lyB, lyC]
        refine ly_a 7 (fun KK hKK => ?_)
        refine wp_append_rats _ _ rfl W5.heap.size _ _ _ _ [] [(p, q)] rfl rfl hg hlit (by simp) hd.size ?_
        intro v7 w7 hg7 hgr7
        replace hd := hg.belowB hd (Nat.le_refl _) hd.size hgr7
        replace hg := hg7
        clear hlit
        try dsimp only
        refine hKK.out _ _ (by (try dsimp only); exact ta'.out _ hd) (fun hHeld => ?_)
        clear hKK KK
        try simp only [Act.put, lyA, lyB, lyC]
        refine ly_a 11 (fun KK hKK => ?_)
        refine wp_append_rats0 _ _ rfl W5.heap.size _ ([] ++ [(p, q)]) rfl rfl hg ?_
        try dsimp only
        refine hKK.out _ _ (by (try dsimp only); exact ta'.out _ hd) (fun hHeld => ?_)
        clear hKK KK
        try simp only [Act.put, lyA, lyB, lyC]
        refine ly_q 12 (v := ?_) hHeld ?_
        try simp only [Act.put, lyA, lyB, lyC]
        refine wpAnyH_done (by kernel_rfl) ?_ _
        have hq := GrowR.mono hg hbW.size
        go_wp2
        go_ret
        exact ⟨_, rfl, hq, hbW.trans (hd.mono hbW.size)⟩
    · rw [if_pos (by kernel_rfl)]
      go_simp
      have hs := hd.size
      replace hd := hd.alloc hs (.cells #[.int .i64 p, .int .i64 q] 42)
      have hlit := ratsV_lit' hd
      (try simp [go_sem] at hlit)
      (try replace hg := grow_alloc hd hg)
      try dsimp only
      refine hKK.out _ _ (by (try dsimp only); exact ta'.out _ hd) (fun hHeld => ?_)
      clear hKK KK
      try simp only [Act.put, lyA, lyB, lyC]
      refine ly_a 0 (fun KK hKK => ?_)
      go_simp
      have hs := hd.size
      replace hd := hd.alloc hs (.cells #[] 42)
      have hg := GrowR.empty' hd hs
      (try simp [go_sem] at hg)
      (try replace hlit := rats_alloc hd hlit)
      try dsimp only
      refine hKK.out _ _ (by (try dsimp only); exact ta'.out _ hd) (fun hHeld => ?_)
      clear hKK KK
      try simp only [Act.put, lyA, lyB, lyC]
      refine ly_a 4 (fun KK hKK => ?_)
      refine wp_append_rats0 _ _ rfl W5.heap.size _ [] rfl rfl hg ?_
      try dsimp only
      refine hKK.out _ _ (by (try dsimp only); exact ta'.out _ hd) (fun hHeld => ?_)
      clear hKK KK
      try simp only [Act.put, lyA, lyB, lyC]
      refine ly_a 7 (fun KK hKK => ?_)
      refine wp_append_rats _ _ rfl W5.heap.size _ _ _ _ [] [(p, q)] rfl rfl hg hlit (by simp) hd.size ?_
      intro v7 w7 hg7 hgr7
      replace hd := hg.belowB hd (Nat.le_refl _) hd.size hgr7
      replace hg := hg7
      clear hlit
      try dsimp only
      refine hKK.out _ _ (by (try dsimp only); exact ta'.out _ hd) (fun hHeld => ?_)
      clear hKK KK
      try simp only [Act.put, lyA, lyB, lyC]
      refine ly_a 11 (fun KK hKK => ?_)
      refine wp_append_rats0 _ _ rfl W5.heap.size _ ([] ++ [(p, q)]) rfl rfl hg ?_
      try dsimp only
      refine hKK.out _ _ (by (try dsimp only); exact ta'.out _ hd) (fun hHeld => ?_)
      clear hKK KK
      try simp only [Act.put, lyA, lyB, lyC]
      refine ly_q 12 (v := ?_) hHeld ?_
      try simp only [Act.put, lyA, lyB, lyC]
      refine wpAnyH_done (by kernel_rfl) ?_ _
      have hq := GrowR.mono hg hbW.size
      go_wp2
      go_ret
      exact ⟨_, rfl, hq, hbW.trans (hd.mono hbW.size)⟩
end Go.Proofs.YtjkgilenhoomoaaGreat

namespace Go.Proofs.YtjkgilenhoomoaaGreat
open Go.RowKit

/-- A list of one's own that is nil while it is empty. -/
def HasR (w : World) (B : Nat) (v : Value) (xs : List (Int × Int)) : Prop := (xs = [] → v = .slice none 0 0) ∧ GrowR w B v xs
theorem HasR.nil (w : World) (B : Nat) : HasR w B (.slice none 0 0) [] := ⟨fun _ => rfl, GrowR.nil _ _⟩
theorem HasR.below {w w' : World} {B : Nat} {v : Value} {xs : List (Int × Int)} (h : HasR w B v xs) (hB : Below w.heap.size w w') : HasR w' B v xs := ⟨h.1, h.2.below hB⟩
theorem HasR.mono {w : World} {B B' : Nat} {v : Value} {xs : List (Int × Int)} (h : HasR w B v xs) (hB : B' ≤ B) : HasR w B' v xs := ⟨h.1, h.2.mono hB⟩
/-- The same, as what a call returns. -/
def HasO (w : World) (B _E : Nat) (v : Value) (xs : List (Int × Int)) : Prop := HasR w B v xs
theorem putR_nil (x : Int × Int) : putR [] x = [x] := by unfold putR putN; simp
theorem putR_ne (l : List (Int × Int)) (x : Int × Int) : putR l x ≠ [] := by
  unfold putR
  split
  · rename_i h
    intro e
    rw [e] at h
    simp at h
  · simp
theorem imPut_has (B : Nat) (v : Value) (xs : List (Int × Int)) (x : Int × Int) (w : World) (hg : HasR w B v xs) (hB : B ≤ w.heap.size) (hm : xs.length ≤ 1099511627776) (hx : goodR x.1 x.2 = true) (hb : ∀ y, y ∈ xs → goodR y.1 y.2 = true) :
    Calls Tryz.prog 30 #[v, .agg #[.int .i64 x.1, .int .i64 x.2]] w fun e w' => ∃ v', e = .returned v' ∧ HasR w' B v' (putR xs x) ∧ Below w.heap.size w w' := by
  by_cases h0 : xs = []
  · obtain rfl := hg.1 h0
    subst h0
    refine (imPut_nil x w).mono ?_
    rintro e w' ⟨v', rfl, h1, h2⟩
    exact ⟨v', rfl, ⟨fun e => absurd e (putR_ne _ _), by rw [putR_nil]; exact h1.mono hB⟩, h2⟩
  · refine (imPut_own B v xs x w hg.2 (List.length_pos_iff.2 h0) hB hm (goodR_bd hx) (fun i hi => goodR_bd (hb _ (by rw [nthR_eq hi]; exact List.getElem_mem hi)))).mono ?_
    rintro e w' ⟨v', rfl, h1, h2⟩
    exact ⟨v', rfl, ⟨fun e => absurd e (putR_ne _ _), h1⟩, h2⟩
end Go.Proofs.YtjkgilenhoomoaaGreat

namespace Go.Proofs.YtjkgilenhoomoaaGreat
open Go.RowKit

theorem rising_has (B : Nat) (v : Value) (xs RES : List (Int × Int)) (w : World) (hg : HasR w B v xs) (hgd : ∀ x, x ∈ xs → goodR x.1 x.2 = true) (hm : xs.length ≤ 1099511627776) (hr : ∀ ys : List (Int × Int), (ys.Pairwise fun a b => qv a ≤ qv b) → (∀ x, x ∈ ys ↔ x ∈ xs) → cmpL ys = RES) :
    Calls Tryz.prog 38 #[v] w fun e w' => ∃ v', e = .returned v' ∧ HasR w' B v' RES ∧ ∃ r, w.grownBy w' r ∧ ∀ j, r = some j → B ≤ j := by
  by_cases h0 : xs = []
  · obtain rfl := hg.1 h0
    have hR : RES = [] := by
      rw [← hr [] List.Pairwise.nil (fun x => by rw [h0])]
      rfl
    refine (rising_nil w).mono ?_
    rintro e w' ⟨rfl, hB⟩
    exact ⟨_, rfl, by rw [hR]; exact HasR.nil _ _, none, bgrow hB none, fun j h => by cases h⟩
  · have hn0 : 0 < xs.length := List.length_pos_iff.2 h0
    obtain ⟨gg, gc, rfl, hrow⟩ := GrowF.form hg.2 hn0
    refine (rising_row B gg gc xs w hg.2 hn0 hgd hm).mono ?_
    rintro e w' ⟨v', rfl, ⟨ys, hmm, hp, ho, rfl⟩, hup⟩
    have hR := hr ys hp hmm
    have hne : 0 < (cmpL ys).length := by
      obtain ⟨x, hx⟩ := List.exists_mem_of_ne_nil _ h0
      exact List.length_pos_of_mem ((cmpL_mem ys x).2 ((hmm x).2 hx))
    have hgo := GrowR.ofOwn ho hne
    refine ⟨_, rfl, ⟨fun h => ?_, by rw [← hR]; exact hgo⟩, some gg, hup, fun j h => ?_⟩
    · rw [← hR] at h
      rw [h] at hne
      exact absurd hne (by decide)
    · rw [← Option.some.inj h]
      exact hrow.lt.1
end Go.Proofs.YtjkgilenhoomoaaGreat

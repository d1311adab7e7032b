/- The reference's imPut: a fraction put in its place. No conditions but small sizes. -/
import Derived.Test.YtnggopbehohjnaaGreatAppR
import Derived.Test.YtnggopbehohjnaaGreatMergeLaw
import Derived.Test.YtnggopbehohjnaaGreatPkD
namespace Go.Proofs.YtnggopbehohjnaaGreat
open Go.RowKit
set_option maxRecDepth 100000

theorem putN_lt {l : List (Int × Int)} {x : Int × Int} {k : Nat} (h : k < putN l x) : ltB (nthR l k).1 (nthR l k).2 x.1 x.2 = true := by
  have h1 := putN_le l x
  have hk : k < l.length := by omega
  refine putN_below (l := l) (x := x) _ ?_
  rw [nthR_eq hk]
  exact List.mem_take_iff_getElem.2 ⟨k, by omega, rfl⟩
theorem nthR_take {l : List (Int × Int)} {k i : Nat} (h : i < k) : nthR (l.take k) i = nthR l i := by
  unfold nthR; rw [List.getElem?_take_of_lt h]
theorem nthR_drop (l : List (Int × Int)) (k i : Nat) : nthR (l.drop k) i = nthR l (k + i) := by
  unfold nthR; rw [List.getElem?_drop]
/-- The head of a slice, its tail. -/
theorem RatsV.take {w : World} {b off n cap : Nat} {xs : List (Int × Int)} (h : RatsV w (.slice (some ⟨b, off, none⟩) n cap) xs) {k : Nat} (hk : k ≤ xs.length) : RatsV w (.slice (some ⟨b, off, none⟩) k cap) (xs.take k) := by
  obtain ⟨ao, c, e, h1, h2, H⟩ := h.form
  cases e
  have hl : (xs.take k).length = k := by simp; omega
  have := RatsV.mk (w := w) (ao := some ⟨b, off, none⟩) (cap := cap) (xs := xs.take k) ⟨by omega, fun e => by cases e⟩ h2 (fun i hi => by
    rw [nthR_take (by omega)]
    exact H i (by omega))
  rw [hl] at this
  exact this
theorem RatsV.drop {w : World} {b off n cap : Nat} {xs : List (Int × Int)} (h : RatsV w (.slice (some ⟨b, off, none⟩) n cap) xs) {k m c' o' : Nat} (hk : k ≤ xs.length) (hm : m = xs.length - k) (hc : m ≤ c' ∧ c' ≤ maxLen) (ho : k < xs.length → o' = off + k * 2) : RatsV w (.slice (some ⟨b, o', none⟩) m c') (xs.drop k) := by
  obtain ⟨ao, c, e, h1, h2, H⟩ := h.form
  cases e
  have hl : (xs.drop k).length = m := by simp; omega
  have := RatsV.mk (w := w) (ao := some ⟨b, o', none⟩) (cap := c') (xs := xs.drop k) ⟨by omega, fun e => by cases e⟩ hc.2 (fun i hi => by
    obtain ⟨b1, o1, e1, c0, c1⟩ := H (k + i) (by omega)
    cases e1
    rw [nthR_drop]
    refine ⟨b, o', rfl, ?_, ?_⟩
    · rw [ho (by omega), ← c0]; congr 2; omega
    · rw [ho (by omega), ← c1]; congr 2; omega)
  rw [hl] at this
  exact this

theorem GrowR.mono {w : World} {B B' : Nat} {v : Value} {xs : List (Int × Int)} (h : GrowR w B v xs) (hB : B' ≤ B) : GrowR w B' v xs := World.ownsRow.mono h hB
theorem GrowR.empty {w : World} {B : Nat} (hB : B ≤ w.heap.size) : GrowR (w.alloc (.cells #[] 50)) B (.slice (some ⟨w.heap.size, 0, none⟩) 0 0) [] := by
  exact ⟨rfl, .inr ⟨w.heap.size, 0, #[], rfl, hB, heap_alloc_new _ _, Nat.le_refl _, Nat.zero_le _, rfl, rfl⟩⟩
theorem GrowR.empty' {E : Nat} {w0 w : World} {B : Nat} (_h : Below E w0 (w.alloc (.cells #[] 50))) (hB : B ≤ w.heap.size) : GrowR (w.alloc (.cells #[] 50)) B (.slice (some ⟨w.heap.size, 0, none⟩) 0 0) [] := GrowR.empty hB
theorem grow_alloc {E : Nat} {w0 w : World} {o : Obj} (_h : Below E w0 (w.alloc o)) {B : Nat} {v : Value} {xs : List (Int × Int)} (h : GrowR w B v xs) : GrowR (w.alloc o) B v xs := h.below ((Below.refl _ _).alloc (Nat.le_refl _) _)
theorem rats_alloc {E : Nat} {w0 w : World} {o : Obj} (_h : Below E w0 (w.alloc o)) {v : Value} {xs : List (Int × Int)} (h : RatsV w v xs) : RatsV (w.alloc o) v xs := h.below ((Below.refl _ _).alloc (Nat.le_refl _) _)
theorem rats_kept {w w' : World} {g off n cap : Nat} {xs : List (Int × Int)} {row : Option Nat} (h : RatsV w (.slice (some ⟨g, off, none⟩) n cap) xs) (hg : w.grownBy w' row) (hr : some g ≠ row) : RatsV w' (.slice (some ⟨g, off, none⟩) n cap) xs := by
  obtain ⟨ao, c, e, h1, h2, H⟩ := h
  cases e
  refine ⟨_, _, rfl, h1, h2, fun j hj => ?_⟩
  obtain ⟨b, o, e, hc⟩ := H j hj
  cases e
  exact ⟨_, _, rfl, hg.cell hc hr⟩
theorem ratsV_lit (w : World) (p q : Int) : RatsV (w.alloc (.cells #[.int .i64 p, .int .i64 q] 50)) (.slice (some ⟨w.heap.size, 0, none⟩) 1 1) [(p, q)] := by
  refine RatsV.mk (xs := [(p, q)]) ⟨Nat.le_refl _, fun e => by cases e⟩ (by simp [maxLen]) (fun i hi => ?_)
  obtain rfl : i = 0 := by simpa using hi
  exact ⟨_, _, rfl, by simp [go_sem, nthR], by simp [go_sem, nthR]⟩
theorem ratsV_lit' {E : Nat} {w0 w : World} {p q : Int} (_h : Below E w0 (w.alloc (.cells #[.int .i64 p, .int .i64 q] 50))) : RatsV (w.alloc (.cells #[.int .i64 p, .int .i64 q] 50)) (.slice (some ⟨w.heap.size, 0, none⟩) 1 1) [(p, q)] := ratsV_lit w p q
theorem wp_append_rats {o : Oper} {a : Act} {w : World} {KK : Act → World → Prop} {Q : Exit → Act → World → Prop} (s x : Operand)
    (ho : o.op = .call { callee := .builtin .append, args := #[s, x], argTypes := #[24, 24] }) (B : Nat) (v : Value) (ad : Addr) (m c : Nat) (xs ys : List (Int × Int)) (hs : a.eval s = v)
    (hx : a.eval x = .slice (some ad) m c) (hown : GrowR w B v xs) (hu : RatsV w (.slice (some ad) m c) ys) (hl : xs.length + ys.length ≤ 4398046511104) (hB : B ≤ w.heap.size)
    (h : ∀ v' w', GrowR w' B v' (xs ++ ys) → w.grownBy w' v.ownBlock → KK (a.put o.dst v') w') : o.wp Tryz.prog a w KK Q := by
  obtain ⟨i, hi, hz0, hz1, hz2⟩ := info_parts Tryz.infoRat
  obtain ⟨ao, cap, e, ⟨hcap, hnil⟩, _, H⟩ := hu
  cases e
  refine wp_append_own _ s x 24 ho B 50 i (.agg #[.int .i64 0, .int .i64 0]) 2 16 Tryz.underlying24 hi hz0 hz1 hz2 rfl (by decide) v xs.length _ hs hown ad ys.length c ((flR ys).map (Value.int .i64)) hx (by simp [flR_len]) ?_ ?_ (by unfold maxLen; omega) (by omega) hB ?_
  · intro j z hj
    have hj' : j < (flR ys).length := by
      have := (List.getElem?_eq_some_iff.1 hj).1
      simpa using this
    obtain ⟨b, off, e, hc⟩ := H j (by rw [flR_len] at hj'; exact hj')
    cases e
    rw [Addr.add_lit, hc]
    rw [List.getElem?_map, List.getElem?_eq_getElem hj'] at hj
    rw [nth_eq hj']; exact hj
  · intro z hz
    obtain ⟨_, _, rfl⟩ := List.mem_map.1 hz
    rfl
  · intro v' w' h1 h2 _
    refine h v' w' ?_ h2
    unfold GrowR GrowF
    rw [flR_append, List.map_append, List.length_append]; exact h1

set_option linter.unusedSimpArgs false in
set_option maxHeartbeats 1600000 in
theorem imPut_some (b off cap : Nat) (xs : List (Int × Int)) (x : Int × Int) (w : World) (hv : RatsV w (.slice (some ⟨b, off, none⟩) xs.length cap) xs) (hm : xs.length ≤ 1099511627776) (hx : BdR x.1 x.2) (hb : ∀ i, i < xs.length → BdR (nthR xs i).1 (nthR xs i).2) :
    Calls Tryz.prog 113 #[.slice (some ⟨b, off, none⟩) xs.length cap, .agg #[.int .i64 x.1, .int .i64 x.2]] w fun e w' => ∃ v', e = .returned v' ∧ (v' = .slice (some ⟨b, off, none⟩) xs.length cap ∧ putR xs x = xs ∨ GrowR w' w.heap.size v' (putR xs x)) ∧ Below w.heap.size w w' := by
  obtain ⟨_, _, e, hcc, hcap, H⟩ := hv.form
  cases e
  have hKn := putN_le xs x
  have hbl := fun k (h : k < putN xs x) => putN_lt h
  have hat := fun (h : putN xs x < xs.length) => putN_at h
  have hput : putR xs x = if nthR xs (putN xs x) = x ∧ putN xs x < xs.length then xs else xs.take (putN xs x) ++ x :: xs.drop (putN xs x) := rfl
  obtain ⟨P, hP⟩ : ∃ P, putR xs x = P := ⟨_, rfl⟩
  rw [hP] at hput ⊢
  obtain ⟨K, hK⟩ : ∃ K, putN xs x = K := ⟨_, rfl⟩
  rw [hK] at hKn hbl hat hput
  have htk := RatsV.take hv hKn
  have hdr := fun (m c' o' : Nat) => RatsV.drop hv (k := K) (m := m) (c' := c') (o' := o') hKn
  have htl : (xs.take K).length = K := by simp; omega
  have hdl : (xs.drop K).length = xs.length - K := by simp
  obtain ⟨XT, hXT⟩ : ∃ X, xs.take K = X := ⟨_, rfl⟩
  obtain ⟨XD, hXD⟩ : ∃ X, xs.drop K = X := ⟨_, rfl⟩
  rw [hXT] at htk htl hput
  rw [hXD] at hdl hput
  rw [hXD] at hdr
  have cl := fun (w' : World) k (h : k < xs.length) => raCmp_any (nthR xs k).1 (nthR xs k).2 x.1 x.2 w' (hb k h) hx
  have ce := fun k => cmpN_lt (nthR xs k).1 (nthR xs k).2 x.1 x.2
  obtain ⟨n, hn⟩ : ∃ n, xs.length = n := ⟨_, rfl⟩
  simp only [hn] at hv H hm hKn hat hput hdl hdr cl hcc ⊢
  clear hb
  obtain ⟨p, q⟩ := x
  simp only at cl hbl hat ce
  obtain ⟨w0, hw0⟩ : ∃ W, w.alloc (.cells #[.int .i64 p, .int .i64 q] 50) = W := ⟨_, rfl⟩
  have hB0 : Below w.heap.size w w0 := by rw [← hw0]; exact (Below.refl _ _).alloc (Nat.le_refl _) _
  have hx0 : w0.cell? ⟨w.heap.size, 0, none⟩ = some (.int .i64 p) := by rw [← hw0]; simp [go_sem]
  have hx1 : w0.cell? ⟨w.heap.size, 1, none⟩ = some (.int .i64 q) := by rw [← hw0]; simp [go_sem]
  have hbl' := Lib.hid hbl
  have hat' := Lib.hid hat
  have hput' := Lib.hid hput
  have cl' := Lib.hid cl
  have ce' := Lib.hid ce
  have hw0' := Lib.hid hw0
  have hv' := Lib.hid hv
  have H' := Lib.hid H
  have hn' := Lib.hid hn
  have htk' := Lib.hid htk
  have hdr' := Lib.hid hdr
  have htl' := Lib.hid htl
  have hdl' := Lib.hid hdl
  have hXT' := Lib.hid hXT
  have hXD' := Lib.hid hXD
  have hK' := Lib.hid hK
  have hP' := Lib.hid hP
  have hx' := Lib.hid hx
  have hcc' := Lib.hid hcc
  clear hbl hat hput cl ce hw0 hv H hn htk hdr htl hdl hXT hXD hK hP hx hcc
  show Calls _ _ #[_, .agg #[.int .i64 p, .int .i64 q]] w _
  go_enter Tryz.func113, Tryz.ntmps113
  go_wp2_with fail
  rw [hw0'.out]
  go_loopw [5] (fun i wr => ∃ k : Nat, k ≤ K ∧ i = .int .i64 k ∧ Below w0.heap.size w0 wr) (fun i _ => K - (intOf i).toNat)
  case atStart => exact ⟨0, Nat.zero_le _, rfl, Below.refl _ _⟩
  case round =>
    obtain ⟨k, hk, rfl, hB⟩ := hrel
    have g1 : (0 : Int) ≤ (k : Int) := by omega
    have u0 := bkeep hB hx0
    have u1 := bkeep hB hx1
    by_cases hkn : k < n
    · have g3 : (k : Int) < (n : Int) := by omega
      obtain ⟨_, _, e', d0, d1⟩ := H'.out k hkn
      cases e'
      replace d0 := bkeep hB (bkeep hB0 d0)
      replace d1 := bkeep hB (bkeep hB0 d1)
      have e1 := fun w' => cl'.out w' k hkn
      have f1 := ce'.out k
      have hbk := hbl'.out k
      have hak := hat'.out
      have hpk : k = K → nthR xs K = nthR xs k := fun e => by rw [e]
      rw [← f1] at hbk
      generalize cmpN (nthR xs k).1 (nthR xs k).2 p q = C1 at *
      obtain ⟨r, hr⟩ : ∃ r, nthR xs k = r := ⟨_, rfl⟩
      rw [hr] at d0 d1 e1 f1 hpk
      obtain ⟨a1, a2⟩ := r
      simp only at d0 d1 e1 f1
      have hd : Below wr.heap.size wr wr.drew := (Below.refl _ _).drew
      have at' : ∀ w' : World, Below wr.heap.size wr w' → (w'.cell? ⟨w.heap.size, 0, none⟩ = some (.int .i64 p) ∧ w'.cell? ⟨w.heap.size, 1, none⟩ = some (.int .i64 q)) ∧ w'.cell? ⟨b, off + k * 2, none⟩ = some (.int .i64 a1) ∧ w'.cell? ⟨b, off + k * 2 + 1, none⟩ = some (.int .i64 a2) :=
        fun w' h => ⟨⟨bkeep h u0, bkeep h u1⟩, bkeep h d0, bkeep h d1⟩
      clear d0 d1 u0 u1
      have e1' := Lib.hid e1
      have at'' := Lib.hid at'
      have hr' := Lib.hid hr
      have hak' := Lib.hid hak
      have f1' := Lib.hid f1
      clear e1 at' hr hak f1
      by_cases hkK : k < K
      · have hC1 : C1 < 0 := by simpa using hbk hkK
        clear hbk hpk
        go_wp2_with fail
        refine wp_region_held_drew (S := (fun w' => (w'.cell? ⟨w.heap.size, 0, none⟩ = some (.int .i64 p) ∧ w'.cell? ⟨w.heap.size, 1, none⟩ = some (.int .i64 q)) ∧ w'.cell? ⟨b, off + k * 2, none⟩ = some (.int .i64 a1) ∧ w'.cell? ⟨b, off + k * 2 + 1, none⟩ = some (.int .i64 a2))) (by kernel_rfl) (by (try dsimp only); (first | exact at''.out _ hd | exact at''.out _ hd5)) (fun hHeld => ?_)
        refine ly_q 0 (v := ?_) hHeld ?_
        try simp only [Act.put, lyA, lyB, lyC]
        refine ly_q 1 (v := ?_) hHeld ?_
        try simp only [Act.put, lyA, lyB, lyC]
        refine ly_q 2 (v := ?_) hHeld ?_
        try simp only [Act.put, lyA, lyB, lyC]
        refine ly_q 3 (v := ?_) hHeld ?_
        try simp only [Act.put, lyA, lyB, lyC]
        refine ly_q 4 (v := ?_) hHeld ?_
        try simp only [Act.put, lyA, lyB, lyC]
        refine ly_q 5 (v := ?_) hHeld ?_
        try simp only [Act.put, lyA, lyB, lyC]
        refine ly_q 6 (v := ?_) hHeld ?_
        try simp only [Act.put, lyA, lyB, lyC]
        refine ly_q 7 (v := ?_) hHeld ?_
        try simp only [Act.put, lyA, lyB, lyC]
        refine ly_q 8 (v := ?_) hHeld ?_
        try simp only [Act.put, lyA, lyB, lyC]
        refine ly_q 9 (v := ?_) hHeld ?_
        try simp only [Act.put, lyA, lyB, lyC]
        refine ly_a 10 (fun KK hKK => ?_)
        go_simp
        refine (e1'.out _).mono ?_
        rintro e w5 ⟨rfl, hB5⟩
        have hd5 := hd.trans (hB5.mono hd.size)
        try dsimp only
        refine hKK.out _ _ (by (try dsimp only); (first | exact at''.out _ hd | exact at''.out _ hd5)) (fun hHeld => ?_)
        clear hKK KK
        try simp only [Act.put, lyA, lyB, lyC]
        refine ly_q 11 (v := .bool true) (hy := by intro wS hSw; (try dsimp only at hSw); go_simp; all_goals (simp [hC1])) hHeld ?_
        try simp only [Act.put, lyA, lyB, lyC]
        refine ly_q 12 (v := ?_) hHeld ?_
        try simp only [Act.put, lyA, lyB, lyC]
        refine wpAnyH_done (by kernel_rfl) ?_ _
        have hb5 := hB.trans (hd5.mono hB.size)
        clear hHeld
        go_wp2
        go_roundw
        case rel => exact ⟨k + 1, by omega, by go_num, hb5⟩
        case measure => simp [intOf]; omega
      · obtain hkK2 : k = K := by omega
        have hC1 : ¬ C1 < 0 := by
          have h1 := hak'.out (by omega)
          have h2 := f1'.out
          rw [← hkK2, hr'.out] at h1
          simp only at h1
          rw [h1] at h2
          simpa using h2
        replace hpk := hpk hkK2
        subst hkK2
        clear hbk
        have hpx := hput'.out
        rw [hr'.out] at hpx
        by_cases heq : (a1, a2) = (p, q)
        · obtain ⟨rfl, rfl⟩ := Prod.mk.inj heq
          rw [if_pos ⟨rfl, hkn⟩] at hpx
          have hpx' := Lib.hid hpx
          have hpk' := Lib.hid hpk
          have heq' := Lib.hid heq
          clear hpx hpk heq
          go_wp2_with fail
          refine wp_region_held_drew (S := (fun w' => (w'.cell? ⟨w.heap.size, 0, none⟩ = some (.int .i64 a1) ∧ w'.cell? ⟨w.heap.size, 1, none⟩ = some (.int .i64 a2)) ∧ w'.cell? ⟨b, off + k * 2, none⟩ = some (.int .i64 a1) ∧ w'.cell? ⟨b, off + k * 2 + 1, none⟩ = some (.int .i64 a2))) (by kernel_rfl) (by (try dsimp only); (first | exact at''.out _ hd | exact at''.out _ hd5)) (fun hHeld => ?_)
          refine ly_q 0 (v := ?_) hHeld ?_
          try simp only [Act.put, lyA, lyB, lyC]
          refine ly_q 1 (v := ?_) hHeld ?_
          try simp only [Act.put, lyA, lyB, lyC]
          refine ly_q 2 (v := ?_) hHeld ?_
          try simp only [Act.put, lyA, lyB, lyC]
          refine ly_q 3 (v := ?_) hHeld ?_
          try simp only [Act.put, lyA, lyB, lyC]
          refine ly_q 4 (v := ?_) hHeld ?_
          try simp only [Act.put, lyA, lyB, lyC]
          refine ly_q 5 (v := ?_) hHeld ?_
          try simp only [Act.put, lyA, lyB, lyC]
          refine ly_q 6 (v := ?_) hHeld ?_
          try simp only [Act.put, lyA, lyB, lyC]
          refine ly_q 7 (v := ?_) hHeld ?_
          try simp only [Act.put, lyA, lyB, lyC]
          refine ly_q 8 (v := ?_) hHeld ?_
          try simp only [Act.put, lyA, lyB, lyC]
          refine ly_q 9 (v := ?_) hHeld ?_
          try simp only [Act.put, lyA, lyB, lyC]
          refine ly_a 10 (fun KK hKK => ?_)
          go_simp
          refine (e1'.out _).mono ?_
          rintro e w5 ⟨rfl, hB5⟩
          have hd5 := hd.trans (hB5.mono hd.size)
          try dsimp only
          refine hKK.out _ _ (by (try dsimp only); (first | exact at''.out _ hd | exact at''.out _ hd5)) (fun hHeld => ?_)
          clear hKK KK
          try simp only [Act.put, lyA, lyB, lyC]
          refine ly_q 11 (v := .bool false) (hy := by intro wS hSw; (try dsimp only at hSw); go_simp; all_goals (simp [hC1])) hHeld ?_
          try simp only [Act.put, lyA, lyB, lyC]
          refine ly_q 12 (v := ?_) hHeld ?_
          try simp only [Act.put, lyA, lyB, lyC]
          refine wpAnyH_done (by kernel_rfl) ?_ _
          have hb5 := hB0.trans ((hB.trans (hd5.mono hB.size)).mono hB0.size)
          obtain ⟨⟨z0, z1⟩, z2, z3⟩ := hHeld
          go_wp2_with fail
          go_quiet (fail)
          go_wp2
          go_ret
          have hb6 : Below w.heap.size w (w5.drewN nq) := below_drewN hb5 _
          exact ⟨_, rfl, .inl ⟨rfl, hpx'.out⟩, hb6⟩
        · rw [if_neg (fun h => heq h.1)] at hpx
          have hne : ¬ a1 = p ∨ a1 = p ∧ ¬ a2 = q := by
            by_cases h1 : a1 = p
            · exact .inr ⟨h1, fun h2 => heq (by rw [h1, h2])⟩
            · exact .inl h1
          have hpx' := Lib.hid hpx
          have hpk' := Lib.hid hpk
          have heq' := Lib.hid heq
          clear hpx hpk heq
          go_wp2_with fail
          refine wp_region_held_drew (S := (fun w' => (w'.cell? ⟨w.heap.size, 0, none⟩ = some (.int .i64 p) ∧ w'.cell? ⟨w.heap.size, 1, none⟩ = some (.int .i64 q)) ∧ w'.cell? ⟨b, off + k * 2, none⟩ = some (.int .i64 a1) ∧ w'.cell? ⟨b, off + k * 2 + 1, none⟩ = some (.int .i64 a2))) (by kernel_rfl) (by (try dsimp only); (first | exact at''.out _ hd | exact at''.out _ hd5)) (fun hHeld => ?_)
          refine ly_q 0 (v := ?_) hHeld ?_
          try simp only [Act.put, lyA, lyB, lyC]
          refine ly_q 1 (v := ?_) hHeld ?_
          try simp only [Act.put, lyA, lyB, lyC]
          refine ly_q 2 (v := ?_) hHeld ?_
          try simp only [Act.put, lyA, lyB, lyC]
          refine ly_q 3 (v := ?_) hHeld ?_
          try simp only [Act.put, lyA, lyB, lyC]
          refine ly_q 4 (v := ?_) hHeld ?_
          try simp only [Act.put, lyA, lyB, lyC]
          refine ly_q 5 (v := ?_) hHeld ?_
          try simp only [Act.put, lyA, lyB, lyC]
          refine ly_q 6 (v := ?_) hHeld ?_
          try simp only [Act.put, lyA, lyB, lyC]
          refine ly_q 7 (v := ?_) hHeld ?_
          try simp only [Act.put, lyA, lyB, lyC]
          refine ly_q 8 (v := ?_) hHeld ?_
          try simp only [Act.put, lyA, lyB, lyC]
          refine ly_q 9 (v := ?_) hHeld ?_
          try simp only [Act.put, lyA, lyB, lyC]
          refine ly_a 10 (fun KK hKK => ?_)
          go_simp
          refine (e1'.out _).mono ?_
          rintro e w5 ⟨rfl, hB5⟩
          have hd5 := hd.trans (hB5.mono hd.size)
          try dsimp only
          refine hKK.out _ _ (by (try dsimp only); (first | exact at''.out _ hd | exact at''.out _ hd5)) (fun hHeld => ?_)
          clear hKK KK
          try simp only [Act.put, lyA, lyB, lyC]
          refine ly_q 11 (v := .bool false) (hy := by intro wS hSw; (try dsimp only at hSw); go_simp; all_goals (simp [hC1])) hHeld ?_
          try simp only [Act.put, lyA, lyB, lyC]
          refine ly_q 12 (v := ?_) hHeld ?_
          try simp only [Act.put, lyA, lyB, lyC]
          refine wpAnyH_done (by kernel_rfl) ?_ _
          have hb5 := hB0.trans ((hB.trans (hd5.mono hB.size)).mono hB0.size)
          obtain ⟨⟨z0, z1⟩, z2, z3⟩ := hHeld
          have hd0 := hd
          clear hd
          rcases hne with hne | ⟨hap, hne⟩
          · go_wp2_with fail
            go_quiet (fail)
            go_wp2_with fail
            have hbW : Below w.heap.size w (w5.drewN nq) := below_drewN hb5 _
            have y0 : (w5.drewN nq).cell? ⟨w.heap.size, 0, none⟩ = some (.int .i64 p) := z0
            have y1 : (w5.drewN nq).cell? ⟨w.heap.size, 1, none⟩ = some (.int .i64 q) := z1
            obtain ⟨W5, hW5⟩ : ∃ W, w5.drewN nq = W := ⟨_, rfl⟩
            rw [hW5] at hbW y0 y1 ⊢
            have ta := fun (w' : World) (h : Below W5.heap.size W5 w') => And.intro (bkeep h y0) (bkeep h y1)
            have hd : Below W5.heap.size W5 W5.drew := (Below.refl _ _).drew
            have hck : ¬ cap = k := by have := hcc'.out.1; omega
            have hkc : k ≤ cap := by have := hcc'.out.1; omega
            have hnc : n ≤ cap := hcc'.out.1
            clear z0 z1 z2 z3 hHeld hB5 hd5 hb5 hC1 hd0
            have ta' := Lib.hid ta
            have hW5' := Lib.hid hW5
            have y0' := Lib.hid y0
            have y1' := Lib.hid y1
            have hcap' := Lib.hid hcap
            have hne' := Lib.hid hne
            clear ta hW5 y0 y1 hcap hne
            clear hW5'
            refine wp_region_held_drew (S := (fun w' => w'.cell? ⟨w.heap.size, 0, none⟩ = some (.int .i64 p) ∧ w'.cell? ⟨w.heap.size, 1, none⟩ = some (.int .i64 q))) (by kernel_rfl) (by (try dsimp only); exact ta'.out _ hd) (fun hHeld => ?_)
            refine ly_q 1 (v := ?_) hHeld ?_
            try simp only [Act.put, lyA, lyB, lyC]
            refine ly_q 2 (v := ?_) hHeld ?_
            try simp only [Act.put, lyA, lyB, lyC]
            refine ly_q 3 (v := ?_) hHeld ?_
            try simp only [Act.put, lyA, lyB, lyC]
            refine ly_q 5 (v := ?_) hHeld ?_
            try simp only [Act.put, lyA, lyB, lyC]
            refine ly_q 8 (v := ?_) hHeld ?_
            try simp only [Act.put, lyA, lyB, lyC]
            refine ly_q 9 (v := ?_) hHeld ?_
            try simp only [Act.put, lyA, lyB, lyC]
            refine ly_q 10 (v := ?_) hHeld ?_
            try simp only [Act.put, lyA, lyB, lyC]
            refine wpAnyH_ready (rs := [0, 6]) (by kernel_rfl) (by simp) ?_
            refine AllReadyH.cons (o := Oper.mk _ _ _ _ _ _) rfl (fun KK hKK => ?_) (AllReadyH.cons (o := Oper.mk _ _ _ _ _ _) rfl (fun KK hKK => ?_) (AllReadyH.nil))
            · rw [if_pos (by kernel_rfl)]
              go_simp
              have hs := hd.size
              replace hd := hd.alloc hs (.cells #[] 50)
              have hg := GrowR.empty' hd hs
              (try simp [go_sem] at hg)
              (try replace hlit := rats_alloc hd hlit)
              try dsimp only
              refine hKK.out _ _ (by (try dsimp only); exact ta'.out _ hd) (fun hHeld => ?_)
              clear hKK KK
              try simp only [Act.put, lyA, lyB, lyC]
              refine wpAnyH_ready (rs := [4, 6]) (by kernel_rfl) (by simp) ?_
              refine AllReadyH.cons (o := Oper.mk _ _ _ _ _ _) rfl (fun KK hKK => ?_) (AllReadyH.cons (o := Oper.mk _ _ _ _ _ _) rfl (fun KK hKK => ?_) (AllReadyH.nil))
              · rw [if_pos (by kernel_rfl)]
                refine wp_append_rats _ _ rfl W5.heap.size _ _ _ _ [] XT rfl rfl hg (htk'.out.below (hbW.trans (hd.mono hbW.size))) (by have h1 := htl'.out; rw [h1]; simp only [List.length_nil]; omega) hd.size ?_
                intro v4 w4 hg4 hgr4
                (try replace hlit := rats_kept hlit hgr4 (by change some _ ≠ some _; intro hh; have hh := Option.some.inj hh; first | omega | (simp [go_sem] at hh; done) | (simp [go_sem] at hh; omega)))
                replace hd := hg.belowB hd (Nat.le_refl _) hd.size hgr4
                replace hg := hg4
                try dsimp only
                refine hKK.out _ _ (by (try dsimp only); exact ta'.out _ hd) (fun hHeld => ?_)
                clear hKK KK
                try simp only [Act.put, lyA, lyB, lyC]
                refine ly_a 6 (fun KK hKK => ?_)
                go_simp
                have hs := hd.size
                replace hd := hd.alloc hs (.cells #[.int .i64 p, .int .i64 q] 50)
                have hlit := ratsV_lit' hd
                (try simp [go_sem] at hlit)
                (try replace hg := grow_alloc hd hg)
                try dsimp only
                refine hKK.out _ _ (by (try dsimp only); exact ta'.out _ hd) (fun hHeld => ?_)
                clear hKK KK
                try simp only [Act.put, lyA, lyB, lyC]
                refine ly_a 7 (fun KK hKK => ?_)
                refine wp_append_rats _ _ rfl W5.heap.size _ _ _ _ ([] ++ XT) [(p, q)] rfl rfl hg hlit (by have h1 := htl'.out; rw [List.nil_append, h1]; simp only [List.length_cons, List.length_nil]; omega) hd.size ?_
                intro v7 w7 hg7 hgr7
                replace hd := hg.belowB hd (Nat.le_refl _) hd.size hgr7
                replace hg := hg7
                clear hlit
                try dsimp only
                refine hKK.out _ _ (by (try dsimp only); exact ta'.out _ hd) (fun hHeld => ?_)
                clear hKK KK
                try simp only [Act.put, lyA, lyB, lyC]
                refine ly_a 11 (fun KK hKK => ?_)
                refine wp_append_rats _ _ rfl W5.heap.size _ _ _ _ ([] ++ XT ++ [(p, q)]) XD rfl rfl hg ((hdr'.out (n - k) _ _ rfl ⟨by omega, by have := hcap'.out; omega⟩ (fun _ => by omega)).below (hbW.trans (hd.mono hbW.size))) (by have h1 := htl'.out; have h2 := hdl'.out; rw [List.nil_append, List.length_append, h1, h2]; simp only [List.length_cons, List.length_nil]; omega) hd.size ?_
                intro v11 w11 hg11 hgr11
                replace hd := hg.belowB hd (Nat.le_refl _) hd.size hgr11
                replace hg := hg11
                try dsimp only
                refine hKK.out _ _ (by (try dsimp only); exact ta'.out _ hd) (fun hHeld => ?_)
                clear hKK KK
                try simp only [Act.put, lyA, lyB, lyC]
                refine ly_q 12 (v := ?_) hHeld ?_
                try simp only [Act.put, lyA, lyB, lyC]
                refine wpAnyH_done (by kernel_rfl) ?_ _
                have hq := GrowR.mono hg hbW.size
                rw [List.nil_append, List.append_assoc] at hq
                go_wp2
                go_ret
                exact ⟨_, rfl, .inr (by rw [hpx'.out]; exact hq), hbW.trans (hd.mono hbW.size)⟩
              · rw [if_pos (by kernel_rfl)]
                go_simp
                have hs := hd.size
                replace hd := hd.alloc hs (.cells #[.int .i64 p, .int .i64 q] 50)
                have hlit := ratsV_lit' hd
                (try simp [go_sem] at hlit)
                (try replace hg := grow_alloc hd hg)
                try dsimp only
                refine hKK.out _ _ (by (try dsimp only); exact ta'.out _ hd) (fun hHeld => ?_)
                clear hKK KK
                try simp only [Act.put, lyA, lyB, lyC]
                refine ly_a 4 (fun KK hKK => ?_)
                refine wp_append_rats _ _ rfl W5.heap.size _ _ _ _ [] XT rfl rfl hg (htk'.out.below (hbW.trans (hd.mono hbW.size))) (by have h1 := htl'.out; rw [h1]; simp only [List.length_nil]; omega) hd.size ?_
                intro v4 w4 hg4 hgr4
                (try replace hlit := rats_kept hlit hgr4 (by change some _ ≠ some _; intro hh; have hh := Option.some.inj hh; first | omega | (simp [go_sem] at hh; done) | (simp [go_sem] at hh; omega)))
                replace hd := hg.belowB hd (Nat.le_refl _) hd.size hgr4
                replace hg := hg4
                try dsimp only
                refine hKK.out _ _ (by (try dsimp only); exact ta'.out _ hd) (fun hHeld => ?_)
                clear hKK KK
                try simp only [Act.put, lyA, lyB, lyC]
                refine ly_a 7 (fun KK hKK => ?_)
                refine wp_append_rats _ _ rfl W5.heap.size _ _ _ _ ([] ++ XT) [(p, q)] rfl rfl hg hlit (by have h1 := htl'.out; rw [List.nil_append, h1]; simp only [List.length_cons, List.length_nil]; omega) hd.size ?_
                intro v7 w7 hg7 hgr7
                replace hd := hg.belowB hd (Nat.le_refl _) hd.size hgr7
                replace hg := hg7
                clear hlit
                try dsimp only
                refine hKK.out _ _ (by (try dsimp only); exact ta'.out _ hd) (fun hHeld => ?_)
                clear hKK KK
                try simp only [Act.put, lyA, lyB, lyC]
                refine ly_a 11 (fun KK hKK => ?_)
                refine wp_append_rats _ _ rfl W5.heap.size _ _ _ _ ([] ++ XT ++ [(p, q)]) XD rfl rfl hg ((hdr'.out (n - k) _ _ rfl ⟨by omega, by have := hcap'.out; omega⟩ (fun _ => by omega)).below (hbW.trans (hd.mono hbW.size))) (by have h1 := htl'.out; have h2 := hdl'.out; rw [List.nil_append, List.length_append, h1, h2]; simp only [List.length_cons, List.length_nil]; omega) hd.size ?_
                intro v11 w11 hg11 hgr11
                replace hd := hg.belowB hd (Nat.le_refl _) hd.size hgr11
                replace hg := hg11
                try dsimp only
                refine hKK.out _ _ (by (try dsimp only); exact ta'.out _ hd) (fun hHeld => ?_)
                clear hKK KK
                try simp only [Act.put, lyA, lyB, lyC]
                refine ly_q 12 (v := ?_) hHeld ?_
                try simp only [Act.put, lyA, lyB, lyC]
                refine wpAnyH_done (by kernel_rfl) ?_ _
                have hq := GrowR.mono hg hbW.size
                rw [List.nil_append, List.append_assoc] at hq
                go_wp2
                go_ret
                exact ⟨_, rfl, .inr (by rw [hpx'.out]; exact hq), hbW.trans (hd.mono hbW.size)⟩
            · rw [if_pos (by kernel_rfl)]
              go_simp
              have hs := hd.size
              replace hd := hd.alloc hs (.cells #[.int .i64 p, .int .i64 q] 50)
              have hlit := ratsV_lit' hd
              (try simp [go_sem] at hlit)
              (try replace hg := grow_alloc hd hg)
              try dsimp only
              refine hKK.out _ _ (by (try dsimp only); exact ta'.out _ hd) (fun hHeld => ?_)
              clear hKK KK
              try simp only [Act.put, lyA, lyB, lyC]
              refine ly_a 0 (fun KK hKK => ?_)
              go_simp
              have hs := hd.size
              replace hd := hd.alloc hs (.cells #[] 50)
              have hg := GrowR.empty' hd hs
              (try simp [go_sem] at hg)
              (try replace hlit := rats_alloc hd hlit)
              try dsimp only
              refine hKK.out _ _ (by (try dsimp only); exact ta'.out _ hd) (fun hHeld => ?_)
              clear hKK KK
              try simp only [Act.put, lyA, lyB, lyC]
              refine ly_a 4 (fun KK hKK => ?_)
              refine wp_append_rats _ _ rfl W5.heap.size _ _ _ _ [] XT rfl rfl hg (htk'.out.below (hbW.trans (hd.mono hbW.size))) (by have h1 := htl'.out; rw [h1]; simp only [List.length_nil]; omega) hd.size ?_
              intro v4 w4 hg4 hgr4
              (try replace hlit := rats_kept hlit hgr4 (by change some _ ≠ some _; intro hh; have hh := Option.some.inj hh; first | omega | (simp [go_sem] at hh; done) | (simp [go_sem] at hh; omega)))
              replace hd := hg.belowB hd (Nat.le_refl _) hd.size hgr4
              replace hg := hg4
              try dsimp only
              refine hKK.out _ _ (by (try dsimp only); exact ta'.out _ hd) (fun hHeld => ?_)
              clear hKK KK
              try simp only [Act.put, lyA, lyB, lyC]
              refine ly_a 7 (fun KK hKK => ?_)
              refine wp_append_rats _ _ rfl W5.heap.size _ _ _ _ ([] ++ XT) [(p, q)] rfl rfl hg hlit (by have h1 := htl'.out; rw [List.nil_append, h1]; simp only [List.length_cons, List.length_nil]; omega) hd.size ?_
              intro v7 w7 hg7 hgr7
              replace hd := hg.belowB hd (Nat.le_refl _) hd.size hgr7
              replace hg := hg7
              clear hlit
              try dsimp only
              refine hKK.out _ _ (by (try dsimp only); exact ta'.out _ hd) (fun hHeld => ?_)
              clear hKK KK
              try simp only [Act.put, lyA, lyB, lyC]
              refine ly_a 11 (fun KK hKK => ?_)
              refine wp_append_rats _ _ rfl W5.heap.size _ _ _ _ ([] ++ XT ++ [(p, q)]) XD rfl rfl hg ((hdr'.out (n - k) _ _ rfl ⟨by omega, by have := hcap'.out; omega⟩ (fun _ => by omega)).below (hbW.trans (hd.mono hbW.size))) (by have h1 := htl'.out; have h2 := hdl'.out; rw [List.nil_append, List.length_append, h1, h2]; simp only [List.length_cons, List.length_nil]; omega) hd.size ?_
              intro v11 w11 hg11 hgr11
              replace hd := hg.belowB hd (Nat.le_refl _) hd.size hgr11
              replace hg := hg11
              try dsimp only
              refine hKK.out _ _ (by (try dsimp only); exact ta'.out _ hd) (fun hHeld => ?_)
              clear hKK KK
              try simp only [Act.put, lyA, lyB, lyC]
              refine ly_q 12 (v := ?_) hHeld ?_
              try simp only [Act.put, lyA, lyB, lyC]
              refine wpAnyH_done (by kernel_rfl) ?_ _
              have hq := GrowR.mono hg hbW.size
              rw [List.nil_append, List.append_assoc] at hq
              go_wp2
              go_ret
              exact ⟨_, rfl, .inr (by rw [hpx'.out]; exact hq), hbW.trans (hd.mono hbW.size)⟩
          · obtain rfl := hap.symm
            go_wp2_with fail
            go_quiet (fail)
            go_wp2_with fail
            have hbW : Below w.heap.size w (w5.drewN nq) := below_drewN hb5 _
            have y0 : (w5.drewN nq).cell? ⟨w.heap.size, 0, none⟩ = some (.int .i64 p) := z0
            have y1 : (w5.drewN nq).cell? ⟨w.heap.size, 1, none⟩ = some (.int .i64 q) := z1
            obtain ⟨W5, hW5⟩ : ∃ W, w5.drewN nq = W := ⟨_, rfl⟩
            rw [hW5] at hbW y0 y1 ⊢
            have ta := fun (w' : World) (h : Below W5.heap.size W5 w') => And.intro (bkeep h y0) (bkeep h y1)
            have hd : Below W5.heap.size W5 W5.drew := (Below.refl _ _).drew
            have hck : ¬ cap = k := by have := hcc'.out.1; omega
            have hkc : k ≤ cap := by have := hcc'.out.1; omega
            have hnc : n ≤ cap := hcc'.out.1
            clear z0 z1 z2 z3 hHeld hB5 hd5 hb5 hC1 hd0
            have ta' := Lib.hid ta
            have hW5' := Lib.hid hW5
            have y0' := Lib.hid y0
            have y1' := Lib.hid y1
            have hcap' := Lib.hid hcap
            have hne' := Lib.hid hne
            clear ta hW5 y0 y1 hcap hne
            clear hW5'
            refine wp_region_held_drew (S := (fun w' => w'.cell? ⟨w.heap.size, 0, none⟩ = some (.int .i64 p) ∧ w'.cell? ⟨w.heap.size, 1, none⟩ = some (.int .i64 q))) (by kernel_rfl) (by (try dsimp only); exact ta'.out _ hd) (fun hHeld => ?_)
            refine ly_q 1 (v := ?_) hHeld ?_
            try simp only [Act.put, lyA, lyB, lyC]
            refine ly_q 2 (v := ?_) hHeld ?_
            try simp only [Act.put, lyA, lyB, lyC]
            refine ly_q 3 (v := ?_) hHeld ?_
            try simp only [Act.put, lyA, lyB, lyC]
            refine ly_q 5 (v := ?_) hHeld ?_
            try simp only [Act.put, lyA, lyB, lyC]
            refine ly_q 8 (v := ?_) hHeld ?_
            try simp only [Act.put, lyA, lyB, lyC]
            refine ly_q 9 (v := ?_) hHeld ?_
            try simp only [Act.put, lyA, lyB, lyC]
            refine ly_q 10 (v := ?_) hHeld ?_
            try simp only [Act.put, lyA, lyB, lyC]
            refine wpAnyH_ready (rs := [0, 6]) (by kernel_rfl) (by simp) ?_
            refine AllReadyH.cons (o := Oper.mk _ _ _ _ _ _) rfl (fun KK hKK => ?_) (AllReadyH.cons (o := Oper.mk _ _ _ _ _ _) rfl (fun KK hKK => ?_) (AllReadyH.nil))
            · rw [if_pos (by kernel_rfl)]
              go_simp
              have hs := hd.size
              replace hd := hd.alloc hs (.cells #[] 50)
              have hg := GrowR.empty' hd hs
              (try simp [go_sem] at hg)
              (try replace hlit := rats_alloc hd hlit)
              try dsimp only
              refine hKK.out _ _ (by (try dsimp only); exact ta'.out _ hd) (fun hHeld => ?_)
              clear hKK KK
              try simp only [Act.put, lyA, lyB, lyC]
              refine wpAnyH_ready (rs := [4, 6]) (by kernel_rfl) (by simp) ?_
              refine AllReadyH.cons (o := Oper.mk _ _ _ _ _ _) rfl (fun KK hKK => ?_) (AllReadyH.cons (o := Oper.mk _ _ _ _ _ _) rfl (fun KK hKK => ?_) (AllReadyH.nil))
              · rw [if_pos (by kernel_rfl)]
                refine wp_append_rats _ _ rfl W5.heap.size _ _ _ _ [] XT rfl rfl hg (htk'.out.below (hbW.trans (hd.mono hbW.size))) (by have h1 := htl'.out; rw [h1]; simp only [List.length_nil]; omega) hd.size ?_
                intro v4 w4 hg4 hgr4
                (try replace hlit := rats_kept hlit hgr4 (by change some _ ≠ some _; intro hh; have hh := Option.some.inj hh; first | omega | (simp [go_sem] at hh; done) | (simp [go_sem] at hh; omega)))
                replace hd := hg.belowB hd (Nat.le_refl _) hd.size hgr4
                replace hg := hg4
                try dsimp only
                refine hKK.out _ _ (by (try dsimp only); exact ta'.out _ hd) (fun hHeld => ?_)
                clear hKK KK
                try simp only [Act.put, lyA, lyB, lyC]
                refine ly_a 6 (fun KK hKK => ?_)
                go_simp
                have hs := hd.size
                replace hd := hd.alloc hs (.cells #[.int .i64 p, .int .i64 q] 50)
                have hlit := ratsV_lit' hd
                (try simp [go_sem] at hlit)
                (try replace hg := grow_alloc hd hg)
                try dsimp only
                refine hKK.out _ _ (by (try dsimp only); exact ta'.out _ hd) (fun hHeld => ?_)
                clear hKK KK
                try simp only [Act.put, lyA, lyB, lyC]
                refine ly_a 7 (fun KK hKK => ?_)
                refine wp_append_rats _ _ rfl W5.heap.size _ _ _ _ ([] ++ XT) [(p, q)] rfl rfl hg hlit (by have h1 := htl'.out; rw [List.nil_append, h1]; simp only [List.length_cons, List.length_nil]; omega) hd.size ?_
                intro v7 w7 hg7 hgr7
                replace hd := hg.belowB hd (Nat.le_refl _) hd.size hgr7
                replace hg := hg7
                clear hlit
                try dsimp only
                refine hKK.out _ _ (by (try dsimp only); exact ta'.out _ hd) (fun hHeld => ?_)
                clear hKK KK
                try simp only [Act.put, lyA, lyB, lyC]
                refine ly_a 11 (fun KK hKK => ?_)
                refine wp_append_rats _ _ rfl W5.heap.size _ _ _ _ ([] ++ XT ++ [(p, q)]) XD rfl rfl hg ((hdr'.out (n - k) _ _ rfl ⟨by omega, by have := hcap'.out; omega⟩ (fun _ => by omega)).below (hbW.trans (hd.mono hbW.size))) (by have h1 := htl'.out; have h2 := hdl'.out; rw [List.nil_append, List.length_append, h1, h2]; simp only [List.length_cons, List.length_nil]; omega) hd.size ?_
                intro v11 w11 hg11 hgr11
                replace hd := hg.belowB hd (Nat.le_refl _) hd.size hgr11
                replace hg := hg11
                try dsimp only
                refine hKK.out _ _ (by (try dsimp only); exact ta'.out _ hd) (fun hHeld => ?_)
                clear hKK KK
                try simp only [Act.put, lyA, lyB, lyC]
                refine ly_q 12 (v := ?_) hHeld ?_
                try simp only [Act.put, lyA, lyB, lyC]
                refine wpAnyH_done (by kernel_rfl) ?_ _
                have hq := GrowR.mono hg hbW.size
                rw [List.nil_append, List.append_assoc] at hq
                go_wp2
                go_ret
                exact ⟨_, rfl, .inr (by rw [hpx'.out]; exact hq), hbW.trans (hd.mono hbW.size)⟩
              · rw [if_pos (by kernel_rfl)]
                go_simp
                have hs := hd.size
                replace hd := hd.alloc hs (.cells #[.int .i64 p, .int .i64 q] 50)
                have hlit := ratsV_lit' hd
                (try simp [go_sem] at hlit)
                (try replace hg := grow_alloc hd hg)
                try dsimp only
                refine hKK.out _ _ (by (try dsimp only); exact ta'.out _ hd) (fun hHeld => ?_)
                clear hKK KK
                try simp only [Act.put, lyA, lyB, lyC]
                refine ly_a 4 (fun KK hKK => ?_)
                refine wp_append_rats _ _ rfl W5.heap.size _ _ _ _ [] XT rfl rfl hg (htk'.out.below (hbW.trans (hd.mono hbW.size))) (by have h1 := htl'.out; rw [h1]; simp only [List.length_nil]; omega) hd.size ?_
                intro v4 w4 hg4 hgr4
                (try replace hlit := rats_kept hlit hgr4 (by change some _ ≠ some _; intro hh; have hh := Option.some.inj hh; first | omega | (simp [go_sem] at hh; done) | (simp [go_sem] at hh; omega)))
                replace hd := hg.belowB hd (Nat.le_refl _) hd.size hgr4
                replace hg := hg4
                try dsimp only
                refine hKK.out _ _ (by (try dsimp only); exact ta'.out _ hd) (fun hHeld => ?_)
                clear hKK KK
                try simp only [Act.put, lyA, lyB, lyC]
                refine ly_a 7 (fun KK hKK => ?_)
                refine wp_append_rats _ _ rfl W5.heap.size _ _ _ _ ([] ++ XT) [(p, q)] rfl rfl hg hlit (by have h1 := htl'.out; rw [List.nil_append, h1]; simp only [List.length_cons, List.length_nil]; omega) hd.size ?_
                intro v7 w7 hg7 hgr7
                replace hd := hg.belowB hd (Nat.le_refl _) hd.size hgr7
                replace hg := hg7
                clear hlit
                try dsimp only
                refine hKK.out _ _ (by (try dsimp only); exact ta'.out _ hd) (fun hHeld => ?_)
                clear hKK KK
                try simp only [Act.put, lyA, lyB, lyC]
                refine ly_a 11 (fun KK hKK => ?_)
                refine wp_append_rats _ _ rfl W5.heap.size _ _ _ _ ([] ++ XT ++ [(p, q)]) XD rfl rfl hg ((hdr'.out (n - k) _ _ rfl ⟨by omega, by have := hcap'.out; omega⟩ (fun _ => by omega)).below (hbW.trans (hd.mono hbW.size))) (by have h1 := htl'.out; have h2 := hdl'.out; rw [List.nil_append, List.length_append, h1, h2]; simp only [List.length_cons, List.length_nil]; omega) hd.size ?_
                intro v11 w11 hg11 hgr11
                replace hd := hg.belowB hd (Nat.le_refl _) hd.size hgr11
                replace hg := hg11
                try dsimp only
                refine hKK.out _ _ (by (try dsimp only); exact ta'.out _ hd) (fun hHeld => ?_)
                clear hKK KK
                try simp only [Act.put, lyA, lyB, lyC]
                refine ly_q 12 (v := ?_) hHeld ?_
                try simp only [Act.put, lyA, lyB, lyC]
                refine wpAnyH_done (by kernel_rfl) ?_ _
                have hq := GrowR.mono hg hbW.size
                rw [List.nil_append, List.append_assoc] at hq
                go_wp2
                go_ret
                exact ⟨_, rfl, .inr (by rw [hpx'.out]; exact hq), hbW.trans (hd.mono hbW.size)⟩
            · rw [if_pos (by kernel_rfl)]
              go_simp
              have hs := hd.size
              replace hd := hd.alloc hs (.cells #[.int .i64 p, .int .i64 q] 50)
              have hlit := ratsV_lit' hd
              (try simp [go_sem] at hlit)
              (try replace hg := grow_alloc hd hg)
              try dsimp only
              refine hKK.out _ _ (by (try dsimp only); exact ta'.out _ hd) (fun hHeld => ?_)
              clear hKK KK
              try simp only [Act.put, lyA, lyB, lyC]
              refine ly_a 0 (fun KK hKK => ?_)
              go_simp
              have hs := hd.size
              replace hd := hd.alloc hs (.cells #[] 50)
              have hg := GrowR.empty' hd hs
              (try simp [go_sem] at hg)
              (try replace hlit := rats_alloc hd hlit)
              try dsimp only
              refine hKK.out _ _ (by (try dsimp only); exact ta'.out _ hd) (fun hHeld => ?_)
              clear hKK KK
              try simp only [Act.put, lyA, lyB, lyC]
              refine ly_a 4 (fun KK hKK => ?_)
              refine wp_append_rats _ _ rfl W5.heap.size _ _ _ _ [] XT rfl rfl hg (htk'.out.below (hbW.trans (hd.mono hbW.size))) (by have h1 := htl'.out; rw [h1]; simp only [List.length_nil]; omega) hd.size ?_
              intro v4 w4 hg4 hgr4
              (try replace hlit := rats_kept hlit hgr4 (by change some _ ≠ some _; intro hh; have hh := Option.some.inj hh; first | omega | (simp [go_sem] at hh; done) | (simp [go_sem] at hh; omega)))
              replace hd := hg.belowB hd (Nat.le_refl _) hd.size hgr4
              replace hg := hg4
              try dsimp only
              refine hKK.out _ _ (by (try dsimp only); exact ta'.out _ hd) (fun hHeld => ?_)
              clear hKK KK
              try simp only [Act.put, lyA, lyB, lyC]
              refine ly_a 7 (fun KK hKK => ?_)
              refine wp_append_rats _ _ rfl W5.heap.size _ _ _ _ ([] ++ XT) [(p, q)] rfl rfl hg hlit (by have h1 := htl'.out; rw [List.nil_append, h1]; simp only [List.length_cons, List.length_nil]; omega) hd.size ?_
              intro v7 w7 hg7 hgr7
              replace hd := hg.belowB hd (Nat.le_refl _) hd.size hgr7
              replace hg := hg7
              clear hlit
              try dsimp only
              refine hKK.out _ _ (by (try dsimp only); exact ta'.out _ hd) (fun hHeld => ?_)
              clear hKK KK
              try simp only [Act.put, lyA, lyB, lyC]
              refine ly_a 11 (fun KK hKK => ?_)
              refine wp_append_rats _ _ rfl W5.heap.size _ _ _ _ ([] ++ XT ++ [(p, q)]) XD rfl rfl hg ((hdr'.out (n - k) _ _ rfl ⟨by omega, by have := hcap'.out; omega⟩ (fun _ => by omega)).below (hbW.trans (hd.mono hbW.size))) (by have h1 := htl'.out; have h2 := hdl'.out; rw [List.nil_append, List.length_append, h1, h2]; simp only [List.length_cons, List.length_nil]; omega) hd.size ?_
              intro v11 w11 hg11 hgr11
              replace hd := hg.belowB hd (Nat.le_refl _) hd.size hgr11
              replace hg := hg11
              try dsimp only
              refine hKK.out _ _ (by (try dsimp only); exact ta'.out _ hd) (fun hHeld => ?_)
              clear hKK KK
              try simp only [Act.put, lyA, lyB, lyC]
              refine ly_q 12 (v := ?_) hHeld ?_
              try simp only [Act.put, lyA, lyB, lyC]
              refine wpAnyH_done (by kernel_rfl) ?_ _
              have hq := GrowR.mono hg hbW.size
              rw [List.nil_append, List.append_assoc] at hq
              go_wp2
              go_ret
              exact ⟨_, rfl, .inr (by rw [hpx'.out]; exact hq), hbW.trans (hd.mono hbW.size)⟩
    · skip
      obtain rfl : k = n := by omega
      obtain rfl : k = K := by omega
      have hpx := hput'.out
      rw [if_neg (fun h => hkn h.2)] at hpx
      have hlt2 : ¬ (k : Int) < (k : Int) := by omega
      have hb9 := hB0.trans (hB.mono hB0.size)
      have hd : Below wr.heap.size wr wr.drew := (Below.refl _ _).drew
      have at' : ∀ w' : World, Below wr.heap.size wr w' → (w'.cell? ⟨w.heap.size, 0, none⟩ = some (.int .i64 p) ∧ w'.cell? ⟨w.heap.size, 1, none⟩ = some (.int .i64 q)) :=
        fun w' h => ⟨bkeep h u0, bkeep h u1⟩
      have hpx' := Lib.hid hpx
      have at'' := Lib.hid at'
      clear hpx at'
      go_wp2_with fail
      refine wp_region_held_drew (S := (fun w' => w'.cell? ⟨w.heap.size, 0, none⟩ = some (.int .i64 p) ∧ w'.cell? ⟨w.heap.size, 1, none⟩ = some (.int .i64 q))) (by kernel_rfl) (by (try dsimp only); exact at''.out _ hd) (fun hHeld => ?_)
      refine ly_q 0 (v := ?_) hHeld ?_
      try simp only [Act.put, lyA, lyB, lyC]
      refine ly_q 1 (v := ?_) hHeld ?_
      try simp only [Act.put, lyA, lyB, lyC]
      refine ly_q 2 (v := ?_) hHeld ?_
      try simp only [Act.put, lyA, lyB, lyC]
      refine ly_q 3 (v := .bool false) (hy := by intro wS hSw; (try dsimp only at hSw); go_simp; all_goals (simp)) hHeld ?_
      try simp only [Act.put, lyA, lyB, lyC]
      refine ly_q 4 (v := ?_) hHeld ?_
      try simp only [Act.put, lyA, lyB, lyC]
      refine ly_off 5 hHeld ?_
      try simp only [Act.put, lyA, lyB, lyC]
      refine ly_off 6 hHeld ?_
      try simp only [Act.put, lyA, lyB, lyC]
      refine ly_off 7 hHeld ?_
      try simp only [Act.put, lyA, lyB, lyC]
      refine ly_off 8 hHeld ?_
      try simp only [Act.put, lyA, lyB, lyC]
      refine ly_off 9 hHeld ?_
      try simp only [Act.put, lyA, lyB, lyC]
      refine ly_off 10 hHeld ?_
      try simp only [Act.put, lyA, lyB, lyC]
      refine ly_off 11 hHeld ?_
      try simp only [Act.put, lyA, lyB, lyC]
      refine ly_q 12 (v := ?_) hHeld ?_
      try simp only [Act.put, lyA, lyB, lyC]
      refine wpAnyH_done (by kernel_rfl) ?_ _
      clear hd hHeld
      go_wp2_with fail
      go_quiet (fail)
      go_wp2_with fail
      have hbW : Below w.heap.size w (wr.drew.drewN nq) := below_drewN hb9.drew _
      have y0 : (wr.drew.drewN nq).cell? ⟨w.heap.size, 0, none⟩ = some (.int .i64 p) := u0
      have y1 : (wr.drew.drewN nq).cell? ⟨w.heap.size, 1, none⟩ = some (.int .i64 q) := u1
      obtain ⟨W5, hW5⟩ : ∃ W, wr.drew.drewN nq = W := ⟨_, rfl⟩
      rw [hW5] at hbW y0 y1 ⊢
      have ta := fun (w' : World) (h : Below W5.heap.size W5 w') => And.intro (bkeep h y0) (bkeep h y1)
      have hd : Below W5.heap.size W5 W5.drew := (Below.refl _ _).drew
      have hkc : k ≤ cap := by have := hcc'.out.1; omega
      have ta' := Lib.hid ta
      have hW5' := Lib.hid hW5
      have y0' := Lib.hid y0
      have y1' := Lib.hid y1
      have hcap' := Lib.hid hcap
      clear ta hW5 y0 y1 hcap
      clear hW5' hb9 u0 u1 hx0 hx1
      by_cases hck : cap = k
      · subst hck
        refine wp_region_held_drew (S := (fun w' => w'.cell? ⟨w.heap.size, 0, none⟩ = some (.int .i64 p) ∧ w'.cell? ⟨w.heap.size, 1, none⟩ = some (.int .i64 q))) (by kernel_rfl) (by (try dsimp only); exact ta'.out _ hd) (fun hHeld => ?_)
        refine ly_q 1 (v := ?_) hHeld ?_
        try simp only [Act.put, lyA, lyB, lyC]
        refine ly_q 2 (v := ?_) hHeld ?_
        try simp only [Act.put, lyA, lyB, lyC]
        refine ly_q 3 (v := ?_) hHeld ?_
        try simp only [Act.put, lyA, lyB, lyC]
        refine ly_q 5 (v := ?_) hHeld ?_
        try simp only [Act.put, lyA, lyB, lyC]
        refine ly_q 8 (v := ?_) hHeld ?_
        try simp only [Act.put, lyA, lyB, lyC]
        refine ly_q 9 (v := ?_) hHeld ?_
        try simp only [Act.put, lyA, lyB, lyC]
        refine ly_q 10 (v := ?_) hHeld ?_
        try simp only [Act.put, lyA, lyB, lyC]
        refine wpAnyH_ready (rs := [0, 6]) (by kernel_rfl) (by simp) ?_
        refine AllReadyH.cons (o := Oper.mk _ _ _ _ _ _) rfl (fun KK hKK => ?_) (AllReadyH.cons (o := Oper.mk _ _ _ _ _ _) rfl (fun KK hKK => ?_) (AllReadyH.nil))
        · rw [if_pos (by kernel_rfl)]
          go_simp
          have hs := hd.size
          replace hd := hd.alloc hs (.cells #[] 50)
          have hg := GrowR.empty' hd hs
          (try simp [go_sem] at hg)
          (try replace hlit := rats_alloc hd hlit)
          try dsimp only
          refine hKK.out _ _ (by (try dsimp only); exact ta'.out _ hd) (fun hHeld => ?_)
          clear hKK KK
          try simp only [Act.put, lyA, lyB, lyC]
          refine wpAnyH_ready (rs := [4, 6]) (by kernel_rfl) (by simp) ?_
          refine AllReadyH.cons (o := Oper.mk _ _ _ _ _ _) rfl (fun KK hKK => ?_) (AllReadyH.cons (o := Oper.mk _ _ _ _ _ _) rfl (fun KK hKK => ?_) (AllReadyH.nil))
          · rw [if_pos (by kernel_rfl)]
            refine wp_append_rats _ _ rfl W5.heap.size _ _ _ _ [] XT rfl rfl hg (htk'.out.below (hbW.trans (hd.mono hbW.size))) (by have h1 := htl'.out; rw [h1]; simp only [List.length_nil]; omega) hd.size ?_
            intro v4 w4 hg4 hgr4
            (try replace hlit := rats_kept hlit hgr4 (by change some _ ≠ some _; intro hh; have hh := Option.some.inj hh; first | omega | (simp [go_sem] at hh; done) | (simp [go_sem] at hh; omega)))
            replace hd := hg.belowB hd (Nat.le_refl _) hd.size hgr4
            replace hg := hg4
            try dsimp only
            refine hKK.out _ _ (by (try dsimp only); exact ta'.out _ hd) (fun hHeld => ?_)
            clear hKK KK
            try simp only [Act.put, lyA, lyB, lyC]
            refine ly_a 6 (fun KK hKK => ?_)
            go_simp
            have hs := hd.size
            replace hd := hd.alloc hs (.cells #[.int .i64 p, .int .i64 q] 50)
            have hlit := ratsV_lit' hd
            (try simp [go_sem] at hlit)
            (try replace hg := grow_alloc hd hg)
            try dsimp only
            refine hKK.out _ _ (by (try dsimp only); exact ta'.out _ hd) (fun hHeld => ?_)
            clear hKK KK
            try simp only [Act.put, lyA, lyB, lyC]
            refine ly_a 7 (fun KK hKK => ?_)
            refine wp_append_rats _ _ rfl W5.heap.size _ _ _ _ ([] ++ XT) [(p, q)] rfl rfl hg hlit (by have h1 := htl'.out; rw [List.nil_append, h1]; simp only [List.length_cons, List.length_nil]; omega) hd.size ?_
            intro v7 w7 hg7 hgr7
            replace hd := hg.belowB hd (Nat.le_refl _) hd.size hgr7
            replace hg := hg7
            clear hlit
            try dsimp only
            refine hKK.out _ _ (by (try dsimp only); exact ta'.out _ hd) (fun hHeld => ?_)
            clear hKK KK
            try simp only [Act.put, lyA, lyB, lyC]
            refine ly_a 11 (fun KK hKK => ?_)
            refine wp_append_rats _ _ rfl W5.heap.size _ _ _ _ ([] ++ XT ++ [(p, q)]) XD rfl rfl hg ((hdr'.out _ _ _ (by omega) ⟨by omega, by have := hcap'.out; omega⟩ (fun h => absurd h (by omega))).below (hbW.trans (hd.mono hbW.size))) (by have h1 := htl'.out; have h2 := hdl'.out; rw [List.nil_append, List.length_append, h1, h2]; simp only [List.length_cons, List.length_nil]; omega) hd.size ?_
            intro v11 w11 hg11 hgr11
            replace hd := hg.belowB hd (Nat.le_refl _) hd.size hgr11
            replace hg := hg11
            try dsimp only
            refine hKK.out _ _ (by (try dsimp only); exact ta'.out _ hd) (fun hHeld => ?_)
            clear hKK KK
            try simp only [Act.put, lyA, lyB, lyC]
            refine ly_q 12 (v := ?_) hHeld ?_
            try simp only [Act.put, lyA, lyB, lyC]
            refine wpAnyH_done (by kernel_rfl) ?_ _
            have hq := GrowR.mono hg hbW.size
            rw [List.nil_append, List.append_assoc] at hq
            go_wp2
            go_ret
            exact ⟨_, rfl, .inr (by rw [hpx'.out]; exact hq), hbW.trans (hd.mono hbW.size)⟩
          · rw [if_pos (by kernel_rfl)]
            go_simp
            have hs := hd.size
            replace hd := hd.alloc hs (.cells #[.int .i64 p, .int .i64 q] 50)
            have hlit := ratsV_lit' hd
            (try simp [go_sem] at hlit)
            (try replace hg := grow_alloc hd hg)
            try dsimp only
            refine hKK.out _ _ (by (try dsimp only); exact ta'.out _ hd) (fun hHeld => ?_)
            clear hKK KK
            try simp only [Act.put, lyA, lyB, lyC]
            refine ly_a 4 (fun KK hKK => ?_)
            refine wp_append_rats _ _ rfl W5.heap.size _ _ _ _ [] XT rfl rfl hg (htk'.out.below (hbW.trans (hd.mono hbW.size))) (by have h1 := htl'.out; rw [h1]; simp only [List.length_nil]; omega) hd.size ?_
            intro v4 w4 hg4 hgr4
            (try replace hlit := rats_kept hlit hgr4 (by change some _ ≠ some _; intro hh; have hh := Option.some.inj hh; first | omega | (simp [go_sem] at hh; done) | (simp [go_sem] at hh; omega)))
            replace hd := hg.belowB hd (Nat.le_refl _) hd.size hgr4
            replace hg := hg4
            try dsimp only
            refine hKK.out _ _ (by (try dsimp only); exact ta'.out _ hd) (fun hHeld => ?_)
            clear hKK KK
            try simp only [Act.put, lyA, lyB, lyC]
            refine ly_a 7 (fun KK hKK => ?_)
            refine wp_append_rats _ _ rfl W5.heap.size _ _ _ _ ([] ++ XT) [(p, q)] rfl rfl hg hlit (by have h1 := htl'.out; rw [List.nil_append, h1]; simp only [List.length_cons, List.length_nil]; omega) hd.size ?_
            intro v7 w7 hg7 hgr7
            replace hd := hg.belowB hd (Nat.le_refl _) hd.size hgr7
            replace hg := hg7
            clear hlit
            try dsimp only
            refine hKK.out _ _ (by (try dsimp only); exact ta'.out _ hd) (fun hHeld => ?_)
            clear hKK KK
            try simp only [Act.put, lyA, lyB, lyC]
            refine ly_a 11 (fun KK hKK => ?_)
            refine wp_append_rats _ _ rfl W5.heap.size _ _ _ _ ([] ++ XT ++ [(p, q)]) XD rfl rfl hg ((hdr'.out _ _ _ (by omega) ⟨by omega, by have := hcap'.out; omega⟩ (fun h => absurd h (by omega))).below (hbW.trans (hd.mono hbW.size))) (by have h1 := htl'.out; have h2 := hdl'.out; rw [List.nil_append, List.length_append, h1, h2]; simp only [List.length_cons, List.length_nil]; omega) hd.size ?_
            intro v11 w11 hg11 hgr11
            replace hd := hg.belowB hd (Nat.le_refl _) hd.size hgr11
            replace hg := hg11
            try dsimp only
            refine hKK.out _ _ (by (try dsimp only); exact ta'.out _ hd) (fun hHeld => ?_)
            clear hKK KK
            try simp only [Act.put, lyA, lyB, lyC]
            refine ly_q 12 (v := ?_) hHeld ?_
            try simp only [Act.put, lyA, lyB, lyC]
            refine wpAnyH_done (by kernel_rfl) ?_ _
            have hq := GrowR.mono hg hbW.size
            rw [List.nil_append, List.append_assoc] at hq
            go_wp2
            go_ret
            exact ⟨_, rfl, .inr (by rw [hpx'.out]; exact hq), hbW.trans (hd.mono hbW.size)⟩
        · rw [if_pos (by kernel_rfl)]
          go_simp
          have hs := hd.size
          replace hd := hd.alloc hs (.cells #[.int .i64 p, .int .i64 q] 50)
          have hlit := ratsV_lit' hd
          (try simp [go_sem] at hlit)
          (try replace hg := grow_alloc hd hg)
          try dsimp only
          refine hKK.out _ _ (by (try dsimp only); exact ta'.out _ hd) (fun hHeld => ?_)
          clear hKK KK
          try simp only [Act.put, lyA, lyB, lyC]
          refine ly_a 0 (fun KK hKK => ?_)
          go_simp
          have hs := hd.size
          replace hd := hd.alloc hs (.cells #[] 50)
          have hg := GrowR.empty' hd hs
          (try simp [go_sem] at hg)
          (try replace hlit := rats_alloc hd hlit)
          try dsimp only
          refine hKK.out _ _ (by (try dsimp only); exact ta'.out _ hd) (fun hHeld => ?_)
          clear hKK KK
          try simp only [Act.put, lyA, lyB, lyC]
          refine ly_a 4 (fun KK hKK => ?_)
          refine wp_append_rats _ _ rfl W5.heap.size _ _ _ _ [] XT rfl rfl hg (htk'.out.below (hbW.trans (hd.mono hbW.size))) (by have h1 := htl'.out; rw [h1]; simp only [List.length_nil]; omega) hd.size ?_
          intro v4 w4 hg4 hgr4
          (try replace hlit := rats_kept hlit hgr4 (by change some _ ≠ some _; intro hh; have hh := Option.some.inj hh; first | omega | (simp [go_sem] at hh; done) | (simp [go_sem] at hh; omega)))
          replace hd := hg.belowB hd (Nat.le_refl _) hd.size hgr4
          replace hg := hg4
          try dsimp only
          refine hKK.out _ _ (by (try dsimp only); exact ta'.out _ hd) (fun hHeld => ?_)
          clear hKK KK
          try simp only [Act.put, lyA, lyB, lyC]
          refine ly_a 7 (fun KK hKK => ?_)
          refine wp_append_rats _ _ rfl W5.heap.size _ _ _ _ ([] ++ XT) [(p, q)] rfl rfl hg hlit (by have h1 := htl'.out; rw [List.nil_append, h1]; simp only [List.length_cons, List.length_nil]; omega) hd.size ?_
          intro v7 w7 hg7 hgr7
          replace hd := hg.belowB hd (Nat.le_refl _) hd.size hgr7
          replace hg := hg7
          clear hlit
          try dsimp only
          refine hKK.out _ _ (by (try dsimp only); exact ta'.out _ hd) (fun hHeld => ?_)
          clear hKK KK
          try simp only [Act.put, lyA, lyB, lyC]
          refine ly_a 11 (fun KK hKK => ?_)
          refine wp_append_rats _ _ rfl W5.heap.size _ _ _ _ ([] ++ XT ++ [(p, q)]) XD rfl rfl hg ((hdr'.out _ _ _ (by omega) ⟨by omega, by have := hcap'.out; omega⟩ (fun h => absurd h (by omega))).below (hbW.trans (hd.mono hbW.size))) (by have h1 := htl'.out; have h2 := hdl'.out; rw [List.nil_append, List.length_append, h1, h2]; simp only [List.length_cons, List.length_nil]; omega) hd.size ?_
          intro v11 w11 hg11 hgr11
          replace hd := hg.belowB hd (Nat.le_refl _) hd.size hgr11
          replace hg := hg11
          try dsimp only
          refine hKK.out _ _ (by (try dsimp only); exact ta'.out _ hd) (fun hHeld => ?_)
          clear hKK KK
          try simp only [Act.put, lyA, lyB, lyC]
          refine ly_q 12 (v := ?_) hHeld ?_
          try simp only [Act.put, lyA, lyB, lyC]
          refine wpAnyH_done (by kernel_rfl) ?_ _
          have hq := GrowR.mono hg hbW.size
          rw [List.nil_append, List.append_assoc] at hq
          go_wp2
          go_ret
          exact ⟨_, rfl, .inr (by rw [hpx'.out]; exact hq), hbW.trans (hd.mono hbW.size)⟩
      · skip
        refine wp_region_held_drew (S := (fun w' => w'.cell? ⟨w.heap.size, 0, none⟩ = some (.int .i64 p) ∧ w'.cell? ⟨w.heap.size, 1, none⟩ = some (.int .i64 q))) (by kernel_rfl) (by (try dsimp only); exact ta'.out _ hd) (fun hHeld => ?_)
        refine ly_q 1 (v := ?_) hHeld ?_
        try simp only [Act.put, lyA, lyB, lyC]
        refine ly_q 2 (v := ?_) hHeld ?_
        try simp only [Act.put, lyA, lyB, lyC]
        refine ly_q 3 (v := ?_) hHeld ?_
        try simp only [Act.put, lyA, lyB, lyC]
        refine ly_q 5 (v := ?_) hHeld ?_
        try simp only [Act.put, lyA, lyB, lyC]
        refine ly_q 8 (v := ?_) hHeld ?_
        try simp only [Act.put, lyA, lyB, lyC]
        refine ly_q 9 (v := ?_) hHeld ?_
        try simp only [Act.put, lyA, lyB, lyC]
        refine ly_q 10 (v := ?_) hHeld ?_
        try simp only [Act.put, lyA, lyB, lyC]
        refine wpAnyH_ready (rs := [0, 6]) (by kernel_rfl) (by simp) ?_
        refine AllReadyH.cons (o := Oper.mk _ _ _ _ _ _) rfl (fun KK hKK => ?_) (AllReadyH.cons (o := Oper.mk _ _ _ _ _ _) rfl (fun KK hKK => ?_) (AllReadyH.nil))
        · rw [if_pos (by kernel_rfl)]
          go_simp
          have hs := hd.size
          replace hd := hd.alloc hs (.cells #[] 50)
          have hg := GrowR.empty' hd hs
          (try simp [go_sem] at hg)
          (try replace hlit := rats_alloc hd hlit)
          try dsimp only
          refine hKK.out _ _ (by (try dsimp only); exact ta'.out _ hd) (fun hHeld => ?_)
          clear hKK KK
          try simp only [Act.put, lyA, lyB, lyC]
          refine wpAnyH_ready (rs := [4, 6]) (by kernel_rfl) (by simp) ?_
          refine AllReadyH.cons (o := Oper.mk _ _ _ _ _ _) rfl (fun KK hKK => ?_) (AllReadyH.cons (o := Oper.mk _ _ _ _ _ _) rfl (fun KK hKK => ?_) (AllReadyH.nil))
          · rw [if_pos (by kernel_rfl)]
            refine wp_append_rats _ _ rfl W5.heap.size _ _ _ _ [] XT rfl rfl hg (htk'.out.below (hbW.trans (hd.mono hbW.size))) (by have h1 := htl'.out; rw [h1]; simp only [List.length_nil]; omega) hd.size ?_
            intro v4 w4 hg4 hgr4
            (try replace hlit := rats_kept hlit hgr4 (by change some _ ≠ some _; intro hh; have hh := Option.some.inj hh; first | omega | (simp [go_sem] at hh; done) | (simp [go_sem] at hh; omega)))
            replace hd := hg.belowB hd (Nat.le_refl _) hd.size hgr4
            replace hg := hg4
            try dsimp only
            refine hKK.out _ _ (by (try dsimp only); exact ta'.out _ hd) (fun hHeld => ?_)
            clear hKK KK
            try simp only [Act.put, lyA, lyB, lyC]
            refine ly_a 6 (fun KK hKK => ?_)
            go_simp
            have hs := hd.size
            replace hd := hd.alloc hs (.cells #[.int .i64 p, .int .i64 q] 50)
            have hlit := ratsV_lit' hd
            (try simp [go_sem] at hlit)
            (try replace hg := grow_alloc hd hg)
            try dsimp only
            refine hKK.out _ _ (by (try dsimp only); exact ta'.out _ hd) (fun hHeld => ?_)
            clear hKK KK
            try simp only [Act.put, lyA, lyB, lyC]
            refine ly_a 7 (fun KK hKK => ?_)
            refine wp_append_rats _ _ rfl W5.heap.size _ _ _ _ ([] ++ XT) [(p, q)] rfl rfl hg hlit (by have h1 := htl'.out; rw [List.nil_append, h1]; simp only [List.length_cons, List.length_nil]; omega) hd.size ?_
            intro v7 w7 hg7 hgr7
            replace hd := hg.belowB hd (Nat.le_refl _) hd.size hgr7
            replace hg := hg7
            clear hlit
            try dsimp only
            refine hKK.out _ _ (by (try dsimp only); exact ta'.out _ hd) (fun hHeld => ?_)
            clear hKK KK
            try simp only [Act.put, lyA, lyB, lyC]
            refine ly_a 11 (fun KK hKK => ?_)
            refine wp_append_rats _ _ rfl W5.heap.size _ _ _ _ ([] ++ XT ++ [(p, q)]) XD rfl rfl hg ((hdr'.out _ _ _ (by omega) ⟨by omega, by have := hcap'.out; omega⟩ (fun h => absurd h (by omega))).below (hbW.trans (hd.mono hbW.size))) (by have h1 := htl'.out; have h2 := hdl'.out; rw [List.nil_append, List.length_append, h1, h2]; simp only [List.length_cons, List.length_nil]; omega) hd.size ?_
            intro v11 w11 hg11 hgr11
            replace hd := hg.belowB hd (Nat.le_refl _) hd.size hgr11
            replace hg := hg11
            try dsimp only
            refine hKK.out _ _ (by (try dsimp only); exact ta'.out _ hd) (fun hHeld => ?_)
            clear hKK KK
            try simp only [Act.put, lyA, lyB, lyC]
            refine ly_q 12 (v := ?_) hHeld ?_
            try simp only [Act.put, lyA, lyB, lyC]
            refine wpAnyH_done (by kernel_rfl) ?_ _
            have hq := GrowR.mono hg hbW.size
            rw [List.nil_append, List.append_assoc] at hq
            go_wp2
            go_ret
            exact ⟨_, rfl, .inr (by rw [hpx'.out]; exact hq), hbW.trans (hd.mono hbW.size)⟩
          · rw [if_pos (by kernel_rfl)]
            go_simp
            have hs := hd.size
            replace hd := hd.alloc hs (.cells #[.int .i64 p, .int .i64 q] 50)
            have hlit := ratsV_lit' hd
            (try simp [go_sem] at hlit)
            (try replace hg := grow_alloc hd hg)
            try dsimp only
            refine hKK.out _ _ (by (try dsimp only); exact ta'.out _ hd) (fun hHeld => ?_)
            clear hKK KK
            try simp only [Act.put, lyA, lyB, lyC]
            refine ly_a 4 (fun KK hKK => ?_)
            refine wp_append_rats _ _ rfl W5.heap.size _ _ _ _ [] XT rfl rfl hg (htk'.out.below (hbW.trans (hd.mono hbW.size))) (by have h1 := htl'.out; rw [h1]; simp only [List.length_nil]; omega) hd.size ?_
            intro v4 w4 hg4 hgr4
            (try replace hlit := rats_kept hlit hgr4 (by change some _ ≠ some _; intro hh; have hh := Option.some.inj hh; first | omega | (simp [go_sem] at hh; done) | (simp [go_sem] at hh; omega)))
            replace hd := hg.belowB hd (Nat.le_refl _) hd.size hgr4
            replace hg := hg4
            try dsimp only
            refine hKK.out _ _ (by (try dsimp only); exact ta'.out _ hd) (fun hHeld => ?_)
            clear hKK KK
            try simp only [Act.put, lyA, lyB, lyC]
            refine ly_a 7 (fun KK hKK => ?_)
            refine wp_append_rats _ _ rfl W5.heap.size _ _ _ _ ([] ++ XT) [(p, q)] rfl rfl hg hlit (by have h1 := htl'.out; rw [List.nil_append, h1]; simp only [List.length_cons, List.length_nil]; omega) hd.size ?_
            intro v7 w7 hg7 hgr7
            replace hd := hg.belowB hd (Nat.le_refl _) hd.size hgr7
            replace hg := hg7
            clear hlit
            try dsimp only
            refine hKK.out _ _ (by (try dsimp only); exact ta'.out _ hd) (fun hHeld => ?_)
            clear hKK KK
            try simp only [Act.put, lyA, lyB, lyC]
            refine ly_a 11 (fun KK hKK => ?_)
            refine wp_append_rats _ _ rfl W5.heap.size _ _ _ _ ([] ++ XT ++ [(p, q)]) XD rfl rfl hg ((hdr'.out _ _ _ (by omega) ⟨by omega, by have := hcap'.out; omega⟩ (fun h => absurd h (by omega))).below (hbW.trans (hd.mono hbW.size))) (by have h1 := htl'.out; have h2 := hdl'.out; rw [List.nil_append, List.length_append, h1, h2]; simp only [List.length_cons, List.length_nil]; omega) hd.size ?_
            intro v11 w11 hg11 hgr11
            replace hd := hg.belowB hd (Nat.le_refl _) hd.size hgr11
            replace hg := hg11
            try dsimp only
            refine hKK.out _ _ (by (try dsimp only); exact ta'.out _ hd) (fun hHeld => ?_)
            clear hKK KK
            try simp only [Act.put, lyA, lyB, lyC]
            refine ly_q 12 (v := ?_) hHeld ?_
            try simp only [Act.put, lyA, lyB, lyC]
            refine wpAnyH_done (by kernel_rfl) ?_ _
            have hq := GrowR.mono hg hbW.size
            rw [List.nil_append, List.append_assoc] at hq
            go_wp2
            go_ret
            exact ⟨_, rfl, .inr (by rw [hpx'.out]; exact hq), hbW.trans (hd.mono hbW.size)⟩
        · rw [if_pos (by kernel_rfl)]
          go_simp
          have hs := hd.size
          replace hd := hd.alloc hs (.cells #[.int .i64 p, .int .i64 q] 50)
          have hlit := ratsV_lit' hd
          (try simp [go_sem] at hlit)
          (try replace hg := grow_alloc hd hg)
          try dsimp only
          refine hKK.out _ _ (by (try dsimp only); exact ta'.out _ hd) (fun hHeld => ?_)
          clear hKK KK
          try simp only [Act.put, lyA, lyB, lyC]
          refine ly_a 0 (fun KK hKK => ?_)
          go_simp
          have hs := hd.size
          replace hd := hd.alloc hs (.cells #[] 50)
          have hg := GrowR.empty' hd hs
          (try simp [go_sem] at hg)
          (try replace hlit := rats_alloc hd hlit)
          try dsimp only
          refine hKK.out _ _ (by (try dsimp only); exact ta'.out _ hd) (fun hHeld => ?_)
          clear hKK KK
          try simp only [Act.put, lyA, lyB, lyC]
          refine ly_a 4 (fun KK hKK => ?_)
          refine wp_append_rats _ _ rfl W5.heap.size _ _ _ _ [] XT rfl rfl hg (htk'.out.below (hbW.trans (hd.mono hbW.size))) (by have h1 := htl'.out; rw [h1]; simp only [List.length_nil]; omega) hd.size ?_
          intro v4 w4 hg4 hgr4
          (try replace hlit := rats_kept hlit hgr4 (by change some _ ≠ some _; intro hh; have hh := Option.some.inj hh; first | omega | (simp [go_sem] at hh; done) | (simp [go_sem] at hh; omega)))
          replace hd := hg.belowB hd (Nat.le_refl _) hd.size hgr4
          replace hg := hg4
          try dsimp only
          refine hKK.out _ _ (by (try dsimp only); exact ta'.out _ hd) (fun hHeld => ?_)
          clear hKK KK
          try simp only [Act.put, lyA, lyB, lyC]
          refine ly_a 7 (fun KK hKK => ?_)
          refine wp_append_rats _ _ rfl W5.heap.size _ _ _ _ ([] ++ XT) [(p, q)] rfl rfl hg hlit (by have h1 := htl'.out; rw [List.nil_append, h1]; simp only [List.length_cons, List.length_nil]; omega) hd.size ?_
          intro v7 w7 hg7 hgr7
          replace hd := hg.belowB hd (Nat.le_refl _) hd.size hgr7
          replace hg := hg7
          clear hlit
          try dsimp only
          refine hKK.out _ _ (by (try dsimp only); exact ta'.out _ hd) (fun hHeld => ?_)
          clear hKK KK
          try simp only [Act.put, lyA, lyB, lyC]
          refine ly_a 11 (fun KK hKK => ?_)
          refine wp_append_rats _ _ rfl W5.heap.size _ _ _ _ ([] ++ XT ++ [(p, q)]) XD rfl rfl hg ((hdr'.out _ _ _ (by omega) ⟨by omega, by have := hcap'.out; omega⟩ (fun h => absurd h (by omega))).below (hbW.trans (hd.mono hbW.size))) (by have h1 := htl'.out; have h2 := hdl'.out; rw [List.nil_append, List.length_append, h1, h2]; simp only [List.length_cons, List.length_nil]; omega) hd.size ?_
          intro v11 w11 hg11 hgr11
          replace hd := hg.belowB hd (Nat.le_refl _) hd.size hgr11
          replace hg := hg11
          try dsimp only
          refine hKK.out _ _ (by (try dsimp only); exact ta'.out _ hd) (fun hHeld => ?_)
          clear hKK KK
          try simp only [Act.put, lyA, lyB, lyC]
          refine ly_q 12 (v := ?_) hHeld ?_
          try simp only [Act.put, lyA, lyB, lyC]
          refine wpAnyH_done (by kernel_rfl) ?_ _
          have hq := GrowR.mono hg hbW.size
          rw [List.nil_append, List.append_assoc] at hq
          go_wp2
          go_ret
          exact ⟨_, rfl, .inr (by rw [hpx'.out]; exact hq), hbW.trans (hd.mono hbW.size)⟩

end Go.Proofs.YtnggopbehohjnaaGreat

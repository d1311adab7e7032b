/- IsHorseshoe: the reference's. No conditions. -/
import Derived.Test.YtfcanpebagpdbaaHorse
namespace Go.Proofs.Ytfcanpebagpdbaa
open Go.RowKit

/-- What has been told after q of the four coverings. -/
def hsQ (f : List Quad) (i k : Quad) (q : Nat) : Bool := !(touB i k) && (List.range q).all fun t => covB f (nth4 [i, k] (t / 2)) (nth4 [i, k] (t % 2))
theorem hsQ_step (f : List Quad) (i k : Quad) (j m : Nat) (hm : m < 2) : hsQ f i k (2 * j + m + 1) = (hsQ f i k (2 * j + m) && covB f (nth4 [i, k] j) (nth4 [i, k] m)) := by
  have e1 : (2 * j + m) / 2 = j := by omega
  have e2 : (2 * j + m) % 2 = m := by omega
  unfold hsQ
  rw [List.range_succ, List.all_append, List.all_cons, List.all_nil, e1, e2, Bool.and_true, Bool.and_assoc]
set_option linter.unusedSimpArgs false in
theorem hsQ_end (f : List Quad) (i k : Quad) : hsQ f i k 4 = hsV f i k := by
  have e : List.range 4 = [0, 1, 2, 3] := rfl
  have n0 : nth4 [i, k] 0 = i := rfl
  have n1 : nth4 [i, k] 1 = k := rfl
  unfold hsQ hsV
  rw [e]
  simp only [List.all_cons, List.all_nil, Bool.and_true, Bool.and_assoc, show 0 / 2 = 0 from rfl, show 0 % 2 = 0 from rfl, show 1 / 2 = 0 from rfl, show 1 % 2 = 1 from rfl, show 2 / 2 = 1 from rfl, show 2 % 2 = 0 from rfl, show 3 / 2 = 1 from rfl, show 3 % 2 = 1 from rfl, n0, n1]

set_option linter.unusedSimpArgs false in
set_option maxRecDepth 10000 in
set_option maxHeartbeats 4000000 in
theorem horse_in (v : Value) (f : List Quad) (i k : Quad) (V : Bool × Bool) (w : World) (hv : QuadV w v f) (hf : MapP f) (hi : ivB i = true) (hk : ivB k = true)
    (hno : ∀ j, j < 2 → imgOk f (nth4 [i, k] j).1 (nth4 [i, k] j).2 = false → V = (false, false))
    (hyes : imgOk f (nth4 [i, k] 0).1 (nth4 [i, k] 0).2 = true → imgOk f (nth4 [i, k] 1).1 (nth4 [i, k] 1).2 = true → V = (hsQ f i k 4, true))
    (c1 : ∀ w', Below w.heap.size w w' → Calls Try.prog 62 #[v] w' (Ret (.bool true) w')) :
    Calls Try.prog 22 #[v, quadV i, quadV k] w (Ret (.tuple #[.bool V.1, .bool V.2]) w) := by
  have b2 := ivB_true hi
  have b3 := ivB_true hk
  have hl2 := (ivsB_true (xs := [i, k]) (by rw [ivsB_two, hi, hk]; rfl)).2
  have ct := fun w' => chApart_any i k w' (unit_bd b2.1) (unit_bd b2.2.1) (unit_bd b3.1) (unit_bd b3.2.1)
  have ci := fun w' => ivGood_any i w'
  have ck := fun w' => ivGood_any k w'
  rw [hi] at ci
  rw [hk] at ck
  have cc := fun (j m : Nat) (w' : World) (hB : Below w.heap.size w w') (h : j < 2) (h2 : m < 2) =>
    ivCovers_any v f (nth4 [i, k] j) (nth4 [i, k] m) w' (hv.below hB) hf (ivB_true (hl2 j h)).1 (ivB_true (hl2 j h)).2.1 (ivB_true (hl2 m h2)).1 (ivB_true (hl2 m h2)).2.1
  have hR : ∀ a j, covR f (nth4 [i, k] a) (nth4 [i, k] j) = if imgOk f (nth4 [i, k] a).1 (nth4 [i, k] a).2 = true then (covB f (nth4 [i, k] a) (nth4 [i, k] j), true) else (false, false) := fun a j => rfl
  simp only [hR] at cc
  have hst := fun j m hm => hsQ_step f i k j m hm
  have h00 : hsQ f i k 0 = !(touB i k) := by unfold hsQ; simp
  clear hR hl2 b2 b3 hi hk hf hv
  have hqv := fun w T => QuadV.two w i k T
  obtain ⟨N4, hN4⟩ : ∃ N4 : Nat → Quad, ∀ j, nth4 [i, k] j = N4 j := ⟨_, fun _ => rfl⟩
  obtain ⟨OK, hOK⟩ : ∃ OK : Nat → Bool, ∀ j, imgOk f (nth4 [i, k] j).1 (nth4 [i, k] j).2 = OK j := ⟨_, fun _ => rfl⟩
  obtain ⟨CB, hCB⟩ : ∃ CB : Nat → Nat → Bool, ∀ j m, covB f (nth4 [i, k] j) (nth4 [i, k] m) = CB j m := ⟨_, fun _ _ => rfl⟩
  simp only [hOK, hCB] at cc hst hno hyes
  generalize hsQ f i k = HQ at *
  generalize touB i k = t at *
  obtain ⟨w1, hw1⟩ : ∃ W, (w.alloc (.cells #[.int .i64 i.1.1, .int .i64 i.1.2, .int .i64 i.2.1, .int .i64 i.2.2] 43)).alloc (.cells #[.int .i64 k.1.1, .int .i64 k.1.2, .int .i64 k.2.1, .int .i64 k.2.2] 43) = W := ⟨_, rfl⟩
  have hB1 : Below w.heap.size w w1 := by rw [← hw1]; exact ((Below.refl _ _).alloc (Nat.le_refl _) _).alloc (by simp) _
  have iQ : BoxQ w1 w.heap.size i := by rw [← hw1]; refine ⟨?_, ?_, ?_, ?_⟩ <;> simp [go_sem]
  have kQ : BoxQ w1 (w.heap.size + 1) k := by rw [← hw1]; refine ⟨?_, ?_, ?_, ?_⟩ <;> simp [go_sem]
  have cc1 := c1 w1 hB1
  have hqf := fun w' v' (h : QuadV w' v' [i, k]) => h.form
  simp only [hN4] at hqf cc
  have hlen : ([i, k] : List Quad).length = 2 := rfl
  rw [hlen] at hqf
  clear hOK hCB c1 hlen
  obtain ⟨⟨x, y⟩, ⟨z, s⟩⟩ := i
  obtain ⟨⟨p, q⟩, ⟨r, o⟩⟩ := k
  simp only at ct ci ck hw1 hqv
  have cc' := Lib.hid cc
  have cc1' := Lib.hid cc1
  have ct' := Lib.hid ct
  have ci' := Lib.hid ci
  have ck' := Lib.hid ck
  have hw1' := Lib.hid hw1
  have iQ' := Lib.hid iQ
  have kQ' := Lib.hid kQ
  have hst' := Lib.hid hst
  have h00' := Lib.hid h00
  have hno' := Lib.hid hno
  have hyes' := Lib.hid hyes
  have hqv' := Lib.hid hqv
  have hqf' := Lib.hid hqf
  have hN4' := Lib.hid hN4
  clear cc cc1 ct ci ck hw1 iQ kQ hst h00 hno hyes hqv hqf hN4
  show Calls _ _ #[_, .agg #[.int .i64 x, .int .i64 y, .int .i64 z, .int .i64 s], .agg #[.int .i64 p, .int .i64 q, .int .i64 r, .int .i64 o]] w _
  go_enter Try.func22, Try.ntmps22
  go_wp2_with fail
  rw [hw1'.out]
  go_wp2_with fail
  refine (cc1'.out).mono ?_
  rintro e w2 ⟨rfl, hB2⟩
  have hb2 := hB1.trans (hB2.mono hB1.size)
  have iQ2 := iQ'.out.below hB2
  have kQ2 := kQ'.out.below hB2
  obtain ⟨i0, i1, i2, i3⟩ := id iQ2
  simp only at i0 i1 i2 i3
  clear hB1 hB2 iQ' kQ' cc1' hw1'
  have iQ2' := Lib.hid iQ2
  have kQ2' := Lib.hid kQ2
  have hb2' := Lib.hid hb2
  clear iQ2 kQ2 hb2
  go_wp2_with fail
  refine (ci'.out _).mono ?_
  rintro e w3 ⟨rfl, hB3⟩
  have hb3 := hb2'.out.trans (hB3.mono hb2'.out.size)
  have iQ3 := iQ2'.out.below hB3
  have kQ3 := kQ2'.out.below hB3
  clear i0 i1 i2 i3 hB3 iQ2' kQ2' hb2' ci'
  obtain ⟨k0, k1, k2, k3⟩ := id kQ3
  simp only at k0 k1 k2 k3
  have iQ3' := Lib.hid iQ3
  have kQ3' := Lib.hid kQ3
  have hb3' := Lib.hid hb3
  clear iQ3 kQ3 hb3
  go_wp2_with fail
  refine (ck'.out _).mono ?_
  rintro e w4 ⟨rfl, hB4⟩
  have hb4 := hb3'.out.trans (hB4.mono hb3'.out.size)
  have iQ4 := iQ3'.out.below hB4
  have kQ4 := kQ3'.out.below hB4
  clear k0 k1 k2 k3 hB4 iQ3' kQ3' hb3' ck'
  obtain ⟨i0, i1, i2, i3⟩ := id iQ4
  obtain ⟨k0, k1, k2, k3⟩ := id kQ4
  simp only at i0 i1 i2 i3 k0 k1 k2 k3
  have iQ4' := Lib.hid iQ4
  have kQ4' := Lib.hid kQ4
  have hb4' := Lib.hid hb4
  clear iQ4 kQ4 hb4
  go_wp2_with fail
  refine (ct'.out _).mono ?_
  rintro e w5 ⟨rfl, hB5⟩
  have hb5 := hb4'.out.trans (hB5.mono hb4'.out.size)
  have iQ5 := iQ4'.out.below hB5
  have kQ5 := kQ4'.out.below hB5
  clear i0 i1 i2 i3 k0 k1 k2 k3 hB5 iQ4' kQ4' hb4' ct'
  obtain ⟨w6, hw6⟩ : ∃ W, w5.alloc (.cells #[.int .i64 x, .int .i64 y, .int .i64 z, .int .i64 s, .int .i64 p, .int .i64 q, .int .i64 r, .int .i64 o] 43) = W := ⟨_, rfl⟩
  have hB6 : Below w5.heap.size w5 w6 := by rw [← hw6]; exact (Below.refl _ _).alloc (Nat.le_refl _) _
  have hq6 : QuadV w6 (.slice (some ⟨w5.heap.size, 0, none⟩) 2 2) [((x, y), (z, s)), ((p, q), (r, o))] := by rw [← hw6]; exact hqv'.out w5 43
  have hb6 := hb5.trans (hB6.mono hb5.size)
  have iQ6 := iQ5.below hB6
  have kQ6 := kQ5.below hB6
  obtain ⟨i0, i1, i2, i3⟩ := iQ5
  obtain ⟨k0, k1, k2, k3⟩ := kQ5
  simp only at i0 i1 i2 i3 k0 k1 k2 k3
  obtain ⟨sb, hsb⟩ : ∃ sb, w5.heap.size = sb := ⟨_, rfl⟩
  rw [hsb] at hq6
  have hw6' := Lib.hid hw6
  clear hw6 hB6 hb5
  have hsb' := Lib.hid hsb
  clear hsb
  have iQ6' := Lib.hid iQ6
  have kQ6' := Lib.hid kQ6
  have hb6' := Lib.hid hb6
  have hq6' := Lib.hid hq6
  clear iQ6 kQ6 hb6 hq6
  go_wp2
  rw [hw6'.out, hsb'.out]
  clear i0 i1 i2 i3 k0 k1 k2 k3 hw6' hsb'
  go_loopw [8, 35] (fun a i wr => ∃ j : Nat, j ≤ 2 ∧ i = .int .i64 j ∧ a = .bool (HQ (2 * j)) ∧ (∀ c, c < j → OK c = true) ∧ Below w6.heap.size w6 wr) (fun _ i _ => 2 - (intOf i).toNat)
  case atStart => exact ⟨0, Nat.zero_le _, rfl, by rw [h00'.out], fun c h => absurd h (Nat.not_lt_zero c), Below.refl _ _⟩
  case round =>
    obtain ⟨j, hj, rfl, rfl, hokr, hbr⟩ := hrel
    obtain ⟨wo, rfl⟩ : ∃ wo : World, wo = wr := ⟨_, rfl⟩
    have hbo := hb6'.out.trans (hbr.mono hb6'.out.size)
    by_cases hlt : j < 2
    · obtain ⟨_, _, e, _, _, H⟩ := hqf'.out _ _ (hq6'.out.below hbr)
      obtain ⟨rfl, _, rfl⟩ := Value.slice.inj e
      obtain ⟨_, _, e, p0, p1, p2, p3⟩ := H j hlt
      cases e
      clear H
      have iQo := iQ6'.out.below hbr
      have kQo := kQ6'.out.below hbr
      have cc1 := fun m w' hB h2 => cc'.out j m w' hB hlt h2
      generalize N4 j = P at *
      obtain ⟨⟨a0, a1⟩, ⟨a2, a3⟩⟩ := P
      simp only [Nat.zero_add] at p0 p1 p2 p3 cc1
      obtain ⟨w7, hw7⟩ : ∃ W, wo.alloc (.cells #[.int .i64 a0, .int .i64 a1, .int .i64 a2, .int .i64 a3] 43) = W := ⟨_, rfl⟩
      have hB7 : Below wo.heap.size wo w7 := by rw [← hw7]; exact (Below.refl _ _).alloc (Nat.le_refl _) _
      have jQ : BoxQ w7 wo.heap.size ((a0, a1), (a2, a3)) := by rw [← hw7]; refine ⟨?_, ?_, ?_, ?_⟩ <;> simp [go_sem]
      obtain ⟨w8, hw8⟩ : ∃ W, w7.alloc (.cells #[.int .i64 x, .int .i64 y, .int .i64 z, .int .i64 s, .int .i64 p, .int .i64 q, .int .i64 r, .int .i64 o] 43) = W := ⟨_, rfl⟩
      have hB8 : Below w7.heap.size w7 w8 := by rw [← hw8]; exact (Below.refl _ _).alloc (Nat.le_refl _) _
      have hq8 : QuadV w8 (.slice (some ⟨w7.heap.size, 0, none⟩) 2 2) [((x, y), (z, s)), ((p, q), (r, o))] := by rw [← hw8]; exact hqv'.out w7 43
      have jQ8 := jQ.below hB8
      have hs7 : wo.heap.size + 1 = w7.heap.size := by rw [← hw7]; simp
      have hb7 := hbo.trans (hB7.mono hbo.size)
      have hb8 := hb7.trans (hB8.mono hb7.size)
      have hbw8 := (hbr.trans (hB7.mono hbr.size)).trans (hB8.mono (by have := hbr.size; omega))
      obtain ⟨i0, i1, i2, i3⟩ := iQo.below hB7
      obtain ⟨k0, k1, k2, k3⟩ := kQo.below hB7
      simp only at i0 i1 i2 i3 k0 k1 k2 k3
      rw [← hw7] at i0 i1 i2 i3 k0 k1 k2 k3
      obtain ⟨sc, hsc⟩ : ∃ sc, w7.heap.size = sc := ⟨_, rfl⟩
      rw [hsc] at hq8 hs7
      obtain ⟨jo, hjo⟩ : ∃ jo, wo.heap.size = jo := ⟨_, rfl⟩
      rw [hjo] at jQ8
      clear iQo kQo hB7 hB8 jQ hb7 hbr hbo
      have hw7' := Lib.hid hw7
      have hw8' := Lib.hid hw8
      have hs7' := Lib.hid hs7
      have hjo' := Lib.hid hjo
      have hsc' := Lib.hid hsc
      clear hw7 hw8 hs7 hjo hsc
      have jQ8' := Lib.hid jQ8
      have hq8' := Lib.hid hq8
      have hb8' := Lib.hid hb8
      have hbw8' := Lib.hid hbw8
      have cc1' := Lib.hid cc1
      have hokr' := Lib.hid hokr
      clear jQ8 hq8 hb8 hbw8 cc1 hokr
      go_wp2
      rw [hw7'.out, hw8'.out, hs7'.out, hjo'.out]
      clear i0 i1 i2 i3 k0 k1 k2 k3 p0 p1 p2 p3
      go_loopw [8, 43] (fun a i wr => ∃ m : Nat, m ≤ 2 ∧ i = .int .i64 m ∧ a = .bool (HQ (2 * j + m)) ∧ (0 < m → OK j = true) ∧ Below w8.heap.size w8 wr) (fun _ i _ => 2 - (intOf i).toNat)
      case atStart => exact ⟨0, Nat.zero_le _, rfl, rfl, fun h => absurd h (Nat.lt_irrefl 0), Below.refl _ _⟩
      case round =>
        obtain ⟨m, hm, rfl, rfl, hok, hbr⟩ := hrel
        obtain ⟨wi, rfl⟩ : ∃ wi : World, wi = wr := ⟨_, rfl⟩
        have hbi := hb8'.out.trans (hbr.mono hb8'.out.size)
        by_cases hlt2 : m < 2
        · obtain ⟨_, _, e, _, _, H⟩ := hqf'.out _ _ (hq8'.out.below hbr)
          obtain ⟨rfl, _, rfl⟩ := Value.slice.inj e
          obtain ⟨_, _, e, p0, p1, p2, p3⟩ := H m hlt2
          cases e
          clear H
          have jQi := jQ8'.out.below hbr
          have cc2 := fun w' hB => cc1'.out m w' hB hlt2
          have hst1 := hst'.out j m hlt2
          rw [Nat.add_assoc] at hst1
          have hno1 := hno'.out j hlt
          generalize N4 m = Q at *
          generalize CB j m = cb at *
          generalize HQ (2 * j + m) = hq at *
          obtain ⟨⟨c0, c1⟩, ⟨c2, c3⟩⟩ := Q
          simp only [Nat.zero_add] at p0 p1 p2 p3 cc2
          obtain ⟨w9, hw9⟩ : ∃ W, wi.alloc (.cells #[.int .i64 c0, .int .i64 c1, .int .i64 c2, .int .i64 c3] 43) = W := ⟨_, rfl⟩
          have hB9 : Below wi.heap.size wi w9 := by rw [← hw9]; exact (Below.refl _ _).alloc (Nat.le_refl _) _
          have hb9 := hbi.trans (hB9.mono hbi.size)
          have hbw9 := hbr.trans (hB9.mono hbr.size)
          have cc3 := cc2 w9 hb9
          obtain ⟨x0, x1, x2, x3⟩ := jQi.below hB9
          have hil := jQi.lt
          rw [← hw9] at x0 x1 x2 x3
          simp only at x0 x1 x2 x3
          clear hbr hB9 cc2 hbi jQi
          cases hOKj : OK j
          · rw [hOKj, if_neg (by decide)] at cc3
            have hV := hno1 hOKj
            subst hV
            clear hok hst1 hno1
            have cc3' := Lib.hid cc3
            have hw9' := Lib.hid hw9
            have hbw9' := Lib.hid hbw9
            have hb9' := Lib.hid hb9
            have hOKj' := Lib.hid hOKj
            clear cc3 hw9 hbw9 hb9 hOKj
            go_wp2_with fail
            rw [hw9'.out]
            clear x0 x1 x2 x3 p0 p1 p2 p3 hw9'
            go_wp2_with fail
            refine (cc3'.out).mono ?_
            rintro e w10 ⟨rfl, hB10⟩
            have hb10 := hb9'.out.trans (hB10.mono hb9'.out.size)
            go_wp2
            go_ret2
            exact ⟨rfl, hb10⟩
          · rw [hOKj, if_pos rfl] at cc3
            clear hok hno1
            have cc3' := Lib.hid cc3
            have hw9' := Lib.hid hw9
            have hbw9' := Lib.hid hbw9
            have hb9' := Lib.hid hb9
            have hOKj' := Lib.hid hOKj
            have hst1' := Lib.hid hst1
            clear cc3 hw9 hbw9 hb9 hOKj hst1
            go_wp2_with fail
            rw [hw9'.out]
            clear x0 x1 x2 x3 p0 p1 p2 p3 hw9'
            go_wp2_with fail
            refine (cc3'.out).mono ?_
            rintro e w10 ⟨rfl, hB10⟩
            have hbw10 := hbw9'.out.trans (hB10.mono hbw9'.out.size)
            clear hB10 hbw9' hb9'
            have hbw10' := Lib.hid hbw10
            clear hbw10
            cases hq
            · go_wp2
              go_roundw
              case rel => exact ⟨m + 1, by omega, by go_num, by rw [hst1'.out]; rfl, fun _ => by first | trivial | exact hOKj'.out, hbw10'.out⟩
              case measure => simp [intOf]; omega
            · go_wp2
              go_roundw
              case rel => exact ⟨m + 1, by omega, by go_num, by rw [hst1'.out, Bool.true_and], fun _ => by first | trivial | exact hOKj'.out, hbw10'.out⟩
              case measure => simp [intOf]; omega
        · obtain rfl : m = 2 := by omega
          have hbw := hbw8'.out.trans (hbr.mono hbw8'.out.size)
          have hok2 : ∀ c, c < j + 1 → OK c = true := fun c hc => by
            rcases Nat.lt_succ_iff_lt_or_eq.1 hc with h | rfl
            · exact hokr'.out c h
            · exact hok (by omega)
          clear hok hbr hbi
          have hbw' := Lib.hid hbw
          have hok2' := Lib.hid hok2
          clear hbw hok2
          go_wp2
          go_roundw
          case rel => exact ⟨j + 1, by omega, by go_num, rfl, hok2'.out, hbw'.out⟩
          case measure => simp [intOf]; omega
    · obtain rfl : j = 2 := by omega
      have hV := hyes'.out (hokr 0 (by omega)) (hokr 1 (by omega))
      subst hV
      clear hokr hbr
      have hbo' := Lib.hid hbo
      clear hbo
      go_wp2
      go_ret2
      exact ⟨rfl, hbo'.out⟩
theorem specIsHorseshoe_any (v : Value) (f : List Quad) (i k : Quad) (w : World) (hv : QuadV w v f) (hm : szPointS f ≤ 1099511627776) (_hi : I64I i) (_hk : I64I k) :
    Calls Try.prog 22 #[v, quadV i, quadV k] w (Ret (.tuple #[.bool (IsHorseshoe_v f i k).1, .bool (IsHorseshoe_v f i k).2]) w) := by
  have c1 := fun w' (hB : Below w.heap.size w w') => imGood_any v f w' (hv.below hB) hm
  by_cases h : mapB f = true ∧ ivB i = true ∧ ivB k = true
  · rw [h.1] at c1
    refine horse_in v f i k _ w hv (mapB_true h.1) h.2.1 h.2.2 ?_ ?_ c1
    · intro j hj hb
      refine hs_no fun hc => ?_
      obtain ⟨_, _, _, h4, h5⟩ := hc
      have : j = 0 ∨ j = 1 := by omega
      rcases this with rfl | rfl
      · rw [show nth4 [i, k] 0 = i from rfl, h4] at hb; cases hb
      · rw [show nth4 [i, k] 1 = k from rfl, h5] at hb; cases hb
    · intro h4 h5
      rw [hsQ_end]
      exact hs_yes ⟨h.1, h.2.1, h.2.2, h4, h5⟩
  · rw [hs_no (fun hc => h ⟨hc.1, hc.2.1, hc.2.2.1⟩)]
    have ci := fun w' => ivGood_any i w'
    have ck := fun w' => ivGood_any k w'
    generalize mapB f = M at *
    generalize ivB i = I at *
    generalize ivB k = K at *
    clear hv
    obtain ⟨w1, hw1⟩ : ∃ W, (w.alloc (.cells #[.int .i64 i.1.1, .int .i64 i.1.2, .int .i64 i.2.1, .int .i64 i.2.2] 43)).alloc (.cells #[.int .i64 k.1.1, .int .i64 k.1.2, .int .i64 k.2.1, .int .i64 k.2.2] 43) = W := ⟨_, rfl⟩
    have hB1 : Below w.heap.size w w1 := by rw [← hw1]; exact ((Below.refl _ _).alloc (Nat.le_refl _) _).alloc (by simp) _
    have iQ : BoxQ w1 w.heap.size i := by rw [← hw1]; refine ⟨?_, ?_, ?_, ?_⟩ <;> simp [go_sem]
    have kQ : BoxQ w1 (w.heap.size + 1) k := by rw [← hw1]; refine ⟨?_, ?_, ?_, ?_⟩ <;> simp [go_sem]
    have cc1 := c1 w1 hB1
    clear c1
    obtain ⟨⟨x, y⟩, ⟨z, s⟩⟩ := i
    obtain ⟨⟨p, q⟩, ⟨r, o⟩⟩ := k
    simp only at ci ck hw1
    have cc1' := Lib.hid cc1
    have ci' := Lib.hid ci
    have ck' := Lib.hid ck
    have hw1' := Lib.hid hw1
    have iQ' := Lib.hid iQ
    have kQ' := Lib.hid kQ
    have h' := Lib.hid h
    clear cc1 ci ck hw1 iQ kQ h
    show Calls _ _ #[_, .agg #[.int .i64 x, .int .i64 y, .int .i64 z, .int .i64 s], .agg #[.int .i64 p, .int .i64 q, .int .i64 r, .int .i64 o]] w _
    cases M
    · go_enter Try.func22, Try.ntmps22
      go_wp2_with fail
      rw [hw1'.out]
      go_wp2_with fail
      refine (cc1'.out).mono ?_
      rintro e w2 ⟨rfl, hB2⟩
      have hb2 := hB1.trans (hB2.mono hB1.size)
      go_wp2
      go_ret2
      exact ⟨rfl, hb2⟩
    · cases I
      · go_enter Try.func22, Try.ntmps22
        go_wp2_with fail
        rw [hw1'.out]
        go_wp2_with fail
        refine (cc1'.out).mono ?_
        rintro e w2 ⟨rfl, hB2⟩
        have hb2 := hB1.trans (hB2.mono hB1.size)
        obtain ⟨i0, i1, i2, i3⟩ := iQ'.out.below hB2
        simp only at i0 i1 i2 i3
        go_wp2_with fail
        refine (ci'.out _).mono ?_
        rintro e w3 ⟨rfl, hB3⟩
        have hb3 := hb2.trans (hB3.mono hb2.size)
        go_wp2
        go_ret2
        exact ⟨rfl, hb3⟩
      · cases K
        · go_enter Try.func22, Try.ntmps22
          go_wp2_with fail
          rw [hw1'.out]
          go_wp2_with fail
          refine (cc1'.out).mono ?_
          rintro e w2 ⟨rfl, hB2⟩
          have hb2 := hB1.trans (hB2.mono hB1.size)
          have kQ2 := kQ'.out.below hB2
          obtain ⟨i0, i1, i2, i3⟩ := iQ'.out.below hB2
          simp only at i0 i1 i2 i3
          have kQ2' := Lib.hid kQ2
          clear kQ2
          go_wp2_with fail
          refine (ci'.out _).mono ?_
          rintro e w3 ⟨rfl, hB3⟩
          have hb3 := hb2.trans (hB3.mono hb2.size)
          obtain ⟨k0, k1, k2, k3⟩ := kQ2'.out.below hB3
          simp only at k0 k1 k2 k3
          go_wp2_with fail
          refine (ck'.out _).mono ?_
          rintro e w4 ⟨rfl, hB4⟩
          have hb4 := hb3.trans (hB4.mono hb3.size)
          go_wp2
          go_ret2
          exact ⟨rfl, hb4⟩
        · exact absurd ⟨rfl, rfl, rfl⟩ h'.out

end Go.Proofs.Ytfcanpebagpdbaa

/- The reference's coefficients of the characteristic polynomial, and the determinant: the reference's walks and the program's. -/
import Derived.Test.YtnmcmepkfggfnaaChar
namespace Go.Proofs.Ytnmcmepkfggfnaa
open Go.RowKit

/-- A row that is filled: I products are there in the columns, one more in those before J. -/
def zeR (a b : Nat → Nat → Int) (r I J c : Nat) : Int := if c < J then mulS a b r c (I + 1) else mulS a b r c I
theorem zeR_at (a b : Nat → Nat → Int) (r I J : Nat) : zeR a b r I J J = mulS a b r J I := by unfold zeR; rw [if_neg (Nat.lt_irrefl _)]
theorem zeR_step (a b : Nat → Nat → Int) (r I J c : Nat) : (if c = J then mulS a b r J (I + 1) else zeR a b r I J c) = zeR a b r I (J + 1) c := by
  unfold zeR
  by_cases h : c = J
  · rw [if_pos h, if_pos (by omega), h]
  · rw [if_neg h]
    by_cases h2 : c < J
    · rw [if_pos h2, if_pos (by omega)]
    · rw [if_neg h2, if_neg (by omega)]

set_option maxRecDepth 100000 in
set_option maxHeartbeats 2000000 in
theorem zeTimes_any (b1 o1 c1 b2 o2 c2 n : Nat) (ro1 rf1 rc1 ro2 rf2 rc2 : Nat → Nat) (f h : Nat → Nat → Int) (w : World) (H1 : GR w b1 o1 n n ro1 rf1 rc1 f) (H2 : GR w b2 o2 n n ro2 rf2 rc2 h) (n1 : 1 ≤ n) (n8 : n ≤ 8) :
    Calls Try.prog 95 #[.slice (some ⟨b1, o1, none⟩) n c1, .slice (some ⟨b2, o2, none⟩) n c2] w (RetM n n (mulM f h n) w) := by
  obtain ⟨i2, hi2, hy0, hy1, hy2⟩ := info_parts Try.infoInt
  have H1' := Lib.hid H1
  have H2' := Lib.hid H2
  clear H1 H2
  go_enter Try.func95, Try.ntmps95
  go_wp2
  go_loopw [5, 15] (fun o i wr => ∃ (k : Nat) (rb rc : Nat → Nat), k ≤ n ∧ i = .int .i64 k ∧ GrowT wr w.heap.size wr.heap.size o k n rb rc (mulM f h n) ∧ Below w.heap.size w wr) (fun _ i _ => n - (intOf i).toNat)
  case atStart => exact ⟨0, fun _ => 0, fun _ => 0, Nat.zero_le _, rfl, GrowT.nil _ _ _ _ _ _ _, Below.refl _ _⟩
  case round =>
    obtain ⟨k, rb, rc, hk, rfl, hp, hB⟩ := hrel
    obtain ⟨wo, rfl⟩ : ∃ wo : World, wo = wr := ⟨_, rfl⟩
    have hs := hB.size
    by_cases hlt : k < n
    · have p1 := (H1'.out.below hB k hlt).1
      have hp' := Lib.hid hp
      clear hp
      go_wp2_with (at_make; refine wpList_make_full _ rfl _ _ 27 rfl w.heap.size 3 i2 _ 1 Try.underlying27 hi2 hy0 hy1 _ _ _ _ n rfl rfl rfl rfl (by rw [hy2]; omega) (by unfold maxLen; omega) hs ?_)
      intro w2 hown hgrow
      have hB2 : Below wo.heap.size wo w2 := below_made (Below.refl _ _) (Nat.le_refl _) hgrow
      have hr := row_made hown
      rw [lst_zero, lst_congr (g := zeR f h k 0 0) (fun c _ => by unfold zeR; rw [if_neg (Nat.not_lt_zero _)]; rfl)] at hr
      have hp2 := hp'.out.kept hB2
      have hrsz := hr.lt.2
      clear hown hgrow hp' p1
      have hp2' := Lib.hid hp2
      have hr' := Lib.hid hr
      clear hp2 hr
      go_wp2
      go_loopw [24] (fun i wr => ∃ I : Nat, I ≤ n ∧ i = .int .i64 I ∧ RowAt wr w.heap.size wo.heap.size n n (lst n (zeR f h k I 0)) ∧ Turned wo.heap.size (wo.heap.size + 1) w2 wr) (fun i _ => n - (intOf i).toNat)
      case atStart => exact ⟨0, Nat.zero_le _, rfl, hr'.out, Turned.refl _ _ _⟩
      case round =>
        obtain ⟨I, hI, rfl, hr2, ht⟩ := hrel
        clear hr'
        by_cases hltI : I < n
        · have hBr := hB.trans ((hB2.trans ht.below).mono hB.size)
          have p1 := (H1'.out.below hBr k hlt).2.2 I hltI
          have p2 := (H2'.out.below hBr I hltI).1
          have hr2' := Lib.hid hr2
          clear hr2
          clear hBr
          go_wp2
          go_loopw [34] (fun i wr => ∃ J : Nat, J ≤ n ∧ i = .int .i64 J ∧ RowAt wr w.heap.size wo.heap.size n n (lst n (zeR f h k I J)) ∧ Turned wo.heap.size (wo.heap.size + 1) w2 wr) (fun i _ => n - (intOf i).toNat)
          case atStart => exact ⟨0, Nat.zero_le _, rfl, hr2'.out, ht⟩
          case round =>
            obtain ⟨J, hJ, rfl, hr3, ht3⟩ := hrel
            clear hr2'
            by_cases hltJ : J < n
            · have hBr := hB.trans ((hB2.trans ht3.below).mono hB.size)
              have p3 := (H2'.out.below hBr I hltI).2.2 J hltJ
              have q2 := hr3.cell hltJ
              have q3 := hr3.frozen J
              rw [nth_lst hltJ, zeR_at] at q2
              have hst := hr3.stored J (mulS f h k J (I + 1))
              have htn := hr3.turnedT J (mulS f h k J (I + 1)) ht3
              rw [lst_set, lst_congr (fun c _ => zeR_step f h k I J c)] at hst
              rw [mulS_succ] at hst htn
              have hst' := Lib.hid hst
              have htn' := Lib.hid htn
              clear hst htn
              clear hr3 hBr p2
              go_wp2
              go_roundw
              case rel => exact ⟨J + 1, by omega, by go_num, hst'.out, htn'.out⟩
              case measure => simp [intOf]; omega
            · obtain rfl : n = J := by omega
              rw [lst_congr (g := zeR f h k (I + 1) 0) (fun c hc => by unfold zeR; rw [if_pos hc, if_neg (Nat.not_lt_zero _)])] at hr3
              go_wp2
              go_roundw
              case rel => exact ⟨I + 1, by omega, by go_num, hr3, ht3⟩
              case measure => simp [intOf]; omega
        · obtain rfl : n = I := by omega
          rw [lst_congr (g := mulM f h n k) (fun c hc => by unfold zeR; rw [if_neg (Nat.not_lt_zero _)]; rfl)] at hr2
          have hp3 := hp2'.out.kept (ht.below)
          have hBa := hB.trans ((hB2.trans ht.below).mono hB.size)
          have hs4 := hBa.size
          clear hp2' ht
          go_wp2_with (at_builtin; refine wpList_append_row rfl _ _ rfl w.heap.size _ _ k n wo.heap.size n _ _ _ _ _ rfl rfl hp3 hr2 (Nat.le_refl _) (by omega) hs4 ?_)
          intro v' w3 hp4 hg3
          have hB5 : Below w.heap.size w w3 := hBa.grown hg3 hs4 (fun j hj => by have := (World.ownsRow.lt hp3.outer j hj).1; omega)
          have hp4' := Lib.hid hp4
          have hB5' := Lib.hid hB5
          clear hp4 hB5
          clear hg3 hp3 hr2 hBa
          go_wp2
          go_roundw
          case rel => exact ⟨k + 1, _, _, by omega, by go_num, (hp4'.out).congr (fun i j _ _ => by split <;> (try subst_vars) <;> rfl), hB5'.out⟩
          case measure => simp [intOf]; omega
    · obtain rfl : n = k := by omega
      obtain ⟨gg2, cap2, rfl, hN⟩ := hp.form n1
      clear hp
      have hN' := Lib.hid hN
      clear hN
      go_wp2
      go_ret
      exact ⟨_, _, _, _, rfl, hN'.out, hB⟩

theorem zeTraceW_any (b1 o1 c1 n : Nat) (ro1 rf1 rc1 : Nat → Nat) (f : Nat → Nat → Int) (w : World) (H1 : GR w b1 o1 n n ro1 rf1 rc1 f) (n8 : n ≤ 8) :
    Calls Try.prog 62 #[.slice (some ⟨b1, o1, none⟩) n c1] w (Same (.int .i64 (trW f n)) w) := by
  have H1' := Lib.hid H1
  clear H1
  go_enter Try.func62, Try.ntmps62
  go_wp2
  go_loop [3, 8] (fun s i => ∃ k : Nat, k ≤ n ∧ i = .int .i64 k ∧ s = .int .i64 (trW f k)) (fun _ i => n - (intOf i).toNat)
  case atStart => exact ⟨0, Nat.zero_le _, rfl, rfl⟩
  case round =>
    obtain ⟨k, hk, rfl, rfl⟩ := hrel
    by_cases hlt : k < n
    · have p1 := (H1'.out k hlt).1
      have p2 := (H1'.out k hlt).2.2 k hlt
      have hs := trW_succ f k
      have hs' := Lib.hid hs
      clear hs
      go_wp2
      go_round
      case rel => exact ⟨k + 1, by omega, by go_num, by rw [hs'.out]⟩
      case measure => simp [intOf]; omega
    · obtain rfl : n = k := by omega
      go_wp2
      go_ret
      exact ⟨rfl, rfl⟩

set_option maxRecDepth 100000 in
set_option maxHeartbeats 4000000 in
theorem zeCoefficients_any (v : Value) (g : List (List Int)) (n : Nat) (w : World) (hv : RowsV w v g) (hg : graphB g = true) (hn : g.length = n) :
    Calls Try.prog 77 #[v] w (RetO Own (chL (ent g) n) w) := by
  obtain ⟨b, off, gcap, ro, rof, rcc, rfl, H⟩ := hv.graph hg hn
  obtain ⟨n1, n8, -, -⟩ := graphB_true hg
  rw [hn] at n1 n8
  obtain ⟨G, hG⟩ : ∃ G, ent g = G := ⟨_, rfl⟩
  rw [hG] at H ⊢
  obtain ⟨i2, hi2, hy0, hy1, hy2⟩ := info_parts Try.infoInt
  have H' := Lib.hid H
  have hn' := Lib.hid hn
  have hg' := Lib.hid hg
  have hG' := Lib.hid hG
  clear H hn hg hG
  clear hv
  go_enter Try.func77, Try.ntmps77
  go_wp2_with (at_make; refine wpList_make_full _ rfl _ _ 27 rfl w.heap.size 3 i2 _ 1 Try.underlying27 hi2 hy0 hy1 _ _ _ _ (n + 1) rfl rfl (by simp) (by simp) (by rw [hy2]; omega) (by unfold maxLen; omega) (Nat.le_refl _) ?_)
  intro w1 hown hgrow
  have hB1 : Below w.heap.size w w1 := below_made (Below.refl _ _) (Nat.le_refl _) hgrow
  have hr := row_made hown
  have hn1 : n < n + 1 := Nat.lt_succ_self _
  have a1 := hr.cell hn1
  have a2 := hr.frozen n
  have hst := hr.stored n 1
  rw [lst_zero, lst_set, lst_congr (g := chO G n 0) (fun c hc => by
    unfold chO
    by_cases e : c = n
    · rw [if_pos e, if_pos e]
    · rw [if_neg e, if_neg e, if_neg (by omega)])] at hst
  have hB2 := hB1.setCell (p := ⟨w.heap.size, n, none⟩) (Nat.le_refl _) (.int .i64 1)
  clear hown hgrow hr hB1
  have hst' := Lib.hid hst
  have hB2' := Lib.hid hB2
  clear hst hB2
  go_wp2
  go_loopw [5, 19] (fun o i wr => ∃ (k : Nat) (rb rc : Nat → Nat), k ≤ n ∧ i = .int .i64 k ∧ RowAt wr w.heap.size w.heap.size (n + 1) (n + 1) (lst (n + 1) (chO G n 0)) ∧ GrowT wr (w.heap.size + 1) wr.heap.size o k n rb rc (chM G n 0) ∧ Below w.heap.size w wr) (fun _ i _ => n - (intOf i).toNat)
  case atStart => exact ⟨0, fun _ => 0, fun _ => 0, Nat.zero_le _, rfl, hst'.out, GrowT.nil _ _ _ _ _ _ _, hB2'.out⟩
  case round =>
    obtain ⟨k, rb, rc, hk, rfl, hO, hp, hB⟩ := hrel
    clear hst' hB2' a1 a2
    obtain ⟨wo, rfl⟩ : ∃ wo : World, wo = wr := ⟨_, rfl⟩
    have hs := hB.size
    have hO2 := hO.lt.2
    by_cases hlt : k < n
    · have hp' := Lib.hid hp
      have hO' := Lib.hid hO
      clear hp hO
      go_wp2_with (at_make; refine wpList_make_full _ rfl _ _ 27 rfl (w.heap.size + 1) 3 i2 _ 1 Try.underlying27 hi2 hy0 hy1 _ _ _ _ n rfl rfl rfl rfl (by rw [hy2]; omega) (by unfold maxLen; omega) hO2 ?_)
      intro w2 hown hgrow
      have hB2 : Below wo.heap.size wo w2 := below_made (Below.refl _ _) (Nat.le_refl _) hgrow
      have hr := row_made hown
      rw [lst_zero] at hr
      have hp2 := hp'.out.kept hB2
      have hO3 := hO'.out.below hB2 hO2
      have hB3 := hB.trans (hB2.mono hB.size)
      have hs3 : w.heap.size + 1 ≤ w2.heap.size := Nat.le_trans hO2 hB2.size
      clear hown hgrow hp' hB2 hB hO'
      have hO3' := Lib.hid hO3
      clear hO3
      go_wp2_with (at_builtin; refine wpList_append_row rfl _ _ rfl (w.heap.size + 1) _ _ k n wo.heap.size n _ _ _ _ _ rfl rfl hp2 hr (Nat.le_refl _) (by omega) hs3 ?_)
      intro v' w3 hp3 hg3
      have hB4 : Below w.heap.size w w3 := hB3.grown hg3 (by omega) (fun j hj => by have := (World.ownsRow.lt hp2.outer j hj).1; omega)
      have hO4 := hO3'.out.kept hg3 (fun e => by have := (World.ownsRow.lt hp2.outer _ e).1; omega)
      obtain ⟨gg, cap, rfl, hM⟩ := hp3.form (Nat.succ_pos _)
      have q1 := hM.ptr (Nat.lt_succ_self k)
      have q2 := hM.cell (Nat.lt_succ_self k) hlt
      have q3 := hM.frozen (Nat.lt_succ_self k) k
      have hst := (hM.stored (Nat.lt_succ_self k) k 1).grow
      have htt := hM.turn (Nat.lt_succ_self k) k 1 (Turned.refl _ _ _)
      have hO5 := hO4.turned htt (.inl (Nat.lt_succ_self _))
      simp only [if_true] at q1 q2 q3 hst hO5
      have hB5 := hB4.setCell (p := ⟨wo.heap.size, k, none⟩) hs (.int .i64 1)
      have hst2 := hst.congr (f' := chM G n 0) (fun a c ha _ => by
        show _ = if a = c then (1 : Int) else 0
        simp only [upd]
        by_cases e : a = k ∧ c = k
        · rw [if_pos e, if_pos (by omega)]
        · rw [if_neg e]
          by_cases e2 : a = k
          · rw [if_pos e2, if_neg (by omega)]
          · rw [if_neg e2]; rfl)
      have hst2' := Lib.hid hst2
      have hB5' := Lib.hid hB5
      have hO5' := Lib.hid hO5
      clear hst2 hB5 hO5
      clear hg3 hp2 hr hB3 hM hp3 hst hO3' hO4 htt
      go_wp2
      go_roundw
      case rel => exact ⟨k + 1, _, _, by omega, by go_num, hO5'.out, by simpa [World.setCell] using hst2'.out, hB5'.out⟩
      case measure => simp [intOf]; omega
    · obtain rfl : n = k := by omega
      obtain ⟨gg, cap, rfl, hM⟩ := hp.form n1
      clear hp
      have hM' := Lib.hid hM
      have hO' := Lib.hid hO
      have hB' := Lib.hid hB
      clear hM hO hB
      go_wp2
      go_loopw [5, 7] (fun o i wr => ∃ (K mg mcap : Nat) (mrb mrc : Nat → Nat), K ≤ n ∧ i = .int .i64 ((K : Int) + 1) ∧ o = .slice (some ⟨mg, 0, none⟩) n mcap ∧ RowAt wr w.heap.size w.heap.size (n + 1) (n + 1) (lst (n + 1) (chO G n K)) ∧ MatT wr (w.heap.size + 1) wr.heap.size mg n mcap n mrb mrc (chM G n K) ∧ Below w.heap.size w wr) (fun _ i _ => n + 1 - (intOf i).toNat)
      case atStart => exact ⟨0, _, _, _, _, Nat.zero_le _, by go_num, rfl, hO'.out, hM'.out, hB'.out⟩
      case round =>
        obtain ⟨K, mg, mcap, mrb, mrc, hK, rfl, rfl, hO, hM, hB⟩ := hrel
        clear hO' hM' hB' hs hO2
        obtain ⟨wo, rfl⟩ : ∃ wo : World, wo = wr := ⟨_, rfl⟩
        by_cases hltK : K < n
        · have hk1 : (K : Int) + 1 ≤ n := by omega
          have hOs := hO.lt.2
          have cT := zeTimes_any b off gcap mg 0 mcap n ro rof rcc mrb (fun _ => 0) mrc G (chM G n K) wo (H'.out.below hB) hM.gr n1 n8
          clear hM
          have hO' := Lib.hid hO
          have hB' := Lib.hid hB
          have cT' := Lib.hid cT
          clear hO hB cT
          go_wp2_with fail
          refine cT'.out.mono ?_
          rintro e w3 ⟨ng, ncap, nrb, nrc, rfl, hN, hB3⟩
          have cR := zeTraceW_any ng 0 ncap n nrb (fun _ => 0) nrc _ w3 hN.gr n8
          have hO3 := hO'.out.below hB3 hOs
          have hB4 := hB'.out.trans (hB3.mono (by omega))
          have hN2 := (hN.congr (f' := chP G n K) (fun _ _ _ _ => rfl)).mono (B' := w.heap.size + 1) hOs (Nat.le_refl _)
          have o1 := hO3.cell (j := n - (K + 1)) (by omega)
          have o2 := hO3.frozen (n - (K + 1))
          have i1 : ((n : Int) - ((K : Int) + 1)).toNat = n - (K + 1) := by omega
          have i2 : (0 : Int) ≤ (n : Int) - ((K : Int) + 1) := by omega
          have i3 : (n : Int) - ((K : Int) + 1) < (n : Int) + 1 := by omega
          have i4 : ((K : Int) + 1 == 0) = false := by rw [beq_eq_false_iff_ne]; omega
          have hco : chC G n K = wrap64 ((wrap64 (-trW (chP G n K) n)).tdiv ((K : Int) + 1)) := rfl
          have hst := hO3.stored (n - (K + 1)) (wrap64 ((wrap64 (-trW (chP G n K) n)).tdiv ((K : Int) + 1)))
          rw [lst_set, lst_congr (g := chO G n (K + 1)) (fun c hc => by rw [← hco]; exact chO_step G n K hltK c hc)] at hst
          have htt : Turned w.heap.size (w.heap.size + 1) w3 (w3.setCell ⟨w.heap.size, n - (K + 1), none⟩ (.int .i64 (wrap64 ((wrap64 (-trW (chP G n K) n)).tdiv ((K : Int) + 1))))) := (Turned.refl _ _ _).setCell (p := ⟨w.heap.size, n - (K + 1), none⟩) (Nat.le_refl _) (Nat.lt_succ_self _) _
          have hN3 := hN2.turned htt (.inr (Nat.le_refl _))
          have hB6 := hB4.setCell (p := ⟨w.heap.size, n - (K + 1), none⟩) (Nat.le_refl _) (.int .i64 (wrap64 ((wrap64 (-trW (chP G n K) n)).tdiv ((K : Int) + 1))))
          have hlast : nth (lst (n + 1) (chO G n (K + 1))) (n - (K + 1)) = chC G n K := by
            rw [nth_lst (by omega), ← chO_step G n K hltK _ (by omega), if_pos rfl]
          change Calls Try.prog _ _ _ (Same (.int .i64 (trW (chP G n K) n)) _) at cR
          have hsz3 := size_setCell w3 ⟨w.heap.size, n - (K + 1), none⟩ (.int .i64 (wrap64 ((wrap64 (-trW (chP G n K) n)).tdiv ((K : Int) + 1))))
          rw [← hsz3] at hN3
          clear hN hO' hB' cT' hO3 hN2 htt hB4
          have hst' := Lib.hid hst
          have hN3' := Lib.hid hN3
          have hB6' := Lib.hid hB6
          have cR' := Lib.hid cR
          have hco' := Lib.hid hco
          have hlast' := Lib.hid hlast
          have hsz3' := Lib.hid hsz3
          clear hst hN3 hB6 cR hco hlast hsz3
          go_wp2_with fail
          refine cR'.out.mono ?_
          rintro e w_ ⟨rfl, rfl⟩
          go_wp2
          go_loopw [54] (fun i wr => ∃ k : Nat, k ≤ n ∧ i = .int .i64 k ∧ RowAt wr w.heap.size w.heap.size (n + 1) (n + 1) (lst (n + 1) (chO G n (K + 1))) ∧ MatT wr (w.heap.size + 1) wr.heap.size ng n ncap n nrb nrc (fun a c => if a = c ∧ a < k then wrap64 (chP G n K a c + chC G n K) else chP G n K a c) ∧ Below w.heap.size w wr) (fun i _ => n - (intOf i).toNat)
          case atStart => exact ⟨0, Nat.zero_le _, rfl, hst'.out, hN3'.out.congr (fun i j _ _ => by rw [if_neg (by omega)]), hB6'.out⟩
          case round =>
            obtain ⟨k, hk, rfl, hO2, hM2, hB2⟩ := hrel
            clear hst' hN3' hB6' cR' o1 o2
            by_cases hlt : k < n
            · have o1 := hO2.cell (j := n - (K + 1)) (by omega)
              rw [hlast'.out] at o1
              have q1 := hM2.ptr hlt
              have q2 := hM2.cell hlt hlt
              rw [if_neg (by omega)] at q2
              have q3 := hM2.frozen hlt k
              have hst := hM2.stored hlt k (wrap64 (chP G n K k k + chC G n K))
              have htt := hM2.turn hlt k (wrap64 (chP G n K k k + chC G n K)) (Turned.refl _ _ _)
              have hO3 := hO2.turned htt (.inl (Nat.lt_succ_self _))
              have hB3 := hB2.setCell (p := ⟨nrb k, k, none⟩) (Nat.le_trans (Nat.le_succ _) (hM2.block hlt).1) (.int .i64 (wrap64 (chP G n K k k + chC G n K)))
              have hsz4 := size_setCell wr ⟨nrb k, k, none⟩ (.int .i64 (wrap64 (chP G n K k k + chC G n K)))
              rw [← hsz4] at hst
              have hst' := Lib.hid hst
              have hO3' := Lib.hid hO3
              have hB3' := Lib.hid hB3
              clear hst hO3 hB3
              clear hM2 hO2 htt hB2 hsz4
              go_wp2_with fail
              go_region
              all_goals go_wp2
              go_roundw
              case rel => exact ⟨k + 1, by omega, by go_num, hO3'.out.drew', (hst'.out.congr (fun a c _ _ => by
                simp only [upd]
                by_cases e : a = k ∧ c = k
                · rw [if_pos e, if_pos (by omega), e.1, e.2]
                · rw [if_neg e]
                  by_cases e2 : a = c ∧ a < k
                  · rw [if_pos e2, if_pos (by omega)]
                  · rw [if_neg e2, if_neg (by omega)])).drew, hB3'.out.drew⟩
              case measure => simp [intOf]; omega
            · obtain rfl : n = k := by omega
              have hM3 := hM2.congr (f' := chM G n (K + 1)) (fun a c ha _ => by
                rw [chM_succ]
                by_cases e : a = c
                · rw [if_pos ⟨e, ha⟩, if_pos e]
                · rw [if_neg (fun q => e q.1), if_neg e])
              clear hM2
              have hM3' := Lib.hid hM3
              clear hM3
              go_wp2
              go_roundw
              case rel => exact ⟨K + 1, _, _, _, _, by omega, by go_num, rfl, hO2, hM3'.out, hB2⟩
              case measure => simp [intOf]; omega
        · obtain rfl : n = K := by omega
          have hk1 : ¬ (n : Int) + 1 ≤ n := by omega
          have hfin : Own wo w.heap.size wo.heap.size (.slice (some ⟨w.heap.size, 0, none⟩) (n + 1) (n + 1)) (chL G n) := hO.own
          have hfin' := Lib.hid hfin
          clear hfin
          clear hO hM
          go_wp2
          go_ret
          exact ⟨_, rfl, hfin'.out, hB⟩

/-- The determinant: the last coefficient, with a sign. -/
def detN (g : List (List Int)) : Int := if g.length % 2 = 1 then wrap64 (- nth (chL (ent g) g.length) 0) else nth (chL (ent g) g.length) 0
/-- What both DeterminantOf functions return. -/
def DeterminantOf_v (g : List (List Int)) : Int × Bool := if graphB g = true then (detN g, true) else (0, false)
theorem DeterminantOf_no {g : List (List Int)} (h : graphB g = false) : DeterminantOf_v g = (0, false) := by simp [DeterminantOf_v, h]
theorem DeterminantOf_yes {g : List (List Int)} (h : graphB g = true) : DeterminantOf_v g = (detN g, true) := by simp [DeterminantOf_v, h]

set_option maxHeartbeats 400000 in
theorem specDeterminantOf_any (v : Value) (g : List (List Int)) (w : World) (hv : RowsV w v g) (hm : szIntSS g ≤ 1099511627776) :
    Calls Try.prog 41 #[v] w (Ret (.tuple #[.int .i64 (DeterminantOf_v g).1, .bool (DeterminantOf_v g).2]) w) := by
  have c1 := grGood_any v g w hv hm
  have c1' := Lib.hid c1
  clear c1
  cases h : graphB g
  · rw [h] at c1'
    rw [DeterminantOf_no h]
    clear h hv
    go_enter Try.func41, Try.ntmps41
    go_wp2_with fail
    refine (c1'.out).mono ?_
    rintro e w_ ⟨rfl, rfl⟩
    go_wp2
    go_ret2
    exact ⟨rfl, Below.refl _ _⟩
  rw [h] at c1'
  rw [DeterminantOf_yes h]
  obtain ⟨n, hn⟩ : ∃ n, g.length = n := ⟨_, rfl⟩
  have c2 := fun w' hB => zeCoefficients_any v g n w' (hv.below hB) h hn
  obtain ⟨n1, n8, -, -⟩ := graphB_true h
  obtain ⟨ao, cap, rfl, -, -, -⟩ := hv
  unfold detN
  rw [hn] at n1 n8 c1' c2 ⊢
  have hl : (chL (ent g) n).length = n + 1 := lst_len _ _
  generalize chL (ent g) n = L at *
  have c2' := Lib.hid c2
  have hn' := Lib.hid hn
  have hl' := Lib.hid hl
  have h' := Lib.hid h
  clear c2 hn hl h
  by_cases hp : n % 2 = 1
  · rw [if_pos hp]
    have e1 : (((n : Int) % 2) == 1) = true := by rw [beq_iff_eq]; omega
    have e2 : (((n : Int).tmod 2) == 1) = true := by rw [beq_iff_eq, Int.tmod_eq_emod_of_nonneg (by omega)]; omega
    clear hp
    go_enter Try.func41, Try.ntmps41
    go_wp2_with fail
    refine (c1'.out).mono ?_
    rintro e w_ ⟨rfl, rfl⟩
    go_wp2_with fail
    refine (c2'.out _ (Below.refl _ _)).mono ?_
    rintro e w2 ⟨u, rfl, ho, hB2⟩
    obtain ⟨r, c, rfl, hr1, hr2, hr⟩ := ho.at hl'.out (Nat.succ_pos _)
    have q1 := hr.cell (Nat.succ_pos n)
    have hB0 : Below w.heap.size w _ := Below.refl _ _
    have hB3 := hB0.trans (hB2.mono hB0.size)
    clear ho hr
    go_wp2
    go_ret2
    exact ⟨rfl, hB3⟩
  · rw [if_neg hp]
    have e1 : (((n : Int) % 2) == 1) = false := by rw [beq_eq_false_iff_ne]; omega
    have e2 : (((n : Int).tmod 2) == 1) = false := by rw [beq_eq_false_iff_ne, ne_eq, Int.tmod_eq_emod_of_nonneg (by omega)]; omega
    clear hp
    go_enter Try.func41, Try.ntmps41
    go_wp2_with fail
    refine (c1'.out).mono ?_
    rintro e w_ ⟨rfl, rfl⟩
    go_wp2_with fail
    refine (c2'.out _ (Below.refl _ _)).mono ?_
    rintro e w2 ⟨u, rfl, ho, hB2⟩
    obtain ⟨r, c, rfl, hr1, hr2, hr⟩ := ho.at hl'.out (Nat.succ_pos _)
    have q1 := hr.cell (Nat.succ_pos n)
    have hB0 : Below w.heap.size w _ := Below.refl _ _
    have hB3 := hB0.trans (hB2.mono hB0.size)
    clear ho hr
    go_wp2
    go_ret2
    exact ⟨rfl, hB3⟩
set_option maxHeartbeats 400000 in
theorem implDeterminantOf_any (v : Value) (g : List (List Int)) (w : World) (hv : RowsV w v g) (hm : szIntSS g ≤ 1099511627776) :
    Calls Try.prog 42 #[v] w (Ret (.tuple #[.int .i64 (DeterminantOf_v g).1, .bool (DeterminantOf_v g).2]) w) := by
  have c1 := isGraph_any v g w hv hm
  have c1' := Lib.hid c1
  clear c1
  cases h : graphB g
  · rw [h] at c1'
    rw [DeterminantOf_no h]
    clear h hv
    go_enter Try.func42, Try.ntmps42
    go_wp2_with fail
    refine (c1'.out).mono ?_
    rintro e w1 ⟨rfl, hB⟩
    go_wp2
    go_ret2
    exact ⟨rfl, hB⟩
  rw [h] at c1'
  rw [DeterminantOf_yes h]
  obtain ⟨n, hn⟩ : ∃ n, g.length = n := ⟨_, rfl⟩
  have c2 := fun w' hB => characteristic_any v g n w' (hv.below hB) h hn
  obtain ⟨n1, n8, -, -⟩ := graphB_true h
  obtain ⟨ao, cap, rfl, -, -, -⟩ := hv
  unfold detN
  rw [hn] at n1 n8 c1' c2 ⊢
  have hl : (chL (ent g) n).length = n + 1 := lst_len _ _
  generalize chL (ent g) n = L at *
  have c2' := Lib.hid c2
  have hn' := Lib.hid hn
  have hl' := Lib.hid hl
  have h' := Lib.hid h
  clear c2 hn hl h
  by_cases hp : n % 2 = 1
  · rw [if_pos hp]
    have e1 : (((n : Int) % 2) == 1) = true := by rw [beq_iff_eq]; omega
    have e2 : (((n : Int).tmod 2) == 1) = true := by rw [beq_iff_eq, Int.tmod_eq_emod_of_nonneg (by omega)]; omega
    clear hp
    go_enter Try.func42, Try.ntmps42
    go_wp2_with fail
    refine (c1'.out).mono ?_
    rintro e w1 ⟨rfl, hB⟩
    go_wp2_with fail
    refine (c2'.out _ hB).mono ?_
    rintro e w2 ⟨u, rfl, ho, hB2⟩
    obtain ⟨r, c, rfl, hr1, hr2, hr⟩ := ho.at hl'.out (Nat.succ_pos _)
    have q1 := hr.cell (Nat.succ_pos n)
    have hB0 : Below w.heap.size w _ := hB
    have hB3 := hB0.trans (hB2.mono hB0.size)
    clear ho hr
    go_wp2
    go_ret2
    exact ⟨rfl, hB3⟩
  · rw [if_neg hp]
    have e1 : (((n : Int) % 2) == 1) = false := by rw [beq_eq_false_iff_ne]; omega
    have e2 : (((n : Int).tmod 2) == 1) = false := by rw [beq_eq_false_iff_ne, ne_eq, Int.tmod_eq_emod_of_nonneg (by omega)]; omega
    clear hp
    go_enter Try.func42, Try.ntmps42
    go_wp2_with fail
    refine (c1'.out).mono ?_
    rintro e w1 ⟨rfl, hB⟩
    go_wp2_with fail
    refine (c2'.out _ hB).mono ?_
    rintro e w2 ⟨u, rfl, ho, hB2⟩
    obtain ⟨r, c, rfl, hr1, hr2, hr⟩ := ho.at hl'.out (Nat.succ_pos _)
    have q1 := hr.cell (Nat.succ_pos n)
    have hB0 : Below w.heap.size w _ := hB
    have hB3 := hB0.trans (hB2.mono hB0.size)
    clear ho hr
    go_wp2
    go_ret2
    exact ⟨rfl, hB3⟩

end Go.Proofs.Ytnmcmepkfggfnaa

/- The coefficients of the characteristic polynomial of a graph, modulo 2^64: the reference's walk and the program's compute the same list. -/
import Derived.Test.YtnmcmepkfggfnaaPower
import Derived.Test.YtnmcmepkfggfnaaArrows
import Derived.Test.YtnmcmepkfggfnaaCompanion
import Derived.Test.YtnmcmepkfggfnaaWrap
namespace Go.Proofs.Ytnmcmepkfggfnaa
open Go.RowKit

/-- A sum of products, modulo 2^64. -/
def mulS (a b : Nat → Nat → Int) (i j : Nat) : Nat → Int
  | 0 => 0
  | l + 1 => wrap64 (mulS a b i j l + wrap64 (a i l * b l j))
theorem mulS_succ (a b : Nat → Nat → Int) (i j l : Nat) : mulS a b i j (l + 1) = wrap64 (mulS a b i j l + wrap64 (a i l * b l j)) := rfl
def mulM (a b : Nat → Nat → Int) (n : Nat) : Nat → Nat → Int := fun i j => mulS a b i j n
/-- A sum on the diagonal, modulo 2^64. -/
def trW (f : Nat → Nat → Int) : Nat → Int
  | 0 => 0
  | k + 1 => wrap64 (trW f k + f k k)
theorem trW_succ (f : Nat → Nat → Int) (k : Nat) : trW f (k + 1) = wrap64 (trW f k + f k k) := rfl
theorem trW_congr {f f' : Nat → Nat → Int} : ∀ n, (∀ k, k < n → f k k = f' k k) → trW f n = trW f' n := by
  intro n
  induction n with
  | zero => intro _; rfl
  | succ n ih => intro h; rw [trW_succ, trW_succ, ih (fun k hk => h k (by omega)), h n (by omega)]
/-- The coefficient of a round, out of the table that the round has made. -/
def chCo (P : Nat → Nat → Int) (n k : Nat) : Int := wrap64 ((wrap64 (-trW P n)).tdiv ((k : Int) + 1))
/-- The table that is multiplied in round k + 1. -/
def chM (g : Nat → Nat → Int) (n : Nat) : Nat → Nat → Nat → Int
  | 0 => fun i j => if i = j then 1 else 0
  | k + 1 => fun i j => if i = j then wrap64 (mulM g (chM g n k) n i j + chCo (mulM g (chM g n k) n) n k) else mulM g (chM g n k) n i j
def chP (g : Nat → Nat → Int) (n k : Nat) : Nat → Nat → Int := mulM g (chM g n k) n
def chC (g : Nat → Nat → Int) (n k : Nat) : Int := chCo (chP g n k) n k
theorem chM_succ (g : Nat → Nat → Int) (n k i j : Nat) : chM g n (k + 1) i j = if i = j then wrap64 (chP g n k i j + chC g n k) else chP g n k i j := rfl
theorem chP_eq (g : Nat → Nat → Int) (n k i j : Nat) : chP g n k i j = mulS g (chM g n k) i j n := rfl
/-- The coefficients once K rounds have been made. -/
def chO (g : Nat → Nat → Int) (n K c : Nat) : Int := if c = n then 1 else if n - K ≤ c then chC g n (n - 1 - c) else 0
theorem chO_step (g : Nat → Nat → Int) (n K : Nat) (hK : K < n) (c : Nat) (hc : c < n + 1) : (if c = n - (K + 1) then chC g n K else chO g n K c) = chO g n (K + 1) c := by
  unfold chO
  by_cases e : c = n - (K + 1)
  · rw [if_pos e, if_neg (by omega), if_pos (by omega), show n - 1 - c = K by omega]
  · rw [if_neg e]
    by_cases e2 : c = n
    · rw [if_pos e2, if_pos e2]
    · rw [if_neg e2, if_neg e2]
      by_cases e3 : n - K ≤ c
      · rw [if_pos e3, if_pos (by omega)]
      · rw [if_neg e3, if_neg (by omega)]
/-- The coefficients of the characteristic polynomial. -/
def chL (g : Nat → Nat → Int) (n : Nat) : List Int := lst (n + 1) (chO g n n)

/-- A table that is filled row by row: rows before I are done; in row I the first J entries, and L products of entry J. -/
def muF (a b : Nat → Nat → Int) (n I J L : Nat) (i c : Nat) : Int := if i < I then mulM a b n i c else if i = I then (if c < J then mulM a b n i c else if c = J then mulS a b I J L else 0) else 0
theorem muF_at (a b : Nat → Nat → Int) (n I J L : Nat) : muF a b n I J L I J = mulS a b I J L := by
  unfold muF; rw [if_neg (Nat.lt_irrefl _), if_pos rfl, if_neg (Nat.lt_irrefl _), if_pos rfl]
theorem muF_step (a b : Nat → Nat → Int) (n I J L : Nat) (i c : Nat) : upd (muF a b n I J L) I J (mulS a b I J (L + 1)) i c = muF a b n I J (L + 1) i c := by
  simp only [upd, muF]
  by_cases e : i = I ∧ c = J
  · rw [if_pos e, if_neg (by omega), if_pos e.1, if_neg (by omega), if_pos e.2]
  · rw [if_neg e]
    by_cases h1 : i < I
    · rw [if_pos h1, if_pos h1]
    · rw [if_neg h1, if_neg h1]
      by_cases h2 : i = I
      · rw [if_pos h2, if_pos h2]
        by_cases h3 : c < J
        · rw [if_pos h3, if_pos h3]
        · rw [if_neg h3, if_neg h3, if_neg (fun q => e ⟨h2, q⟩), if_neg (fun q => e ⟨h2, q⟩)]
      · rw [if_neg h2, if_neg h2]
theorem muF_col (a b : Nat → Nat → Int) (n I J : Nat) (i c : Nat) : muF a b n I J n i c = muF a b n I (J + 1) 0 i c := by
  unfold muF
  by_cases h1 : i < I
  · rw [if_pos h1, if_pos h1]
  · rw [if_neg h1, if_neg h1]
    by_cases h2 : i = I
    · rw [if_pos h2, if_pos h2]
      by_cases h3 : c < J
      · rw [if_pos h3, if_pos (by omega)]
      · rw [if_neg h3]
        by_cases h4 : c = J
        · rw [if_pos h4, if_pos (by omega), h2, h4]; rfl
        · rw [if_neg h4, if_neg (by omega)]
          by_cases h5 : c = J + 1
          · rw [if_pos h5]; rfl
          · rw [if_neg h5]
    · rw [if_neg h2, if_neg h2]
theorem muF_row (a b : Nat → Nat → Int) (n I : Nat) (i c : Nat) (hc : c < n) : muF a b n I n 0 i c = muF a b n (I + 1) 0 0 i c := by
  unfold muF
  by_cases h1 : i < I
  · rw [if_pos h1, if_pos (by omega)]
  · rw [if_neg h1]
    by_cases h2 : i = I
    · rw [if_pos h2, if_pos hc, if_pos (by omega)]
    · rw [if_neg h2, if_neg (by omega)]
      by_cases h3 : i = I + 1
      · rw [if_pos h3, if_neg (Nat.not_lt_zero _)]
        by_cases h4 : c = 0
        · rw [if_pos h4]; rfl
        · rw [if_neg h4]
      · rw [if_neg h3]
theorem muF_zero (a b : Nat → Nat → Int) (n i c : Nat) : muF a b n 0 0 0 i c = 0 := by
  unfold muF
  rw [if_neg (Nat.not_lt_zero _)]
  by_cases e : i = 0
  · rw [if_pos e, if_neg (Nat.not_lt_zero _)]
    by_cases e2 : c = 0
    · rw [if_pos e2]; rfl
    · rw [if_neg e2]
  · rw [if_neg e]

/-- What the program's round begins with, and adds. -/
def chI (g : Nat → Nat → Int) (n : Nat) : Nat → Nat → Nat → Int
  | 0 => fun _ _ => 0
  | k + 1 => chP g n k
def chA (g : Nat → Nat → Int) (n : Nat) : Nat → Int
  | 0 => 1
  | k + 1 => chC g n k
theorem chI_eq (g : Nat → Nat → Int) (n K i j : Nat) : (if i = j then wrap64 (chI g n K i j + chA g n K) else chI g n K i j) = chM g n K i j := by
  cases K with
  | zero => show (if i = j then wrap64 (0 + 1) else (0 : Int)) = if i = j then 1 else 0; rw [wrap64_id (by omega) (by omega), Int.zero_add]
  | succ k => rfl
theorem chO_last (g : Nat → Nat → Int) (n K : Nat) (hK : K < n) : chO g n K (n - K) = chA g n K := by
  unfold chO
  cases K with
  | zero => rw [if_pos (by omega)]; rfl
  | succ k => rw [if_neg (by omega), if_pos (Nat.le_refl _), show n - 1 - (n - (k + 1)) = k by omega]; rfl

set_option maxRecDepth 100000 in
set_option maxHeartbeats 4000000 in
theorem characteristic_any (v : Value) (g : List (List Int)) (n : Nat) (w : World) (hv : RowsV w v g) (hg : graphB g = true) (hn : g.length = n) :
    Calls Try.prog 78 #[v] w (RetO Own (chL (ent g) n) w) := by
  obtain ⟨b, off, gcap, ro, rof, rcc, rfl, H⟩ := hv.graph hg hn
  obtain ⟨n1, n8, -, -⟩ := graphB_true hg
  rw [hn] at n1 n8
  obtain ⟨G, hG⟩ : ∃ G, ent g = G := ⟨_, rfl⟩
  rw [hG] at H ⊢
  obtain ⟨i2, hi2, hy0, hy1, hy2⟩ := info_parts Try.infoInt
  have H' := Lib.hid H
  have hn' := Lib.hid hn
  have hg' := Lib.hid hg
  have hG' := Lib.hid hG
  clear H hn hg hG
  clear hv
  go_enter Try.func78, Try.ntmps78
  go_wp2_with (at_make; refine wpList_make_full _ rfl _ _ 27 rfl w.heap.size 3 i2 _ 1 Try.underlying27 hi2 hy0 hy1 _ _ _ _ (n + 1) rfl rfl (by simp) (by simp) (by rw [hy2]; omega) (by unfold maxLen; omega) (Nat.le_refl _) ?_)
  intro w1 hown hgrow
  have hB1 : Below w.heap.size w w1 := below_made (Below.refl _ _) (Nat.le_refl _) hgrow
  have hr := row_made hown
  have hn1 : n < n + 1 := Nat.lt_succ_self _
  have a1 := hr.cell hn1
  have a2 := hr.frozen n
  have hst := hr.stored n 1
  rw [lst_zero, lst_set, lst_congr (g := chO G n 0) (fun c hc => by
    unfold chO
    by_cases e : c = n
    · rw [if_pos e, if_pos e]
    · rw [if_neg e, if_neg e, if_neg (by omega)])] at hst
  have hs1 := hr.lt.2
  have hB2 := hB1.setCell (p := ⟨w.heap.size, n, none⟩) (Nat.le_refl _) (.int .i64 1)
  have hsz1 := size_setCell w1 ⟨w.heap.size, n, none⟩ (.int .i64 1)
  obtain ⟨w2, hw2⟩ : ∃ w2, w1.setCell ⟨w.heap.size, n, none⟩ (.int .i64 1) = w2 := ⟨_, rfl⟩
  rw [hw2] at hst hB2 hsz1
  have cE := emptyGraph_any n w2 (by omega) n1
  have hgt : w.heap.size + 1 ≤ w2.heap.size := by omega
  have hst' := Lib.hid hst
  have hB2' := Lib.hid hB2
  have cE' := Lib.hid cE
  have hsz1' := Lib.hid hsz1
  clear hst hB2 cE hsz1
  clear hown hgrow hr hB1
  have hw2' := Lib.hid hw2
  clear hw2
  go_wp2_with fail
  rw [hw2'.out]
  refine cE'.out.mono ?_
  rintro e w3 ⟨mg, mcap, mrb, mrc, rfl, hM, hB3⟩
  have hO := hst'.out.below hB3 (Nat.lt_of_lt_of_le (Nat.lt_succ_self _) hgt)
  have hB := hB2'.out.trans (hB3.mono (by omega))
  replace hM := hM.mono hgt (Nat.le_refl _)
  have hM0 := hM.congr (f' := chI G n 0) (fun _ _ _ _ => rfl)
  clear hM hB3 cE' hst' hB2' a1 a2 hsz1' hw2' hgt hs1
  have hO' := Lib.hid hO
  have hM0' := Lib.hid hM0
  have hB' := Lib.hid hB
  clear hO hM0 hB
  go_wp2
  go_loopw [5, 6] (fun o i wr => ∃ (K mg mcap : Nat) (mrb mrc : Nat → Nat), K ≤ n ∧ i = .int .i64 ((K : Int) + 1) ∧ o = .slice (some ⟨mg, 0, none⟩) n mcap ∧ RowAt wr w.heap.size w.heap.size (n + 1) (n + 1) (lst (n + 1) (chO G n K)) ∧ MatT wr (w.heap.size + 1) wr.heap.size mg n mcap n mrb mrc (chI G n K) ∧ Below w.heap.size w wr) (fun _ i _ => n + 1 - (intOf i).toNat)
  case atStart => exact ⟨0, _, _, _, _, Nat.zero_le _, by go_num, rfl, hO'.out, hM0'.out, hB'.out⟩
  case round =>
    obtain ⟨K, mg, mcap, mrb, mrc, hK, rfl, rfl, hO, hM, hB⟩ := hrel
    clear hO' hM0' hB'
    obtain ⟨wo, rfl⟩ : ∃ wo : World, wo = wr := ⟨_, rfl⟩
    by_cases hltK : K < n
    · have hk1 : (K : Int) + 1 ≤ n := by omega
      have hOs := hO.lt.2
      have hlast : nth (lst (n + 1) (chO G n K)) (n - K) = chA G n K := by rw [nth_lst (by omega), chO_last _ _ _ hltK]
      have hO' := Lib.hid hO
      have hM' := Lib.hid hM
      have hB' := Lib.hid hB
      have hlast' := Lib.hid hlast
      clear hO hM hB hlast
      go_wp2
      -- the diagonal
      go_loopw [30] (fun i wr => ∃ k : Nat, k ≤ n ∧ i = .int .i64 k ∧ MatT wr (w.heap.size + 1) wo.heap.size mg n mcap n mrb mrc (fun a c => if a = c ∧ a < k then wrap64 (chI G n K a c + chA G n K) else chI G n K a c) ∧ Turned (w.heap.size + 1) wo.heap.size wo wr) (fun i _ => n - (intOf i).toNat)
      case atStart => exact ⟨0, Nat.zero_le _, rfl, hM'.out.congr (fun i j _ _ => by rw [if_neg (by omega)]), Turned.refl _ _ _⟩
      case round =>
        obtain ⟨k, hk, rfl, hM2, ht⟩ := hrel
        clear hM'
        by_cases hlt : k < n
        · have hO2 := hO'.out.turned ht (.inl (Nat.lt_succ_self _))
          have o1 := hO2.cell (j := n - K) (by omega)
          rw [hlast'.out] at o1
          have i1 : ((n : Int) - ((K : Int) + 1) + 1).toNat = n - K := by omega
          have i2 : (0 : Int) ≤ (n : Int) - ((K : Int) + 1) + 1 := by omega
          have i3 : (n : Int) - ((K : Int) + 1) + 1 < (n : Int) + 1 := by omega
          have q1 := hM2.ptr hlt
          have q2 := hM2.cell hlt hlt
          rw [if_neg (by omega)] at q2
          have q3 := hM2.frozen hlt k
          have hst := hM2.stored hlt k (wrap64 (chI G n K k k + chA G n K))
          have ht4 := hM2.turn hlt k (wrap64 (chI G n K k k + chA G n K)) ht
          have hst' := Lib.hid hst
          have ht4' := Lib.hid ht4
          clear hst ht4
          clear hM2 hO2
          go_wp2_with fail
          go_region
          all_goals go_wp2
          go_roundw
          case rel => exact ⟨k + 1, by omega, by go_num, (hst'.out.congr (fun a c _ _ => by
            simp only [upd]
            by_cases e : a = k ∧ c = k
            · rw [if_pos e, if_pos (by omega), e.1, e.2]
            · rw [if_neg e]
              by_cases e2 : a = c ∧ a < k
              · rw [if_pos e2, if_pos (by omega)]
              · rw [if_neg e2, if_neg (by omega)])).drew, ht4'.out.drew⟩
          case measure => simp [intOf]; omega
        · obtain rfl : n = k := by omega
          have hM3 := hM2.congr (f' := chM G n K) (fun a c ha _ => by
            rw [← chI_eq]
            by_cases e : a = c
            · rw [if_pos ⟨e, ha⟩, if_pos e]
            · rw [if_neg (fun q => e q.1), if_neg e])
          have hO2 := hO'.out.turned ht (.inl (Nat.lt_succ_self _))
          have hsz := ht.size
          have hB2 := hB'.out.trans (ht.below.mono (Nat.le_succ _))
          obtain ⟨wa, rfl⟩ : ∃ wa : World, wa = wr := ⟨_, rfl⟩
          have cE := emptyGraph_any n wa (by omega) n1
          rw [← hsz] at hM3 hOs
          clear hM2 hO' hB' ht
          have hM3' := Lib.hid hM3
          have hO2' := Lib.hid hO2
          have hB2' := Lib.hid hB2
          have cE' := Lib.hid cE
          clear hM3 hO2 hB2 cE
          go_wp2_with fail
          refine cE'.out.mono ?_
          rintro e w3 ⟨ng, ncap, nrb, nrc, rfl, hN, hB3⟩
          have hM4 := hM3'.out.below hB3 (Nat.le_refl _)
          have hO3 := hO2'.out.below hB3 hOs
          have hB4 := hB2'.out.trans (hB3.mono (by omega))
          have hN0 := hN.congr (f' := muF G (chM G n K) n 0 0 0) (fun a c _ _ => (muF_zero _ _ _ _ _).symm)
          clear hM3' hO2' hB2' cE' hB3 hN
          have hM4' := Lib.hid hM4
          have hO3' := Lib.hid hO3
          have hB4' := Lib.hid hB4
          have hN0' := Lib.hid hN0
          clear hM4 hO3 hB4 hN0
          go_wp2
          -- the product, row by row, and its trace
          go_loopw [9, 54] (fun tr i wr => ∃ I : Nat, I ≤ n ∧ i = .int .i64 I ∧ tr = .int .i64 (trW (chP G n K) I) ∧ MatT wr wa.heap.size w3.heap.size ng n ncap n nrb nrc (muF G (chM G n K) n I 0 0) ∧ Turned wa.heap.size w3.heap.size w3 wr) (fun _ i _ => n - (intOf i).toNat)
          case atStart => exact ⟨0, Nat.zero_le _, rfl, rfl, hN0'.out, Turned.refl _ _ _⟩
          case round =>
            obtain ⟨I, hI, rfl, rfl, hN1, ht1⟩ := hrel
            clear hN0'
            by_cases hltI : I < n
            · have hN1' := Lib.hid hN1
              clear hN1
              go_wp2
              go_loopw [59] (fun i wr => ∃ J : Nat, J ≤ n ∧ i = .int .i64 J ∧ MatT wr wa.heap.size w3.heap.size ng n ncap n nrb nrc (muF G (chM G n K) n I J 0) ∧ Turned wa.heap.size w3.heap.size w3 wr) (fun i _ => n - (intOf i).toNat)
              case atStart => exact ⟨0, Nat.zero_le _, rfl, hN1'.out, ht1⟩
              case round =>
                obtain ⟨J, hJ, rfl, hN2, ht2⟩ := hrel
                clear hN1'
                by_cases hltJ : J < n
                · have hN2' := Lib.hid hN2
                  clear hN2
                  go_wp2
                  go_loopw [64] (fun i wr => ∃ L : Nat, L ≤ n ∧ i = .int .i64 L ∧ MatT wr wa.heap.size w3.heap.size ng n ncap n nrb nrc (muF G (chM G n K) n I J L) ∧ Turned wa.heap.size w3.heap.size w3 wr) (fun i _ => n - (intOf i).toNat)
                  case atStart => exact ⟨0, Nat.zero_le _, rfl, hN2'.out, ht2⟩
                  case round =>
                    obtain ⟨L, hL, rfl, hN3, ht3⟩ := hrel
                    clear hN2'
                    by_cases hltL : L < n
                    · have hM5 := hM4'.out.below ht3.below (Nat.le_refl _)
                      have hBr := hB4'.out.trans (ht3.below.mono (by omega))
                      have p1 := (H'.out.below hBr I hltI).1
                      have p2 := (H'.out.below hBr I hltI).2.2 L hltL
                      have p3 := hM5.ptr hltL
                      have p4 := hM5.cell hltL hltJ
                      have q1 := hN3.ptr hltI
                      have q2 := hN3.cell hltI hltJ
                      have q3 := hN3.frozen hltI J
                      rw [muF_at] at q2
                      have hst := hN3.stored hltI J (mulS G (chM G n K) I J (L + 1))
                      have htn := hN3.turn hltI J (mulS G (chM G n K) I J (L + 1)) ht3
                      rw [mulS_succ] at hst htn
                      have hstep := fun a c => muF_step G (chM G n K) n I J L a c
                      simp only [mulS_succ] at hstep
                      have hst' := Lib.hid hst
                      have htn' := Lib.hid htn
                      have hstep' := Lib.hid hstep
                      clear hst htn hstep
                      clear hN3 hM5 hBr
                      go_wp2_with fail
                      go_region
                      all_goals go_wp2
                      go_roundw
                      case rel => exact ⟨L + 1, by omega, by go_num, (hst'.out.congr (fun a c _ _ => hstep'.out a c)).drew, htn'.out.drew⟩
                      case measure => simp [intOf]; omega
                    · obtain rfl : n = L := by omega
                      go_wp2
                      go_roundw
                      case rel => exact ⟨J + 1, by omega, by go_num, hN3.congr (fun a c _ _ => muF_col _ _ _ _ _ _ _), ht3⟩
                      case measure => simp [intOf]; omega
                · obtain rfl : n = J := by omega
                  have q1 := hN2.ptr hltI
                  have q2 := hN2.cell hltI hltI
                  rw [muF_row _ _ _ _ _ _ hltI, show muF G (chM G n K) n (I + 1) 0 0 I I = chP G n K I I by unfold muF; rw [if_pos (Nat.lt_succ_self _)]; rfl] at q2
                  have hts := trW_succ (chP G n K) I
                  have hN3 := hN2.congr (f' := muF G (chM G n K) n (I + 1) 0 0) (fun a c _ hc => muF_row _ _ _ _ _ _ hc)
                  clear hN2
                  have hts' := Lib.hid hts
                  have hN3' := Lib.hid hN3
                  clear hts hN3
                  go_wp2
                  go_roundw
                  case rel => exact ⟨I + 1, by omega, by go_num, by rw [hts'.out], hN3'.out, ht2⟩
                  case measure => simp [intOf]; omega
            · obtain rfl : n = I := by omega
              have hN2 := hN1.congr (f' := chI G n (K + 1)) (fun a c ha _ => by unfold muF; rw [if_pos ha]; rfl)
              have hO4 := hO3'.out.below ht1.below (Nat.lt_of_lt_of_le (Nat.lt_succ_self _) (by omega))
              have hB5 := hB4'.out.trans (ht1.below.mono (by omega))
              have hsz1 := ht1.size
              have i1 : ((n : Int) - ((K : Int) + 1)).toNat = n - (K + 1) := by omega
              have i2 : (0 : Int) ≤ (n : Int) - ((K : Int) + 1) := by omega
              have i3 : (n : Int) - ((K : Int) + 1) < (n : Int) + 1 := by omega
              have i4 : ((K : Int) + 1 == 0) = false := by rw [beq_eq_false_iff_ne]; omega
              have hco : chC G n K = wrap64 ((wrap64 (-trW (chP G n K) n)).tdiv ((K : Int) + 1)) := rfl
              have o1 := hO4.cell (j := n - (K + 1)) (by omega)
              have o2 := hO4.frozen (n - (K + 1))
              have hst := hO4.stored (n - (K + 1)) (wrap64 ((wrap64 (-trW (chP G n K) n)).tdiv ((K : Int) + 1)))
              rw [lst_set, lst_congr (g := chO G n (K + 1)) (fun c hc => by rw [← hco]; exact chO_step G n K hltK c hc)] at hst
              have htt : Turned w.heap.size (w.heap.size + 1) wr (wr.setCell ⟨w.heap.size, n - (K + 1), none⟩ (.int .i64 (wrap64 ((wrap64 (-trW (chP G n K) n)).tdiv ((K : Int) + 1))))) := (Turned.refl _ _ _).setCell (p := ⟨w.heap.size, n - (K + 1), none⟩) (Nat.le_refl _) (Nat.lt_succ_self _) _
              have hN3 := ((hN2.turned htt (.inr hOs)).mono (B' := w.heap.size + 1) (E' := w3.heap.size) hOs (Nat.le_refl _))
              have hB6 := hB5.setCell (p := ⟨w.heap.size, n - (K + 1), none⟩) (Nat.le_refl _) (.int .i64 (wrap64 ((wrap64 (-trW (chP G n K) n)).tdiv ((K : Int) + 1))))
              rw [← hsz1, ← size_setCell wr ⟨w.heap.size, n - (K + 1), none⟩ (.int .i64 (wrap64 ((wrap64 (-trW (chP G n K) n)).tdiv ((K : Int) + 1))))] at hN3
              clear hN1 hO3' hB4' hM4' hN2 hO4 hB5 hco htt
              have hst' := Lib.hid hst
              have hN3' := Lib.hid hN3
              have hB6' := Lib.hid hB6
              clear hst hN3 hB6
              go_wp2
              go_roundw
              case rel => exact ⟨K + 1, _, _, _, _, by omega, by go_num, rfl, hst'.out, hN3'.out, hB6'.out⟩
              case measure => simp [intOf]; omega
    · obtain rfl : n = K := by omega
      have hk1 : ¬ (n : Int) + 1 ≤ n := by omega
      have hfin : Own wo w.heap.size wo.heap.size (.slice (some ⟨w.heap.size, 0, none⟩) (n + 1) (n + 1)) (chL G n) := hO.own
      have hfin' := Lib.hid hfin
      clear hfin
      clear hO hM
      go_wp2
      go_ret
      exact ⟨_, rfl, hfin'.out, hB⟩

end Go.Proofs.Ytnmcmepkfggfnaa

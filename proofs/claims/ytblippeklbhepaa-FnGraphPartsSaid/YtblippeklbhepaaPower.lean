/- The numbers of walks: the program's powers of a graph and the reference's are the same tables. No conditions but small sizes. -/
import Derived.Test.YtblippeklbhepaaTabs
import Derived.StillTailTactics
namespace Go.Proofs.Ytblippeklbhepaa
open Go.RowKit

theorem MatT.drew {w : World} {B E g n cap m : Nat} {rb rc : Nat → Nat} {f : Nat → Nat → Int} (h : MatT w B E g n cap m rb rc f) : MatT w.drew B E g n cap m rb rc f := ⟨h.outer, h.rows, h.inj, h.top⟩
theorem Turned.drew {B E : Nat} {w w' : World} (h : Turned B E w w') : Turned B E w w'.drew := ⟨h.os, h.tape, h.output, h.size, h.block⟩

/-- The sum of the first products, never more than most. -/
def pwS (o g : Nat → Nat → Int) (most : Int) (i c : Nat) : Nat → Int
  | 0 => 0
  | k + 1 => if most < wrap64 (pwS o g most i c k + wrap64 (o i k * g k c)) then most else wrap64 (pwS o g most i c k + wrap64 (o i k * g k c))
/-- The numbers of walks of t steps, never more than most. -/
def pwE (g : Nat → Nat → Int) (most : Int) (n : Nat) : Nat → Nat → Nat → Int
  | 0 => fun i j => if i = j then 1 else 0
  | t + 1 => fun i j => pwS (pwE g most n t) g most i j n
theorem pwS_succ (o g : Nat → Nat → Int) (most : Int) (i c k : Nat) : pwS o g most i c (k + 1) = if most < wrap64 (pwS o g most i c k + wrap64 (o i k * g k c)) then most else wrap64 (pwS o g most i c k + wrap64 (o i k * g k c)) := rfl
theorem pwE_succ (g : Nat → Nat → Int) (most : Int) (n t i j : Nat) : pwE g most n (t + 1) i j = pwS (pwE g most n t) g most i j n := rfl
/-- The table that is filled: rows before I are done; in row I the first K products are there, in the columns before J one more. -/
def pwF (o g : Nat → Nat → Int) (most : Int) (n I K J : Nat) (a c : Nat) : Int :=
  if a < I then pwS o g most a c n else if a = I then (if c < J then pwS o g most I c (K + 1) else pwS o g most I c K) else 0
theorem pwF_row (o g : Nat → Nat → Int) (most : Int) (n I : Nat) (a c : Nat) : pwF o g most n I n 0 a c = pwF o g most n (I + 1) 0 0 a c := by
  unfold pwF
  by_cases h1 : a < I
  · rw [if_pos h1, if_pos (by omega)]
  · rw [if_neg h1]
    by_cases h2 : a = I
    · rw [if_pos h2, if_neg (Nat.not_lt_zero _), if_pos (by omega), h2]
    · rw [if_neg h2, if_neg (by omega)]
      by_cases h3 : a = I + 1
      · rw [if_pos h3, if_neg (Nat.not_lt_zero _)]; rfl
      · rw [if_neg h3]
theorem pwF_col (o g : Nat → Nat → Int) (most : Int) (n I K : Nat) (a c : Nat) (hc : c < n) : pwF o g most n I K n a c = pwF o g most n I (K + 1) 0 a c := by
  unfold pwF
  by_cases h1 : a < I
  · rw [if_pos h1, if_pos h1]
  · rw [if_neg h1, if_neg h1]
    by_cases h2 : a = I
    · rw [if_pos h2, if_pos h2, if_pos hc, if_neg (Nat.not_lt_zero _)]
    · rw [if_neg h2, if_neg h2]
theorem pwF_at (o g : Nat → Nat → Int) (most : Int) (n I K J : Nat) : pwF o g most n I K J I J = pwS o g most I J K := by
  unfold pwF; rw [if_neg (Nat.lt_irrefl _), if_pos rfl, if_neg (Nat.lt_irrefl _)]
theorem pwF_step (o g : Nat → Nat → Int) (most : Int) (n I K J : Nat) (a c : Nat) : upd (pwF o g most n I K J) I J (pwS o g most I J (K + 1)) a c = pwF o g most n I K (J + 1) a c := by
  simp only [upd, pwF]
  by_cases e : a = I ∧ c = J
  · rw [if_pos e, if_neg (by omega), if_pos e.1, if_pos (by omega), e.2]
  · rw [if_neg e]
    by_cases h1 : a < I
    · rw [if_pos h1, if_pos h1]
    · rw [if_neg h1, if_neg h1]
      by_cases h2 : a = I
      · rw [if_pos h2, if_pos h2]
        by_cases h3 : c < J
        · rw [if_pos h3, if_pos (by omega)]
        · rw [if_neg h3, if_neg (by omega)]
      · rw [if_neg h2, if_neg h2]

set_option maxHeartbeats 2000000 in
theorem powerUpTo_any (v : Value) (g : List (List Int)) (n t : Nat) (most : Int) (w : World) (hv : RowsV w v g) (hg : graphB g = true) (hn : g.length = n) (_ht : t ≤ 12) :
    Calls Try.prog 118 #[v, .int .i64 t, .int .i64 most] w (RetM n n (pwE (ent g) most n t) w) := by
  obtain ⟨b, off, gcap, ro, rof, rcc, rfl, H⟩ := hv.graph hg hn
  obtain ⟨n1, n8, -, -⟩ := graphB_true hg
  rw [hn] at n1 n8
  obtain ⟨G, hG⟩ : ∃ G, ent g = G := ⟨_, rfl⟩
  rw [hG] at H ⊢
  have H' := Lib.hid H
  have hn' := Lib.hid hn
  have hg' := Lib.hid hg
  have hG' := Lib.hid hG
  clear H hn hg hG
  clear hv
  go_enter Try.func118, Try.ntmps118
  go_wp2_with fail
  refine (emptyGraph_any n _ (by omega) n1).mono ?_
  rintro e w2 ⟨gg, cap, rb, rc, rfl, hM, hB⟩
  have hM' := Lib.hid hM
  clear hM
  go_wp2
  go_loopw [21] (fun i wr => ∃ k : Nat, k ≤ n ∧ i = .int .i64 k ∧ MatT wr w.heap.size w2.heap.size gg n cap n rb rc (fun a c => if a = c ∧ a < k then 1 else 0) ∧ Turned w.heap.size w2.heap.size w2 wr) (fun i _ => n - (intOf i).toNat)
  case atStart => exact ⟨0, Nat.zero_le _, rfl, hM'.out.congr (fun i j _ _ => by rw [if_neg (by omega)]), Turned.refl _ _ _⟩
  case round =>
    obtain ⟨k, hk, rfl, hM2, ht⟩ := hrel
    clear hM'
    by_cases hlt : k < n
    · have h5 := hM2.ptr hlt
      have h6 := hM2.cell hlt hlt
      have h7 := hM2.frozen hlt k
      have hst := hM2.stored hlt k 1
      have ht4 := hM2.turn hlt k 1 ht
      have hst' := Lib.hid hst
      have ht4' := Lib.hid ht4
      clear hst ht4
      clear hM2
      go_wp2
      go_roundw
      case rel => exact ⟨k + 1, by omega, by go_num, hst'.out.congr (fun a c _ _ => by
        simp only [upd]
        by_cases e : a = k ∧ c = k
        · rw [if_pos e, if_pos (by omega)]
        · rw [if_neg e]
          by_cases e2 : a = c ∧ a < k
          · rw [if_pos e2, if_pos (by omega)]
          · rw [if_neg e2, if_neg (by omega)]), ht4'.out⟩
      case measure => simp [intOf]; omega
    · obtain rfl : n = k := by omega
      have hsz := ht.size
      have hM3 := (hM2.congr (f' := pwE G most n 0) (fun a c ha _ => by
        show _ = if a = c then (1 : Int) else 0
        by_cases e : a = c
        · rw [if_pos e, if_pos ⟨e, ha⟩]
        · rw [if_neg e, if_neg (fun q => e q.1)])).mono (Nat.le_refl _) (Nat.le_of_eq hsz.symm)
      have hB2 := hB.trans ht.below
      clear hM2 ht hB hsz
      have hM3' := Lib.hid hM3
      have hB2' := Lib.hid hB2
      clear hM3 hB2
      go_wp2
      go_loopw [7, 32] (fun o i wr => ∃ (s gg cap : Nat) (rb rc : Nat → Nat), s ≤ t ∧ i = .int .i64 s ∧ o = .slice (some ⟨gg, 0, none⟩) n cap ∧ MatT wr w.heap.size wr.heap.size gg n cap n rb rc (pwE G most n s) ∧ Below w.heap.size w wr) (fun _ i _ => t - (intOf i).toNat)
      case atStart => exact ⟨0, _, _, _, _, Nat.zero_le _, rfl, rfl, hM3'.out, hB2'.out⟩
      case round =>
        obtain ⟨s, og, ocap, orb, orc, hs, rfl, rfl, hO, hB3⟩ := hrel
        clear hM3' hB2'
        obtain ⟨wo, rfl⟩ : ∃ wo : World, wo = wr := ⟨_, rfl⟩
        by_cases hlts : s < t
        · have hO' := Lib.hid hO
          clear hO
          go_wp2_with fail
          refine (emptyGraph_any n _ (by omega) n1).mono ?_
          rintro e w3 ⟨ng, ncap, nrb, nrc, rfl, hN, hB4⟩
          have hO2 := hO'.out.below hB4 (Nat.le_refl _)
          clear hO'
          have hO2' := Lib.hid hO2
          have hN' := Lib.hid hN
          clear hO2 hN
          go_wp2
          go_loopw [39] (fun i wr => ∃ I : Nat, I ≤ n ∧ i = .int .i64 I ∧ MatT wr wo.heap.size w3.heap.size ng n ncap n nrb nrc (pwF (pwE G most n s) G most n I 0 0) ∧ Turned wo.heap.size w3.heap.size w3 wr) (fun i _ => n - (intOf i).toNat)
          case atStart => exact ⟨0, Nat.zero_le _, rfl, hN'.out.congr (fun a c _ _ => by
            unfold pwF
            rw [if_neg (Nat.not_lt_zero _)]
            by_cases e : a = 0
            · rw [if_pos e, if_neg (Nat.not_lt_zero _)]; rfl
            · rw [if_neg e]), Turned.refl _ _ _⟩
          case round =>
            obtain ⟨I, hI, rfl, hN2, ht⟩ := hrel
            clear hN'
            by_cases hltI : I < n
            · have hOb := hO2'.out.below ht.below (Nat.le_refl _)
              have p1 := hOb.ptr hltI
              clear hOb
              have hN2' := Lib.hid hN2
              clear hN2
              go_wp2
              go_loopw [46] (fun i wr => ∃ K : Nat, K ≤ n ∧ i = .int .i64 K ∧ MatT wr wo.heap.size w3.heap.size ng n ncap n nrb nrc (pwF (pwE G most n s) G most n I K 0) ∧ Turned wo.heap.size w3.heap.size w3 wr) (fun i _ => n - (intOf i).toNat)
              case atStart => exact ⟨0, Nat.zero_le _, rfl, hN2'.out, ht⟩
              case round =>
                obtain ⟨K, hK, rfl, hN3, ht3⟩ := hrel
                clear hN2'
                by_cases hltK : K < n
                · have hOb := hO2'.out.below ht3.below (Nat.le_refl _)
                  have p2 := hOb.cell hltI hltK
                  have hBr := hB3.trans ((hB4.trans ht3.below).mono hB3.size)
                  have p3 := (H'.out.below hBr K hltK).1
                  clear hOb p1
                  have hN3' := Lib.hid hN3
                  clear hN3
                  go_wp2
                  go_loopw [56] (fun i wr => ∃ J : Nat, J ≤ n ∧ i = .int .i64 J ∧ MatT wr wo.heap.size w3.heap.size ng n ncap n nrb nrc (pwF (pwE G most n s) G most n I K J) ∧ Turned wo.heap.size w3.heap.size w3 wr) (fun i _ => n - (intOf i).toNat)
                  case atStart => exact ⟨0, Nat.zero_le _, rfl, hN3'.out, ht3⟩
                  case round =>
                    obtain ⟨J, hJ, rfl, hN4, ht4⟩ := hrel
                    clear hN3'
                    by_cases hltJ : J < n
                    · have hBr2 := hB3.trans ((hB4.trans ht4.below).mono hB3.size)
                      have p4 := (H'.out.below hBr2 K hltK).2.2 J hltJ
                      have q1 := hN4.ptr hltI
                      have q2 := hN4.cell hltI hltJ
                      have q3 := hN4.frozen hltI J
                      rw [pwF_at] at q2
                      have hst := hN4.stored hltI J (pwS (pwE G most n s) G most I J (K + 1))
                      have htn := hN4.turn hltI J (pwS (pwE G most n s) G most I J (K + 1)) ht4
                      rw [pwS_succ] at hst htn
                      have hstep := fun a c => pwF_step (pwE G most n s) G most n I K J a c
                      simp only [pwS_succ] at hstep
                      have hst' := Lib.hid hst
                      have htn' := Lib.hid htn
                      have hstep' := Lib.hid hstep
                      clear hst htn hstep
                      clear hN4 hBr2 p3 p2
                      go_wp2_with fail
                      go_region
                      all_goals go_wp2
                      go_roundw
                      case rel => exact ⟨J + 1, by omega, by go_num, (hst'.out.congr (fun a c _ _ => hstep'.out a c)).drew, htn'.out.drew⟩
                      case measure => simp [intOf]; omega
                    · obtain rfl : n = J := by omega
                      go_wp2
                      go_roundw
                      case rel => exact ⟨K + 1, by omega, by go_num, hN4.congr (fun a c _ hc => pwF_col _ _ _ _ _ _ _ _ hc), ht4⟩
                      case measure => simp [intOf]; omega
                · obtain rfl : n = K := by omega
                  go_wp2
                  go_roundw
                  case rel => exact ⟨I + 1, by omega, by go_num, hN3.congr (fun a c _ _ => pwF_row _ _ _ _ _ _ _), ht3⟩
                  case measure => simp [intOf]; omega
            · obtain rfl : n = I := by omega
              have hN3 := hN2.congr (f' := pwE G most n (s + 1)) (fun a c ha _ => by
                rw [pwE_succ]; unfold pwF; rw [if_pos ha])
              have hsz := ht.size
              have hN5 := hN3.mono (B' := w.heap.size) (E' := _) hB3.size (Nat.le_of_eq hsz.symm)
              have hBr := hB3.trans ((hB4.trans ht.below).mono hB3.size)
              clear hN2 hN3
              have hN5' := Lib.hid hN5
              clear hN5
              go_wp2
              go_roundw
              case rel => exact ⟨s + 1, _, _, _, _, by omega, by go_num, rfl, hN5'.out, hBr⟩
              case measure => simp [intOf]; omega
        · obtain rfl : t = s := by omega
          have hO' := Lib.hid hO
          clear hO
          go_wp2
          go_ret
          exact ⟨_, _, _, _, rfl, hO'.out, hB3⟩

theorem l1Least_any (a b : Int) (w : World) : Calls Try.prog 106 #[.int .i64 a, .int .i64 b] w (Same (.int .i64 (if a < b then a else b)) w) := by
  by_cases h : a < b
  · rw [if_pos h]
    go_enter Try.func106, Try.ntmps106
    go_wp2
    go_ret
    exact ⟨rfl, rfl⟩
  · rw [if_neg h]
    go_enter Try.func106, Try.ntmps106
    go_wp2
    go_ret
    exact ⟨rfl, rfl⟩
theorem grCap_any (x : Int) (w : World) : Calls Try.prog 120 #[.int .i64 x] w (Same (.int .i64 (if 1000000001 < x then 1000000001 else x)) w) := by
  have e : (if 1000000001 < x then 1000000001 else x) = if x < 1000000001 then x else 1000000001 := by split <;> split <;> omega
  rw [e]
  obtain ⟨m, hm⟩ : ∃ m, (if x < 1000000001 then x else 1000000001) = m := ⟨_, rfl⟩
  have c1 := l1Least_any x 1000000001 w
  rw [hm] at c1 ⊢
  have c1' := Lib.hid c1
  have hm' := Lib.hid hm
  clear c1 hm
  clear e
  go_enter Try.func120, Try.ntmps120
  go_wp2_with fail
  refine (c1'.out).mono ?_
  rintro e w_ ⟨rfl, rfl⟩
  go_wp2
  go_ret
  exact ⟨rfl, rfl⟩

theorem grCap_is (x m : Int) (w : World) (hm : (if 1000000001 < x then 1000000001 else x) = m) : Calls Try.prog 120 #[.int .i64 x] w (Same (.int .i64 m) w) := by
  subst hm; exact grCap_any x w
theorem RowAt.turnedT {w w0 : World} {B g n cap : Nat} {xs : List Int} (_h : RowAt w B g n cap xs) (j : Nat) (x : Int) (ht : Turned g (g + 1) w0 w) : Turned g (g + 1) w0 (w.setCell ⟨g, j, none⟩ (.int .i64 x)) :=
  ht.setCell (p := ⟨g, j, none⟩) (Nat.le_refl _) (Nat.lt_succ_self _) _
theorem RowAt.drew' {w : World} {B g n cap : Nat} {xs : List Int} (h : RowAt w B g n cap xs) : RowAt w.drew B g n cap xs := h
theorem Same.still {v : Value} {w : World} {f : FuncId} {args : Array Value} (h : Calls Try.prog f args w (Same v w)) : Calls Try.prog f args w (fun e w'' => e = .returned v ∧ w'' = w) := h.mono fun _ _ k => ⟨k.1, k.2.symm⟩
/-- A row that is filled: the columns before K are done; in column K the first J products are there. -/
def pwR (o g : Nat → Nat → Int) (most : Int) (n I K J : Nat) (c : Nat) : Int := if c < K then pwS o g most I c n else if c = K then pwS o g most I K J else 0
theorem pwR_step (o g : Nat → Nat → Int) (most : Int) (n I K J : Nat) (c : Nat) : (if c = K then pwS o g most I K (J + 1) else pwR o g most n I K J c) = pwR o g most n I K (J + 1) c := by
  unfold pwR
  by_cases h : c = K
  · rw [if_pos h, if_neg (by omega), if_pos h]
  · rw [if_neg h, if_neg h, if_neg h]
theorem pwR_col (o g : Nat → Nat → Int) (most : Int) (n I K : Nat) (c : Nat) : pwR o g most n I K n c = pwR o g most n I (K + 1) 0 c := by
  unfold pwR
  by_cases h : c < K
  · rw [if_pos h, if_pos (by omega)]
  · rw [if_neg h]
    by_cases h2 : c = K
    · rw [if_pos h2, if_pos (by omega), h2]
    · rw [if_neg h2, if_neg (by omega)]
      by_cases h3 : c = K + 1
      · rw [if_pos h3]; rfl
      · rw [if_neg h3]
theorem pwR_at (o g : Nat → Nat → Int) (most : Int) (n I K J : Nat) : pwR o g most n I K J K = pwS o g most I K J := by
  unfold pwR; rw [if_neg (Nat.lt_irrefl _), if_pos rfl]

set_option maxRecDepth 100000 in
set_option maxHeartbeats 4000000 in
theorem grPower_any (v : Value) (g : List (List Int)) (n t : Nat) (w : World) (hv : RowsV w v g) (hg : graphB g = true) (hn : g.length = n) (_ht : t ≤ 12) :
    Calls Try.prog 68 #[v, .int .i64 t] w (RetM n n (pwE (ent g) 1000000001 n t) w) := by
  obtain ⟨b, off, gcap, ro, rof, rcc, rfl, H⟩ := hv.graph hg hn
  obtain ⟨n1, n8, -, -⟩ := graphB_true hg
  rw [hn] at n1 n8
  obtain ⟨G, hG⟩ : ∃ G, ent g = G := ⟨_, rfl⟩
  rw [hG] at H ⊢
  obtain ⟨i2, hi2, hy0, hy1, hy2⟩ := info_parts Try.infoInt
  have H' := Lib.hid H
  have hn' := Lib.hid hn
  have hg' := Lib.hid hg
  have hG' := Lib.hid hG
  clear H hn hg hG
  clear hv
  go_enter Try.func68, Try.ntmps68
  go_wp2
  go_loopw [5, 14] (fun o i wr => ∃ (k : Nat) (rb rc : Nat → Nat), k ≤ n ∧ i = .int .i64 k ∧ GrowT wr w.heap.size wr.heap.size o k n rb rc (fun a c => if a = c then 1 else 0) ∧ Below w.heap.size w wr) (fun _ i _ => n - (intOf i).toNat)
  case atStart => exact ⟨0, fun _ => 0, fun _ => 0, Nat.zero_le _, rfl, GrowT.nil _ _ _ _ _ _ _, Below.refl _ _⟩
  case round =>
    obtain ⟨k, rb, rc, hk, rfl, hp, hB⟩ := hrel
    obtain ⟨wo, rfl⟩ : ∃ wo : World, wo = wr := ⟨_, rfl⟩
    have hs := hB.size
    by_cases hlt : k < n
    · have hp' := Lib.hid hp
      clear hp
      go_wp2_with (at_make; refine wpList_make_full _ rfl _ _ 39 rfl w.heap.size 3 i2 _ 1 Try.underlying39 hi2 hy0 hy1 _ _ _ _ n rfl rfl rfl rfl (by rw [hy2]; omega) (by unfold maxLen; omega) hs ?_)
      intro w2 hown hgrow
      have hB2 : Below wo.heap.size wo w2 := below_made (Below.refl _ _) (Nat.le_refl _) hgrow
      have hr := row_made hown
      rw [lst_zero] at hr
      have hp2 := hp'.out.kept hB2
      have hB3 := hB.trans (hB2.mono hB.size)
      have hs3 := hB3.size
      clear hown hgrow hp' hB2 hB
      go_wp2_with (at_builtin; refine wpList_append_row rfl _ _ rfl w.heap.size _ _ k n wo.heap.size n _ _ _ _ _ rfl rfl hp2 hr (Nat.le_refl _) (by omega) hs3 ?_)
      intro v' w3 hp3 hg3
      have hB4 : Below w.heap.size w w3 := hB3.grown hg3 hs3 (fun j hj => by have := (World.ownsRow.lt hp2.outer j hj).1; omega)
      obtain ⟨gg, cap, rfl, hM⟩ := hp3.form (Nat.succ_pos _)
      have q1 := hM.ptr (Nat.lt_succ_self k)
      have q2 := hM.cell (Nat.lt_succ_self k) hlt
      have q3 := hM.frozen (Nat.lt_succ_self k) k
      have hst := (hM.stored (Nat.lt_succ_self k) k 1).grow
      simp only [if_true] at q1 q2 q3 hst
      have hB5 := hB4.setCell (p := ⟨wo.heap.size, k, none⟩) hs (.int .i64 1)
      have hst2 := hst.congr (f' := fun a c => if a = c then 1 else 0) (fun a c ha _ => by
        simp only [upd]
        by_cases e : a = k ∧ c = k
        · rw [if_pos e, if_pos (by omega)]
        · rw [if_neg e]
          by_cases e2 : a = k
          · rw [if_pos e2, if_neg (by omega)]
          · rw [if_neg e2])
      have hst2' := Lib.hid hst2
      have hB5' := Lib.hid hB5
      clear hst2 hB5
      clear hg3 hp2 hr hB3 hM hp3 hst
      go_wp2
      go_roundw
      case rel => exact ⟨k + 1, _, _, by omega, by go_num, by simpa [World.setCell] using hst2'.out, hB5'.out⟩
      case measure => simp [intOf]; omega
    · obtain rfl : n = k := by omega
      obtain ⟨gg, cap, rfl, hM⟩ := hp.form n1
      have hM3 := hM.congr (f' := pwE G 1000000001 n 0) (fun a c _ _ => rfl)
      clear hp hM hi2
      obtain ⟨i2, hi2, hy0, hy1, hy2⟩ := info_parts Try.infoInt
      have hM3' := Lib.hid hM3
      have hB' := Lib.hid hB
      clear hM3 hB
      go_wp2
      go_loopw [1, 5] (fun i o wr => ∃ (r s gg cap : Nat) (rb rc : Nat → Nat), r + s = t ∧ i = .int .i64 r ∧ o = .slice (some ⟨gg, 0, none⟩) n cap ∧ MatT wr w.heap.size wr.heap.size gg n cap n rb rc (pwE G 1000000001 n s) ∧ Below w.heap.size w wr) (fun i _ _ => (intOf i).toNat)
      case atStart => exact ⟨t, 0, _, _, _, _, rfl, rfl, rfl, hM3'.out, hB'.out⟩
      case round =>
        obtain ⟨r, s, og, ocap, orb, orc, hrs, rfl, rfl, hO, hB⟩ := hrel
        clear hM3' hB'
        obtain ⟨wo, rfl⟩ : ∃ wo : World, wo = wr := ⟨_, rfl⟩
        have hrs' : s = t - r := by omega
        have hrt : r ≤ t := by omega
        clear hrs
        have hrs'' := Lib.hid hrs'
        clear hrs'
        by_cases hr0 : 0 < r
        · have hO' := Lib.hid hO
          clear hO
          go_wp2
          go_loopw [7, 36] (fun o i wr => ∃ (I : Nat) (rb rc : Nat → Nat), I ≤ n ∧ i = .int .i64 I ∧ GrowT wr wo.heap.size wr.heap.size o I n rb rc (fun a c => pwS (pwE G 1000000001 n s) G 1000000001 a c n) ∧ Below wo.heap.size wo wr) (fun _ i _ => n - (intOf i).toNat)
          case atStart => exact ⟨0, fun _ => 0, fun _ => 0, Nat.zero_le _, rfl, GrowT.nil _ _ _ _ _ _ _, Below.refl _ _⟩
          case round =>
            obtain ⟨I, rb2, rc2, hI, rfl, hp, hB2⟩ := hrel
            obtain ⟨w1, rfl⟩ : ∃ w1 : World, w1 = wr := ⟨_, rfl⟩
            have hB3 := hB.trans (hB2.mono hB.size)
            have hs3 := hB3.size
            by_cases hltI : I < n
            · have hp' := Lib.hid hp
              clear hp
              go_wp2_with (at_make; refine wpList_make_full _ rfl _ _ 39 rfl wo.heap.size 3 i2 _ 1 Try.underlying39 hi2 hy0 hy1 _ _ _ _ n rfl rfl rfl rfl (by rw [hy2]; omega) (by unfold maxLen; omega) hB2.size ?_)
              intro w2 hown hgrow
              have hB4 : Below w1.heap.size w1 w2 := below_made (Below.refl _ _) (Nat.le_refl _) hgrow
              have hr := row_made hown
              rw [lst_zero] at hr
              have hp2 := hp'.out.kept hB4
              have hrsz := hr.lt.2
              clear hown hgrow hp'
              have hp2' := Lib.hid hp2
              have hr' := Lib.hid hr
              clear hp2 hr
              go_wp2
              go_loopw [44] (fun i wr => ∃ K : Nat, K ≤ n ∧ i = .int .i64 K ∧ RowAt wr wo.heap.size w1.heap.size n n (lst n (pwR (pwE G 1000000001 n s) G 1000000001 n I K 0)) ∧ Turned w1.heap.size (w1.heap.size + 1) w2 wr) (fun i _ => n - (intOf i).toNat)
              case atStart => exact ⟨0, Nat.zero_le _, rfl, by
                rw [← lst_congr (f := fun _ => 0) (fun c _ => by
                  unfold pwR; rw [if_neg (Nat.not_lt_zero _)]; split <;> rfl)]
                exact hr'.out, Turned.refl _ _ _⟩
              case round =>
                obtain ⟨K, hK, rfl, hr2, ht⟩ := hrel
                clear hr'
                by_cases hltK : K < n
                · have hr2' := Lib.hid hr2
                  clear hr2
                  go_wp2
                  go_loopw [49] (fun i wr => ∃ J : Nat, J ≤ n ∧ i = .int .i64 J ∧ RowAt wr wo.heap.size w1.heap.size n n (lst n (pwR (pwE G 1000000001 n s) G 1000000001 n I K J)) ∧ Turned w1.heap.size (w1.heap.size + 1) w2 wr) (fun i _ => n - (intOf i).toNat)
                  case atStart => exact ⟨0, Nat.zero_le _, rfl, hr2'.out, ht⟩
                  case round =>
                    obtain ⟨J, hJ, rfl, hr3, ht3⟩ := hrel
                    clear hr2'
                    by_cases hltJ : J < n
                    · have hBa := (hB4.trans (ht3.below))
                      have hOb := hO'.out.below (hB2.trans (hBa.mono hB2.size)) (Nat.le_refl _)
                      have p1 := hOb.ptr hltI
                      have p2 := hOb.cell hltI hltJ
                      have hGr := H'.out.below (hB3.trans (hBa.mono hB3.size)) J hltJ
                      have p3 := hGr.1
                      have p4 := hGr.2.2 K hltK
                      have q2 := hr3.cell hltK
                      have q3 := hr3.frozen K
                      rw [nth_lst hltK, pwR_at] at q2
                      have hst := hr3.stored K (pwS (pwE G 1000000001 n s) G 1000000001 I K (J + 1))
                      have htn := hr3.turnedT K (pwS (pwE G 1000000001 n s) G 1000000001 I K (J + 1)) ht3
                      rw [lst_set, lst_congr (fun c _ => pwR_step (pwE G 1000000001 n s) G 1000000001 n I K J c)] at hst
                      have hsc := pwS_succ (pwE G 1000000001 n s) G 1000000001 I K J
                      obtain ⟨m, hm⟩ : ∃ m, pwS (pwE G 1000000001 n s) G 1000000001 I K (J + 1) = m := ⟨_, rfl⟩
                      rw [hm] at hst htn hsc
                      replace hsc : (if 1000000001 < IntKind.i64.wrap (pwS (pwE G 1000000001 n s) G 1000000001 I K J + IntKind.i64.wrap (pwE G 1000000001 n s I J * G J K)) then 1000000001 else IntKind.i64.wrap (pwS (pwE G 1000000001 n s) G 1000000001 I K J + IntKind.i64.wrap (pwE G 1000000001 n s I J * G J K))) = m := by rw [IntKind.wrap_i64, IntKind.wrap_i64]; unfold wrap64 at hsc; exact hsc.symm
                      have hst' := Lib.hid hst
                      have htn' := Lib.hid htn
                      have hsc' := Lib.hid hsc
                      have hm' := Lib.hid hm
                      clear hst htn hsc hm
                      clear hr3 hGr hOb hBa
                      go_wp2_with fail
                      go_still_tail 24, (by kernel_rfl)
                      still_call (Same.still (grCap_is _ m _ hsc'.out))
                      repeat still_step
                      refine wpStill_nil ?_
                      change wpList _ _ _ _ _ (World.drew _)
                      go_wp2
                      go_roundw
                      case rel => exact ⟨J + 1, by omega, by go_num, hst'.out.drew', htn'.out.drew⟩
                      case measure => simp [intOf]; omega
                    · obtain rfl : n = J := by omega
                      rw [lst_congr (fun c _ => pwR_col (pwE G 1000000001 n s) G 1000000001 n I K c)] at hr3
                      go_wp2
                      go_roundw
                      case rel => exact ⟨K + 1, by omega, by go_num, hr3, ht3⟩
                      case measure => simp [intOf]; omega
                · obtain rfl : n = K := by omega
                  rw [lst_congr (g := fun c => pwS (pwE G 1000000001 n s) G 1000000001 I c n) (fun c hc => by unfold pwR; rw [if_pos hc])] at hr2
                  have hp3 := hp2'.out.kept (ht.below)
                  have hBa := hB3.trans ((hB4.trans ht.below).mono hB3.size)
                  have hBo := hB2.trans ((hB4.trans ht.below).mono hB2.size)
                  have hs4 := hBa.size
                  have hs5 := hBo.size
                  clear hp2' ht
                  go_wp2_with (at_builtin; refine wpList_append_row rfl _ _ rfl wo.heap.size _ _ I n w1.heap.size n _ _ _ _ _ rfl rfl hp3 hr2 (Nat.le_refl _) (by omega) hs5 ?_)
                  intro v' w3 hp4 hg3
                  have hB5 : Below wo.heap.size wo w3 := hBo.grown hg3 hs5 (fun j hj => by have := (World.ownsRow.lt hp3.outer j hj).1; omega)
                  have hp4' := Lib.hid hp4
                  have hB5' := Lib.hid hB5
                  clear hp4 hB5
                  clear hg3 hp3 hr2 hBa hBo
                  go_wp2
                  go_roundw
                  case rel => exact ⟨I + 1, _, _, by omega, by go_num, (hp4'.out).congr (fun i j _ _ => by split <;> (try subst_vars) <;> rfl), hB5'.out⟩
                  case measure => simp [intOf]; omega
            · obtain rfl : n = I := by omega
              obtain ⟨gg2, cap2, rfl, hN⟩ := hp.form n1
              have hN2 := (hN.congr (f' := pwE G 1000000001 n (s + 1)) (fun a c _ _ => (pwE_succ _ _ _ _ _ _).symm)).mono hB.size (Nat.le_refl _)
              clear hp hN
              have hN2' := Lib.hid hN2
              clear hN2
              go_wp2
              go_roundw
              case rel => exact ⟨r - 1, s + 1, _, _, _, _, by have := hrs''.out; omega, by go_num, rfl, hN2'.out, hB3⟩
              case measure => simp [intOf]; omega
        · obtain rfl : r = 0 := by omega
          obtain rfl : s = t := by have := hrs''.out; omega
          have hO' := Lib.hid hO
          clear hO
          go_wp2
          go_ret
          exact ⟨_, _, _, _, rfl, hO'.out, hB⟩

end Go.Proofs.Ytblippeklbhepaa

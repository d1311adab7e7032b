/- The period of a graph: the reference's search and the program's numbers of steps. No conditions but small sizes. -/
import Derived.Test.YtblippeklbhepaaPeriodLaw
import Derived.Test.YtblippeklbhepaaStepsTo
import Derived.Test.YtblippeklbhepaaRat
import Derived.BigQuiet
import Derived.Deep.QuietTactic
namespace Go.Proofs.Ytblippeklbhepaa
open Go.RowKit

theorem wpList_append_intN {ops : Array Oper} {rest : List Oper} {o : Oper} {a : Act} {w : World} {Q : Exit → Act → World → Prop} (hgd : o.guard = none) (s x : Operand)
    (ho : o.op = .call { callee := .builtin .append, args := #[s, x], argTypes := #[39, 39] }) (B : Nat) (v : Value) (xs : List Int) (z : Int) (c N : Nat) (hN : w.heap.size = N) (hs : a.eval s = v)
    (hx : a.eval x = .slice (some ⟨N, 0, none⟩) 1 c) (hown : Grow w B v xs) (hl : xs.length ≤ 1099511627776) (hB : B ≤ w.heap.size)
    (h : ∀ v' w', Grow w' B v' (xs ++ [z]) → w.grownBy w' v.ownBlock → wpList Try.prog ops Q rest (a.put o.dst v') w') : wpList Try.prog ops Q (o :: rest) a (w.alloc (.cells #[.int .i64 z] 3)) := by
  subst hN
  exact wpList_append_int hgd s x ho B v xs z c hs hx hown hl hB h
theorem grownBy_set (w : World) (g o : Nat) (u : Value) : w.grownBy (w.setCell ⟨g, o, none⟩ u) (some g) :=
  ⟨rfl, rfl, rfl, by simp [World.setCell], fun k _ hk => Below.heap_setCell _ _ _ _ (fun e => hk (by rw [e]))⟩

set_option maxRecDepth 100000 in
set_option maxHeartbeats 2000000 in
theorem graphPeriod_any (v : Value) (g : List (List Int)) (w : World) (hv : RowsV w v g) (hg : graphB g = true) (hT : transB g = true) :
    Calls Try.prog 109 #[v] w (Ret (.int .i64 (perG g : Nat)) w) := by
  obtain ⟨n, hn⟩ : ∃ n, g.length = n := ⟨_, rfl⟩
  obtain ⟨n1, n8, -, -⟩ := graphB_true hg
  have c1 := stepsTo_any v g n 0 w hv hg hn (by omega)
  have hP := fun o => @steps_per g o hg hT
  have hB0 := Below.refl w.heap.size w
  obtain ⟨b, off, gcap, ro, rof, rcc, rfl, H⟩ := hv.graph hg hn
  rw [hn] at n1 n8 hP
  obtain ⟨G, hG⟩ : ∃ G, ent g = G := ⟨_, rfl⟩
  rw [hG] at H hP c1
  obtain ⟨P, hPn⟩ : ∃ P, perG g = P := ⟨_, rfl⟩
  rw [hPn] at hP ⊢
  have H' := Lib.hid H
  have hn' := Lib.hid hn
  have hg' := Lib.hid hg
  have hT' := Lib.hid hT
  have hG' := Lib.hid hG
  have hP' := Lib.hid hP
  have hPn' := Lib.hid hPn
  have c1' := Lib.hid c1
  clear H hn hg hT hG hP hPn c1
  clear hv
  go_enter Try.func109, Try.ntmps109
  go_wp2_with fail
  refine (c1'.out).mono ?_
  rintro e w1 ⟨bs, o, rfl, hr, hM, hBo, hB⟩
  obtain ⟨hp1, hp2⟩ := hP'.out o hM
  have hst := hr.stored 0 0
  simp only [lst_set] at hst
  change RowAt _ _ _ _ _ (lst n (updF o 0 0)) at hst
  have q1 := hr.cell (j := 0) (by omega)
  have q2 := hr.frozen 0
  have hbs := hr.lt.1
  have hB2 := hB.setCell (p := ⟨bs, 0, none⟩) hr.lt.1 (.int .i64 0)
  clear hr hM hB hBo
  generalize updF o 0 0 = s at *
  have hp1' := Lib.hid hp1
  have hp2' := Lib.hid hp2
  have hst' := Lib.hid hst
  have hB2' := Lib.hid hB2
  clear hp1 hp2 hst hB2
  go_wp2
  obtain ⟨w2, hw2⟩ : ∃ W, w1.setCell ⟨bs, 0, none⟩ (.int .i64 0) = W := ⟨_, rfl⟩
  rw [hw2] at hst' hB2' ⊢
  clear q1 q2 hw2
  go_loopw [4, 16] (fun p x wr => ∃ i : Nat, i ≤ n ∧ x = .int .i64 i ∧ p = .int .i64 (gcA G n (fun i k => s k + 1 - s i) i 0 : Nat) ∧ Below w2.heap.size w2 wr) (fun _ x _ => n - (intOf x).toNat)
  case atStart => exact ⟨0, Nat.zero_le _, rfl, rfl, Below.refl _ _⟩
  case round =>
    obtain ⟨i, hi, rfl, rfl, hB⟩ := hrel
    by_cases hlt : i < n
    · have hbx := hB2'.out.trans (hB.mono hB2'.out.size)
      have p1 := (H'.out.below hbx i hlt).1
      clear hbx
      go_wp2
      go_loopw [4, 23] (fun p x wr => ∃ k : Nat, k ≤ n ∧ x = .int .i64 k ∧ p = .int .i64 (gcA G n (fun i k => s k + 1 - s i) i k : Nat) ∧ Below w2.heap.size w2 wr) (fun _ x _ => n - (intOf x).toNat)
      case atStart => exact ⟨0, Nat.zero_le _, rfl, rfl, hB⟩
      case round =>
        clear hB p1
        obtain ⟨k, hk, rfl, rfl, hB⟩ := hrel
        by_cases hltk : k < n
        · have hbx := hB2'.out.trans (hB.mono hB2'.out.size)
          have p2 := (H'.out.below hbx i hlt).2.2 k hltk
          have hr := hst'.out.below hB hst'.out.lt.2
          have q1 := hr.cell hltk
          have q2 := hr.cell hlt
          rw [nth_lst hltk] at q1
          rw [nth_lst hlt] at q2
          have b1 := hp2'.out k hltk
          have b2 := hp2'.out i hlt
          have b3 := gcA_le (g := G) (M := 20) (fun a c ha hc => by have h1 := hp2'.out a ha; have h2 := hp2'.out c hc; show (s c + 1 - s a).natAbs ≤ 20; omega) hlt hk
          by_cases hz : 0 < G i k
          · have hgy := gcA_yes (n := n) (d := fun i k => s k + 1 - s i) hz
            try simp only at hgy
            have cg := fun w => greatestDivisor_any (s k + 1 - s i) (gcA G n (fun i k => s k + 1 - s i) i k : Nat) w (by omega) (by omega)
            unfold gcdI at cg
            rw [Int.natAbs_natCast] at cg
            have hgz : s k + 1 - s i = 0 → gcA G n (fun i k => s k + 1 - s i) i (k + 1) = gcA G n (fun i k => s k + 1 - s i) i k := fun e => by rw [hgy, e]; simp
            rw [← hgy] at cg
            clear hgy hr hbx
            obtain ⟨A', hA'⟩ : ∃ A', gcA G n (fun i k => s k + 1 - s i) i (k + 1) = A' := ⟨_, rfl⟩
            rw [hA'] at cg hgz
            generalize gcA G n (fun i k => s k + 1 - s i) i k = A at *
            obtain ⟨x, hx⟩ : ∃ x, s k = x := ⟨_, rfl⟩
            obtain ⟨y, hy⟩ : ∃ y, s i = y := ⟨_, rfl⟩
            obtain ⟨z, hzz⟩ : ∃ z, G i k = z := ⟨_, rfl⟩
            rw [hx] at q1 b1 cg hgz
            rw [hy] at q2 b2 cg hgz
            rw [hzz] at p2 hz
            obtain ⟨d, hd⟩ : ∃ d, x + 1 - y = d := ⟨_, rfl⟩
            have e1 : IntKind.i64.wrap (IntKind.i64.wrap (x + 1) - y) = d := by rw [IntKind.wrap_i64, IntKind.wrap_i64]; omega
            by_cases h0 : d = 0
            · have hA := hgz (by omega)
              subst hA
              have e2 : x + 1 - y = 0 := by omega
              have hx' := Lib.hid hx
              have hy' := Lib.hid hy
              have hzz' := Lib.hid hzz
              have cg' := Lib.hid cg
              have e1' := Lib.hid e1
              have hgz' := Lib.hid hgz
              have hd' := Lib.hid hd
              have hA'' := Lib.hid hA'
              clear hx hy hzz cg e1 hgz hd hA'
              clear h0
              go_wp2_with fail
              go_quiet (fail)
              go_wp2
              go_roundw
              case rel => exact ⟨k + 1, by omega, by go_num, by rw [hA''.out], below_drewN hB _⟩
              case measure => simp [intOf]; omega
            · have e2 : (x + 1 - y == 0) = false := by rw [beq_eq_false_iff_ne]; omega
              have e3 : (x + 1 - y != 0) = true := by rw [bne_iff_ne]; omega
              have hx' := Lib.hid hx
              have hy' := Lib.hid hy
              have hzz' := Lib.hid hzz
              have cg' := Lib.hid cg
              have e1' := Lib.hid e1
              have hgz' := Lib.hid hgz
              have hd' := Lib.hid hd
              have hA'' := Lib.hid hA'
              clear hx hy hzz cg e1 hgz hd hA'
              clear h0
              go_wp2_with fail
              go_quiet (fail)
              go_wp2_with fail
              refine (cg'.out _).mono ?_
              rintro e w3 ⟨rfl, q, rfl⟩
              go_wp2
              go_roundw
              case rel => exact ⟨k + 1, by omega, by go_num, by rw [hA''.out], below_drewN hB _⟩
              case measure => simp [intOf]; omega
          · have hgn := gcA_no (n := n) (d := fun i k => s k + 1 - s i) hz
            clear hr hbx
            rw [← hgn] at b3
            obtain ⟨A, hA⟩ : ∃ A, gcA G n (fun i k => s k + 1 - s i) i (k + 1) = A := ⟨_, rfl⟩
            rw [← hgn, hA]
            obtain ⟨z, hzz⟩ : ∃ z, G i k = z := ⟨_, rfl⟩
            rw [hzz] at p2 hz
            have hgn' := Lib.hid hgn
            have hA' := Lib.hid hA
            have hzz' := Lib.hid hzz
            clear hgn hA hzz
            go_wp2
            go_roundw
            case rel => exact ⟨k + 1, by omega, by go_num, by rw [hA'.out], hB⟩
            case measure => simp [intOf]; omega
        · obtain rfl : n = k := by omega
          go_wp2
          go_roundw
          case rel => exact ⟨i + 1, by omega, by go_num, rfl, hB⟩
          case measure => simp [intOf]; omega
    · obtain rfl : n = i := by omega
      have hbx := hB2'.out.trans (hB.mono hB2'.out.size)
      have hfin := hp1'.out
      rw [hfin]
      clear hfin
      go_wp2
      go_ret
      exact ⟨rfl, hbx⟩

set_option maxRecDepth 100000 in
set_option maxHeartbeats 4000000 in
theorem grPeriod_any (v : Value) (g : List (List Int)) (w : World) (hv : RowsV w v g) (hg : graphB g = true) (hT : transB g = true) :
    Calls Try.prog 110 #[v] w (Ret (.int .i64 (perG g : Nat)) w) := by
  obtain ⟨n, hn⟩ : ∃ n, g.length = n := ⟨_, rfl⟩
  obtain ⟨n1, n8, -, -⟩ := graphB_true hg
  have hend := fun F q => @far_per g F q hg hT
  obtain ⟨b, off, gcap, ro, rof, rcc, rfl, H⟩ := hv.graph hg hn
  rw [hn] at n1 n8 hend
  have hst0 := FarI.start g (n := n) (by omega)
  have hs0 : FSeen g n (updF (fun _ => -1) 0 0) [] 0 := fun i x hi => absurd hi (Nat.not_lt_zero i)
  obtain ⟨i0, hi, hz0, hz1, hz2⟩ := info_parts Try.infoInt
  have H' := Lib.hid H
  have hn' := Lib.hid hn
  have hg' := Lib.hid hg
  have hT' := Lib.hid hT
  have hend' := Lib.hid hend
  have hst0' := Lib.hid hst0
  have hs0' := Lib.hid hs0
  clear H hn hg hT hend hst0 hs0
  clear hv
  go_enter Try.func110, Try.ntmps110
  go_wp2_with (at_make; refine wpList_make_full _ rfl _ _ 39 rfl w.heap.size 3 i0 _ 1 Try.underlying39 hi hz0 hz1 _ _ _ _ n rfl rfl rfl rfl (by rw [hz2]; omega) (by unfold maxLen; omega) (Nat.le_refl _) ?_)
  intro w1 hown hgrow
  have hB1 : Below w.heap.size w w1 := below_made (Below.refl _ _) (Nat.le_refl _) hgrow
  have ho := row_made hown
  rw [lst_zero] at ho
  have hsz1 := ho.lt.2
  clear hown hgrow hi hz0 hz1 hz2
  go_wp2
  go_loopw [19] (fun x wr => ∃ (m : Nat) (o : Nat → Int), m ≤ n ∧ x = .int .i64 m ∧ RowAt wr w.heap.size w.heap.size n n (lst n o) ∧ Below w.heap.size w wr ∧ wr.heap.size = w1.heap.size ∧ Hid (∀ x, x < m → o x = -1)) (fun x _ => n - (intOf x).toNat)
  case atStart => exact ⟨0, _, Nat.zero_le _, rfl, ho, hB1, rfl, Lib.hid (fun x hx => absurd hx (Nat.not_lt_zero x))⟩
  case round =>
    obtain ⟨m, o, hm, rfl, hr, hB, hsz, hI⟩ := hrel
    clear ho hB1
    by_cases hltm : m < n
    · have q3 := hr.frozen m
      have q1 := hr.cell hltm
      have hst := hr.stored m (-1)
      simp only [lst_set] at hst
      change RowAt _ _ _ _ _ (lst n (updF o m (-1))) at hst
      have hB2 := hB.setCell (p := ⟨w.heap.size, m, none⟩) (Nat.le_refl _) (.int .i64 (-1))
      have hI2 : ∀ x, x < m + 1 → updF o m (-1) x = -1 := fun x hx => by
        by_cases e : x = m
        · subst e; exact updF_at _ _ _
        · rw [updF_ne e]; exact hI.out x (by omega)
      have hst' := Lib.hid hst
      have hB2' := Lib.hid hB2
      have hI2' := Lib.hid hI2
      have hsz' := Lib.hid hsz
      clear hst hB2 hI2 hsz
      clear hr hB hI
      go_wp2
      go_roundw
      case rel => exact ⟨m + 1, _, by omega, by go_num, hst'.out, hB2'.out, by simp [World.setCell]; exact hsz'.out, hI2'⟩
      case measure => simp [intOf]; omega
    · obtain rfl : n = m := by omega
      have hst := hr.stored 0 0
      have q1 := hr.cell (j := 0) (by omega)
      have q3 := hr.frozen 0
      rw [lst_set, lst_congr (g := updF (fun _ => -1) 0 0) (fun x hx => by
        unfold updF
        split
        · rfl
        · exact hI.out x hx)] at hst
      have hB2 := hB.setCell (p := ⟨w.heap.size, 0, none⟩) (Nat.le_refl _) (.int .i64 0)
      obtain ⟨V, hV⟩ : ∃ V, wr.setCell ⟨w.heap.size, 0, none⟩ (.int .i64 0) = V := ⟨_, rfl⟩
      rw [hV] at hst hB2
      have hwV : wr.heap.size = V.heap.size := by rw [← hV]; simp [World.setCell]
      have hsV : V.heap.size = w1.heap.size := by rw [← hV]; simpa [World.setCell] using hsz
      have hBV := (Below.refl V.heap.size V).alloc (Nat.le_refl _) (.cells #[.int .i64 0] 3)
      have hg0 : Grow (V.alloc (.cells #[.int .i64 0] 3)) V.heap.size (.slice (some ⟨V.heap.size, 0, none⟩) 1 1) (opn 0 []) :=
        ⟨by simp, .inr ⟨V.heap.size, 1, #[.int .i64 0], rfl, Nat.le_refl _, heap_alloc_new V _, Nat.le_refl _, by simp [maxLen], rfl, rfl⟩⟩
      have hr0 := hst.below hBV hst.lt.2
      have hb0 := hB2.trans (hBV.mono hB2.size)
      have hbV : w.heap.size < V.heap.size := hst.lt.2
      have hVs : w.heap.size ≤ V.heap.size := Nat.le_of_lt hbV
      have hV' := Lib.hid hV
      have hr0' := Lib.hid hr0
      have hb0' := Lib.hid hb0
      have hg0' := Lib.hid hg0
      have hwV' := Lib.hid hwV
      clear hV hr0 hb0 hg0 hwV
      clear hst hB2 hBV hr hB hI hsz hsV
      go_wp2
      rw [hV'.out]
      go_loopw [5, 6] (fun op i wr => ∃ (k : Nat) (F : Nat → Int) (q : List Nat), k ≤ q.length + 1 ∧ i = .int .i64 k ∧ RowAt wr w.heap.size w.heap.size n n (lst n F) ∧ Grow wr V.heap.size op (opn 0 q) ∧ Below w.heap.size w wr ∧ V.heap.size ≤ wr.heap.size ∧ Hid (FarI g n F q ∧ FSeen g n F q k)) (fun _ i _ => n + 2 - (intOf i).toNat)
      case atStart => exact ⟨0, _, [], Nat.zero_le _, rfl, hr0'.out, by rw [hwV'.out]; exact hg0'.out, hb0'.out, by simp, Lib.hid ⟨hst0'.out, hs0'.out⟩⟩
      case round =>
        clear hr0' hb0' hg0' hV' hwV'
        obtain ⟨k, F, q, hk, rfl, hr, hgr, hB, hVw, hI⟩ := hrel
        obtain ⟨bo, co, rfl, hrow⟩ := hgr.form (by rw [opn_len]; omega)
        rw [opn_len] at hrow hgr ⊢
        have hq8 : q.length + 1 ≤ n := by rw [hI.out.1.len]; exact cnt_le _ _
        by_cases hlt : k < q.length + 1
        · obtain ⟨s, hs⟩ : ∃ s, opA 0 q k = s := ⟨_, rfl⟩
          have hsn : s < n := by rw [← hs]; exact (hI.out.1.qp k hlt).1
          have c1 := hrow.cell hlt
          rw [opn_nth hlt, hs] at c1
          have p1 := (H'.out.below hB s hsn).1
          have hST : FSeenTo g F q k 0 := fun x hx => absurd hx (Nat.not_lt_zero x)
          have hI3 := Lib.hid (And.intro hI.out.1 (And.intro hI.out.2 hST))
          clear hrow hST hI
          obtain ⟨ql, hql⟩ : ∃ ql, q.length = ql := ⟨_, rfl⟩
          rw [hql] at hlt hgr hk hq8 ⊢
          have hlti : decide ((k : Int) < (ql : Int) + 1) = true := decide_eq_true (by omega)
          have hgr' := Lib.hid hgr
          have hB' := Lib.hid hB
          have hs' := Lib.hid hs
          have hql' := Lib.hid hql
          have hr' := Lib.hid hr
          clear hgr hB hs hql hr
          go_wp2
          go_loopw [5, 43] (fun op i wr => ∃ (j : Nat) (F : Nat → Int) (q : List Nat), j ≤ n ∧ i = .int .i64 j ∧ k < q.length + 1 ∧ opA 0 q k = s ∧ RowAt wr w.heap.size w.heap.size n n (lst n F) ∧ Grow wr V.heap.size op (opn 0 q) ∧ Below w.heap.size w wr ∧ V.heap.size ≤ wr.heap.size ∧ Hid (FarI g n F q ∧ FSeen g n F q k ∧ FSeenTo g F q k j)) (fun _ i _ => n - (intOf i).toNat)
          case atStart => exact ⟨0, F, q, Nat.zero_le _, rfl, by rw [hql'.out]; exact hlt, hs'.out, hr'.out, hgr'.out, hB'.out, hVw, hI3⟩
          case round =>
            clear hgr' hB' hs' hql' hr' hI3 hlti c1 p1 hlt hk hq8 hVw
            clear q F
            obtain ⟨j, F, q, hj, rfl, hlt, hs, hr, hgr, hB, hVw, hI⟩ := hrel
            by_cases hltj : j < n
            · obtain ⟨bo, co, rfl, hrow⟩ := hgr.form (by rw [opn_len]; omega)
              rw [opn_len] at hrow hgr ⊢
              have p2 := (H'.out.below hB s hsn).2.2 j hltj
              have c1 := hrow.cell hlt
              rw [opn_nth hlt, hs] at c1
              have q1 := hr.cell hsn
              have q2 := hr.cell hltj
              have q3 := hr.frozen j
              rw [nth_lst hsn] at q1
              rw [nth_lst hltj] at q2
              have hq8 : q.length + 1 ≤ n := by rw [hI.out.1.len]; exact cnt_le _ _
              have hqp := (hI.out.1.qp k hlt).2
              rw [hs] at hqp
              by_cases hedg : 0 < ent g s j
              · by_cases hF : F j < 0
                · have hI2 := hI.out.1.add hF hltj hlt (by rw [hs]; exact hedg)
                  have hS2 := hI.out.2.1.add (t := j) (z := F s + 1) (by omega) hlt
                  have hST2 := hI.out.2.2.add (t := j) (z := F s + 1) (by omega) hlt
                  rw [hs] at hI2
                  have hst := hr.stored j (F s + 1)
                  rw [lst_set] at hst
                  change RowAt _ _ _ _ _ (lst n (updF F j (F s + 1))) at hst
                  have hB2 := hB.setCell (p := ⟨w.heap.size, j, none⟩) (Nat.le_refl _) (.int .i64 (F s + 1))
                  have hgr2 : Grow (wr.setCell ⟨w.heap.size, j, none⟩ (.int .i64 (F s + 1))) V.heap.size (.slice (some ⟨bo, 0, none⟩) (q.length + 1) co) (opn 0 q) :=
                    World.ownsRow.kept hgr (grownBy_set _ _ _ _) (.inr (fun e => by have := (World.ownsRow.lt hgr _ e).1; omega))
                  have hs2 : opA 0 (q ++ [j]) k = s := by rw [opA_snoc j hlt]; exact hs
                  have hlt3 : k < (q ++ [j]).length + 1 := by rw [List.length_append]; omega
                  obtain ⟨x, hx⟩ : ∃ x, F s = x := ⟨_, rfl⟩
                  obtain ⟨y, hy⟩ : ∃ y, F j = y := ⟨_, rfl⟩
                  obtain ⟨z, hz⟩ : ∃ z, ent g s j = z := ⟨_, rfl⟩
                  rw [hx] at q1 hqp hst hB2 hgr2 hI2 hS2 hST2
                  rw [hy] at q2 hF
                  rw [hz] at p2 hedg
                  obtain ⟨V2, hV2⟩ : ∃ W, wr.setCell ⟨w.heap.size, j, none⟩ (.int .i64 (x + 1)) = W := ⟨_, rfl⟩
                  have hzz : V2.heap.size = wr.heap.size := by rw [← hV2]; simp [World.setCell]
                  rw [hV2] at hst hB2 hgr2
                  have hIX := Lib.hid (And.intro hI2 (And.intro hS2 hST2))
                  clear hI2 hS2 hST2 hI hr hgr hrow hB
                  obtain ⟨ql, hql⟩ : ∃ ql, q.length = ql := ⟨_, rfl⟩
                  rw [hql] at hlt hgr2 hq8 ⊢
                  have hst' := Lib.hid hst
                  have hB2' := Lib.hid hB2
                  have hgr2' := Lib.hid hgr2
                  have hs2' := Lib.hid hs2
                  have hlt3' := Lib.hid hlt3
                  have hx' := Lib.hid hx
                  have hy' := Lib.hid hy
                  have hz' := Lib.hid hz
                  have hV2' := Lib.hid hV2
                  have hs' := Lib.hid hs
                  have hql' := Lib.hid hql
                  clear hst hB2 hgr2 hs2 hlt3 hx hy hz hV2 hs hql
                  have hsv : V.heap.size ≤ V2.heap.size := by omega
                  have hzz' := Lib.hid hzz
                  clear hzz
                  go_wp2_with (at_builtin; rw [hV2'.out]; refine wpList_append_intN rfl _ _ rfl V.heap.size (.slice (some ⟨bo, 0, none⟩) (ql + 1) co) (opn 0 q) (j : Int) _ wr.heap.size hzz'.out rfl rfl hgr2'.out (by rw [opn_len, hql'.out]; omega) hsv ?_)
                  intro v3 w3 hgr3 hg3
                  rw [opn_snoc] at hgr3
                  have hB4 := hgr2'.out.belowB hB2'.out hVs (hB2'.out.size) hg3
                  have hr4 := hst'.out.kept hg3 (fun e => by have := (World.ownsRow.lt hgr2'.out w.heap.size e).1; omega)
                  have hs4 : V.heap.size ≤ w3.heap.size := Nat.le_trans hsv hg3.size
                  have hgr3' := Lib.hid hgr3
                  have hB4' := Lib.hid hB4
                  have hr4' := Lib.hid hr4
                  clear hgr3 hB4 hr4
                  clear hg3 hgr2' hst' hB2'
                  go_wp2
                  go_roundw
                  case rel => exact ⟨j + 1, _, _, by omega, by go_num, hlt3'.out, hs2'.out, hr4'.out, hgr3'.out, hB4'.out, hs4, hIX⟩
                  case measure => simp [intOf]; omega
                · have hIX := Lib.hid (And.intro hI.out.1 (And.intro hI.out.2.1 (hI.out.2.2.skip (t := j) (fun _ => by omega))))
                  obtain ⟨y, hy⟩ : ∃ y, F j = y := ⟨_, rfl⟩
                  obtain ⟨z, hz⟩ : ∃ z, ent g s j = z := ⟨_, rfl⟩
                  rw [hy] at q2 hF
                  rw [hz] at p2 hedg
                  have hgrx := hgr
                  rw [← opn_len 0 q] at hgrx
                  obtain ⟨ql, hql⟩ : ∃ ql, q.length = ql := ⟨_, rfl⟩
                  rw [hql] at hlt hgr ⊢
                  clear hrow hgr hI
                  have hgrx' := Lib.hid hgrx
                  have hr' := Lib.hid hr
                  have hB' := Lib.hid hB
                  have hs' := Lib.hid hs
                  have hy' := Lib.hid hy
                  have hz' := Lib.hid hz
                  have hql' := Lib.hid hql
                  clear hgrx hr hB hs hy hz hql
                  go_wp2
                  go_roundw
                  case rel => exact ⟨j + 1, _, q, by omega, by go_num, by rw [hql'.out]; exact hlt, hs'.out, hr'.out, by rw [← hql'.out, ← opn_len 0 q]; exact hgrx'.out, hB'.out, hVw, hIX⟩
                  case measure => simp [intOf]; omega
              · have hIX := Lib.hid (And.intro hI.out.1 (And.intro hI.out.2.1 (hI.out.2.2.skip (t := j) (fun h => by rw [hs] at h; omega))))
                obtain ⟨z, hz⟩ : ∃ z, ent g s j = z := ⟨_, rfl⟩
                rw [hz] at p2 hedg
                have hgrx := hgr
                rw [← opn_len 0 q] at hgrx
                obtain ⟨ql, hql⟩ : ∃ ql, q.length = ql := ⟨_, rfl⟩
                rw [hql] at hlt hgr ⊢
                clear hrow hgr hI
                have hgrx' := Lib.hid hgrx
                have hr' := Lib.hid hr
                have hB' := Lib.hid hB
                have hs' := Lib.hid hs
                have hz' := Lib.hid hz
                have hql' := Lib.hid hql
                clear hgrx hr hB hs hz hql
                go_wp2
                go_roundw
                case rel => exact ⟨j + 1, _, q, by omega, by go_num, by rw [hql'.out]; exact hlt, hs'.out, hr'.out, by rw [← hql'.out, ← opn_len 0 q]; exact hgrx'.out, hB'.out, hVw, hIX⟩
                case measure => simp [intOf]; omega
            · obtain rfl : n = j := by omega
              have hIX := Lib.hid (And.intro hI.out.1 (hI.out.2.1.next hI.out.2.2))
              have hq8 : q.length + 1 ≤ n := by rw [hI.out.1.len]; exact cnt_le _ _
              clear hI hs
              have hgr' := Lib.hid hgr
              have hr' := Lib.hid hr
              have hB' := Lib.hid hB
              clear hgr hr hB
              go_wp2
              go_roundw
              case rel => exact ⟨k + 1, F, q, by omega, by go_num, hr'.out, hgr'.out, hB'.out, hVw, hIX⟩
              case measure => simp [intOf]; omega
        · obtain rfl : k = q.length + 1 := by omega
          obtain ⟨hp1, hp2⟩ := hend'.out F q hI.out.1 hI.out.2
          clear hI hrow hgr
          obtain ⟨ql, hql⟩ : ∃ ql, q.length = ql := ⟨_, rfl⟩
          rw [hql] at hq8 ⊢
          generalize perG g = P at *
          obtain ⟨G, hG⟩ : ∃ G, ent g = G := ⟨_, rfl⟩
          rw [hG] at hp1 H'
          obtain ⟨w2, hw2⟩ : ∃ W, wr = W := ⟨_, rfl⟩
          rw [hw2] at hB hr ⊢
          have hr' := Lib.hid hr
          have hB' := Lib.hid hB
          have hp1' := Lib.hid hp1
          have hp2' := Lib.hid hp2
          have hG' := Lib.hid hG
          have hql' := Lib.hid hql
          clear hr hB hp1 hp2 hG hql
          clear hw2 hVw hend' hst0' hs0'
          go_wp2
          go_loopw [9, 75] (fun p x wr => ∃ i : Nat, i ≤ n ∧ x = .int .i64 i ∧ p = .int .i64 (gcA G n (fun i k => F i + 1 - F k) i 0 : Nat) ∧ Below w2.heap.size w2 wr) (fun _ x _ => n - (intOf x).toNat)
          case atStart => exact ⟨0, Nat.zero_le _, rfl, rfl, Below.refl _ _⟩
          case round =>
            obtain ⟨i, hi, rfl, rfl, hB⟩ := hrel
            by_cases hlt : i < n
            · have hbx := hB'.out.trans (hB.mono hB'.out.size)
              have p1 := (H'.out.below hbx i hlt).1
              clear hbx
              go_wp2
              go_loopw [9, 82] (fun p x wr => ∃ k : Nat, k ≤ n ∧ x = .int .i64 k ∧ p = .int .i64 (gcA G n (fun i k => F i + 1 - F k) i k : Nat) ∧ Below w2.heap.size w2 wr) (fun _ x _ => n - (intOf x).toNat)
              case atStart => exact ⟨0, Nat.zero_le _, rfl, rfl, hB⟩
              case round =>
                clear hB p1
                obtain ⟨k, hk, rfl, rfl, hB⟩ := hrel
                by_cases hltk : k < n
                · have hbx := hB'.out.trans (hB.mono hB'.out.size)
                  have p2 := (H'.out.below hbx i hlt).2.2 k hltk
                  have hr := hr'.out.below hB hr'.out.lt.2
                  have q1 := hr.cell hltk
                  have q2 := hr.cell hlt
                  rw [nth_lst hltk] at q1
                  rw [nth_lst hlt] at q2
                  have b1 := hp2'.out k hltk
                  have b2 := hp2'.out i hlt
                  have b3 := gcA_le (g := G) (M := 20) (fun a c ha hc => by have h1 := hp2'.out a ha; have h2 := hp2'.out c hc; show (F a + 1 - F c).natAbs ≤ 20; omega) hlt hk
                  by_cases hz : 0 < G i k
                  · have hgy := gcA_yes (n := n) (d := fun i k => F i + 1 - F k) hz
                    try simp only at hgy
                    have cg := fun w => grGcd_any (F i + 1 - F k).natAbs (gcA G n (fun i k => F i + 1 - F k) i k : Nat) w (by omega) (by omega)
                    have ca := fun w => l1Abs_any (F i + 1 - F k) w (by omega)
                    rw [← hgy] at cg
                    clear hgy hr hbx
                    obtain ⟨A', hA'⟩ : ∃ A', gcA G n (fun i k => F i + 1 - F k) i (k + 1) = A' := ⟨_, rfl⟩
                    rw [hA'] at cg
                    generalize gcA G n (fun i k => F i + 1 - F k) i k = A at *
                    obtain ⟨x, hx⟩ : ∃ x, F i = x := ⟨_, rfl⟩
                    obtain ⟨y, hy⟩ : ∃ y, F k = y := ⟨_, rfl⟩
                    obtain ⟨z, hzz⟩ : ∃ z, G i k = z := ⟨_, rfl⟩
                    rw [hx] at q2 b2 cg ca
                    rw [hy] at q1 b1 cg ca
                    rw [hzz] at p2 hz
                    have hx' := Lib.hid hx
                    have hy' := Lib.hid hy
                    have hzz' := Lib.hid hzz
                    have hA'' := Lib.hid hA'
                    have cg' := Lib.hid cg
                    have ca' := Lib.hid ca
                    clear hx hy hzz hA' cg ca
                    go_wp2_with fail
                    go_quiet (first | (go_at_call 133; exact Calls.quiet_of_same (Same.is (ca'.out _))) | (go_at_call 132; exact Calls.quiet_of_same (Same.is (cg'.out _))))
                    go_wp2
                    go_roundw
                    case rel => exact ⟨k + 1, by omega, by go_num, by rw [hA''.out], below_drewN hB _⟩
                    case measure => simp [intOf]; omega
                  · have hgn := gcA_no (n := n) (d := fun i k => F i + 1 - F k) hz
                    clear hr hbx
                    rw [← hgn] at b3
                    obtain ⟨A, hA⟩ : ∃ A, gcA G n (fun i k => F i + 1 - F k) i (k + 1) = A := ⟨_, rfl⟩
                    rw [← hgn, hA]
                    obtain ⟨z, hzz⟩ : ∃ z, G i k = z := ⟨_, rfl⟩
                    rw [hzz] at p2 hz
                    have hgn' := Lib.hid hgn
                    have hA' := Lib.hid hA
                    have hzz' := Lib.hid hzz
                    clear hgn hA hzz
                    go_wp2
                    go_roundw
                    case rel => exact ⟨k + 1, by omega, by go_num, by rw [hA'.out], hB⟩
                    case measure => simp [intOf]; omega
                · obtain rfl : n = k := by omega
                  go_wp2
                  go_roundw
                  case rel => exact ⟨i + 1, by omega, by go_num, rfl, hB⟩
                  case measure => simp [intOf]; omega
            · obtain rfl : n = i := by omega
              have hbx := hB'.out.trans (hB.mono hB'.out.size)
              have hfin := hp1'.out
              rw [hfin]
              clear hfin
              go_wp2
              go_ret
              exact ⟨rfl, hbx⟩

end Go.Proofs.Ytblippeklbhepaa

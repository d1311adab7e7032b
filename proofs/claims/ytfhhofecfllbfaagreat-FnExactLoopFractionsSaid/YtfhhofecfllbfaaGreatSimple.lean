/- A map without points between pieces of the same slope: the program's and the reference's. No conditions but valid maps. -/
import Derived.Test.YtfhhofecfllbfaaGreatSlopes
import Derived.Test.YtfhhofecfllbfaaGreatPkB
import Derived.Test.YtfhhofecfllbfaaGreatPkE
namespace Go.Proofs.YtfhhofecfllbfaaGreat
open Go.RowKit
set_option maxRecDepth 100000

theorem wpList_append_P {ops : Array Oper} {rest : List Oper} {o : Oper} {a : Act} {w : World} {Q : Exit → Act → World → Prop} (hgd : o.guard = none) (s x : Operand)
    (ho : o.op = .call { callee := .builtin .append, args := #[s, x], argTypes := #[29, 29] }) (B : Nat) (v : Value) (xs : List Quad) (p q p' q' : Int) (c : Nat) (hs : a.eval s = v) (hx : a.eval x = .slice (some ⟨w.heap.size, 0, none⟩) 1 c)
    (hown : GrowP w B v xs) (hl : xs.length ≤ 1099511627776) (hB : B ≤ w.heap.size)
    (h : ∀ v' w', GrowP w' B v' (xs ++ [((p, q), (p', q'))]) → w.grownBy w' v.ownBlock → wpList Tryz.prog ops Q rest (a.put o.dst v') w') : wpList Tryz.prog ops Q (o :: rest) a (w.alloc (.cells #[.int .i64 p, .int .i64 q, .int .i64 p', .int .i64 q'] 80)) :=
  wpList_plain hgd fun _ hK => wp_append_P s x ho B v xs p q p' q' c hs hx hown hl hB fun v' w' h2 h3 => hK _ _ (h v' w' h2 h3)
theorem GrowP.lit (w : World) (x : Quad) : GrowP (w.alloc (.cells #[.int .i64 x.1.1, .int .i64 x.1.2, .int .i64 x.2.1, .int .i64 x.2.2] 80)) w.heap.size (.slice (some ⟨w.heap.size, 0, none⟩) 1 1) [x] :=
  World.ownsRow_lit (base := w.heap.size) (e := 80) (size := 4) w #[.int .i64 x.1.1, .int .i64 x.1.2, .int .i64 x.2.1, .int .i64 x.2.2] 1 (Nat.le_refl _) (by decide) rfl

/-- The slope of piece i. -/
def srF (f : List Quad) (i : Nat) : Int × Int := slopeR (nth4 f i) (nth4 f (i + 1))
/-- The first point, and those of the next k at which the slope changes. -/
def smK (f : List Quad) : Nat → List Quad
  | 0 => [nth4 f 0]
  | k + 1 => if srF f k = srF f (k + 1) then smK f k else smK f k ++ [nth4 f (k + 1)]
def smL (f : List Quad) : List Quad := smK f (f.length - 2) ++ [nth4 f (f.length - 1)]
theorem smK_len (f : List Quad) (k : Nat) : 1 ≤ (smK f k).length ∧ (smK f k).length ≤ k + 1 := by
  induction k with
  | zero => exact ⟨Nat.le_refl _, Nat.le_refl _⟩
  | succ k ih =>
    unfold smK
    split
    · omega
    · rw [List.length_append]; simp; omega
theorem smK_same {f : List Quad} {k : Nat} (h : srF f k = srF f (k + 1)) : smK f (k + 1) = smK f k := by show (if _ then _ else _) = _; rw [if_pos h]
theorem smK_new {f : List Quad} {k : Nat} (h : ¬ srF f k = srF f (k + 1)) : smK f (k + 1) = smK f k ++ [nth4 f (k + 1)] := by show (if _ then _ else _) = _; rw [if_neg h]

set_option linter.unusedSimpArgs false in
set_option maxRecDepth 10000 in
set_option maxHeartbeats 4000000 in
theorem simpleL_any (v : Value) (f : List Quad) (w : World) (hv : QuadV w v f) (hf : LineP f) :
    Calls Tryz.prog 213 #[v] w (RetO OwnP (smL f) w) := by
  have hl := hf.len
  have c1 := slopesL_any v f w hv hf
  have hsn : (slL f).length = f.length - 1 := slK_len f _
  have hat : ∀ i, i < f.length - 1 → nthR (slL f) i = srF f i := fun i h => nthR_slK f h
  have hsame := fun k => smK_same (f := f) (k := k)
  have hnew := fun k => smK_new (f := f) (k := k)
  have hkl := smK_len f
  have h00 : smK f 0 = [nth4 f 0] := rfl
  have hV : smL f = smK f (f.length - 2) ++ [nth4 f (f.length - 1)] := rfl
  rw [hV]
  clear hV hf
  have hvb := fun w' (hB : Below w.heap.size w w') => (hv.below hB).form
  generalize slL f = SL at *
  generalize srF f = SR at *
  generalize smK f = SM at *
  obtain ⟨ao, cap, rfl, _, _, H⟩ := hv.form
  obtain ⟨b, off, rfl, _⟩ := H 0 (by omega)
  obtain ⟨n, hn⟩ : ∃ n, f.length = n := ⟨_, rfl⟩
  have hfc : ∀ w', Below w.heap.size w w' → ∀ i, i < n → w'.cell? ⟨b, off + i * 4, none⟩ = some (.int .i64 (nth4 f i).1.1) ∧ w'.cell? ⟨b, off + i * 4 + 1, none⟩ = some (.int .i64 (nth4 f i).1.2) ∧ w'.cell? ⟨b, off + i * 4 + 2, none⟩ = some (.int .i64 (nth4 f i).2.1) ∧ w'.cell? ⟨b, off + i * 4 + 3, none⟩ = some (.int .i64 (nth4 f i).2.2) := fun w' hB i hi => by
    obtain ⟨ao, cap, e, _, _, H⟩ := hvb w' hB
    obtain ⟨rfl, _, rfl⟩ := Value.slice.inj e
    obtain ⟨_, _, e, c0, c1, c2, c3⟩ := H i (by rw [hn]; exact hi)
    cases e
    exact ⟨c0, c1, c2, c3⟩
  rw [hn] at hl c1 hsn hat ⊢
  clear hv H hvb
  obtain ⟨m, hm⟩ : ∃ m, n - 2 = m := ⟨_, rfl⟩
  have hn2 : n - 1 = m + 1 := by omega
  obtain ⟨M, hM⟩ : ∃ M, m + 1 = M := ⟨_, rfl⟩
  rw [hm, hn2, hM]
  rw [hn2, hM] at hsn hat
  have hnm : n = m + 2 := by omega
  have hmb : m ≤ 1000 ∧ m < M ∧ M = m + 1 ∧ n = M + 1 := by omega
  obtain ⟨hmb1, hmb2, hmb3, hmb4⟩ := hmb
  have c1' := Lib.hid c1
  have hsn' := Lib.hid hsn
  have hat' := Lib.hid hat
  have hsame' := Lib.hid hsame
  have hnew' := Lib.hid hnew
  have hkl' := Lib.hid hkl
  have h00' := Lib.hid h00
  have hfc' := Lib.hid hfc
  have hn' := Lib.hid hn
  have hm' := Lib.hid hm
  have hn2' := Lib.hid hn2
  have hnm' := Lib.hid hnm
  have hM' := Lib.hid hM
  have hmb3' := Lib.hid hmb3
  have hmb4' := Lib.hid hmb4
  clear c1 hsn hat hsame hnew hkl h00 hfc hn hm hn2 hnm hM hmb3 hmb4
  go_enter Tryz.func213, Tryz.ntmps213
  go_wp2_with fail
  refine (c1'.out).mono ?_
  rintro e w1 ⟨sv, rfl, hsv, hB1⟩
  obtain ⟨so, scap, rfl, _, _, HS⟩ := hsv.read.form
  rw [hsn'.out] at HS ⊢
  obtain ⟨sb, soff, rfl, _⟩ := HS 0 (by omega)
  have hs1 := hB1.size
  obtain ⟨p0, p1, p2, p3⟩ := hfc'.out w1 hB1 0 (by have := hnm'.out; omega)
  generalize hP : nth4 f 0 = P at *
  obtain ⟨⟨a0, a1⟩, ⟨a2, a3⟩⟩ := P
  simp only [Nat.zero_mul, Nat.add_zero] at p0 p1 p2 p3
  obtain ⟨w2, hw2⟩ : ∃ W, w1.alloc (.cells #[.int .i64 a0, .int .i64 a1, .int .i64 a2, .int .i64 a3] 80) = W := ⟨_, rfl⟩
  have hB2 : Below w1.heap.size w1 w2 := by rw [← hw2]; exact (Below.refl _ _).alloc (Nat.le_refl _) _
  have hg2 : GrowP w2 w1.heap.size (.slice (some ⟨w1.heap.size, 0, none⟩) 1 1) (SM 0) := by
    rw [h00'.out, ← hw2]; exact GrowP.lit w1 ((a0, a1), (a2, a3))
  have g0 : (0 : Int) < (n : Int) := by omega
  have g0b : 0 < n := by omega
  clear hsv
  have HS' := Lib.hid HS
  have hw2' := Lib.hid hw2
  have hg2' := Lib.hid hg2
  have hP' := Lib.hid hP
  clear HS hw2 hg2 hP
  go_wp2
  rw [hw2'.out]
  clear p0 p1 p2 p3
  have hgn : IntKind.i64.wrap ((n : Int) - 1) = (M : Int) := by have := hnm'.out; have := hM'.out; rw [IntKind.wrap_i64]; omega
  go_loopw [4, 5] (fun o i wr => ∃ k : Nat, k ≤ m ∧ i = .int .i64 ((k : Int) + 1) ∧ GrowP wr w1.heap.size o (SM k) ∧ Below w1.heap.size w1 wr) (fun _ i _ => n - (intOf i).toNat)
  case atStart => exact ⟨0, Nat.zero_le _, rfl, hg2'.out, hB2⟩
  case round =>
    obtain ⟨k, hk, rfl, hg, hB⟩ := hrel
    clear hg2' hB2 hw2'
    have hb := hB1.trans (hB.mono hs1)
    have hsz := hB.size
    have hkl1 := hkl'.out k
    by_cases hlt : k < m
    · obtain ⟨j, hj⟩ : ∃ j : Nat, j = k + 1 := ⟨_, rfl⟩
      obtain ⟨_, _, e, s0, s1⟩ := HS'.out k (by omega)
      cases e
      obtain ⟨_, _, e, t0, t1⟩ := HS'.out j (by omega)
      cases e
      rw [hat'.out k (by omega)] at s0 s1
      rw [hat'.out j (by omega)] at t0 t1
      replace s0 := bkeep hB s0
      replace s1 := bkeep hB s1
      replace t0 := bkeep hB t0
      replace t1 := bkeep hB t1
      obtain ⟨p0, p1, p2, p3⟩ := hfc'.out wr hb j (by have := hnm'.out; omega)
      have hsame1 := hsame'.out k
      have hnew1 := hnew'.out k
      rw [← hj] at hsame1 hnew1
      rw [show (k : Int) + 1 = (j : Int) by omega]
      generalize SR k = U at *
      generalize SR j = T at *
      generalize nth4 f j = P2 at *
      obtain ⟨⟨x0, x1⟩, ⟨x2, x3⟩⟩ := P2
      obtain ⟨u0, u1⟩ := U
      obtain ⟨v0, v1⟩ := T
      simp only at s0 s1 t0 t1 p0 p1 p2 p3
      have g1 : IntKind.i64.wrap ((j : Int) - 1) = (k : Int) := by rw [IntKind.wrap_i64]; omega
      have g2 : (0 : Int) ≤ (k : Int) := by omega
      have g3 : (k : Int) < (M : Int) := by omega
      have g4 : (j : Int) < (M : Int) := by omega
      have g5 : (j : Int) < (n : Int) := by have := hnm'.out; omega
      have g3b : k < M := by omega
      have g4b : j < M := by omega
      have g5b : j < n := by have := hnm'.out; omega
      have hj2 : (j : Int) = (k : Int) + 1 := by omega
      have hgw : IntKind.i64.wrap ((j : Int) + 1) = (j : Int) + 1 := by have := hnm'.out; rw [IntKind.wrap_i64]; omega
      have hlen : (SM k).length ≤ 1099511627776 := by have := hnm'.out; omega
      by_cases he : u0 = v0 ∧ u1 = v1
      · obtain ⟨rfl, rfl⟩ := he
        have e1 := hsame1 rfl
        rw [hj] at e1
        clear hsame1 hnew1
        have e1' := Lib.hid e1
        have hg' := Lib.hid hg
        have hB' := Lib.hid hB
        have hj' := Lib.hid hj
        have hj2' := Lib.hid hj2
        clear e1 hg hB hj hj2
        go_wp2_with fail
        go_region
        go_wp2
        go_roundw
        case rel => exact ⟨k + 1, by omega, by have := hj2'.out; go_num, by rw [e1'.out]; exact hg'.out, hB'.out.drew⟩
        case measure => simp [intOf]; have := hj'.out; omega
      · have e1 := hnew1 (fun h => he ⟨(Prod.mk.inj h).1, (Prod.mk.inj h).2⟩)
        rw [hj] at e1
        clear hsame1 hnew1
        have hgd := hg
        have e1' := Lib.hid e1
        have hg' := Lib.hid hg
        have hB' := Lib.hid hB
        have hj' := Lib.hid hj
        have hj2' := Lib.hid hj2
        have hlen' := Lib.hid hlen
        clear e1 hg hB hj hj2 hlen
        by_cases h0 : u0 = v0
        · have h1 : ¬ u1 = v1 := fun h => he ⟨h0, h⟩
          subst h0
          clear he
          go_wp2_with fail
          go_region
          go_wp2_with (at_builtin; refine wpList_append_P rfl _ _ rfl w1.heap.size u4 (SM k) x0 x1 x2 x3 1 rfl rfl (w := wr.drew) hgd hlen'.out hsz ?_)
          intro v' w' hown hgrow
          have hB2 := GrowP.belowB (w := wr.drew) hgd hB'.out.drew (Nat.le_refl _) hsz hgrow
          clear hgrow hgd
          have hown' := Lib.hid hown
          have hB2' := Lib.hid hB2
          clear hown hB2
          go_wp2
          go_roundw
          case rel => exact ⟨k + 1, by omega, by have := hj2'.out; go_num, by rw [e1'.out]; exact hown'.out, hB2'.out⟩
          case measure => simp [intOf]; have := hj'.out; omega
        · clear he
          go_wp2_with fail
          go_region
          go_wp2_with (at_builtin; refine wpList_append_P rfl _ _ rfl w1.heap.size u4 (SM k) x0 x1 x2 x3 1 rfl rfl (w := wr.drew) hgd hlen'.out hsz ?_)
          intro v' w' hown hgrow
          have hB2 := GrowP.belowB (w := wr.drew) hgd hB'.out.drew (Nat.le_refl _) hsz hgrow
          clear hgrow hgd
          have hown' := Lib.hid hown
          have hB2' := Lib.hid hB2
          clear hown hB2
          go_wp2
          go_roundw
          case rel => exact ⟨k + 1, by omega, by have := hj2'.out; go_num, by rw [e1'.out]; exact hown'.out, hB2'.out⟩
          case measure => simp [intOf]; have := hj'.out; omega
    · obtain rfl : k = m := by omega
      obtain ⟨p0, p1, p2, p3⟩ := hfc'.out wr hb M (by have := hmb4'.out; omega)
      have g5 : (M : Int) < (n : Int) := by have := hmb4'.out; omega
      have g5b : M < n := by have := hmb4'.out; omega
      have g5c : (0 : Int) ≤ (M : Int) := by omega
      have hge : ¬ ((k : Int) + 1 < (M : Int)) := by have := hM'.out; omega
      have hlen : (SM k).length ≤ 1099511627776 := by omega
      generalize nth4 f M = P2 at *
      obtain ⟨⟨x0, x1⟩, ⟨x2, x3⟩⟩ := P2
      simp only at p0 p1 p2 p3
      have hB' := Lib.hid hB
      have hlen' := Lib.hid hlen
      clear hB hlen
      go_wp2_with (at_builtin; refine wpList_append_P rfl _ _ rfl w1.heap.size u4 (SM k) x0 x1 x2 x3 1 rfl rfl hg hlen'.out hsz ?_)
      intro v' w' hown hgrow
      have hB2 := hg.belowB hB'.out (Nat.le_refl _) hsz hgrow
      have hbe := hB1.trans (hB2.mono hs1)
      have ho := hown.own
      clear hgrow hg hown
      have ho' := Lib.hid ho
      have hbe' := Lib.hid hbe
      clear ho hbe
      go_wp2
      go_ret
      exact ⟨_, rfl, ho'.out.mono hs1 (Nat.le_refl _), hbe'.out⟩
theorem simple_any (v : Value) (f : List Quad) (w : World) (hv : QuadV w v f) (hf : MapP f) :
    Calls Tryz.prog 213 #[v] w (RetO OwnP (smL f) w) := simpleL_any v f w hv hf.line
set_option linter.unusedSimpArgs false in
set_option maxRecDepth 10000 in
set_option maxHeartbeats 4000000 in
theorem imSimpleL_any (v : Value) (f : List Quad) (w : World) (hv : QuadV w v f) (hf : LineP f) :
    Calls Tryz.prog 210 #[v] w (RetO OwnP (smL f) w) := by
  have hl := hf.len
  have cs : ∀ (k : Nat) w', k + 1 < f.length → Calls Tryz.prog 140 #[quadV (nth4 f k), quadV (nth4 f (k + 1))] w' (Ret (ratV (srF f k)) w') := fun k w' h => imSlope_any (nth4 f k) (nth4 f (k + 1)) w' (hf.coord k (by omega)).1 (hf.coord k (by omega)).2 (hf.coord (k + 1) h).1 (hf.coord (k + 1) h).2 (hf.rise k h)
  have hsame := fun k => smK_same (f := f) (k := k)
  have hnew := fun k => smK_new (f := f) (k := k)
  have hkl := smK_len f
  have h00 : smK f 0 = [nth4 f 0] := rfl
  have hV : smL f = smK f (f.length - 2) ++ [nth4 f (f.length - 1)] := rfl
  rw [hV]
  clear hV hf
  have hvb := fun w' (hB : Below w.heap.size w w') => (hv.below hB).form
  generalize srF f = SR at *
  generalize smK f = SM at *
  obtain ⟨ao, cap, rfl, _, _, H⟩ := hv.form
  obtain ⟨b, off, rfl, _⟩ := H 0 (by omega)
  obtain ⟨n, hn⟩ : ∃ n, f.length = n := ⟨_, rfl⟩
  have hfc : ∀ w', Below w.heap.size w w' → ∀ i, i < n → w'.cell? ⟨b, off + i * 4, none⟩ = some (.int .i64 (nth4 f i).1.1) ∧ w'.cell? ⟨b, off + i * 4 + 1, none⟩ = some (.int .i64 (nth4 f i).1.2) ∧ w'.cell? ⟨b, off + i * 4 + 2, none⟩ = some (.int .i64 (nth4 f i).2.1) ∧ w'.cell? ⟨b, off + i * 4 + 3, none⟩ = some (.int .i64 (nth4 f i).2.2) := fun w' hB i hi => by
    obtain ⟨ao, cap, e, _, _, H⟩ := hvb w' hB
    obtain ⟨rfl, _, rfl⟩ := Value.slice.inj e
    obtain ⟨_, _, e, c0, c1, c2, c3⟩ := H i (by rw [hn]; exact hi)
    cases e
    exact ⟨c0, c1, c2, c3⟩
  rw [hn] at hl cs ⊢
  clear hv H hvb
  obtain ⟨m, hm⟩ : ∃ m, n - 2 = m := ⟨_, rfl⟩
  have hn2 : n - 1 = m + 1 := by omega
  obtain ⟨M, hM⟩ : ∃ M, m + 1 = M := ⟨_, rfl⟩
  rw [hm, hn2, hM]
  have hmb : m ≤ 1000 ∧ m < M ∧ M = m + 1 ∧ n = M + 1 := by omega
  obtain ⟨hmb1, hmb2, hmb3, hmb4⟩ := hmb
  obtain ⟨L, hL⟩ : ∃ L : Nat → List Quad, ∀ k, (if k ≤ m then SM k else SM m ++ [nth4 f M]) = L k := ⟨_, fun _ => rfl⟩
  have hLk : ∀ k, k ≤ m → L k = SM k := fun k h => by rw [← hL, if_pos h]
  have hLM : L M = SM m ++ [nth4 f M] := by rw [← hL, if_neg (by omega)]
  have hL0 : L 0 = [nth4 f 0] := by rw [hLk 0 (Nat.zero_le _), h00]
  have hLl : ∀ k, k ≤ m → (L k).length ≤ 1099511627776 := fun k h => by rw [hLk k h]; have := hkl k; omega
  have hLs : ∀ k, k < m → SR k = SR (k + 1) → L (k + 1) = L k := fun k h e => by rw [hLk _ h, hLk k (by omega)]; exact hsame k e
  have hLn : ∀ k, k < m → ¬ SR k = SR (k + 1) → L (k + 1) = L k ++ [nth4 f (k + 1)] := fun k h e => by rw [hLk _ h, hLk k (by omega)]; exact hnew k e
  have hLe : L M = L m ++ [nth4 f M] := by rw [hLM, hLk m (Nat.le_refl _)]
  rw [← hLM]
  clear hL hLk hLM hsame hnew hkl h00
  obtain ⟨p0, p1, p2, p3⟩ := hfc w (Below.refl _ _) 0 (by omega)
  generalize hP : nth4 f 0 = P at *
  obtain ⟨⟨a0, a1⟩, ⟨a2, a3⟩⟩ := P
  simp only [Nat.zero_mul, Nat.add_zero] at p0 p1 p2 p3
  obtain ⟨w2, hw2⟩ : ∃ W, w.alloc (.cells #[.int .i64 a0, .int .i64 a1, .int .i64 a2, .int .i64 a3] 80) = W := ⟨_, rfl⟩
  have hB2 : Below w.heap.size w w2 := by rw [← hw2]; exact (Below.refl _ _).alloc (Nat.le_refl _) _
  have hg2 : GrowP w2 w.heap.size (.slice (some ⟨w.heap.size, 0, none⟩) 1 1) (L 0) := by
    rw [hL0, ← hw2]; exact GrowP.lit w ((a0, a1), (a2, a3))
  have g0 : (0 : Int) < (n : Int) := by omega
  have g0b : 0 < n := by omega
  have cs' := Lib.hid cs
  have hL0' := Lib.hid hL0
  have hLl' := Lib.hid hLl
  have hLs' := Lib.hid hLs
  have hLn' := Lib.hid hLn
  have hLe' := Lib.hid hLe
  have hfc' := Lib.hid hfc
  have hn' := Lib.hid hn
  have hm' := Lib.hid hm
  have hn2' := Lib.hid hn2
  have hM' := Lib.hid hM
  have hmb3' := Lib.hid hmb3
  have hmb4' := Lib.hid hmb4
  have hw2' := Lib.hid hw2
  have hg2' := Lib.hid hg2
  have hP' := Lib.hid hP
  clear cs hL0 hLl hLs hLn hLe hfc hn hm hn2 hM hmb3 hmb4 hw2 hg2 hP
  go_enter Tryz.func210, Tryz.ntmps210
  go_wp2
  rw [hw2'.out]
  clear p0 p1 p2 p3
  go_loopw [3, 4] (fun o i wr => ∃ k : Nat, k ≤ M ∧ i = .int .i64 ((k : Int) + 1) ∧ GrowP wr w.heap.size o (L k) ∧ Below w.heap.size w wr) (fun _ i _ => n - (intOf i).toNat)
  case atStart => exact ⟨0, Nat.zero_le _, rfl, hg2'.out, hB2⟩
  case round =>
    obtain ⟨k, hk, rfl, hg, hB⟩ := hrel
    clear hg2' hB2 hw2'
    have hsz := hB.size
    by_cases hlt : k < M
    · obtain ⟨j, hj⟩ : ∃ j : Nat, j = k + 1 := ⟨_, rfl⟩
      have hj2 : (j : Int) = (k : Int) + 1 := by omega
      have hn4 := hmb4'.out
      have hlen := hLl'.out k (by have := hmb3'.out; omega)
      have hgw : IntKind.i64.wrap ((j : Int) + 1) = ((j + 1 : Nat) : Int) := by have := hmb3'.out; rw [IntKind.wrap_i64]; omega
      obtain ⟨l, hll⟩ : ∃ l : Nat, j + 1 = l := ⟨_, rfl⟩
      rw [hll] at hgw
      have g1 : IntKind.i64.wrap ((j : Int) - 1) = (k : Int) := by rw [IntKind.wrap_i64]; omega
      have g2 : (0 : Int) ≤ (k : Int) := by omega
      have g2b : (0 : Int) ≤ (j : Int) := by omega
      have g2c : (0 : Int) ≤ (l : Int) := by omega
      have g3 : (k : Int) < (n : Int) := by omega
      have g3b : k < n := by omega
      have g5 : (j : Int) < (n : Int) := by omega
      have g5b : j < n := by omega
      rw [show (k : Int) + 1 = (j : Int) by omega]
      have hd : Below wr.heap.size wr wr.drew := (Below.refl _ _).drew
      clear hn4
      by_cases hlast : k < m
      · obtain ⟨q0, q1, q2, q3⟩ := hfc'.out wr hB k (by omega)
        obtain ⟨r0, r1, r2, r3⟩ := hfc'.out wr hB j (by omega)
        obtain ⟨t0, t1, t2, t3⟩ := hfc'.out wr hB l (by have := hmb3'.out; have := hmb4'.out; omega)
        have g6 : (l : Int) < (n : Int) := by have := hmb3'.out; have := hmb4'.out; omega
        have g6b : l < n := by omega
        have g7 : ¬ l = n := by omega
        have g7b : ¬ (l : Int) = (n : Int) := by omega
        have cs1 := fun w' => cs'.out k w' (by omega)
        have cs2 := fun w' => cs'.out j w' (by omega)
        have e1s := hLs'.out k hlast
        have e1n := hLn'.out k hlast
        rw [← hj] at cs1 e1s e1n
        rw [hll] at cs2
        generalize nth4 f k = P1 at *
        generalize nth4 f j = P2 at *
        generalize nth4 f l = P3 at *
        generalize SR k = U at *
        generalize SR j = T at *
        obtain ⟨⟨a0, a1⟩, ⟨a2, a3⟩⟩ := P1
        obtain ⟨⟨x0, x1⟩, ⟨x2, x3⟩⟩ := P2
        obtain ⟨⟨y0, y1⟩, ⟨y2, y3⟩⟩ := P3
        obtain ⟨u0, u1⟩ := U
        obtain ⟨v0, v1⟩ := T
        simp only at q0 q1 q2 q3 r0 r1 r2 r3 t0 t1 t2 t3
        have at' : ∀ w', Below wr.heap.size wr w' → (w'.cell? ⟨b, off + k * 4, none⟩ = some (.int .i64 a0) ∧ w'.cell? ⟨b, off + k * 4 + 1, none⟩ = some (.int .i64 a1) ∧ w'.cell? ⟨b, off + k * 4 + 2, none⟩ = some (.int .i64 a2) ∧ w'.cell? ⟨b, off + k * 4 + 3, none⟩ = some (.int .i64 a3)) ∧ (w'.cell? ⟨b, off + j * 4, none⟩ = some (.int .i64 x0) ∧ w'.cell? ⟨b, off + j * 4 + 1, none⟩ = some (.int .i64 x1) ∧ w'.cell? ⟨b, off + j * 4 + 2, none⟩ = some (.int .i64 x2) ∧ w'.cell? ⟨b, off + j * 4 + 3, none⟩ = some (.int .i64 x3)) ∧ w'.cell? ⟨b, off + l * 4, none⟩ = some (.int .i64 y0) ∧ w'.cell? ⟨b, off + l * 4 + 1, none⟩ = some (.int .i64 y1) ∧ w'.cell? ⟨b, off + l * 4 + 2, none⟩ = some (.int .i64 y2) ∧ w'.cell? ⟨b, off + l * 4 + 3, none⟩ = some (.int .i64 y3) :=
          fun w' h => ⟨⟨bkeep h q0, bkeep h q1, bkeep h q2, bkeep h q3⟩, ⟨bkeep h r0, bkeep h r1, bkeep h r2, bkeep h r3⟩, bkeep h t0, bkeep h t1, bkeep h t2, bkeep h t3⟩
        clear q0 q1 q2 q3 r0 r1 r2 r3 t0 t1 t2 t3
        by_cases he : u0 = v0 ∧ u1 = v1
        · obtain ⟨rfl, rfl⟩ := he
          have he : True := trivial
          have e1 := e1s rfl
          rw [hj] at e1
          clear e1s e1n
          have e1' := Lib.hid e1
          have hg' := Lib.hid hg
          have hB' := Lib.hid hB
          have hj' := Lib.hid hj
          have hj2' := Lib.hid hj2
          have cs1' := Lib.hid cs1
          have cs2' := Lib.hid cs2
          have at'' := Lib.hid at'
          have hlen' := Lib.hid hlen
          have he' := Lib.hid he
          have hll' := Lib.hid hll
          clear e1 hg hB hj hj2 cs1 cs2 at' hlen he hll
          go_wp2_with fail
          refine wp_region_held_drew (S := (fun w' => (w'.cell? ⟨b, off + k * 4, none⟩ = some (.int .i64 a0) ∧ w'.cell? ⟨b, off + k * 4 + 1, none⟩ = some (.int .i64 a1) ∧ w'.cell? ⟨b, off + k * 4 + 2, none⟩ = some (.int .i64 a2) ∧ w'.cell? ⟨b, off + k * 4 + 3, none⟩ = some (.int .i64 a3)) ∧ (w'.cell? ⟨b, off + j * 4, none⟩ = some (.int .i64 x0) ∧ w'.cell? ⟨b, off + j * 4 + 1, none⟩ = some (.int .i64 x1) ∧ w'.cell? ⟨b, off + j * 4 + 2, none⟩ = some (.int .i64 x2) ∧ w'.cell? ⟨b, off + j * 4 + 3, none⟩ = some (.int .i64 x3)) ∧ w'.cell? ⟨b, off + l * 4, none⟩ = some (.int .i64 y0) ∧ w'.cell? ⟨b, off + l * 4 + 1, none⟩ = some (.int .i64 y1) ∧ w'.cell? ⟨b, off + l * 4 + 2, none⟩ = some (.int .i64 y2) ∧ w'.cell? ⟨b, off + l * 4 + 3, none⟩ = some (.int .i64 y3))) (by kernel_rfl) (by (try dsimp only); (first | exact at''.out _ hd | exact at''.out _ hd2 | exact at''.out _ hd3)) (fun hHeld => ?_)
          refine ly_q 0 (v := ?_) hHeld ?_
          try simp only [Act.put, lyA, lyB, lyC]
          refine ly_q 1 (v := ?_) hHeld ?_
          try simp only [Act.put, lyA, lyB, lyC]
          refine ly_q 2 (v := ?_) hHeld ?_
          try simp only [Act.put, lyA, lyB, lyC]
          refine ly_q 3 (v := ?_) hHeld ?_
          try simp only [Act.put, lyA, lyB, lyC]
          refine ly_q 4 (v := .bool false) (hy := by intro wS hSw; (try dsimp only at hSw); go_simp; all_goals (first | (simp; done) | (with_reducible rfl))) hHeld ?_
          try simp only [Act.put, lyA, lyB, lyC]
          refine ly_q 5 (v := ?_) hHeld ?_
          try simp only [Act.put, lyA, lyB, lyC]
          refine ly_q 6 (v := ?_) hHeld ?_
          try simp only [Act.put, lyA, lyB, lyC]
          refine ly_q 7 (v := ?_) hHeld ?_
          try simp only [Act.put, lyA, lyB, lyC]
          refine ly_q 8 (v := ?_) hHeld ?_
          try simp only [Act.put, lyA, lyB, lyC]
          refine ly_q 9 (v := ?_) hHeld ?_
          try simp only [Act.put, lyA, lyB, lyC]
          refine ly_q 10 (v := ?_) hHeld ?_
          try simp only [Act.put, lyA, lyB, lyC]
          refine ly_q 11 (v := ?_) hHeld ?_
          try simp only [Act.put, lyA, lyB, lyC]
          refine ly_q 12 (v := ?_) hHeld ?_
          try simp only [Act.put, lyA, lyB, lyC]
          refine ly_q 13 (v := ?_) hHeld ?_
          try simp only [Act.put, lyA, lyB, lyC]
          refine ly_q 14 (v := ?_) hHeld ?_
          try simp only [Act.put, lyA, lyB, lyC]
          refine ly_q 16 (v := ?_) hHeld ?_
          try simp only [Act.put, lyA, lyB, lyC]
          refine ly_q 17 (v := ?_) hHeld ?_
          try simp only [Act.put, lyA, lyB, lyC]
          refine ly_q 18 (v := ?_) hHeld ?_
          try simp only [Act.put, lyA, lyB, lyC]
          refine ly_q 19 (v := ?_) hHeld ?_
          try simp only [Act.put, lyA, lyB, lyC]
          refine ly_q 20 (v := ?_) hHeld ?_
          try simp only [Act.put, lyA, lyB, lyC]
          refine ly_q 21 (v := ?_) hHeld ?_
          try simp only [Act.put, lyA, lyB, lyC]
          refine ly_q 22 (v := ?_) hHeld ?_
          try simp only [Act.put, lyA, lyB, lyC]
          refine ly_q 23 (v := ?_) hHeld ?_
          try simp only [Act.put, lyA, lyB, lyC]
          refine ly_q 24 (v := ?_) hHeld ?_
          try simp only [Act.put, lyA, lyB, lyC]
          refine ly_a 15 (fun KK hKK => ?_)
          go_simp
          refine (cs1'.out _).mono ?_
          rintro e w5 ⟨rfl, hB5⟩
          have hd2 := hd.trans (hB5.mono hd.size)
          try dsimp only
          refine hKK.out _ _ (by (try dsimp only); (first | exact at''.out _ hd | exact at''.out _ hd2 | exact at''.out _ hd3)) (fun hHeld => ?_)
          clear hKK KK
          try simp only [Act.put, lyA, lyB, lyC]
          refine ly_a 25 (fun KK hKK => ?_)
          go_simp
          refine (cs2'.out _).mono ?_
          rintro e w6 ⟨rfl, hB6⟩
          have hd3 := hd2.trans (hB6.mono hd2.size)
          try dsimp only
          refine hKK.out _ _ (by (try dsimp only); (first | exact at''.out _ hd | exact at''.out _ hd2 | exact at''.out _ hd3)) (fun hHeld => ?_)
          clear hKK KK
          try simp only [Act.put, lyA, lyB, lyC]
          refine ly_q 26 (v := .bool false) (hy := by intro wS hSw; (try dsimp only at hSw); go_simp; all_goals (first | (simp [ratV, he'.out]; done) | (simp [ratV]; done) | (with_reducible rfl))) hHeld ?_
          try simp only [Act.put, lyA, lyB, lyC]
          refine ly_q 27 (v := ?_) hHeld ?_
          try simp only [Act.put, lyA, lyB, lyC]
          refine wpAnyH_done (by kernel_rfl) ?_ _
          have hb5 := hB'.out.trans (hd3.mono hB'.out.size)
          have hg5 := hg'.out.below hd3
          have hs5 := hb5.size
          obtain ⟨_, ⟨p0, p1, p2, p3⟩, _⟩ := at''.out _ hd3
          clear hHeld hd hd2 hd3 hB5 hB6 hg' hB' at''
          have hb5' := Lib.hid hb5
          clear hb5
          go_wp2
          go_roundw
          case rel => exact ⟨k + 1, by omega, by have := hj2'.out; have := hll'.out; go_num, by rw [e1'.out]; exact hg5, hb5'.out⟩
          case measure => simp [intOf]; have := hj'.out; have := hll'.out; omega
        · have e1 := e1n (fun h => he ⟨(Prod.mk.inj h).1, (Prod.mk.inj h).2⟩)
          rw [hj] at e1
          clear e1s e1n
          have e1' := Lib.hid e1
          have hg' := Lib.hid hg
          have hB' := Lib.hid hB
          have hj' := Lib.hid hj
          have hj2' := Lib.hid hj2
          have cs1' := Lib.hid cs1
          have cs2' := Lib.hid cs2
          have at'' := Lib.hid at'
          have hlen' := Lib.hid hlen
          have he' := Lib.hid he
          have hll' := Lib.hid hll
          clear e1 hg hB hj hj2 cs1 cs2 at' hlen he hll
          go_wp2_with fail
          refine wp_region_held_drew (S := (fun w' => (w'.cell? ⟨b, off + k * 4, none⟩ = some (.int .i64 a0) ∧ w'.cell? ⟨b, off + k * 4 + 1, none⟩ = some (.int .i64 a1) ∧ w'.cell? ⟨b, off + k * 4 + 2, none⟩ = some (.int .i64 a2) ∧ w'.cell? ⟨b, off + k * 4 + 3, none⟩ = some (.int .i64 a3)) ∧ (w'.cell? ⟨b, off + j * 4, none⟩ = some (.int .i64 x0) ∧ w'.cell? ⟨b, off + j * 4 + 1, none⟩ = some (.int .i64 x1) ∧ w'.cell? ⟨b, off + j * 4 + 2, none⟩ = some (.int .i64 x2) ∧ w'.cell? ⟨b, off + j * 4 + 3, none⟩ = some (.int .i64 x3)) ∧ w'.cell? ⟨b, off + l * 4, none⟩ = some (.int .i64 y0) ∧ w'.cell? ⟨b, off + l * 4 + 1, none⟩ = some (.int .i64 y1) ∧ w'.cell? ⟨b, off + l * 4 + 2, none⟩ = some (.int .i64 y2) ∧ w'.cell? ⟨b, off + l * 4 + 3, none⟩ = some (.int .i64 y3))) (by kernel_rfl) (by (try dsimp only); (first | exact at''.out _ hd | exact at''.out _ hd2 | exact at''.out _ hd3)) (fun hHeld => ?_)
          refine ly_q 0 (v := ?_) hHeld ?_
          try simp only [Act.put, lyA, lyB, lyC]
          refine ly_q 1 (v := ?_) hHeld ?_
          try simp only [Act.put, lyA, lyB, lyC]
          refine ly_q 2 (v := ?_) hHeld ?_
          try simp only [Act.put, lyA, lyB, lyC]
          refine ly_q 3 (v := ?_) hHeld ?_
          try simp only [Act.put, lyA, lyB, lyC]
          refine ly_q 4 (v := .bool false) (hy := by intro wS hSw; (try dsimp only at hSw); go_simp; all_goals (first | (simp; done) | (with_reducible rfl))) hHeld ?_
          try simp only [Act.put, lyA, lyB, lyC]
          refine ly_q 5 (v := ?_) hHeld ?_
          try simp only [Act.put, lyA, lyB, lyC]
          refine ly_q 6 (v := ?_) hHeld ?_
          try simp only [Act.put, lyA, lyB, lyC]
          refine ly_q 7 (v := ?_) hHeld ?_
          try simp only [Act.put, lyA, lyB, lyC]
          refine ly_q 8 (v := ?_) hHeld ?_
          try simp only [Act.put, lyA, lyB, lyC]
          refine ly_q 9 (v := ?_) hHeld ?_
          try simp only [Act.put, lyA, lyB, lyC]
          refine ly_q 10 (v := ?_) hHeld ?_
          try simp only [Act.put, lyA, lyB, lyC]
          refine ly_q 11 (v := ?_) hHeld ?_
          try simp only [Act.put, lyA, lyB, lyC]
          refine ly_q 12 (v := ?_) hHeld ?_
          try simp only [Act.put, lyA, lyB, lyC]
          refine ly_q 13 (v := ?_) hHeld ?_
          try simp only [Act.put, lyA, lyB, lyC]
          refine ly_q 14 (v := ?_) hHeld ?_
          try simp only [Act.put, lyA, lyB, lyC]
          refine ly_q 16 (v := ?_) hHeld ?_
          try simp only [Act.put, lyA, lyB, lyC]
          refine ly_q 17 (v := ?_) hHeld ?_
          try simp only [Act.put, lyA, lyB, lyC]
          refine ly_q 18 (v := ?_) hHeld ?_
          try simp only [Act.put, lyA, lyB, lyC]
          refine ly_q 19 (v := ?_) hHeld ?_
          try simp only [Act.put, lyA, lyB, lyC]
          refine ly_q 20 (v := ?_) hHeld ?_
          try simp only [Act.put, lyA, lyB, lyC]
          refine ly_q 21 (v := ?_) hHeld ?_
          try simp only [Act.put, lyA, lyB, lyC]
          refine ly_q 22 (v := ?_) hHeld ?_
          try simp only [Act.put, lyA, lyB, lyC]
          refine ly_q 23 (v := ?_) hHeld ?_
          try simp only [Act.put, lyA, lyB, lyC]
          refine ly_q 24 (v := ?_) hHeld ?_
          try simp only [Act.put, lyA, lyB, lyC]
          refine ly_a 15 (fun KK hKK => ?_)
          go_simp
          refine (cs1'.out _).mono ?_
          rintro e w5 ⟨rfl, hB5⟩
          have hd2 := hd.trans (hB5.mono hd.size)
          try dsimp only
          refine hKK.out _ _ (by (try dsimp only); (first | exact at''.out _ hd | exact at''.out _ hd2 | exact at''.out _ hd3)) (fun hHeld => ?_)
          clear hKK KK
          try simp only [Act.put, lyA, lyB, lyC]
          refine ly_a 25 (fun KK hKK => ?_)
          go_simp
          refine (cs2'.out _).mono ?_
          rintro e w6 ⟨rfl, hB6⟩
          have hd3 := hd2.trans (hB6.mono hd2.size)
          try dsimp only
          refine hKK.out _ _ (by (try dsimp only); (first | exact at''.out _ hd | exact at''.out _ hd2 | exact at''.out _ hd3)) (fun hHeld => ?_)
          clear hKK KK
          try simp only [Act.put, lyA, lyB, lyC]
          refine ly_q 26 (v := .bool true) (hy := by intro wS hSw; (try dsimp only at hSw); go_simp; all_goals (first | (intro h1 h2; exact he'.out ⟨h1, h2⟩) | (simp [ratV, he'.out]; done) | (simp [ratV]; intro h1 h2; exact he'.out ⟨h1, h2⟩) | (with_reducible rfl))) hHeld ?_
          try simp only [Act.put, lyA, lyB, lyC]
          refine ly_q 27 (v := ?_) hHeld ?_
          try simp only [Act.put, lyA, lyB, lyC]
          refine wpAnyH_done (by kernel_rfl) ?_ _
          have hb5 := hB'.out.trans (hd3.mono hB'.out.size)
          have hg5 := hg'.out.below hd3
          have hs5 := hb5.size
          obtain ⟨_, ⟨p0, p1, p2, p3⟩, _⟩ := at''.out _ hd3
          clear hHeld hd hd2 hd3 hB5 hB6 hg' hB' at''
          have hb5' := Lib.hid hb5
          clear hb5
          go_wp2_with (at_builtin; refine wpList_append_P rfl _ _ rfl w.heap.size u3 (L k) x0 x1 x2 x3 1 rfl rfl hg5 hlen'.out hs5 ?_)
          intro v' w' hown hgrow
          have hB2 := hg5.belowB hb5'.out (Nat.le_refl _) hs5 hgrow
          clear hgrow hg5
          have hown' := Lib.hid hown
          have hB2' := Lib.hid hB2
          clear hown hB2
          go_wp2
          go_roundw
          case rel => exact ⟨k + 1, by omega, by have := hj2'.out; have := hll'.out; go_num, by rw [e1'.out]; exact hown'.out, hB2'.out⟩
          case measure => simp [intOf]; have := hj'.out; have := hll'.out; omega
      · have hkm : k = m := by have := hmb3'.out; omega
        have hjM : j = M := by rw [hj, hkm]; exact hM'.out
        have hln : l = n := by have := hmb4'.out; omega
        obtain ⟨r0, r1, r2, r3⟩ := hfc'.out wr hB j (by omega)
        have e1 : L (k + 1) = L k ++ [nth4 f j] := by rw [hjM, hkm, hM'.out]; exact hLe'.out
        generalize nth4 f j = P2 at *
        obtain ⟨⟨x0, x1⟩, ⟨x2, x3⟩⟩ := P2
        simp only at r0 r1 r2 r3
        have at' : ∀ w', Below wr.heap.size wr w' → w'.cell? ⟨b, off + j * 4, none⟩ = some (.int .i64 x0) ∧ w'.cell? ⟨b, off + j * 4 + 1, none⟩ = some (.int .i64 x1) ∧ w'.cell? ⟨b, off + j * 4 + 2, none⟩ = some (.int .i64 x2) ∧ w'.cell? ⟨b, off + j * 4 + 3, none⟩ = some (.int .i64 x3) := fun w' h => ⟨bkeep h r0, bkeep h r1, bkeep h r2, bkeep h r3⟩
        clear r0 r1 r2 r3
        subst hln
        have e1' := Lib.hid e1
        have hg' := Lib.hid hg
        have hB' := Lib.hid hB
        have hj' := Lib.hid hj
        have hj2' := Lib.hid hj2
        have at'' := Lib.hid at'
        have hlen' := Lib.hid hlen
        have hkm' := Lib.hid hkm
        have hjM' := Lib.hid hjM
        have hll' := Lib.hid hll
        clear e1 hg hB hj hj2 at' hlen hkm hjM hll
        go_wp2_with fail
        refine wp_region_held_drew (S := (fun w' => w'.cell? ⟨b, off + j * 4, none⟩ = some (.int .i64 x0) ∧ w'.cell? ⟨b, off + j * 4 + 1, none⟩ = some (.int .i64 x1) ∧ w'.cell? ⟨b, off + j * 4 + 2, none⟩ = some (.int .i64 x2) ∧ w'.cell? ⟨b, off + j * 4 + 3, none⟩ = some (.int .i64 x3))) (by kernel_rfl) (by (try dsimp only); (first | exact at''.out _ hd)) (fun hHeld => ?_)
        refine ly_q 0 (v := ?_) hHeld ?_
        try simp only [Act.put, lyA, lyB, lyC]
        refine ly_q 1 (v := ?_) hHeld ?_
        try simp only [Act.put, lyA, lyB, lyC]
        refine ly_q 2 (v := ?_) hHeld ?_
        try simp only [Act.put, lyA, lyB, lyC]
        refine ly_q 3 (v := ?_) hHeld ?_
        try simp only [Act.put, lyA, lyB, lyC]
        refine ly_q 4 (v := .bool true) (hy := by intro wS hSw; (try dsimp only at hSw); go_simp; all_goals (first | (simp; done) | (with_reducible rfl))) hHeld ?_
        try simp only [Act.put, lyA, lyB, lyC]
        refine ly_q 5 (v := ?_) hHeld ?_
        try simp only [Act.put, lyA, lyB, lyC]
        refine ly_off 6 hHeld ?_
        try simp only [Act.put, lyA, lyB, lyC]
        refine ly_off 7 hHeld ?_
        try simp only [Act.put, lyA, lyB, lyC]
        refine ly_off 8 hHeld ?_
        try simp only [Act.put, lyA, lyB, lyC]
        refine ly_off 9 hHeld ?_
        try simp only [Act.put, lyA, lyB, lyC]
        refine ly_off 10 hHeld ?_
        try simp only [Act.put, lyA, lyB, lyC]
        refine ly_off 11 hHeld ?_
        try simp only [Act.put, lyA, lyB, lyC]
        refine ly_off 12 hHeld ?_
        try simp only [Act.put, lyA, lyB, lyC]
        refine ly_off 13 hHeld ?_
        try simp only [Act.put, lyA, lyB, lyC]
        refine ly_off 14 hHeld ?_
        try simp only [Act.put, lyA, lyB, lyC]
        refine ly_off 15 hHeld ?_
        try simp only [Act.put, lyA, lyB, lyC]
        refine ly_off 16 hHeld ?_
        try simp only [Act.put, lyA, lyB, lyC]
        refine ly_off 17 hHeld ?_
        try simp only [Act.put, lyA, lyB, lyC]
        refine ly_off 18 hHeld ?_
        try simp only [Act.put, lyA, lyB, lyC]
        refine ly_off 19 hHeld ?_
        try simp only [Act.put, lyA, lyB, lyC]
        refine ly_off 20 hHeld ?_
        try simp only [Act.put, lyA, lyB, lyC]
        refine ly_off 21 hHeld ?_
        try simp only [Act.put, lyA, lyB, lyC]
        refine ly_off 22 hHeld ?_
        try simp only [Act.put, lyA, lyB, lyC]
        refine ly_off 23 hHeld ?_
        try simp only [Act.put, lyA, lyB, lyC]
        refine ly_off 24 hHeld ?_
        try simp only [Act.put, lyA, lyB, lyC]
        refine ly_off 25 hHeld ?_
        try simp only [Act.put, lyA, lyB, lyC]
        refine ly_off 26 hHeld ?_
        try simp only [Act.put, lyA, lyB, lyC]
        refine ly_q 27 (v := ?_) hHeld ?_
        try simp only [Act.put, lyA, lyB, lyC]
        refine wpAnyH_done (by kernel_rfl) ?_ _
        have hb5 := hB'.out.trans (hd.mono hB'.out.size)
        have hg5 := hg'.out.below hd
        have hs5 := hb5.size
        obtain ⟨p0, p1, p2, p3⟩ := at''.out _ hd
        clear hHeld hd hg' hB' at''
        have hb5' := Lib.hid hb5
        clear hb5
        go_wp2_with (at_builtin; refine wpList_append_P rfl _ _ rfl w.heap.size u3 (L k) x0 x1 x2 x3 1 rfl rfl hg5 hlen'.out hs5 ?_)
        intro v' w' hown hgrow
        have hB2 := hg5.belowB hb5'.out (Nat.le_refl _) hs5 hgrow
        clear hgrow hg5
        have hown' := Lib.hid hown
        have hB2' := Lib.hid hB2
        clear hown hB2
        go_wp2
        go_roundw
        case rel => exact ⟨k + 1, by omega, by have := hj2'.out; have := hll'.out; go_num, by rw [e1'.out]; exact hown'.out, hB2'.out⟩
        case measure => simp [intOf]; have := hj'.out; have := hll'.out; omega
    · obtain rfl : k = M := by omega
      have ho := hg.own
      have hge : ¬ ((k : Int) + 1 < (n : Int)) := by have := hmb4'.out; omega
      clear hg
      have hB' := Lib.hid hB
      have ho' := Lib.hid ho
      clear hB ho
      go_wp2
      go_ret
      exact ⟨_, rfl, ho'.out, hB'.out⟩
theorem imSimple_any (v : Value) (f : List Quad) (w : World) (hv : QuadV w v f) (hf : MapP f) :
    Calls Tryz.prog 210 #[v] w (RetO OwnP (smL f) w) := imSimpleL_any v f w hv hf.line

end Go.Proofs.YtfhhofecfllbfaaGreat

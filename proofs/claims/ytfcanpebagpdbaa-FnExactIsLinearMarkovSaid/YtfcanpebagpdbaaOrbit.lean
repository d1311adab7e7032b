/- The program's orbit. No conditions but valid maps. -/
import Derived.Test.YtfcanpebagpdbaaPkF
import Derived.Test.YtfcanpebagpdbaaOrb
namespace Go.Proofs.Ytfcanpebagpdbaa
open Go.RowKit

/-- A row of fractions is not the calculator's block. -/
theorem GrowR.notCalc {w : World} {B g : Nat} {bd : Bool} {v : Value} {xs : List (Int × Int)} (h : GrowR w B v xs) (hx : 0 < xs.length) (hc : CalcAt w g bd) : v.ownBlock ≠ some g := by
  intro e
  have hl : 0 < (flR xs).length := by rw [flR_len]; omega
  have h1 := World.ownsRow.cells h e 0 (.int .i64 (flR xs)[0]) (by simp [hl])
  have e2 : (⟨g, 0, none⟩ : Addr).add 0 = ⟨g, 0, none⟩ := rfl
  rw [e2, hc.1] at h1
  cases h1
theorem GrowR.keptC {w w' : World} {B g : Nat} {bd : Bool} {v : Value} {xs : List (Int × Int)} (h : GrowR w B v xs) (hx : 0 < xs.length) (hc : CalcAt w g bd) (hg : w.grownBy w' (some g)) : GrowR w' B v xs :=
  World.ownsRow.kept h hg (.inr (h.notCalc hx hc))
theorem GrowR.setB {w : World} {B b o : Nat} {v : Value} {xs : List (Int × Int)} (h : GrowR w B v xs) (hb : b < B) (u : Value) : GrowR (w.setCell ⟨b, o, none⟩ u) B v xs :=
  World.ownsRow.kept h (grownBy_setCell_some w b o u) (.inr (fun e => by have := (World.ownsRow.lt h b e).1; omega))
theorem GrowR.lit (w : World) (x : Int × Int) : GrowR (w.alloc (.cells #[.int .i64 x.1, .int .i64 x.2] 34)) w.heap.size (.slice (some ⟨w.heap.size, 0, none⟩) 1 1) [x] :=
  World.ownsRow_lit (base := w.heap.size) (e := 34) (size := 2) w #[.int .i64 x.1, .int .i64 x.2] 1 (Nat.le_refl _) (by decide) rfl

set_option linter.unusedSimpArgs false in
set_option maxRecDepth 10000 in
set_option maxHeartbeats 4000000 in
theorem orbit_any (v : Value) (f : List Quad) (x : Int × Int) (n : Nat) (w : World) (hv : QuadV w v f) (hf : MapP f) (hx : unitR x.1 x.2 = true) (hn : n ≤ 1048576) :
    Calls Try.prog 74 #[v, .agg #[.int .i64 x.1, .int .i64 x.2], .int .i64 n] w (RetO OwnR (orbL f x n) w) := by
  have cv := fun (g k : Nat) (w' : World) hb hg (hu : unitR (pz f x k).1 (pz f x k).2 = true) hc => cvalue_any g false v f (pz f x k) w w' hv hb hg hf hu hc
  have hau := fun k (h1 : unitR (pz f x k).1 (pz f x k).2 = true) (h2 : atOk f (pz f x k) = true) => at_unit hf h1 h2
  change ∀ k, _ → _ → unitR (pz f x (k + 1)).1 (pz f x (k + 1)).2 = true at hau
  change ∀ g k w', _ → _ → _ → _ → Calls _ _ #[_, _, .agg #[.int .i64 (pz f x k).1, .int .i64 (pz f x k).2]] w' (RetC g (false || !atOk f (pz f x k)) (ratV (pz f x (k + 1))) w') at cv
  have rg := fun k (h : k < n) (h2 : atOk f (pz f x k) = true) => runF_go (n := n) h h2
  have rs := fun k (h : k < n) (h2 : atOk f (pz f x k) = false) => runF_stop (n := n) h h2
  have re : runF f x (n - n) n = n := runF_end n
  have hN : runF f x (n - 0) 0 = runN f x n := rfl
  have hl := ptL_len f x
  have hs := ptL_step f x
  have h0 := ptL_zero f x
  have hp0 : pz f x 0 = x := rfl
  have hO : orbL f x n = ptL f x (runN f x n) := rfl
  rw [hO]
  clear hO
  obtain ⟨OK, hOK⟩ : ∃ OK : Nat → Bool, ∀ k, atOk f (pz f x k) = OK k := ⟨_, fun _ => rfl⟩
  simp only [hOK] at cv hau rg rs
  generalize pz f x = pp at *
  generalize ptL f x = L at *
  generalize runN f x n = N at *
  generalize runF f x = RF at *
  clear hOK hf
  obtain ⟨x0, x1⟩ := x
  simp only at hx
  obtain ⟨w1, hw1⟩ : ∃ W, ((w.alloc (.cells #[.int .i64 x0, .int .i64 x1] 34)).alloc (.cells #[.int .i64 x0, .int .i64 x1] 34)).alloc (.cells #[.bool false] 95) = W := ⟨_, rfl⟩
  have hB : Below w.heap.size w w1 := by rw [← hw1]; exact (((Below.refl _ _).alloc (Nat.le_refl _) _).alloc (by simp) _).alloc (by simp; omega) _
  have hz : w1.heap.size = w.heap.size + 3 := by rw [← hw1]; simp
  have u0 : w1.cell? ⟨w.heap.size, 0, none⟩ = some (.int .i64 x0) := by rw [← hw1]; simp [go_sem]
  have u1 : w1.cell? ⟨w.heap.size, 1, none⟩ = some (.int .i64 x1) := by rw [← hw1]; simp [go_sem]
  have u2 : w1.frozen? ⟨w.heap.size, 0, none⟩ = false := by rw [← hw1]; simp [go_sem]
  have u3 : w1.frozen? ⟨w.heap.size, 1, none⟩ = false := by rw [← hw1]; simp [go_sem]
  have hc : CalcAt w1 (w.heap.size + 1 + 1) false := by rw [← hw1]; exact ⟨by simp [go_sem], by simp [go_sem]⟩
  have hg : GrowR w1 (w.heap.size + 1) (.slice (some ⟨w.heap.size + 1, 0, none⟩) 1 1) (L 0) := by
    have := GrowR.lit (w.alloc (.cells #[.int .i64 x0, .int .i64 x1] 34)) (x0, x1)
    rw [h0, ← hw1]
    have h2 : GrowR ((w.alloc (.cells #[.int .i64 x0, .int .i64 x1] 34)).alloc (.cells #[.int .i64 x0, .int .i64 x1] 34)) (w.heap.size + 1) (.slice (some ⟨w.heap.size + 1, 0, none⟩) 1 1) [(x0, x1)] := by simpa using this
    exact World.ownsRow.alloc h2 _
  have cv' := Lib.hid cv
  have hau' := Lib.hid hau
  have rg' := Lib.hid rg
  have rs' := Lib.hid rs
  have re' := Lib.hid re
  have hl' := Lib.hid hl
  have hs' := Lib.hid hs
  have h0' := Lib.hid h0
  have hw1' := Lib.hid hw1
  have hx' := Lib.hid hx
  have hN' := Lib.hid hN
  clear cv hau rg rs re hl hs h0 hw1 hx hN
  have hp0' := Lib.hid hp0
  have hc' := Lib.hid hc
  have hg' := Lib.hid hg
  have hv' := Lib.hid hv
  clear hp0 hc hg hv
  show Calls _ _ #[_, .agg #[.int .i64 x0, .int .i64 x1], _] w _
  go_enter Try.func74, Try.ntmps74
  go_wp2_with fail
  rw [hw1'.out]
  go_wp2
  go_loopw [7, 12] (fun o i wr => ∃ k : Nat, k ≤ n ∧ i = .int .i64 k ∧ GrowR wr (w.heap.size + 1) o (L k) ∧ CalcAt wr (w.heap.size + 1 + 1) false ∧ (wr.cell? ⟨w.heap.size, 0, none⟩ = some (.int .i64 (pp k).1) ∧ wr.cell? ⟨w.heap.size, 1, none⟩ = some (.int .i64 (pp k).2) ∧ wr.frozen? ⟨w.heap.size, 0, none⟩ = false ∧ wr.frozen? ⟨w.heap.size, 1, none⟩ = false) ∧ unitR (pp k).1 (pp k).2 = true ∧ RF (n - k) k = N ∧ Below w.heap.size w wr) (fun _ i _ => n - (intOf i).toNat)
  case atStart => exact ⟨0, Nat.zero_le _, rfl, hg'.out, hc'.out, by rw [hp0'.out]; exact ⟨u0, u1, u2, u3⟩, by rw [hp0'.out]; exact hx'.out, hN'.out, hB⟩
  case round =>
    obtain ⟨k, hk, rfl, hg, hc, ⟨a0, a1, a2, a3⟩, hu, hR, hBr⟩ := hrel
    clear hc' hg' u0 u1 u2 u3 hp0' hw1' hB hx'
    have hlen := hl'.out k
    by_cases hlt : k < n
    · have cv1 := cv'.out (w.heap.size + 1 + 1) k wr hBr (by omega) hu hc
      have hau1 := hau'.out k hu
      have rg1 := rg'.out k hlt
      have rs1 := rs'.out k hlt
      have hs1 := hs'.out k
      have hsr := hBr.size
      have gk := fun (w' : World) hgr => GrowR.keptC (w' := w') hg (by omega) hc hgr
      generalize OK k = ok at *
      have hz1 : ∀ z, ratV z = .agg #[.int .i64 z.1, .int .i64 z.2] := fun _ => rfl
      generalize pp k = y at *
      obtain ⟨z, hz5⟩ : ∃ z, pp (k + 1) = z := ⟨_, rfl⟩
      rw [hz5] at cv1 hau1 hs1
      obtain ⟨y0, y1⟩ := y
      obtain ⟨z0, z1⟩ := z
      simp only at a0 a1 cv1 hu hau1
      clear hz1 hg
      have cv1' := Lib.hid cv1
      have hau1' := Lib.hid hau1
      have rg1' := Lib.hid rg1
      have rs1' := Lib.hid rs1
      have hs1' := Lib.hid hs1
      have gk' := Lib.hid gk
      have hR' := Lib.hid hR
      have hlen' := Lib.hid hlen
      have hc' := Lib.hid hc
      have hz5' := Lib.hid hz5
      clear cv1 hau1 rg1 rs1 hs1 gk hR hlen hc hz5
      have hrg : some (w.heap.size + 1 + 1) ≠ some w.heap.size := fun e => by have := Option.some.inj e; omega
      cases ok
      · go_wp2_with fail
        go_wp2_with fail
        refine (cv1'.out).mono ?_
        rintro e w2 ⟨rfl, hg2, hc2⟩
        have b0 := gcell hg2 a0 hrg
        have b1 := gcell hg2 a1 hrg
        have b2 := gfrozen hg2 a0 a2 hrg
        have b3 := gfrozen hg2 a1 a3 hrg
        have hgk := gk'.out _ hg2
        obtain ⟨d0, d1⟩ := hc2
        simp only [Bool.not_false, Bool.or_true] at d0
        have hB2 := hBr.grown hg2 hsr (fun j hj => by have := Option.some.inj hj; omega)
        have hNk : N = k := by rw [← hR'.out]; exact rs1'.out (by first | rfl | trivial)
        have hge := ((hgk.setB (o := 0) (Nat.lt_succ_self _) (.int .i64 z0)).setB (o := 1) (Nat.lt_succ_self _) (.int .i64 z1)).own
        have hBe := (hB2.setCell (p := ⟨w.heap.size, 0, none⟩) (Nat.le_refl _) (.int .i64 z0)).setCell (p := ⟨w.heap.size, 1, none⟩) (Nat.le_refl _) (.int .i64 z1)
        clear a0 a1 a2 a3 hg2 hgk hB2 hBr
        have hge' := Lib.hid hge
        have hBe' := Lib.hid hBe
        have hNk' := Lib.hid hNk
        clear hge hBe hNk
        go_wp2
        go_ret
        exact ⟨_, rfl, by rw [hNk'.out]; exact hge'.out.mono (by omega) (Nat.le_refl _), hBe'.out⟩
      · go_wp2_with fail
        go_wp2_with fail
        refine (cv1'.out).mono ?_
        rintro e w2 ⟨rfl, hg2, hc2⟩
        have b0 := gcell hg2 a0 hrg
        have b1 := gcell hg2 a1 hrg
        have b2 := gfrozen hg2 a0 a2 hrg
        have b3 := gfrozen hg2 a1 a3 hrg
        have hgk := gk'.out _ hg2
        obtain ⟨d0, d1⟩ := hc2
        simp only [Bool.not_true, Bool.or_false] at d0
        have hB2 := hBr.grown hg2 hsr (fun j hj => by have := Option.some.inj hj; omega)
        have hs2 := hg2.size
        obtain ⟨w3, hw3⟩ : ∃ W, (w2.setCell ⟨w.heap.size, 0, none⟩ (.int .i64 z0)).setCell ⟨w.heap.size, 1, none⟩ (.int .i64 z1) = W := ⟨_, rfl⟩
        have hge : GrowR w3 (w.heap.size + 1) u7 (L k) := by rw [← hw3]; exact (hgk.setB (o := 0) (Nat.lt_succ_self _) (.int .i64 z0)).setB (o := 1) (Nat.lt_succ_self _) (.int .i64 z1)
        have hBe : Below w.heap.size w w3 := by rw [← hw3]; exact (hB2.setCell (p := ⟨w.heap.size, 0, none⟩) (Nat.le_refl _) (.int .i64 z0)).setCell (p := ⟨w.heap.size, 1, none⟩) (Nat.le_refl _) (.int .i64 z1)
        have e0 : w3.cell? ⟨w.heap.size, 0, none⟩ = some (.int .i64 z0) := by rw [← hw3]; simp [go_sem, b0, b1]
        have e1 : w3.cell? ⟨w.heap.size, 1, none⟩ = some (.int .i64 z1) := by rw [← hw3]; simp [go_sem, b0, b1]
        have e2 : w3.frozen? ⟨w.heap.size, 0, none⟩ = false := by rw [← hw3]; simp [go_sem, b2, b3]
        have e3 : w3.frozen? ⟨w.heap.size, 1, none⟩ = false := by rw [← hw3]; simp [go_sem, b2, b3]
        have e4 : CalcAt w3 (w.heap.size + 1 + 1) false := by
          rw [← hw3]
          have hcc : CalcAt w2 (w.heap.size + 1 + 1) false := ⟨d0, d1⟩
          exact (hcc.set (b := w.heap.size) (o := 0) (by omega) _).set (b := w.heap.size) (o := 1) (by omega) _
        have e5 := e4.1
        have hs3 : w.heap.size + 1 ≤ w3.heap.size := by have := e4.lt; omega
        clear a0 a1 a2 a3 hg2 hgk hB2
        have hsz3 : w2.heap.size = w3.heap.size := by rw [← hw3]; simp
        have hnc := hge.notCalc (by rw [hlen'.out]; omega) e4
        have hge' := Lib.hid hge
        have hBe' := Lib.hid hBe
        have hw3' := Lib.hid hw3
        have e4' := Lib.hid e4
        have hsz3' := Lib.hid hsz3
        have hnc' := Lib.hid hnc
        clear hge hBe hw3 e4 hsz3 hnc
        go_wp2_with (at_builtin; rw [hw3'.out, hsz3'.out]; refine wpList_append_rat rfl _ _ rfl (w.heap.size + 1) u7 (L k) z0 z1 1 rfl rfl hge'.out (by rw [hlen'.out]; omega) hs3 ?_)
        intro v' w' hown' hgrow
        have hlo := fun j hj => (World.ownsRow.lt hge'.out j hj).1
        have hr0 : u7.ownBlock ≠ some w.heap.size := fun e => by have := hlo _ e; omega
        have f0 := gcell hgrow e0 hr0
        have f1 := gcell hgrow e1 hr0
        have f2 := gfrozen hgrow e0 e2 hr0
        have f3 := gfrozen hgrow e1 e3 hr0
        have hc5 := e4'.out.grown hgrow hnc'.out
        have hB5 := hge'.out.belowB hBe'.out (Nat.le_succ _) (by omega) hgrow
        have hau2 := hau1'.out (by first | rfl | trivial)
        clear hgrow hlo hr0 e0 e1 e2 e3 e5
        have hc5' := Lib.hid hc5
        have hB5' := Lib.hid hB5
        clear hc5 hB5
        go_wp2
        go_roundw
        case rel => exact ⟨k + 1, by omega, by go_num, by rw [hs1'.out]; exact hown', hc5'.out, by rw [hz5'.out]; exact ⟨f0, f1, f2, f3⟩, by rw [hz5'.out]; exact hau2, by rw [rg1'.out (by first | rfl | trivial)]; exact hR'.out, hB5'.out⟩
        case measure => simp [intOf]; omega
    · have hke : k = n := by omega
      subst hke
      have hNk : N = k := by rw [← hR]; exact re'.out
      have ho := hg.own
      clear a0 a1 a2 a3 hc
      have ho' := Lib.hid ho
      have hNk' := Lib.hid hNk
      have hBr' := Lib.hid hBr
      clear ho hNk hBr
      go_wp2
      go_ret
      exact ⟨_, rfl, by rw [hNk'.out]; exact ho'.out.mono (by omega) (Nat.le_refl _), hBr'.out⟩

end Go.Proofs.Ytfcanpebagpdbaa

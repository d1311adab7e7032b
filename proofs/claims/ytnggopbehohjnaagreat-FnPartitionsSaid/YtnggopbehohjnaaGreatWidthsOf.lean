/- The program's WidthsOf. No conditions. -/
import Derived.Test.YtnggopbehohjnaaGreatPkD
import Derived.Test.YtnggopbehohjnaaGreatSpecWidths
import Derived.Maps.Range
namespace Go.Proofs.YtnggopbehohjnaaGreat
open Go.RowKit

def wd0 (xs : List (Int × Int)) (k : Nat) : List (Int × Int) := (List.range k).map fun i => orZ (wdR xs i)
theorem wd0_len (xs : List (Int × Int)) (k : Nat) : (wd0 xs k).length = k := by simp [wd0]
theorem wd0_step (xs : List (Int × Int)) (k : Nat) : wd0 xs (k + 1) = wd0 xs k ++ [orZ (wdR xs k)] := by simp [wd0, List.range_succ]
theorem wd0_ok {xs : List (Int × Int)} {k : Nat} (h : wdOk xs k = true) : wd0 xs k = wdK xs k := by
  unfold wd0 wdK
  apply List.map_congr_left
  intro i hi
  unfold wdOk at h
  rw [List.all_eq_true] at h
  unfold orZ
  rw [if_pos (h i hi)]

/-- The cells of a list of intervals of the call's own, and where they lie. -/
theorem OwnI.cells {w : World} {B E : Nat} {v : Value} {xs : List Quad} (h : OwnI w B E v xs) : ∃ ao cap, v = .slice ao xs.length cap ∧ xs.length ≤ cap ∧ cap ≤ maxLen ∧
    ∀ i, i < xs.length → ∃ b off, ao = some ⟨b, off, none⟩ ∧ (B ≤ b ∧ b < E) ∧ w.cell? ⟨b, off + i * 4, none⟩ = some (.int .i64 (nth4 xs i).1.1) ∧ w.cell? ⟨b, off + i * 4 + 1, none⟩ = some (.int .i64 (nth4 xs i).1.2) ∧
      w.cell? ⟨b, off + i * 4 + 2, none⟩ = some (.int .i64 (nth4 xs i).2.1) ∧ w.cell? ⟨b, off + i * 4 + 3, none⟩ = some (.int .i64 (nth4 xs i).2.2) := by
  have hq := h.read
  obtain ⟨ao, cap, rfl, hcc, hcap, H⟩ := hq.form
  refine ⟨ao, cap, rfl, hcc.1, hcap, fun i hi => ?_⟩
  obtain ⟨b, off, e, d⟩ := H i hi
  refine ⟨b, off, e, ?_, d⟩
  rcases h with ⟨h0, _⟩ | ⟨g, c, e2, h1, h2, _⟩
  · omega
  · subst e
    simp only [Value.slice.injEq, Option.some.injEq, Addr.mk.injEq] at e2
    omega

set_option maxHeartbeats 2000000 in
theorem implWidthsOf_any (v : Value) (xs : List (Int × Int)) (w : World) (hv : RatsV w v xs) (hm : szRatS xs ≤ 1099511627776) :
    Calls Tryz.prog 29 #[v] w (RetOB OwnR (WidthsOf_v xs) w) := by
  have c1 := isPartition_any v xs w hv hm
  cases hP : partB xs
  · rw [show WidthsOf_v xs = ([], false) by unfold WidthsOf_v; rw [hP]; rfl]
    rw [hP] at c1
    clear hP hv
    have c1' := Lib.hid c1
    clear c1
    go_enter Tryz.func29, Tryz.ntmps29
    go_wp2_with fail
    refine (c1'.out).mono ?_
    rintro e w1 ⟨rfl, hB1⟩
    go_wp2
    go_ret2
    exact ⟨_, rfl, OwnR.nil _ _ _, hB1⟩
  have hval : WidthsOf_v xs = if wdOk xs (xs.length - 1) = true then (wd0 xs (xs.length - 1), true) else ([], false) := by
    unfold WidthsOf_v
    rw [hP, Bool.true_and]
    by_cases h : wdOk xs (xs.length - 1) = true
    · rw [if_pos h, if_pos h, wd0_ok h]
    · rw [if_neg h, if_neg h]
  rw [hval]
  rw [hP] at c1
  have c0 := fun w' (hB : Below w.heap.size w w') => between_any v xs w' (hv.below hB) hm
  have hl := partB_len hP
  have hgood := partB_good hP
  have hN : (betwL xs).length = xs.length - 1 := betwK_len _ _
  have hat : ∀ i, i < xs.length - 1 → nth4 (betwL xs) i = (nthR xs i, nthR xs (i + 1)) := fun i hi => nth4_betwK xs hi
  have cs := fun (w' : World) (g : Nat) (bd : Bool) k (h : k < xs.length - 1) hc => csub_any g bd (nthR xs (k + 1)) (nthR xs k) w' (hgood (k + 1) (by omega)) (hgood k (by omega)) hc
  have hs1 := wd0_step xs
  have hs2 := wdOk_step xs
  have hs3 := wd0_len xs
  have hz1 : wd0 xs 0 = [] := rfl
  have hz2 : wdOk xs 0 = true := rfl
  have hR : ∀ k, wdR xs k = subR (nthR xs (k + 1)) (nthR xs k) := fun _ => rfl
  simp only [← hR] at cs
  clear hgood hval hP
  obtain ⟨n, hn⟩ : ∃ n, xs.length - 1 = n := ⟨_, rfl⟩
  rw [hn] at hN hat cs ⊢
  have hn9 : n ≤ 8 := by omega
  generalize betwL xs = L at *
  generalize wd0 xs = A at *
  generalize wdOk xs = D at *
  generalize wdR xs = R at *
  clear hR hv hl
  obtain ⟨V, hV⟩ : ∃ V, (if D n = true then (A n, true) else ([], false)) = V := ⟨_, rfl⟩
  rw [hV]
  have c0' := Lib.hid c0
  have c1' := Lib.hid c1
  have cs' := Lib.hid cs
  have hN' := Lib.hid hN
  have hat' := Lib.hid hat
  have hs1' := Lib.hid hs1
  have hs2' := Lib.hid hs2
  have hs3' := Lib.hid hs3
  have hz1' := Lib.hid hz1
  have hz2' := Lib.hid hz2
  have hn' := Lib.hid hn
  have hV' := Lib.hid hV
  clear c0 c1 cs hN hat hs1 hs2 hs3 hz1 hz2 hn hV
  go_enter Tryz.func29, Tryz.ntmps29
  go_wp2_with fail
  refine (c1'.out).mono ?_
  rintro e w1 ⟨rfl, hB1⟩
  have hsz1 := hB1.size
  go_wp2_with fail
  obtain ⟨wc, hwc⟩ : ∃ W, w1.alloc (.cells #[.bool false] 105) = W := ⟨_, rfl⟩
  have hBc : Below w.heap.size w wc := by rw [← hwc]; exact hB1.alloc hsz1 _
  have hcc : CalcAt wc w1.heap.size false := by rw [← hwc]; exact ⟨by simp [go_sem], by simp [go_sem]⟩
  have hzc : w1.heap.size < wc.heap.size := by rw [← hwc]; simp
  rw [hwc]
  clear hwc
  go_wp2_with fail
  refine (c0'.out _ hBc).mono ?_
  rintro e w2 ⟨v1, rfl, hv1, hB2⟩
  have hb2 := hBc.trans (hB2.mono hBc.size)
  have hc2 := hcc.below hB2
  have hz2 := hB2.size
  obtain ⟨ao, cap, rfl, hcap1, hcap2, H⟩ := hv1.cells
  rw [hN'.out] at H hcap1 ⊢
  clear hv1 hB2 hcc hBc hB1 c0' c1'
  obtain ⟨cb, hcb⟩ : ∃ cb, w1.heap.size = cb := ⟨_, rfl⟩
  rw [hcb] at hc2 hzc hsz1 ⊢
  have H' := Lib.hid H
  have hc2' := Lib.hid hc2
  have hb2' := Lib.hid hb2
  have hcb' := Lib.hid hcb
  clear H hc2 hb2 hcb
  go_wp2
  go_loopw [5, 14] (fun o i wr => ∃ k : Nat, k ≤ n ∧ i = .int .i64 k ∧ GrowR wr w2.heap.size o (A k) ∧ w2.grownBy wr (some cb) ∧ CalcAt wr cb (!D k)) (fun _ i _ => n - (intOf i).toNat)
  case atStart => exact ⟨0, Nat.zero_le _, rfl, by rw [hz1'.out]; exact GrowR.nil _ _, World.grownBy.refl _ _, by rw [hz2'.out]; exact hc2'.out⟩
  case round =>
    obtain ⟨k, hk, rfl, hg, hgr, hc⟩ := hrel
    clear hc2'
    have hsr := hgr.size
    by_cases hlt : k < n
    · obtain ⟨b, off, e, hbb, d0, d1, d2, d3⟩ := H'.out k hlt
      cases e
      have ha1 := hat'.out k hlt
      rw [ha1] at d0 d1 d2 d3
      have cs1 := fun w' hc => cs'.out w' cb (!D k) k hlt hc
      have hst := hs1'.out k
      have hst2 := hs2'.out k
      generalize R k = r at *
      have hoz : ∀ z, ratV z = .agg #[.int .i64 z.1, .int .i64 z.2] := fun _ => rfl
      generalize orZ r = z at *
      obtain ⟨z1, z2⟩ := z
      generalize nthR xs k = r1 at *
      generalize nthR xs (k + 1) = r2 at *
      obtain ⟨a1, a2⟩ := r1
      obtain ⟨b1, b2⟩ := r2
      simp only at d0 d1 d2 d3 cs1
      have far := fun o => hgr.cell_far ⟨b, o, none⟩ hbb.2 (fun e => by have e2 : b = cb := Option.some.inj e; omega)
      rw [← far] at d0 d1 d2 d3
      clear far ha1 hoz
      obtain ⟨w3, hw3⟩ : ∃ W, wr.alloc (.cells #[.int .i64 a1, .int .i64 a2, .int .i64 b1, .int .i64 b2] 64) = W := ⟨_, rfl⟩
      have hB3 : Below wr.heap.size wr w3 := by rw [← hw3]; exact (Below.refl _ _).alloc (Nat.le_refl _) _
      have i0 : w3.cell? ⟨wr.heap.size, 0, none⟩ = some (.int .i64 a1) := by rw [← hw3]; simp [go_sem]
      have i1 : w3.cell? ⟨wr.heap.size, 1, none⟩ = some (.int .i64 a2) := by rw [← hw3]; simp [go_sem]
      have i2 : w3.cell? ⟨wr.heap.size, 2, none⟩ = some (.int .i64 b1) := by rw [← hw3]; simp [go_sem]
      have i3 : w3.cell? ⟨wr.heap.size, 3, none⟩ = some (.int .i64 b2) := by rw [← hw3]; simp [go_sem]
      have hc3 := hc.below hB3
      have hg3 := hg.below hB3
      have hgr3 := hgr.trans (bgrow hB3 _)
      clear hB3 hc hg hgr
      have cs1' := Lib.hid cs1
      have hst' := Lib.hid hst
      have hst2' := Lib.hid hst2
      have hw3' := Lib.hid hw3
      have hc3' := Lib.hid hc3
      have hg3' := Lib.hid hg3
      have hgr3' := Lib.hid hgr3
      clear cs1 hst hst2 hw3 hc3 hg3 hgr3
      go_wp2_with fail
      rw [hw3'.out]
      go_wp2_with fail
      refine (cs1'.out _ hc3'.out).mono ?_
      rintro e w4 ⟨rfl, hg4, hc4⟩
      have hg5 := hg3'.out.kept hg4 (by omega)
      have hgr4 := hgr3'.out.trans hg4
      have hs4 := hgr4.size
      clear hg4 i0 i1 i2 i3 d0 d1 d2 d3
      have hlen := hs3'.out k
      have hc4' := Lib.hid hc4
      have hgr4' := Lib.hid hgr4
      clear hc4 hgr4
      go_wp2_with (at_builtin; refine wpList_append_rat rfl _ _ rfl w2.heap.size u5 (A k) z1 z2 _ rfl rfl hg5 (by omega) hs4 ?_)
      intro v' w' hown' hgrow
      have hlo := fun j hj => (World.ownsRow.lt hg5 j hj).1
      have hc5 := hc4'.out.grown hgrow (fun e => by have := hlo _ e; omega)
      have hgr5 := hgr4'.out.andThen hgrow (fun j hj => .inl (hlo j hj))
      clear hg5 hgrow hlo
      have hc5' := Lib.hid hc5
      have hgr5' := Lib.hid hgr5
      clear hc5 hgr5
      go_wp2
      go_roundw
      case rel => exact ⟨k + 1, by omega, by go_num, by rw [hst'.out]; exact hown', hgr5'.out, by rw [hst2'.out, Bool.not_and]; exact hc5'.out⟩
      case measure => simp [intOf]; omega
    · obtain rfl : n = k := by omega
      have hbw := hb2'.out.grown hgr (by have := hb2'.out.size; omega) (fun j hj => by cases hj; omega)
      have ho := hg.own
      have hc1 := hc.1
      have hV := hV'.out
      clear hV'
      generalize A n = An at *
      generalize D n = Dn at *
      clear hgr hg hc
      cases Dn
      · rw [if_neg (by decide)] at hV
        subst hV
        clear ho
        go_wp2
        go_ret2
        exact ⟨_, rfl, OwnR.nil _ _ _, hbw⟩
      · rw [if_pos rfl] at hV
        subst hV
        have hlow : w.heap.size ≤ w2.heap.size := by omega
        have ho' := Lib.hid ho
        clear ho
        go_wp2
        go_ret2
        exact ⟨_, rfl, ho'.out.mono hlow (Nat.le_refl _), hbw⟩

end Go.Proofs.YtnggopbehohjnaaGreat

/- The turning points of a map: the program's and the reference's. No conditions but valid maps. -/
import Derived.Test.YtnggopbehohjnaaGreatLaps
import Derived.Test.YtnggopbehohjnaaGreatPkB
namespace Go.Proofs.YtnggopbehohjnaaGreat
open Go.RowKit

theorem MatT.cap {w : World} {B E g n cap m : Nat} {rb rc : Nat → Nat} {f : Nat → Nat → Int} (h : MatT w B E g n cap m rb rc f) : n ≤ cap := by
  rcases h.outer.2 with ⟨h4, _⟩ | ⟨g', cap', cur, e', h4, h5, h6, h7, _⟩
  · simp at h4
  · simp only [Value.slice.injEq, Option.some.injEq, Addr.mk.injEq, and_true, true_and] at e'
    omega

set_option linter.unusedSimpArgs false in
set_option maxRecDepth 10000 in
set_option maxHeartbeats 4000000 in
theorem turns_any (v : Value) (f : List Quad) (w : World) (hv : QuadV w v f) (hf : MapP f) :
    Calls Tryz.prog 80 #[v] w (RetO OwnR (tuL f) w) := by
  have hl := hf.len
  have c1 := laps_any v f w hv hf
  obtain ⟨hT, _, _, _⟩ := lpT_start (sgS f) (f.length - 1)
  have hL1 := lpc_pos (sgS f) (j := f.length - 1) (by omega)
  have hL2 := lpc_le (sgS f) (f.length - 1)
  have hst := tuK_step f
  have hkl := tuK_len f
  have h00 : tuK f 0 = [] := rfl
  have hV : tuL f = tuK f (lpc (sgS f) (f.length - 1) - 1) := rfl
  rw [hV]
  clear hV
  have hfm := hv.form
  have hvb := fun w' (hB : Below w.heap.size w w') => (hv.below hB).form
  generalize lpT (sgS f) (f.length - 1) = T at *
  generalize lpc (sgS f) (f.length - 1) = L at *
  generalize tuK f = TK at *
  obtain ⟨ao, cap, rfl, _, _, _⟩ := hfm
  obtain ⟨n, hn⟩ : ∃ n, f.length = n := ⟨_, rfl⟩
  rw [hn] at hT hL2 hl hvb c1 ⊢
  have hsub : L - 1 + 1 = L := by omega
  clear hv
  have c1' := Lib.hid c1
  have hT' := Lib.hid hT
  have hst' := Lib.hid hst
  have hkl' := Lib.hid hkl
  have h00' := Lib.hid h00
  have hvb' := Lib.hid hvb
  have hn' := Lib.hid hn
  have hsub' := Lib.hid hsub
  clear c1 hT hst hkl h00 hvb hn hsub
  go_enter Tryz.func80, Tryz.ntmps80
  go_wp2_with fail
  refine (c1'.out).mono ?_
  rintro e w1 ⟨g, gcap, rb, rc, rfl, hM, hB1⟩
  have hLc := hM.cap
  have hM' := Lib.hid hM
  clear hM
  go_wp2
  case inl =>
    obtain rfl : L = 1 := by omega
    go_loopw [3, 10] (fun o i wr => i = .int .i64 0 ∧ o = .slice none 0 0 ∧ Below w.heap.size w wr) (fun _ _ _ => 0)
    case atStart => exact ⟨rfl, rfl, hB1⟩
    case round =>
      obtain ⟨rfl, rfl, hbr⟩ := hrel
      clear hB1
      go_wp2
      go_ret
      exact ⟨_, rfl, by first | (rw [h00'.out]; exact OwnR.nil _ _ _) | (rw [Nat.sub_self, h00'.out]; exact OwnR.nil _ _ _), hbr⟩
  obtain ⟨m, hm⟩ : ∃ m, L - 1 = m := ⟨_, rfl⟩
  rw [hm]
  have hm' := Lib.hid hm
  clear hm
  go_loopw [3, 10] (fun o i wr => ∃ k : Nat, k ≤ m ∧ i = .int .i64 k ∧ GrowR wr w1.heap.size o (TK k) ∧ Below w1.heap.size w1 wr) (fun _ i _ => m - (intOf i).toNat)
  case atStart => exact ⟨0, Nat.zero_le _, rfl, by rw [h00'.out]; exact GrowR.nil _ _, Below.refl _ _⟩
  case round =>
    obtain ⟨k, hk, rfl, hg, hB⟩ := hrel
    have hb := hB1.trans (hB.mono hB1.size)
    by_cases hlt : k < m
    · have hkL : k + 1 < L := by have := hm'.out; omega
      have hM2 := hM'.out.below hB (Nat.le_refl _)
      have hp := hM2.ptr (i := k + 1) hkL
      have hc := hM2.cell (i := k + 1) (j := 0) hkL (by decide)
      obtain ⟨t0, t1⟩ := hT'.out (k + 1) hkL
      have hst1 := hst'.out k
      obtain ⟨a, ha⟩ : ∃ a : Nat, (T (k + 1) 0).toNat = a := ⟨_, rfl⟩
      have haT : T (k + 1) 0 = (a : Int) := by omega
      rw [ha] at hst1
      rw [haT] at hc
      have hp' : wr.cell? ⟨g, 1 + k, none⟩ = some (.slice (some ⟨rb (k + 1), 0, none⟩) 3 (rc (k + 1))) := by rw [Nat.add_comm]; exact hp
      have han : a < n := by omega
      have han2 : (a : Int) < (n : Int) := by omega
      have han3 : (0 : Int) ≤ (a : Int) := by omega
      obtain ⟨ao2, cap2, e, _, _, H⟩ := hvb'.out wr hb
      obtain ⟨rfl, e1, rfl⟩ := Value.slice.inj e
      clear e1
      obtain ⟨b, off, rfl, p0, p1, p2, p3⟩ := H a han
      generalize nth4 f a = P at *
      obtain ⟨⟨x0, x1⟩, ⟨x2, x3⟩⟩ := P
      simp only at p0 p1 p2 p3 hst1
      generalize rb (k + 1) = r at *
      generalize rc (k + 1) = rcc at *
      have hlen : (TK k).length ≤ 1099511627776 := by rw [hkl'.out]; omega
      have hs1 := hB.size
      clear H e hM2 hp t0 t1 haT ha p2 p3
      have hst1' := Lib.hid hst1
      have hb' := Lib.hid hb
      have hlen' := Lib.hid hlen
      clear hst1 hb hlen
      go_wp2_with (at_builtin; refine wpList_append_rat rfl _ _ rfl w1.heap.size u3 (TK k) x0 x1 1 rfl rfl hg hlen'.out hs1 ?_)
      intro v' w' hown hgrow
      have hB2 := hg.belowB hB (Nat.le_refl _) hs1 hgrow
      clear hgrow hg hB
      have hown' := Lib.hid hown
      have hB2' := Lib.hid hB2
      clear hown hB2
      go_wp2
      go_roundw
      case rel => exact ⟨k + 1, by omega, by go_num, by rw [hst1'.out]; exact hown'.out, hB2'.out⟩
      case measure => simp [intOf]; omega
    · obtain rfl : k = m := by omega
      have ho := hg.own
      clear hg
      have ho' := Lib.hid ho
      have hb' := Lib.hid hb
      clear ho hb
      go_wp2
      go_ret
      exact ⟨_, rfl, by rw [hm'.out]; exact ho'.out.mono hB1.size (Nat.le_refl _), hb'.out⟩
set_option linter.unusedSimpArgs false in
set_option maxRecDepth 10000 in
set_option maxHeartbeats 4000000 in
theorem lpTurns_any (v : Value) (f : List Quad) (w : World) (hv : QuadV w v f) (hf : MapP f) :
    Calls Tryz.prog 232 #[v] w (RetO OwnR (tuL f) w) := by
  have hl := hf.len
  have c1 := imLaps_any v f w hv hf
  obtain ⟨hT, _, _, _⟩ := lpT_start (sgS f) (f.length - 1)
  have hL1 := lpc_pos (sgS f) (j := f.length - 1) (by omega)
  have hL2 := lpc_le (sgS f) (f.length - 1)
  have hst := tuK_step f
  have hkl := tuK_len f
  have h00 : tuK f 0 = [] := rfl
  have hV : tuL f = tuK f (lpc (sgS f) (f.length - 1) - 1) := rfl
  rw [hV]
  clear hV
  have hfm := hv.form
  have hvb := fun w' (hB : Below w.heap.size w w') => (hv.below hB).form
  generalize lpT (sgS f) (f.length - 1) = T at *
  generalize lpc (sgS f) (f.length - 1) = L at *
  generalize tuK f = TK at *
  obtain ⟨ao, cap, rfl, _, _, _⟩ := hfm
  obtain ⟨n, hn⟩ : ∃ n, f.length = n := ⟨_, rfl⟩
  rw [hn] at hT hL2 hl hvb c1 ⊢
  have hsub : L - 1 + 1 = L := by omega
  clear hv
  have c1' := Lib.hid c1
  have hT' := Lib.hid hT
  have hst' := Lib.hid hst
  have hkl' := Lib.hid hkl
  have h00' := Lib.hid h00
  have hvb' := Lib.hid hvb
  have hn' := Lib.hid hn
  have hsub' := Lib.hid hsub
  clear c1 hT hst hkl h00 hvb hn hsub
  go_enter Tryz.func232, Tryz.ntmps232
  go_wp2_with fail
  refine (c1'.out).mono ?_
  rintro e w1 ⟨g, gcap, rb, rc, rfl, hM, hB1⟩
  have hLc := hM.cap
  have hM' := Lib.hid hM
  clear hM
  go_wp2
  case inl =>
    obtain rfl : L = 1 := by omega
    go_loopw [3, 10] (fun o i wr => i = .int .i64 0 ∧ o = .slice none 0 0 ∧ Below w.heap.size w wr) (fun _ _ _ => 0)
    case atStart => exact ⟨rfl, rfl, hB1⟩
    case round =>
      obtain ⟨rfl, rfl, hbr⟩ := hrel
      clear hB1
      go_wp2
      go_ret
      exact ⟨_, rfl, by first | (rw [h00'.out]; exact OwnR.nil _ _ _) | (rw [Nat.sub_self, h00'.out]; exact OwnR.nil _ _ _), hbr⟩
  obtain ⟨m, hm⟩ : ∃ m, L - 1 = m := ⟨_, rfl⟩
  rw [hm]
  have hm' := Lib.hid hm
  clear hm
  go_loopw [3, 10] (fun o i wr => ∃ k : Nat, k ≤ m ∧ i = .int .i64 k ∧ GrowR wr w1.heap.size o (TK k) ∧ Below w1.heap.size w1 wr) (fun _ i _ => m - (intOf i).toNat)
  case atStart => exact ⟨0, Nat.zero_le _, rfl, by rw [h00'.out]; exact GrowR.nil _ _, Below.refl _ _⟩
  case round =>
    obtain ⟨k, hk, rfl, hg, hB⟩ := hrel
    have hb := hB1.trans (hB.mono hB1.size)
    by_cases hlt : k < m
    · have hkL : k + 1 < L := by have := hm'.out; omega
      have hM2 := hM'.out.below hB (Nat.le_refl _)
      have hp := hM2.ptr (i := k + 1) hkL
      have hc := hM2.cell (i := k + 1) (j := 0) hkL (by decide)
      obtain ⟨t0, t1⟩ := hT'.out (k + 1) hkL
      have hst1 := hst'.out k
      obtain ⟨a, ha⟩ : ∃ a : Nat, (T (k + 1) 0).toNat = a := ⟨_, rfl⟩
      have haT : T (k + 1) 0 = (a : Int) := by omega
      rw [ha] at hst1
      rw [haT] at hc
      have hp' : wr.cell? ⟨g, 1 + k, none⟩ = some (.slice (some ⟨rb (k + 1), 0, none⟩) 3 (rc (k + 1))) := by rw [Nat.add_comm]; exact hp
      have han : a < n := by omega
      have han2 : (a : Int) < (n : Int) := by omega
      have han3 : (0 : Int) ≤ (a : Int) := by omega
      obtain ⟨ao2, cap2, e, _, _, H⟩ := hvb'.out wr hb
      obtain ⟨rfl, e1, rfl⟩ := Value.slice.inj e
      clear e1
      obtain ⟨b, off, rfl, p0, p1, p2, p3⟩ := H a han
      generalize nth4 f a = P at *
      obtain ⟨⟨x0, x1⟩, ⟨x2, x3⟩⟩ := P
      simp only at p0 p1 p2 p3 hst1
      generalize rb (k + 1) = r at *
      generalize rc (k + 1) = rcc at *
      have hlen : (TK k).length ≤ 1099511627776 := by rw [hkl'.out]; omega
      have hs1 := hB.size
      clear H e hM2 hp t0 t1 haT ha p2 p3
      have hst1' := Lib.hid hst1
      have hb' := Lib.hid hb
      have hlen' := Lib.hid hlen
      clear hst1 hb hlen
      go_wp2_with (at_builtin; refine wpList_append_rat rfl _ _ rfl w1.heap.size u3 (TK k) x0 x1 1 rfl rfl hg hlen'.out hs1 ?_)
      intro v' w' hown hgrow
      have hB2 := hg.belowB hB (Nat.le_refl _) hs1 hgrow
      clear hgrow hg hB
      have hown' := Lib.hid hown
      have hB2' := Lib.hid hB2
      clear hown hB2
      go_wp2
      go_roundw
      case rel => exact ⟨k + 1, by omega, by go_num, by rw [hst1'.out]; exact hown'.out, hB2'.out⟩
      case measure => simp [intOf]; omega
    · obtain rfl : k = m := by omega
      have ho := hg.own
      clear hg
      have ho' := Lib.hid ho
      have hb' := Lib.hid hb
      clear ho hb
      go_wp2
      go_ret
      exact ⟨_, rfl, by rw [hm'.out]; exact ho'.out.mono hB1.size (Nat.le_refl _), hb'.out⟩

end Go.Proofs.YtnggopbehohjnaaGreat

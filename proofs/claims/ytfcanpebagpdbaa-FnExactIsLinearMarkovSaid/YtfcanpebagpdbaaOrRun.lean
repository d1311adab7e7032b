/- The reference's orRun. No conditions but valid maps. -/
import Derived.Test.YtfcanpebagpdbaaPkG
import Derived.Test.YtfcanpebagpdbaaOrbit
namespace Go.Proofs.Ytfcanpebagpdbaa
open Go.RowKit

def lenV : Value → Nat | .slice _ n _ => n | _ => 0

set_option linter.unusedSimpArgs false in
set_option maxRecDepth 10000 in
set_option maxHeartbeats 4000000 in
theorem orRun_any (v : Value) (f : List Quad) (x : Int × Int) (n : Nat) (w : World) (hv : QuadV w v f) (hf : MapP f) (hx : unitR x.1 x.2 = true) (hn : n ≤ 1048576) :
    Calls Try.prog 94 #[v, .agg #[.int .i64 x.1, .int .i64 x.2], .int .i64 n] w (RetO OwnR (orbL f x n) w) := by
  have cv1 := fun (k : Nat) (w' : World) (hb : Below w.heap.size w w') (hu : unitR (pz f x k).1 (pz f x k).2 = true) (h : atOk f (pz f x k) = true) => imAt_any v f (pz f x k) w' (hv.below hb) hf hu
  have cv0 := fun (k : Nat) (w' : World) (hb : Below w.heap.size w w') (hu : unitR (pz f x k).1 (pz f x k).2 = true) (h : atOk f (pz f x k) = false) => imAt_any v f (pz f x k) w' (hv.below hb) hf hu
  have cv1 : ∀ (k : Nat) (w' : World), Below w.heap.size w w' → unitR (pz f x k).1 (pz f x k).2 = true → atOk f (pz f x k) = true → Calls Try.prog 70 #[v, .agg #[.int .i64 (pz f x k).1, .int .i64 (pz f x k).2]] w' (Ret (.tuple #[.agg #[.int .i64 (pz f x (k + 1)).1, .int .i64 (pz f x (k + 1)).2], .bool true]) w') := by
    intro k w' hb hu h
    have := cv1 k w' hb hu h
    rw [atR_ok h] at this
    exact this
  have cv0 : ∀ (k : Nat) (w' : World), Below w.heap.size w w' → unitR (pz f x k).1 (pz f x k).2 = true → atOk f (pz f x k) = false → Calls Try.prog 70 #[v, .agg #[.int .i64 (pz f x k).1, .int .i64 (pz f x k).2]] w' (Ret (.tuple #[.agg #[.int .i64 0, .int .i64 0], .bool false]) w') := by
    intro k w' hb hu h
    have := cv0 k w' hb hu h
    rw [atR_bad h] at this
    exact this
  have hau := fun k (h1 : unitR (pz f x k).1 (pz f x k).2 = true) (h2 : atOk f (pz f x k) = true) => at_unit hf h1 h2
  change ∀ k, _ → _ → unitR (pz f x (k + 1)).1 (pz f x (k + 1)).2 = true at hau
  have rg := fun k (h : k < n) (h2 : atOk f (pz f x k) = true) => runF_go (n := n) h h2
  have rs := fun k (h : k < n) (h2 : atOk f (pz f x k) = false) => runF_stop (n := n) h h2
  have re : runF f x (n - n) n = n := runF_end n
  have hN : runF f x (n - 0) 0 = runN f x n := rfl
  have hl := ptL_len f x
  have hs := ptL_step f x
  have hat := fun k => nthR_ptL (f := f) (x := x) (Nat.le_refl k)
  have h0 := ptL_zero f x
  have hp0 : pz f x 0 = x := rfl
  have hO : orbL f x n = ptL f x (runN f x n) := rfl
  rw [hO]
  clear hO
  obtain ⟨OK, hOK⟩ : ∃ OK : Nat → Bool, ∀ k, atOk f (pz f x k) = OK k := ⟨_, fun _ => rfl⟩
  simp only [hOK] at cv1 cv0 hau rg rs
  generalize pz f x = pp at *
  generalize ptL f x = L at *
  generalize runN f x n = N at *
  generalize runF f x = RF at *
  clear hOK hf
  rename_i hOLD1 hOLD2
  clear hOLD1 hOLD2
  obtain ⟨x0, x1⟩ := x
  simp only at hx
  obtain ⟨w1, hw1⟩ : ∃ W, (w.alloc (.cells #[.int .i64 x0, .int .i64 x1] 34)).alloc (.cells #[.int .i64 x0, .int .i64 x1] 34) = W := ⟨_, rfl⟩
  have hB : Below w.heap.size w w1 := by rw [← hw1]; exact ((Below.refl _ _).alloc (Nat.le_refl _) _).alloc (by simp) _
  have hg : GrowR w1 (w.heap.size + 1) (.slice (some ⟨w.heap.size + 1, 0, none⟩) 1 1) (L 0) := by
    have := GrowR.lit (w.alloc (.cells #[.int .i64 x0, .int .i64 x1] 34)) (x0, x1)
    rw [h0, ← hw1]
    simpa using this
  have cv1' := Lib.hid cv1
  have cv0' := Lib.hid cv0
  have hau' := Lib.hid hau
  have rg' := Lib.hid rg
  have rs' := Lib.hid rs
  have re' := Lib.hid re
  have hl' := Lib.hid hl
  have hs' := Lib.hid hs
  have h0' := Lib.hid h0
  have hw1' := Lib.hid hw1
  have hx' := Lib.hid hx
  have hN' := Lib.hid hN
  have hat' := Lib.hid hat
  clear cv1 cv0 hau rg rs re hl hs h0 hw1 hx hN hat
  have hp0' := Lib.hid hp0
  have hg' := Lib.hid hg
  have hv' := Lib.hid hv
  clear hp0 hg hv
  show Calls _ _ #[_, .agg #[.int .i64 x0, .int .i64 x1], _] w _
  go_enter Try.func94, Try.ntmps94
  go_wp2_with fail
  rw [hw1'.out]
  go_wp2
  go_loopw [7] (fun o wr => ∃ k : Nat, k ≤ n ∧ GrowR wr (w.heap.size + 1) o (L k) ∧ unitR (pp k).1 (pp k).2 = true ∧ RF (n - k) k = N ∧ Below w.heap.size w wr) (fun o _ => n + 1 - lenV o)
  case atStart => exact ⟨0, Nat.zero_le _, hg'.out, by rw [hp0'.out]; exact hx'.out, hN'.out, hB⟩
  case round =>
    obtain ⟨k, hk, hg, hu, hR, hBr⟩ := hrel
    clear hg' hp0' hw1' hB hx'
    have hlen := hl'.out k
    have hsr := hBr.size
    obtain ⟨ao, cap, rfl, hcc, hcap, H⟩ := hg.read.form
    obtain ⟨m, hm⟩ : ∃ m, (L k).length = m := ⟨_, rfl⟩
    rw [hm] at hlen hg H hcc
    rw [hm]
    by_cases hlt : k < n
    · obtain ⟨b, off, rfl, p0, p1⟩ := H k (by omega)
      rw [hat'.out k] at p0 p1
      have cb1 := cv1'.out k wr hBr hu
      have cb0 := cv0'.out k wr hBr hu
      have hau1 := hau'.out k hu
      have rg1 := rg'.out k hlt
      have rs1 := rs'.out k hlt
      have hs1 := hs'.out k
      have g1 : IntKind.i64.wrap ((m : Int) - 1) = (k : Int) := by rw [IntKind.wrap_i64]; omega
      have g2 : (0 : Int) ≤ (k : Int) := by omega
      have g3 : (k : Int) < (m : Int) := by omega
      have g4 : k < m := by omega
      generalize OK k = ok at *
      generalize pp k = y at *
      obtain ⟨z, hz5⟩ : ∃ z, pp (k + 1) = z := ⟨_, rfl⟩
      rw [hz5] at cb1 hau1 hs1
      obtain ⟨y0, y1⟩ := y
      obtain ⟨z0, z1⟩ := z
      simp only at p0 p1 cb1 cb0 hu hau1
      have hle : (m : Int) ≤ (n : Int) := by omega
      clear H
      have hau1' := Lib.hid hau1
      have rg1' := Lib.hid rg1
      have rs1' := Lib.hid rs1
      have hs1' := Lib.hid hs1
      have hR' := Lib.hid hR
      have hlen' := Lib.hid hlen
      have hz5' := Lib.hid hz5
      have hg' := Lib.hid hg
      have hm' := Lib.hid hm
      have hcc' := Lib.hid hcc
      have hcap' := Lib.hid hcap
      clear hau1 rg1 rs1 hs1 hR hlen hz5 hg hm hcc hcap
      cases ok
      · have cb := cb0 rfl
        clear cb0 cb1
        have cb' := Lib.hid cb
        clear cb
        go_wp2_with fail
        go_wp2_with fail
        refine (cb'.out).mono ?_
        rintro e w2 ⟨rfl, hB2⟩
        have hNk : N = k := by rw [← hR'.out]; exact rs1'.out (by first | rfl | trivial)
        have hB3 : Below wr.heap.size wr (w2.alloc (.cells #[.int .i64 0, .int .i64 0] 34)) := hB2.alloc hB2.size _
        have hge := (hg'.out.below hB3).own
        have hge2 : OwnR (w2.alloc (.cells #[.int .i64 0, .int .i64 0] 34)) (w.heap.size + 1) _ (.slice (some ⟨b, off, none⟩) m cap) (L k) := hge
        have hBe := hBr.trans (hB3.mono hsr)
        clear hB2 hB3 hBr hge
        have hge2' := Lib.hid hge2
        have hBe' := Lib.hid hBe
        have hNk' := Lib.hid hNk
        clear hge2 hBe hNk
        go_wp2
        go_ret
        exact ⟨_, rfl, by rw [hNk'.out]; exact hge2'.out.mono (by omega) (Nat.le_refl _), hBe'.out⟩
      · have cb := cb1 rfl
        clear cb0 cb1
        have cb' := Lib.hid cb
        clear cb
        go_wp2_with fail
        go_wp2_with fail
        refine (cb'.out).mono ?_
        rintro e w2 ⟨rfl, hB2⟩
        obtain ⟨w3, hw3⟩ : ∃ W, w2.alloc (.cells #[.int .i64 z0, .int .i64 z1] 34) = W := ⟨_, rfl⟩
        have hB3 : Below wr.heap.size wr w3 := by rw [← hw3]; exact hB2.alloc hB2.size _
        have hge : GrowR w3 (w.heap.size + 1) (.slice (some ⟨b, off, none⟩) m cap) (L k) := hg'.out.below hB3
        have hBe := hBr.trans (hB3.mono hsr)
        have hsz3 : w2.heap.size + 1 = w3.heap.size := by rw [← hw3]; simp
        have hs2 := hB2.size
        have hs3 : w.heap.size + 1 ≤ w3.heap.size := by omega
        clear hB2 hB3 hBr
        have hge' := Lib.hid hge
        have hBe' := Lib.hid hBe
        have hw3' := Lib.hid hw3
        have hsz3' := Lib.hid hsz3
        clear hge hBe hw3 hsz3
        go_wp2_with (at_builtin; rw [hw3'.out, hsz3'.out]; refine wpList_append_rat rfl _ _ rfl (w.heap.size + 1) (.slice (some ⟨b, off, none⟩) m cap) (L k) z0 z1 1 rfl rfl hge'.out (by rw [hm'.out]; omega) hs3 ?_)
        intro v' w' hown' hgrow
        have hB5 := hge'.out.belowB hBe'.out (Nat.le_succ _) (by omega) hgrow
        have hau2 := hau1'.out (by first | rfl | trivial)
        have hlen2 : lenV v' = (L (k + 1)).length := by
          have h2 : GrowR w' (w.heap.size + 1) v' (L (k + 1)) := by rw [hs1'.out]; exact hown'
          obtain ⟨_, _, rfl, _⟩ := h2.read.form
          rfl
        clear hgrow
        have hB5' := Lib.hid hB5
        have hlen2' := Lib.hid hlen2
        have hown'' := Lib.hid hown'
        clear hB5 hlen2 hown'
        go_wp2
        go_roundw
        case rel => exact ⟨k + 1, by omega, by rw [hs1'.out]; exact hown''.out, by rw [hz5'.out]; exact hau2, by rw [rg1'.out (by first | rfl | trivial)]; exact hR'.out, hB5'.out⟩
        case measure =>
          have h3 := hlen2'.out
          rw [hl'.out] at h3
          have h4 := hlen'.out
          show n + 1 - lenV v' < n + 1 - m
          omega
    · have hke : k = n := by omega
      subst hke
      have hNk : N = k := by rw [← hR]; exact re'.out
      have ho := hg.own
      have hle : ¬ (m : Int) ≤ (k : Int) := by omega
      clear H hcc hcap hlen hm
      have ho' := Lib.hid ho
      have hNk' := Lib.hid hNk
      have hBr' := Lib.hid hBr
      have hg' := Lib.hid hg
      clear ho hNk hBr hg
      go_wp2
      go_ret
      exact ⟨_, rfl, by rw [hNk'.out]; exact ho'.out.mono (by omega) (Nat.le_refl _), hBr'.out⟩

end Go.Proofs.Ytfcanpebagpdbaa

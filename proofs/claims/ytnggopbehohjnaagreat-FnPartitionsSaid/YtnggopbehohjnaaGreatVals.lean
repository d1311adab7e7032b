/- The values of a map at cuts: the program's, and the reference's as places of cuts. No conditions but valid maps and cuts. -/
import Derived.Test.YtnggopbehohjnaaGreatFind
import Derived.Test.YtnggopbehohjnaaGreatPkF
import Derived.Test.YtnggopbehohjnaaGreatPkG
import Derived.Test.YtnggopbehohjnaaGreatPkC
namespace Go.Proofs.YtnggopbehohjnaaGreat
open Go.RowKit

def vsK (f : List Quad) (xs : List (Int × Int)) (k : Nat) : List (Int × Int) := (List.range k).map fun i => atZ f (nthR xs i)
def vsL (f : List Quad) (xs : List (Int × Int)) : List (Int × Int) := vsK f xs xs.length
theorem vsK_len (f : List Quad) (xs : List (Int × Int)) (k : Nat) : (vsK f xs k).length = k := by simp [vsK]
theorem vsK_step (f : List Quad) (xs : List (Int × Int)) (k : Nat) : vsK f xs (k + 1) = vsK f xs k ++ [atZ f (nthR xs k)] := by simp [vsK, List.range_succ]
def voK (f : List Quad) (xs : List (Int × Int)) (k : Nat) : Bool := (List.range k).all fun i => atOk f (nthR xs i)
theorem voK_step (f : List Quad) (xs : List (Int × Int)) (k : Nat) : voK f xs (k + 1) = (voK f xs k && atOk f (nthR xs k)) := by simp [voK, List.range_succ, List.all_append]
theorem voK_false {f : List Quad} {xs : List (Int × Int)} {k n : Nat} (h : k < n) (hb : atOk f (nthR xs k) = false) : voK f xs n = false := by
  unfold voK
  rw [List.all_eq_false]
  exact ⟨k, List.mem_range.2 h, by rw [hb]; simp⟩
theorem voK_true {f : List Quad} {xs : List (Int × Int)} {k n : Nat} (h : voK f xs n = true) (hk : k < n) : atOk f (nthR xs k) = true := by
  unfold voK at h
  rw [List.all_eq_true] at h
  exact h k (List.mem_range.2 hk)
/-- The places of the values. -/
def viK (f : List Quad) (xs : List (Int × Int)) (k : Nat) : List Int := (List.range k).map fun i => plcR xs (atZ f (nthR xs i))
theorem viK_len (f : List Quad) (xs : List (Int × Int)) (k : Nat) : (viK f xs k).length = k := by simp [viK]
theorem viK_step (f : List Quad) (xs : List (Int × Int)) (k : Nat) : viK f xs (k + 1) = viK f xs k ++ [plcR xs (atZ f (nthR xs k))] := by simp [viK, List.range_succ]
def vi_v (f : List Quad) (xs : List (Int × Int)) : List Int × Bool := if voK f xs xs.length = true then (viK f xs xs.length, true) else ([], false)

set_option linter.unusedSimpArgs false in
set_option maxRecDepth 10000 in
set_option maxHeartbeats 4000000 in
theorem cvals_upon (g : Nat) (bd : Bool) (v u : Value) (f : List Quad) (xs : List (Int × Int)) (w0 w : World) (hv : QuadV w0 v f) (hu : RatsV w u xs) (hug : 0 < xs.length → ∀ b off k cap, u = .slice (some ⟨b, off, none⟩) k cap → b ≠ g) (hb0 : Below w0.heap.size w0 w) (hg0 : w0.heap.size ≤ g) (hf : MapP f)
    (hx : ∀ i, i < xs.length → unitR (nthR xs i).1 (nthR xs i).2 = true) (hm : xs.length ≤ 1099511627776) (hc : CalcAt w g bd) :
    Calls Tryz.prog 85 #[.pointer (some ⟨g, 0, none⟩), v, u] w (fun e w' => ∃ r, e = .returned r ∧ OwnR w' w.heap.size w'.heap.size r (vsL f xs) ∧ w.grownBy w' (some g) ∧ CalcAt w' g (bd || !(voK f xs xs.length))) := by
  have cv := fun (k : Nat) (b : Bool) (w' : World) (hB : Below w0.heap.size w0 w') (h : k < xs.length) hc => cvalue_any g b v f (nthR xs k) w0 w' hv hB hg0 hf (hx k h) hc
  have hst := vsK_step f xs
  have hsl := vsK_len f xs
  have hos := voK_step f xs
  have hV : vsL f xs = vsK f xs xs.length := rfl
  rw [hV]
  have h00 : vsK f xs 0 = [] := rfl
  have ho0 : voK f xs 0 = true := rfl
  obtain ⟨ao, cap, rfl, _, _, H⟩ := hu.form
  obtain ⟨n, hn⟩ : ∃ n, xs.length = n := ⟨_, rfl⟩
  rw [hn] at H cv hm hug ⊢
  clear hu hV hx
  generalize vsK f xs = VK at *
  generalize voK f xs = VO at *
  obtain ⟨AZ, hAZ⟩ : ∃ AZ : Nat → Int × Int, ∀ k, atZ f (nthR xs k) = AZ k := ⟨_, fun _ => rfl⟩
  obtain ⟨AO, hAO⟩ : ∃ AO : Nat → Bool, ∀ k, atOk f (nthR xs k) = AO k := ⟨_, fun _ => rfl⟩
  simp only [hAZ, hAO] at cv hst hos
  clear hAZ hAO
  have hgl := hc.lt
  have hw0 := hb0.size
  have H' := Lib.hid H
  have hn' := Lib.hid hn
  have cv' := Lib.hid cv
  have hst' := Lib.hid hst
  have hsl' := Lib.hid hsl
  have hos' := Lib.hid hos
  have h00' := Lib.hid h00
  have ho0' := Lib.hid ho0
  have hug' := Lib.hid hug
  clear H hn cv hst hsl hos h00 ho0 hug
  go_enter Tryz.func85, Tryz.ntmps85
  go_wp2
  go_loopw [7, 12] (fun o i wr => ∃ k : Nat, k ≤ n ∧ i = .int .i64 k ∧ GrowR wr w.heap.size o (VK k) ∧ CalcAt wr g (bd || !(VO k)) ∧ w.grownBy wr (some g)) (fun _ i _ => n - (intOf i).toNat)
  case atStart => exact ⟨0, Nat.zero_le _, rfl, by rw [h00'.out]; exact GrowR.nil _ _, by rw [ho0'.out]; simpa using hc, World.grownBy.refl _ _⟩
  case round =>
    obtain ⟨k, hk, rfl, hg, hcr, hgr⟩ := hrel
    by_cases hlt : k < n
    · obtain ⟨b, off, rfl, p0, p1⟩ := H'.out k hlt
      have hbr := quad_stays hv hb0 hg0 hgr
      have hbg : some b ≠ some g := fun e => hug'.out (by omega) b off n cap rfl (Option.some.inj e)
      replace p0 := hgr.cell p0 hbg
      replace p1 := hgr.cell p1 hbg
      clear hbg
      have cv1 := fun b w' hB hc => cv'.out k b w' hB hlt hc
      have hst1 := hst'.out k
      have hos1 := hos'.out k
      have hlen : (VK k).length ≤ 1099511627776 := by rw [hsl'.out]; omega
      generalize nthR xs k = P at *
      generalize AZ k = Z at *
      obtain ⟨z0, z1⟩ := Z
      generalize AO k = ok at *
      obtain ⟨x0, x1⟩ := P
      simp only at p0 p1 cv1
      have hsr := hgr.size
      obtain ⟨w4, hw4⟩ : ∃ W, wr.alloc (.cells #[.int .i64 x0, .int .i64 x1] 50) = W := ⟨_, rfl⟩
      have hB4 : Below wr.heap.size wr w4 := by rw [← hw4]; exact (Below.refl _ _).alloc (Nat.le_refl _) _
      have hb4 := hbr.trans (hB4.mono hbr.size)
      have hc4 := hcr.below hB4
      have hg4 := hg.below hB4
      have hgr4 := hgr.trans (bgrow hB4 (some g))
      have cv2 := cv1 _ w4 hb4 hc4
      have hok : (bd || !(VO k) || !ok) = (bd || !(VO (k + 1))) := by rw [hos1]; cases bd <;> cases VO k <;> cases ok <;> rfl
      rw [hok] at cv2
      clear hok hos1 hcr hg hgr hB4 cv1 hc4 hb4 hbr
      have cv2' := Lib.hid cv2
      have hst1' := Lib.hid hst1
      have hw4' := Lib.hid hw4
      have hg4' := Lib.hid hg4
      have hgr4' := Lib.hid hgr4
      have hlen' := Lib.hid hlen
      clear cv2 hst1 hw4 hg4 hgr4 hlen
      go_wp2_with fail
      rw [hw4'.out]
      clear p0 p1
      go_wp2_with fail
      refine (cv2'.out).mono ?_
      rintro e w5 ⟨rfl, hg5, hc5⟩
      have hg6 := hg4'.out.kept hg5 hgl
      have hgr6 := hgr4'.out.trans hg5
      have hs6 := hgr6.size
      clear hg5
      have hgr6' := Lib.hid hgr6
      have hc5' := Lib.hid hc5
      clear hgr6 hc5
      go_wp2_with (at_builtin; refine wpList_append_rat rfl _ _ rfl w.heap.size u7 (VK k) z0 z1 1 rfl rfl hg6 hlen'.out hs6 ?_)
      intro v' w' hown hgrow
      have hgr7 : w.grownBy w' (some g) := hgr6'.out.andThen hgrow (fun j hj => .inl (World.ownsRow.lt hg6 j hj).1)
      have hc7 := hc5'.out.grown hgrow (fun e => by have := (World.ownsRow.lt hg6 g e).1; omega)
      clear hgrow hg6
      have hown' := Lib.hid hown
      have hgr7' := Lib.hid hgr7
      have hc7' := Lib.hid hc7
      clear hown hgr7 hc7
      go_wp2
      go_roundw
      case rel => exact ⟨k + 1, by omega, by go_num, by rw [hst1'.out]; exact hown'.out, hc7'.out, hgr7'.out⟩
      case measure => simp [intOf]; omega
    · obtain rfl : k = n := by omega
      have ho := hg.own
      clear hg H'
      have ho' := Lib.hid ho
      have hgr' := Lib.hid hgr
      have hcr' := Lib.hid hcr
      clear ho hgr hcr
      go_wp2
      go_ret
      exact ⟨_, rfl, ho'.out, hgr'.out, hcr'.out⟩
theorem cvals_any (g : Nat) (bd : Bool) (v u : Value) (f : List Quad) (xs : List (Int × Int)) (w0 w : World) (hv : QuadV w0 v f) (hu : RatsV w0 u xs) (hb0 : Below w0.heap.size w0 w) (hg0 : w0.heap.size ≤ g) (hf : MapP f)
    (hx : ∀ i, i < xs.length → unitR (nthR xs i).1 (nthR xs i).2 = true) (hm : xs.length ≤ 1099511627776) (hc : CalcAt w g bd) :
    Calls Tryz.prog 85 #[.pointer (some ⟨g, 0, none⟩), v, u] w (fun e w' => ∃ r, e = .returned r ∧ OwnR w' w.heap.size w'.heap.size r (vsL f xs) ∧ w.grownBy w' (some g) ∧ CalcAt w' g (bd || !(voK f xs xs.length))) :=
  cvals_upon g bd v u f xs w0 w hv (hu.below hb0) (fun h0 b off k cap e => by
    obtain ⟨ao, cap', e', _, _, H⟩ := hu.form
    obtain ⟨b', off', e2, c0, _⟩ := H 0 h0
    rw [e] at e'
    rw [e2] at e'
    have hlt := World.block_lt_of_cell? w0 _ c0
    simp only [Value.slice.injEq, Option.some.injEq, Addr.mk.injEq] at e'
    have : b' < w0.heap.size := hlt
    omega) hb0 hg0 hf hx hm hc
set_option linter.unusedSimpArgs false in
set_option maxRecDepth 10000 in
set_option maxHeartbeats 4000000 in
theorem mkValues_any (v u : Value) (f : List Quad) (xs : List (Int × Int)) (w : World) (hv : QuadV w v f) (hu : RatsV w u xs) (hf : MapP f)
    (hx : ∀ i, i < xs.length → unitR (nthR xs i).1 (nthR xs i).2 = true) (hm : xs.length ≤ 1099511627776) :
    Calls Tryz.prog 205 #[v, u] w (RetOB Own (vi_v f xs) w) := by
  have cv := fun (k : Nat) (w' : World) (hB : Below w.heap.size w w') (h : k < xs.length) => imAt_any v f (nthR xs k) w' (hv.below hB) hf (hx k h)
  have hR : ∀ k, atR f (nthR xs k) = if atOk f (nthR xs k) = true then (atZ f (nthR xs k), true) else ((0, 0), false) := fun k => atR_eq f _
  simp only [hR] at cv
  have cf := fun (y : Int × Int) (w' : World) (hB : Below w.heap.size w w') => mkFind_any u xs y w' (hu.below hB) hm
  have hst := viK_step f xs
  have hsl := viK_len f xs
  have hos := voK_step f xs
  have hno := fun k (h : k < xs.length) hb => voK_false (f := f) (xs := xs) h hb
  have hV : vi_v f xs = if voK f xs xs.length = true then (viK f xs xs.length, true) else ([], false) := rfl
  rw [hV]
  have h00 : viK f xs 0 = [] := rfl
  have ho0 : voK f xs 0 = true := rfl
  obtain ⟨ao, cap, rfl, _, _, H⟩ := hu.form
  obtain ⟨n, hn⟩ : ∃ n, xs.length = n := ⟨_, rfl⟩
  rw [hn] at H cv cf hm hno ⊢
  clear hu hV hx hR hv hf
  generalize viK f xs = VK at *
  generalize voK f xs = VO at *
  obtain ⟨AZ, hAZ⟩ : ∃ AZ : Nat → Int × Int, ∀ k, atZ f (nthR xs k) = AZ k := ⟨_, fun _ => rfl⟩
  obtain ⟨AO, hAO⟩ : ∃ AO : Nat → Bool, ∀ k, atOk f (nthR xs k) = AO k := ⟨_, fun _ => rfl⟩
  simp only [hAZ, hAO] at cv hst hos hno
  clear hAZ hAO
  obtain ⟨V, hV⟩ : ∃ V, (if VO n = true then (VK n, true) else ([], false)) = V := ⟨_, rfl⟩
  rw [hV]
  have H' := Lib.hid H
  have hn' := Lib.hid hn
  have cv' := Lib.hid cv
  have cf' := Lib.hid cf
  have hst' := Lib.hid hst
  have hsl' := Lib.hid hsl
  have hos' := Lib.hid hos
  have h00' := Lib.hid h00
  have ho0' := Lib.hid ho0
  have hno' := Lib.hid hno
  have hV' := Lib.hid hV
  clear H hn cv cf hst hsl hos h00 ho0 hno hV
  go_enter Tryz.func205, Tryz.ntmps205
  go_wp2
  go_loopw [6, 13] (fun o i wr => ∃ k : Nat, k ≤ n ∧ i = .int .i64 k ∧ Grow wr w.heap.size o (VK k) ∧ VO k = true ∧ Below w.heap.size w wr) (fun _ i _ => n - (intOf i).toNat)
  case atStart => exact ⟨0, Nat.zero_le _, rfl, by rw [h00'.out]; exact Grow.nil _ _, ho0'.out, Below.refl _ _⟩
  case round =>
    obtain ⟨k, hk, rfl, hg, hvo, hbr⟩ := hrel
    by_cases hlt : k < n
    · obtain ⟨b, off, rfl, p0, p1⟩ := H'.out k hlt
      replace p0 := bkeep hbr p0
      replace p1 := bkeep hbr p1
      have cv1 := fun w' hB => cv'.out k w' hB hlt
      have hst1 := hst'.out k
      have hos1 := hos'.out k
      have hno1 := hno'.out k hlt
      rw [hvo, Bool.true_and] at hos1
      have hlen : (VK k).length ≤ 1099511627776 := by rw [hsl'.out]; omega
      generalize nthR xs k = P at *
      have cf1 := cf'.out (AZ k)
      generalize AZ k = Z at *
      generalize plcR xs Z = Y at *
      obtain ⟨z0, z1⟩ := Z
      obtain ⟨x0, x1⟩ := P
      simp only at p0 p1 cv1 cf1
      have hsr := hbr.size
      obtain ⟨w4, hw4⟩ : ∃ W, wr.alloc (.cells #[.int .i64 x0, .int .i64 x1] 50) = W := ⟨_, rfl⟩
      have hB4 : Below wr.heap.size wr w4 := by rw [← hw4]; exact (Below.refl _ _).alloc (Nat.le_refl _) _
      have hb4 := hbr.trans (hB4.mono hbr.size)
      have hg4 := hg.below hB4
      have cv2 := cv1 w4 hb4
      clear hg hB4 cv1 hbr
      cases hAOk : AO k
      · rw [hAOk, if_neg (by decide)] at cv2
        have hV := hV'.out
        rw [if_neg (by rw [hno1 hAOk]; decide)] at hV
        subst hV
        clear hno1 hos1 hst1
        have cv2' := Lib.hid cv2
        have hw4' := Lib.hid hw4
        have hg4' := Lib.hid hg4
        have hb4' := Lib.hid hb4
        have hlen' := Lib.hid hlen
        have hAOk' := Lib.hid hAOk
        have cf1' := Lib.hid cf1
        have hvo' := Lib.hid hvo
        clear cv2 hw4 hg4 hb4 hlen hAOk cf1 hvo
        go_wp2_with fail
        rw [hw4'.out]
        clear p0 p1
        go_wp2_with fail
        refine (cv2'.out).mono ?_
        rintro e w5 ⟨rfl, hB5⟩
        have hb5 := (hb4'.out.trans (hB5.mono hb4'.out.size)).alloc (hb4'.out.trans (hB5.mono hb4'.out.size)).size (.cells #[.int .i64 0, .int .i64 0] 50)
        clear hB5
        have hb5' := Lib.hid hb5
        clear hb5
        go_wp2
        go_ret2
        exact ⟨_, rfl, Own.nil _ _ _, hb5'.out⟩
      · rw [hAOk, if_pos rfl] at cv2
        rw [hAOk] at hos1
        clear hno1
        have cv2' := Lib.hid cv2
        have hw4' := Lib.hid hw4
        have hg4' := Lib.hid hg4
        have hb4' := Lib.hid hb4
        have hlen' := Lib.hid hlen
        have hAOk' := Lib.hid hAOk
        have cf1' := Lib.hid cf1
        have hvo' := Lib.hid hvo
        have hos1' := Lib.hid hos1
        have hst1' := Lib.hid hst1
        clear cv2 hw4 hg4 hb4 hlen hAOk cf1 hvo hos1 hst1
        go_wp2_with fail
        rw [hw4'.out]
        clear p0 p1
        go_wp2_with fail
        refine (cv2'.out).mono ?_
        rintro e w5 ⟨rfl, hB5⟩
        obtain ⟨w6, hw6⟩ : ∃ W, w5.alloc (.cells #[.int .i64 z0, .int .i64 z1] 50) = W := ⟨_, rfl⟩
        have hB6 : Below w4.heap.size w4 w6 := by rw [← hw6]; exact hB5.alloc hB5.size _
        have hb6 := hb4'.out.trans (hB6.mono hb4'.out.size)
        have hg6 := hg4'.out.below hB6
        have cf2 := cf1'.out w6 hb6
        clear hB5 hB6
        have hw6' := Lib.hid hw6
        have hb6' := Lib.hid hb6
        have hg6' := Lib.hid hg6
        have cf2' := Lib.hid cf2
        clear hw6 hb6 hg6 cf2
        go_wp2_with fail
        rw [hw6'.out]
        go_wp2_with fail
        refine (cf2'.out).mono ?_
        rintro e w7 ⟨rfl, hB7⟩
        have hb7 := hb6'.out.trans (hB7.mono hb6'.out.size)
        have hg7 := hg6'.out.below hB7
        have hs7 := hb7.size
        clear hB7
        have hb7' := Lib.hid hb7
        clear hb7
        go_wp2_with (at_builtin; refine wpList_append_int rfl _ _ rfl w.heap.size u6 (VK k) Y 1 rfl rfl hg7 hlen'.out hs7 ?_)
        intro v' w' hown hgrow
        have hb8 := hg7.belowB hb7'.out (Nat.le_refl _) hs7 hgrow
        clear hgrow hg7
        have hown' := Lib.hid hown
        have hb8' := Lib.hid hb8
        clear hown hb8
        go_wp2
        go_roundw
        case rel => exact ⟨k + 1, by omega, by go_num, by rw [hst1'.out]; exact hown'.out, hos1'.out, hb8'.out⟩
        case measure => simp [intOf]; omega
    · obtain rfl : k = n := by omega
      have hV := hV'.out
      have ho := hg.own
      rw [if_pos hvo] at hV
      subst hV
      clear hg H' hvo
      have ho' := Lib.hid ho
      have hbr' := Lib.hid hbr
      clear ho hbr
      go_wp2
      go_ret2
      exact ⟨_, rfl, ho'.out, hbr'.out⟩

end Go.Proofs.YtnggopbehohjnaaGreat

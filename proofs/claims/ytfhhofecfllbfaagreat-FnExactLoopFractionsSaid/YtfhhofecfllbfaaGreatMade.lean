/- The simple map of points, and the identity: what compositions lean on. No conditions but small sizes. -/
import Derived.Test.YtfhhofecfllbfaaGreatCoIf
import Derived.Test.YtfhhofecfllbfaaGreatCompLaw
import Derived.Test.YtfhhofecfllbfaaGreatPkL
namespace Go.Proofs.YtfhhofecfllbfaaGreat
open Go.RowKit

set_option maxHeartbeats 800000 in
theorem made1_any (q : Quad) (w : World) : Calls Tryz.prog 212 #[quadV q] w (Ret (.bool (!(fineP q))) w) := by
  obtain ⟨⟨x, y⟩, ⟨z, t⟩⟩ := q
  show Calls _ _ #[.agg #[.int .i64 x, .int .i64 y, .int .i64 z, .int .i64 t]] w (Ret (.bool (!(decide (y ≤ 100) && decide (t ≤ 100)))) w)
  have hB : Below w.heap.size w (w.alloc (.cells #[.int .i64 x, .int .i64 y, .int .i64 z, .int .i64 t] 80)) := (Below.refl _ _).alloc (Nat.le_refl _) _
  by_cases h1 : 100 < y
  · have e : (!(decide (y ≤ 100) && decide (t ≤ 100))) = true := by simp; omega
    rw [e]
    clear e
    go_enter Tryz.func212, Tryz.ntmps212
    go_wp2
    go_ret
    exact ⟨by simp, hB⟩
  · by_cases h2 : 100 < t
    · have e : (!(decide (y ≤ 100) && decide (t ≤ 100))) = true := by simp; omega
      rw [e]
      clear e
      go_enter Tryz.func212, Tryz.ntmps212
      go_wp2
      go_ret
      exact ⟨by simp, hB⟩
    · have e : (!(decide (y ≤ 100) && decide (t ≤ 100))) = false := by simp; omega
      rw [e]
      clear e
      go_enter Tryz.func212, Tryz.ntmps212
      go_wp2
      go_ret
      exact ⟨by simp, hB⟩
/-- What made returns. -/
def made_v (f : List Quad) : List Quad × Bool := if f.all fineP = true then (smL f, mapB (smL f)) else ([], false)
def fin_v (bd : Bool) (f : List Quad) : List Quad × Bool := if bd = false ∧ f.all fineP = true then cmIf (smL f) else ([], false)
set_option maxHeartbeats 2000000 in
theorem made_any (v : Value) (f : List Quad) (w : World) (hv : QuadV w v f) (hl : f.length ≤ 1000) (hf : f.all fineP = true → LineP f) :
    Calls Tryz.prog 200 #[v] w (RetOB OwnP (made_v f) w) := by
  have cc := containsFuncP_any v f 212 #[] (fun q => !(fineP q)) w (enters_of Tryz.func212 (by kernel_rfl) rfl) (fun i w' _ _ => made1_any _ w') hv (by omega)
  have hany : (f.any fun q => !(fineP q)) = !(f.all fineP) := by rw [List.all_eq_not_any_not, Bool.not_not]
  rw [hany] at cc
  have c1 := fun (hq : f.all fineP = true) w' (hB : Below w.heap.size w w') => simpleL_any v f w' (hv.below hB) (hf hq)
  have hsl : (smL f).length ≤ f.length + 2 := by unfold smL; have := (smK_len f (f.length - 2)).2; simp; omega
  have c2 := fun (r : Value) w' (hr : QuadV w' r (smL f)) => isMap_any r (smL f) w' hr (by omega)
  cases ha : f.all fineP
  · rw [show made_v f = ([], false) by unfold made_v; rw [ha]; rfl]
    rw [ha] at cc
    clear ha hany hv hf c1 c2 hsl
    have cc' := Lib.hid cc
    clear cc
    go_enter Tryz.func200, Tryz.ntmps200
    go_wp2_with fail
    refine (cc'.out).mono ?_
    rintro e w1 ⟨rfl, hB1⟩
    go_wp2
    go_ret2
    exact ⟨_, rfl, OwnP.nil _ _ _, hB1⟩
  · rw [show made_v f = (smL f, mapB (smL f)) by unfold made_v; rw [ha]; rfl]
    rw [ha] at cc
    have c3 := c1 ha
    clear ha hany hv hf c1
    generalize mapB (smL f) = M at *
    generalize smL f = S at *
    have cc' := Lib.hid cc
    have c2' := Lib.hid c2
    have c3' := Lib.hid c3
    have hsl' := Lib.hid hsl
    clear cc c2 c3 hsl
    go_enter Tryz.func200, Tryz.ntmps200
    go_wp2_with fail
    refine (cc'.out).mono ?_
    rintro e w1 ⟨rfl, hB1⟩
    have c4 := c3'.out w1 hB1
    have c4' := Lib.hid c4
    have hB1' := Lib.hid hB1
    clear c4 hB1
    go_wp2_with fail
    refine (c4'.out).mono ?_
    rintro e w2 ⟨r, rfl, ho, hB2⟩
    have c5 := c2'.out r w2 ho.read
    have hb2 := hB1'.out.trans (hB2.mono hB1'.out.size)
    have ho2 := fun w' (h : Below w2.heap.size w2 w') => OwnP.mono (OwnP.below ho h (Nat.le_refl _)) (hB := hB1'.out.size) (hE := h.size)
    obtain ⟨ao, cap, rfl, -⟩ := ho.read.form
    clear ho hB2 c3' c2' hsl'
    have c5' := Lib.hid c5
    have hb2' := Lib.hid hb2
    have ho2' := Lib.hid ho2
    clear c5 hb2 ho2
    go_wp2_with fail
    refine (c5'.out).mono ?_
    rintro e w3 ⟨rfl, hB3⟩
    have ho3 := ho2'.out w3 hB3
    have hb3 := hb2'.out.trans (hB3.mono hb2'.out.size)
    have ho3' := Lib.hid ho3
    have hb3' := Lib.hid hb3
    clear ho3 hb3
    clear hB3
    go_wp2
    go_ret2
    exact ⟨_, rfl, ho3'.out, hb3'.out⟩
set_option maxHeartbeats 2000000 in
theorem finish_any (g : Nat) (bd : Bool) (v : Value) (f : List Quad) (w : World) (hv : QuadV w v f) (hc : CalcAt w g bd) (hl : f.length ≤ 1000) (hf : bd = false → f.all fineP = true → LineP f) :
    Calls Tryz.prog 172 #[.pointer (some ⟨g, 0, none⟩), v] w (RetOB OwnP (fin_v bd f) w) := by
  have k0 : w.cell? ⟨g, 0, none⟩ = some (.bool bd) := hc.1
  cases bd
  · have c1 := fun w' (hB : Below w.heap.size w w') => made_any v f w' (hv.below hB) hl (hf rfl)
    have hfin : fin_v false f = if (made_v f).2 = true then made_v f else ([], false) := by
      unfold fin_v made_v cmIf
      split
      · rename_i h
        rw [if_pos h.2]
        cases mapB (smL f) <;> rfl
      · rename_i h
        rw [if_neg (fun e => h ⟨rfl, e⟩)]
        rfl
    rw [hfin]
    clear hfin hv hf hc
    obtain ⟨⟨S, M⟩, hM⟩ : ∃ r, made_v f = r := ⟨_, rfl⟩
    rw [hM] at c1 ⊢
    clear hM
    cases M
    · rw [if_neg (by simp)]
      have c1' := Lib.hid c1
      clear c1
      go_enter Tryz.func172, Tryz.ntmps172
      go_wp2_with fail
      refine (c1'.out _ (Below.refl _ _)).mono ?_
      rintro e w1 ⟨r, rfl, ho, hB1⟩
      obtain ⟨ao, cap, rfl, -⟩ := ho.read.form
      clear ho
      have hB1' := Lib.hid hB1
      clear hB1
      go_wp2
      go_ret2
      exact ⟨_, rfl, OwnP.nil _ _ _, hB1'.out⟩
    · rw [if_pos rfl]
      have c1' := Lib.hid c1
      clear c1
      go_enter Tryz.func172, Tryz.ntmps172
      go_wp2_with fail
      refine (c1'.out _ (Below.refl _ _)).mono ?_
      rintro e w1 ⟨r, rfl, ho, hB1⟩
      obtain ⟨ao, cap, rfl, -⟩ := ho.read.form
      have ho' := Lib.hid ho
      have hB1' := Lib.hid hB1
      clear ho hB1
      go_wp2
      go_ret2
      exact ⟨_, rfl, ho'.out, hB1'.out⟩
  · have hfin : fin_v true f = ([], false) := by unfold fin_v; rw [if_neg (by simp)]
    rw [hfin]
    clear hfin hv hf hc
    go_enter Tryz.func172, Tryz.ntmps172
    go_wp2
    go_ret2
    exact ⟨_, rfl, OwnP.nil _ _ _, Below.refl _ _⟩
theorem OwnP.two (w : World) (i k : Quad) : OwnP (w.alloc (.cells #[.int .i64 i.1.1, .int .i64 i.1.2, .int .i64 i.2.1, .int .i64 i.2.2, .int .i64 k.1.1, .int .i64 k.1.2, .int .i64 k.2.1, .int .i64 k.2.2] 80)) w.heap.size (w.alloc (.cells #[.int .i64 i.1.1, .int .i64 i.1.2, .int .i64 i.2.1, .int .i64 i.2.2, .int .i64 k.1.1, .int .i64 k.1.2, .int .i64 k.2.1, .int .i64 k.2.2] 80)).heap.size (.slice (some ⟨w.heap.size, 0, none⟩) 2 2) [i, k] :=
  OwnF.row (World.ownsRow_lit (base := w.heap.size) (e := 80) (size := 4) w #[.int .i64 i.1.1, .int .i64 i.1.2, .int .i64 i.2.1, .int .i64 i.2.2, .int .i64 k.1.1, .int .i64 k.1.2, .int .i64 k.2.1, .int .i64 k.2.2] 2 (Nat.le_refl _) (by decide) rfl)
set_option maxHeartbeats 1600000 in
theorem identityMap_any (w : World) : Calls Tryz.prog 114 #[] w (RetO OwnP cmId w) := by
  go_enter Tryz.func114, Tryz.ntmps114
  go_wp2_with fail
  refine (zero_any _).mono ?_
  rintro e w1 ⟨rfl, hB1⟩
  go_wp2_with fail
  refine (zero_any _).mono ?_
  rintro e w2 ⟨rfl, hB2⟩
  go_wp2_with fail
  refine (oneRat_any _).mono ?_
  rintro e w3 ⟨rfl, hB3⟩
  go_wp2_with fail
  refine (oneRat_any _).mono ?_
  rintro e w4 ⟨rfl, hB4⟩
  have hB := hB1.trans ((hB2.trans ((hB3.trans (hB4.mono hB3.size)).mono hB2.size)).mono hB1.size)
  have ho := OwnP.two w4 ((0, 1), (0, 1)) ((1, 1), (1, 1))
  simp only at ho
  have ho2 := OwnP.mono ho (hB := hB.size) (hE := Nat.le_refl _)
  have hb := hB.alloc hB.size (.cells #[.int .i64 0, .int .i64 1, .int .i64 0, .int .i64 1, .int .i64 1, .int .i64 1, .int .i64 1, .int .i64 1] 80)
  clear hB1 hB2 hB3 hB4 ho hB
  have ho2' := Lib.hid ho2
  have hb' := Lib.hid hb
  clear ho2 hb
  go_wp2
  go_ret
  exact ⟨_, rfl, ho2'.out, hb'.out⟩
set_option maxHeartbeats 1600000 in
theorem coSame_any (w : World) : Calls Tryz.prog 108 #[] w (RetO OwnP cmId w) := by
  go_enter Tryz.func108, Tryz.ntmps108
  go_wp2_with fail
  refine (raInt_any 0 _).mono ?_
  rintro e w1 ⟨rfl, hB1⟩
  go_wp2_with fail
  refine (raInt_any 0 _).mono ?_
  rintro e w2 ⟨rfl, hB2⟩
  go_wp2_with fail
  refine (raInt_any 1 _).mono ?_
  rintro e w3 ⟨rfl, hB3⟩
  go_wp2_with fail
  refine (raInt_any 1 _).mono ?_
  rintro e w4 ⟨rfl, hB4⟩
  have hB := hB1.trans ((hB2.trans ((hB3.trans (hB4.mono hB3.size)).mono hB2.size)).mono hB1.size)
  have ho := OwnP.two w4 ((0, 1), (0, 1)) ((1, 1), (1, 1))
  simp only at ho
  have ho2 := OwnP.mono ho (hB := hB.size) (hE := Nat.le_refl _)
  have hb := hB.alloc hB.size (.cells #[.int .i64 0, .int .i64 1, .int .i64 0, .int .i64 1, .int .i64 1, .int .i64 1, .int .i64 1, .int .i64 1] 80)
  clear hB1 hB2 hB3 hB4 ho hB
  have ho2' := Lib.hid ho2
  have hb' := Lib.hid hb
  clear ho2 hb
  go_wp2
  go_ret
  exact ⟨_, rfl, ho2'.out, hb'.out⟩
end Go.Proofs.YtfhhofecfllbfaaGreat

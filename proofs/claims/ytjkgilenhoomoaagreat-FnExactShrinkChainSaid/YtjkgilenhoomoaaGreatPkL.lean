/- Several texts in one: BoxQ Find Vals BefI. No conditions but those that each theorem states. -/
import Derived.Test.YtjkgilenhoomoaaGreatPkE
import Derived.Test.YtjkgilenhoomoaaGreatPkD
import Derived.Test.YtjkgilenhoomoaaGreatPkF
import Derived.Test.YtjkgilenhoomoaaGreatPkB
import Derived.Test.YtjkgilenhoomoaaGreatPkG
import Derived.Test.YtjkgilenhoomoaaGreatPkC
import Derived.Test.YtjkgilenhoomoaaGreatPkI
import Derived.Test.YtjkgilenhoomoaaGreatPkJ
import Derived.Deep.Cut
import Derived.Deep.CutRange
import Derived.Deep.CutBlock

namespace Go.Proofs.YtjkgilenhoomoaaGreat
open Go.RowKit

/-- A box with a pair of fractions. -/
def BoxQ (w : World) (b : Nat) (q : Quad) : Prop := w.cell? ⟨b, 0, none⟩ = some (.int .i64 q.1.1) ∧ w.cell? ⟨b, 1, none⟩ = some (.int .i64 q.1.2) ∧ w.cell? ⟨b, 2, none⟩ = some (.int .i64 q.2.1) ∧ w.cell? ⟨b, 3, none⟩ = some (.int .i64 q.2.2)
theorem BoxQ.lt {w : World} {b : Nat} {q : Quad} (h : BoxQ w b q) : b < w.heap.size := by
  have := World.block_lt_of_cell? w _ h.1
  exact this
theorem BoxQ.grown {w w' : World} {b : Nat} {q : Quad} {r : Option Nat} (h : BoxQ w b q) (hg : w.grownBy w' r) (hr : r ≠ some b) : BoxQ w' b q := ⟨gcell hg h.1 hr, gcell hg h.2.1 hr, gcell hg h.2.2.1 hr, gcell hg h.2.2.2 hr⟩
theorem BoxQ.below {w w' : World} {b : Nat} {q : Quad} (h : BoxQ w b q) (hB : Below w.heap.size w w') : BoxQ w' b q := h.grown (bgrow hB none) (by simp)

theorem Grow.keptC {w w' : World} {B g : Nat} {v : Value} {xs : List Int} (h : Grow w B v xs) (hg : w.grownBy w' (some g)) (hlt : g < B) : Grow w' B v xs :=
  World.ownsRow.kept h hg (.inr (fun e => by have := (World.ownsRow.lt h g e).1; omega))

end Go.Proofs.YtjkgilenhoomoaaGreat

namespace Go.Proofs.YtjkgilenhoomoaaGreat
open Go.RowKit

/-- The first place of x, or -1. -/
def plcR (xs : List (Int × Int)) (x : Int × Int) : Int := idxQ (fun y => decide (y = x)) xs
def hasR (xs : List (Int × Int)) (x : Int × Int) : Bool := xs.any fun y => decide (y = x)
def hasI (xs : List Int) (x : Int) : Bool := xs.any fun y => decide (y = x)
theorem hasI_hit {xs : List Int} {x : Int} {k : Nat} (hk : k < xs.length) (h : nth xs k = x) : hasI xs x = true := by
  unfold hasI
  rw [List.any_eq_true]
  exact ⟨nth xs k, nth_mem hk, decide_eq_true h⟩
theorem hasI_none {xs : List Int} {x : Int} (h : ∀ j, j < xs.length → nth xs j ≠ x) : hasI xs x = false := by
  unfold hasI
  rw [List.any_eq_false]
  intro y hy
  obtain ⟨j, hj, rfl⟩ := List.getElem_of_mem hy
  rw [← nth_eq hj]
  simpa using h j hj



end Go.Proofs.YtjkgilenhoomoaaGreat

namespace Go.Proofs.YtjkgilenhoomoaaGreat
open Go.RowKit

def vsK (f : List Quad) (xs : List (Int × Int)) (k : Nat) : List (Int × Int) := (List.range k).map fun i => atZ f (nthR xs i)
def vsL (f : List Quad) (xs : List (Int × Int)) : List (Int × Int) := vsK f xs xs.length
theorem vsK_len (f : List Quad) (xs : List (Int × Int)) (k : Nat) : (vsK f xs k).length = k := by simp [vsK]
theorem vsK_step (f : List Quad) (xs : List (Int × Int)) (k : Nat) : vsK f xs (k + 1) = vsK f xs k ++ [atZ f (nthR xs k)] := by simp [vsK, List.range_succ]
def voK (f : List Quad) (xs : List (Int × Int)) (k : Nat) : Bool := (List.range k).all fun i => atOk f (nthR xs i)
theorem voK_step (f : List Quad) (xs : List (Int × Int)) (k : Nat) : voK f xs (k + 1) = (voK f xs k && atOk f (nthR xs k)) := by simp [voK, List.range_succ, List.all_append]
theorem voK_false {f : List Quad} {xs : List (Int × Int)} {k n : Nat} (h : k < n) (hb : atOk f (nthR xs k) = false) : voK f xs n = false := by
  unfold voK
  rw [List.all_eq_false]
  exact ⟨k, List.mem_range.2 h, by rw [hb]; simp⟩
theorem voK_true {f : List Quad} {xs : List (Int × Int)} {k n : Nat} (h : voK f xs n = true) (hk : k < n) : atOk f (nthR xs k) = true := by
  unfold voK at h
  rw [List.all_eq_true] at h
  exact h k (List.mem_range.2 hk)
/-- The places of the values. -/
def viK (f : List Quad) (xs : List (Int × Int)) (k : Nat) : List Int := (List.range k).map fun i => plcR xs (atZ f (nthR xs i))
theorem viK_len (f : List Quad) (xs : List (Int × Int)) (k : Nat) : (viK f xs k).length = k := by simp [viK]
theorem viK_step (f : List Quad) (xs : List (Int × Int)) (k : Nat) : viK f xs (k + 1) = viK f xs k ++ [plcR xs (atZ f (nthR xs k))] := by simp [viK, List.range_succ]
def vi_v (f : List Quad) (xs : List (Int × Int)) : List Int × Bool := if voK f xs xs.length = true then (viK f xs xs.length, true) else ([], false)


end Go.Proofs.YtjkgilenhoomoaaGreat

namespace Go.Proofs.YtjkgilenhoomoaaGreat
open Go.RowKit
set_option maxRecDepth 100000

theorem cells_on {w w' : World} {r : Option Nat} {b p q o : Nat} {u0 u1 u2 u3 t0 t1 t2 t3 v0 v1 : Value}
    (h : w.cell? ⟨b, o, none⟩ = some u0 ∧ w.cell? ⟨b, o + 1, none⟩ = some u1 ∧ w.cell? ⟨b, o + 2, none⟩ = some u2 ∧ w.cell? ⟨b, o + 3, none⟩ = some u3 ∧ w.cell? ⟨p, 0, none⟩ = some t0 ∧ w.cell? ⟨p, 1, none⟩ = some t1 ∧ w.cell? ⟨p, 2, none⟩ = some t2 ∧ w.cell? ⟨p, 3, none⟩ = some t3 ∧ w.cell? ⟨q, 0, none⟩ = some v0 ∧ w.cell? ⟨q, 1, none⟩ = some v1)
    (hg : w.grownBy w' r) (hb : r ≠ some b) (hp : r ≠ some p) (hq : r ≠ some q) :
    w'.cell? ⟨b, o, none⟩ = some u0 ∧ w'.cell? ⟨b, o + 1, none⟩ = some u1 ∧ w'.cell? ⟨b, o + 2, none⟩ = some u2 ∧ w'.cell? ⟨b, o + 3, none⟩ = some u3 ∧ w'.cell? ⟨p, 0, none⟩ = some t0 ∧ w'.cell? ⟨p, 1, none⟩ = some t1 ∧ w'.cell? ⟨p, 2, none⟩ = some t2 ∧ w'.cell? ⟨p, 3, none⟩ = some t3 ∧ w'.cell? ⟨q, 0, none⟩ = some v0 ∧ w'.cell? ⟨q, 1, none⟩ = some v1 := by
  obtain ⟨h0, h1, h2, h3, h4, h5, h6, h7, h8, h9⟩ := h
  exact ⟨gcell hg h0 hb, gcell hg h1 hb, gcell hg h2 hb, gcell hg h3 hb, gcell hg h4 hp, gcell hg h5 hp, gcell hg h6 hp, gcell hg h7 hp, gcell hg h8 hq, gcell hg h9 hq⟩
set_option linter.unusedSimpArgs false in
set_option maxRecDepth 10000 in
set_option maxHeartbeats 4000000 in
theorem before_any (g : Nat) (bd : Bool) (v : Value) (f : List Quad) (y : Int × Int) (w0 w : World) (hv : QuadV w0 v f) (hb0 : Below w0.heap.size w0 w) (hg0 : w0.heap.size ≤ g) (hf : MapP f) (hy : goodR y.1 y.2 = true) (hc : CalcAt w g bd) :
    Calls Tryz.prog 35 #[.pointer (some ⟨g, 0, none⟩), v, .agg #[.int .i64 y.1, .int .i64 y.2]] w (fun e w' => ∃ r, e = .returned r ∧ HasR w' w.heap.size r (befR f y) ∧ w.grownBy w' (some g) ∧ CalcAt w' g (bd || !(befOk f y f.length))) := by
  have hgc := fun i (hi : i < f.length) => hf.coord i hi
  have cc := fun i (h : i < f.length) w' => compare_any (nth4 f i).2.1 (nth4 f i).2.2 y.1 y.2 w' (good_bd (unitR_good (coordR_unit (hgc i h).2))) (good_bd hy)
  have hcE : ∀ i, cmpN (nth4 f i).2.1 (nth4 f i).2.2 y.1 y.2 = cY (nth4 f i) y := fun _ => rfl
  simp only [hcE] at cc
  have hcb := fun i => cmpN_bd (nth4 f i).2.1 (nth4 f i).2.2 y.1 y.2
  simp only [hcE] at hcb
  have cb := fun (i : Nat) (b : Bool) (w' : World) (h : i + 1 < f.length) (hx : crossB (nth4 f i) (nth4 f (i + 1)) y = true) hc => cback_any g b (nth4 f i) (nth4 f (i + 1)) y w' (hgc i (by omega)).1 (hgc i (by omega)).2 (hgc (i + 1) h).1 (hgc (i + 1) h).2 (hf.rise i h) hy (cross_slope (hgc i (by omega)).1 (hgc i (by omega)).2 (hgc (i + 1) h).1 (hgc (i + 1) h).2 (hf.rise i h) hx) hc
  have hst := befL_step f y
  have hsl := befL_len f y
  have hos := befOk_step f y
  have h00 : befL f y 0 = [] := rfl
  have ho0 : befOk f y 0 = true := rfl
  have hgd := befL_good hf (y := y) (Nat.le_refl f.length)
  have hso := fun ys hp hm => befR_sorted hf (y := y) (ys := ys) hp hm
  have hnil : befL f y f.length = [] → befR f y = [] := fun e => by unfold befR; rw [e]; rfl
  have hcr0 : crL f y 0 = [] := rfl
  have hok0 : crAt f y 0 = false := rfl
  have hcr1 : ∀ i, crL f y (i + 1) = if crossB (nth4 f i) (nth4 f (i + 1)) y = true then [backZ (nth4 f i) (nth4 f (i + 1)) y] else [] := fun i => by unfold crL crAt; simp
  have hok1 : ∀ i, crAt f y (i + 1) = crossB (nth4 f i) (nth4 f (i + 1)) y := fun i => by unfold crAt; simp
  have hptl := bpL_len f y
  have hpt : ∀ i, bpL f y i = if (nth4 f i).2 = y then [(nth4 f i).1] else [] := fun _ => rfl
  have hxB : ∀ i, crossB (nth4 f i) (nth4 f (i + 1)) y = decide (cY (nth4 f i) y * cY (nth4 f (i + 1)) y < 0) := fun _ => rfl
  obtain ⟨ao, cap, rfl, _, _, H⟩ := hv.form
  have hl12 := hf.len.2
  obtain ⟨n, hn⟩ : ∃ n, f.length = n := ⟨_, rfl⟩
  rw [hn] at H cc cb hgd hnil hl12 ⊢
  rw [hn] at hso
  clear hgc hcE
  generalize befL f y = BL at *
  generalize befOk f y = BO at *
  generalize befR f y = BR at *
  generalize crL f y = CL at *
  generalize bpL f y = PL at *
  generalize crAt f y = CA at *
  have hgl := hc.lt
  obtain ⟨w1, hw1⟩ : ∃ W, w.alloc (.cells #[.int .i64 y.1, .int .i64 y.2] 42) = W := ⟨_, rfl⟩
  have hB1 : Below w.heap.size w w1 := by rw [← hw1]; exact (Below.refl _ _).alloc (Nat.le_refl _) _
  have x0 : w1.cell? ⟨w.heap.size, 0, none⟩ = some (.int .i64 y.1) := by rw [← hw1]; simp [go_sem]
  have x1 : w1.cell? ⟨w.heap.size, 1, none⟩ = some (.int .i64 y.2) := by rw [← hw1]; simp [go_sem]
  have hs1 : w1.heap.size = w.heap.size + 1 := by rw [← hw1]; simp
  have hc1 := hc.below hB1
  have hb1 := hb0.trans (hB1.mono hb0.size)
  have hw0 := hb0.size
  clear hc
  have hptl' := Lib.hid hptl
  have cc' := Lib.hid cc
  have hcb' := Lib.hid hcb
  have cb' := Lib.hid cb
  have hst' := Lib.hid hst
  have hsl' := Lib.hid hsl
  have hos' := Lib.hid hos
  have h00' := Lib.hid h00
  have ho0' := Lib.hid ho0
  have hgd' := Lib.hid hgd
  have hso' := Lib.hid hso
  have hnil' := Lib.hid hnil
  have hcr0' := Lib.hid hcr0
  have hok0' := Lib.hid hok0
  have hcr1' := Lib.hid hcr1
  have hok1' := Lib.hid hok1
  have hpt' := Lib.hid hpt
  have hxB' := Lib.hid hxB
  have H' := Lib.hid H
  have hn' := Lib.hid hn
  have hw1' := Lib.hid hw1
  have x0' := Lib.hid x0
  have x1' := Lib.hid x1
  have hc1' := Lib.hid hc1
  have hy' := Lib.hid hy
  clear hptl cc hcb cb hst hsl hos h00 ho0 hgd hso hnil hcr0 hok0 hcr1 hok1 hpt hxB H hn hw1 x0 x1 hc1 hy
  go_enter Tryz.func35, Tryz.ntmps35
  go_wp2
  rw [hw1'.out]
  go_loopw [7, 12] (fun o i wr => ∃ k : Nat, k ≤ n ∧ i = .int .i64 k ∧ (BL k = [] → o = .slice none 0 0) ∧ GrowR wr w1.heap.size o (BL k) ∧ CalcAt wr g (bd || !(BO k)) ∧ w1.grownBy wr (some g)) (fun _ i _ => n - (intOf i).toNat)
  case atStart => exact ⟨0, Nat.zero_le _, rfl, fun _ => rfl, by rw [h00'.out]; exact GrowR.nil _ _, by rw [ho0'.out]; simpa using hc1'.out, World.grownBy.refl _ _⟩
  case round =>
    obtain ⟨k, hk, rfl, hnl, hg, hcr, hgr⟩ := hrel
    by_cases hlt : k < n
    · obtain ⟨b, off, rfl, p0, p1, p2, p3⟩ := H'.out k hlt
      have hbl : b < w0.heap.size := World.block_lt_of_cell? _ _ p0
      have hbr := quad_stays hv hb1 hg0 hgr
      have hbg : some b ≠ some g := fun e => by have := Option.some.inj e; omega
      replace p0 := bkeep hbr p0
      replace p1 := bkeep hbr p1
      replace p2 := bkeep hbr p2
      replace p3 := bkeep hbr p3
      have hpt1 := hpt'.out k
      have hst1 := hst'.out k
      have hos1 := hos'.out k
      have hlen := hsl'.out k
      have hcrk := fun j (e : k = j + 1) => (by rw [e]; exact hcr1'.out j : CL k = if crossB (nth4 f j) (nth4 f (j + 1)) y = true then [backZ (nth4 f j) (nth4 f (j + 1)) y] else [])
      have ccj := fun j (e : k = j + 1) w' => cc'.out j (by omega) w'
      have cck := fun w' => cc'.out k hlt w'
      have hcbk := hcb'.out k
      have g3 : (k : Int) < (n : Int) := by omega
      have g0 : (0 : Int) ≤ (k : Int) := by omega
      obtain ⟨Q, hQ⟩ : ∃ Q, nth4 f k = Q := ⟨_, rfl⟩
      rw [hQ] at p0 p1 p2 p3 hpt1 cck hcbk
      obtain ⟨⟨a0, a1⟩, ⟨a2, a3⟩⟩ := Q
      simp only at p0 p1 p2 p3 hpt1
      obtain ⟨w4, hw4⟩ : ∃ W, wr.alloc (.cells #[.int .i64 a0, .int .i64 a1, .int .i64 a2, .int .i64 a3] 48) = W := ⟨_, rfl⟩
      have hB4 : Below wr.heap.size wr w4 := by rw [← hw4]; exact (Below.refl _ _).alloc (Nat.le_refl _) _
      have z0 : w4.cell? ⟨wr.heap.size, 0, none⟩ = some (.int .i64 a0) := by rw [← hw4]; simp [go_sem]
      have z1 : w4.cell? ⟨wr.heap.size, 1, none⟩ = some (.int .i64 a1) := by rw [← hw4]; simp [go_sem]
      have z2 : w4.cell? ⟨wr.heap.size, 2, none⟩ = some (.int .i64 a2) := by rw [← hw4]; simp [go_sem]
      have z3 : w4.cell? ⟨wr.heap.size, 3, none⟩ = some (.int .i64 a3) := by rw [← hw4]; simp [go_sem]
      have hty : w4.heap[wr.heap.size]? = some (.cells #[.int .i64 a0, .int .i64 a1, .int .i64 a2, .int .i64 a3] 48) := by rw [← hw4]; exact heap_alloc_new _ _
      have hsr := hgr.size
      have hc4 := hcr.below hB4
      have hg4 := hg.below hB4
      have hgr4 := hgr.trans (bgrow hB4 (some g))
      have hs4 := hgr4.size
      obtain ⟨y0, y1⟩ := y
      have e0 := gcell hgr4 x0'.out (fun e => by have := Option.some.inj e; simp at this; omega)
      have e1 := gcell hgr4 x1'.out (fun e => by have := Option.some.inj e; simp at this; omega)
      simp only at e0 e1 hpt1
      have hlk : (BL k).length ≤ 1099511627776 := by omega
      have hgb := World.ownsRow.lt hg
      have hpl := hptl'.out k
      clear hcr hg hgr hB4
      have hty' := Lib.hid hty
      have hgb' := Lib.hid hgb
      have hpl' := Lib.hid hpl
      have hw4' := Lib.hid hw4
      have hnl' := Lib.hid hnl
      have hg4' := Lib.hid hg4
      have hc4' := Lib.hid hc4
      have hgr4' := Lib.hid hgr4
      have hpt1' := Lib.hid hpt1
      have hst1' := Lib.hid hst1
      have hos1' := Lib.hid hos1
      have hlen' := Lib.hid hlen
      have hcrk' := Lib.hid hcrk
      have ccj' := Lib.hid ccj
      have cck' := Lib.hid cck
      have hcbk' := Lib.hid hcbk
      have hQ' := Lib.hid hQ
      have hlk' := Lib.hid hlk
      clear hty hgb hpl hw4 hnl hg4 hc4 hgr4 hpt1 hst1 hos1 hlen hcrk ccj cck hcbk hQ hlk
      go_upto_region 5 with fail
      rw [hw4'.out]
      go_cut [16, 20] from 17 to 20 (fun _ s wx => wx = w4 ∧ s = .bool (decide ((a2, a3) = (y0, y1))))
      case first =>
        by_cases hq : a2 = y0
        · by_cases hq2 : a3 = y1
          · have hd9 : decide ((a2, a3) = (y0, y1)) = true := by simp [hq, hq2]
            go_wp2
            all_goals (go_meet; exact ⟨rfl, by rw [hd9]⟩)
          · have hd9 : decide ((a2, a3) = (y0, y1)) = false := by simp [hq2]
            go_wp2
            all_goals (go_meet; exact ⟨rfl, by rw [hd9]⟩)
        · have hd9 : decide ((a2, a3) = (y0, y1)) = false := by simp [hq]
          go_wp2
          all_goals (go_meet; exact ⟨rfl, by rw [hd9]⟩)
      case rest =>
      obtain ⟨hwe, rfl⟩ := hcut
      subst hwe
      go_upto_if 20 with fail
      go_cut [7, 20] from 21 to 25 (fun s _ wx => (∀ jj, s.ownBlock = some jj → jj ≠ wr.heap.size) ∧ (BL k ++ PL k = [] → s = .slice none 0 0) ∧ GrowR wx w1.heap.size s (BL k ++ PL k) ∧ CalcAt wx g (bd || !(BO k)) ∧ w1.grownBy wx (some g) ∧ wx.cell? ⟨wr.heap.size, 0, none⟩ = some (.int .i64 a0) ∧ wx.cell? ⟨wr.heap.size, 1, none⟩ = some (.int .i64 a1) ∧ wx.cell? ⟨wr.heap.size, 2, none⟩ = some (.int .i64 a2) ∧ wx.cell? ⟨wr.heap.size, 3, none⟩ = some (.int .i64 a3))
      case first =>
        by_cases hq : (a2, a3) = (y0, y1)
        · have hPL : PL k = [(a0, a1)] := by rw [hpt1'.out, if_pos hq]
          have hd9 : decide ((a2, a3) = (y0, y1)) = true := decide_eq_true hq
          rw [hd9]
          have hPL' := Lib.hid hPL
          have hq' := Lib.hid hq
          clear hPL hq
          go_wp2_with (at_builtin; refine wpList_append_rat rfl _ _ rfl w1.heap.size u7 (BL k) a0 a1 1 rfl rfl hg4'.out hlk'.out hs4 ?_)
          intro v' w' hown hgrow
          have hgr7 : w1.grownBy w' (some g) := hgr4'.out.andThen hgrow (fun j hj => .inl (hgb'.out j hj).1)
          have hc7 := hc4'.out.grown hgrow (fun e => by have := (hgb'.out g e).1; omega)
          have hob : ∀ jj, v'.ownBlock = some jj → jj ≠ wr.heap.size := by
            intro jj hj e
            have hty2 := (hgrow.block wr.heap.size (by have := World.block_lt_of_cell? _ _ z0; exact this) (fun e => by have := (hgb'.out _ e.symm).2; simp at this)).trans hty'.out
            rcases hown.2 with ⟨hv0, _⟩ | ⟨g9, c9, cur, hv9, _, hh, _⟩
            · rw [hv0] at hj; simp [Value.ownBlock] at hj
            · rw [hv9] at hj
              simp [Value.ownBlock] at hj
              rw [hj, e, hty2] at hh
              simp at hh
          have hown' := Lib.hid hown
          have hgr7' := Lib.hid hgr7
          have hc7' := Lib.hid hc7
          have hob' := Lib.hid hob
          clear hown hgr7 hc7 hob
          have hzk := fun (o : Nat) (u : Value) (h : wc.cell? ⟨wr.heap.size, o, none⟩ = some u) => gcell hgrow h (fun e => by have := (hgb'.out _ e).2; simp at this)
          have hzk' := Lib.hid hzk
          clear hzk
          go_wp2
          go_meet
          exact ⟨hob'.out, fun h => absurd h (by rw [hPL'.out]; simp), by rw [hPL'.out, hs1]; exact hown'.out, hc7'.out, hgr7'.out, hzk'.out 0 _ z0, hzk'.out 1 _ z1, hzk'.out 2 _ z2, hzk'.out 3 _ z3⟩
        · have hPL : PL k = [] := by rw [hpt1'.out, if_neg hq]
          have hd9 : decide ((a2, a3) = (y0, y1)) = false := decide_eq_false hq
          rw [hd9]
          have hPL' := Lib.hid hPL
          have hq' := Lib.hid hq
          have z0' := Lib.hid z0
          have z1' := Lib.hid z1
          have z2' := Lib.hid z2
          have z3' := Lib.hid z3
          clear hPL hq z0 z1 z2 z3
          go_wp2
          go_meet
          rw [hPL'.out, List.append_nil]
          exact ⟨fun jj hj e => by have := (hgb'.out jj hj).2; omega, hnl'.out, hg4'.out, hc4'.out, hgr4'.out, z0'.out, z1'.out, z2'.out, z3'.out⟩
      case rest =>
      obtain ⟨hob, hnl2, hg5, hc5, hgr5, t0, t1, t2, t3⟩ := hcut
      have hlp : (BL k ++ PL k).length ≤ 1099511627776 := by rw [List.length_append]; have := hlen'.out; have := hpl'.out; omega
      have hs5 := hgr5.size
      clear hg4' hc4' hgr4' hnl' z0 z1 z2 z3 hw4' hpt1' hlen' hlk'
      by_cases hk0 : k = 0
      · subst hk0
        have hBL : BL (0 + 1) = BL 0 ++ PL 0 := by rw [hst1'.out, hcr0'.out, List.append_nil]
        have hBO : BO (0 + 1) = BO 0 := by rw [hos1'.out, hok0'.out]; simp
        have hnl2' := Lib.hid hnl2
        have hg5' := Lib.hid hg5
        have hc5' := Lib.hid hc5
        have hgr5' := Lib.hid hgr5
        have hBL' := Lib.hid hBL
        have hBO' := Lib.hid hBO
        clear hnl2 hg5 hc5 hgr5 hBL hBO
        go_wp2_with fail
        refine wp_region_held_drew (S := (fun w' => w'.cell? ⟨wr.heap.size, 2, none⟩ = some (.int .i64 a2))) (by kernel_rfl) (by (try dsimp only); exact t2) (fun hHeld => ?_)
        refine ly_q 0 (v := ?_) hHeld ?_
        try simp only [Act.put, lyA, lyB, lyC]
        refine ly_q 1 (v := .bool false) (hy := by intro wS hSw; (try dsimp only at hSw); go_simp; all_goals (simp)) hHeld ?_
        try simp only [Act.put, lyA, lyB, lyC]
        refine ly_q 2 (v := ?_) hHeld ?_
        try simp only [Act.put, lyA, lyB, lyC]
        refine ly_off 3 hHeld ?_
        try simp only [Act.put, lyA, lyB, lyC]
        refine ly_off 4 hHeld ?_
        try simp only [Act.put, lyA, lyB, lyC]
        refine ly_off 5 hHeld ?_
        try simp only [Act.put, lyA, lyB, lyC]
        refine ly_off 6 hHeld ?_
        try simp only [Act.put, lyA, lyB, lyC]
        refine ly_off 7 hHeld ?_
        try simp only [Act.put, lyA, lyB, lyC]
        refine ly_off 8 hHeld ?_
        try simp only [Act.put, lyA, lyB, lyC]
        refine ly_off 9 hHeld ?_
        try simp only [Act.put, lyA, lyB, lyC]
        refine ly_off 10 hHeld ?_
        try simp only [Act.put, lyA, lyB, lyC]
        refine ly_off 11 hHeld ?_
        try simp only [Act.put, lyA, lyB, lyC]
        refine ly_off 12 hHeld ?_
        try simp only [Act.put, lyA, lyB, lyC]
        refine ly_off 13 hHeld ?_
        try simp only [Act.put, lyA, lyB, lyC]
        refine ly_off 14 hHeld ?_
        try simp only [Act.put, lyA, lyB, lyC]
        refine ly_off 15 hHeld ?_
        try simp only [Act.put, lyA, lyB, lyC]
        refine ly_off 16 hHeld ?_
        try simp only [Act.put, lyA, lyB, lyC]
        refine ly_q 17 (v := ?_) hHeld ?_
        try simp only [Act.put, lyA, lyB, lyC]
        refine wpAnyH_done (by kernel_rfl) ?_ _
        clear hHeld
        go_wp2
        go_roundw
        case rel => exact ⟨0 + 1, by omega, by go_num, by rw [hBL'.out]; exact hnl2'.out, by rw [hBL'.out]; exact hg5'.out, by rw [hBO'.out]; exact hc5'.out.drew, gdrew hgr5'.out⟩
        case measure => simp [intOf]; omega
      · obtain ⟨j, rfl⟩ : ∃ j, k = j + 1 := ⟨k - 1, by omega⟩
        obtain ⟨_, _, e', q0, q1, q2, q3⟩ := H'.out j (by omega)
        cases e'
        have hne : (some g : Option Nat) ≠ some b := fun e => hbg e.symm
        have r0 := gcell hgr5 (bkeep hb1 q0) hne
        have r1 := gcell hgr5 (bkeep hb1 q1) hne
        have r2 := gcell hgr5 (bkeep hb1 q2) hne
        have r3 := gcell hgr5 (bkeep hb1 q3) hne
        have v0 := gcell hgr5 x0'.out (fun e => by have := Option.some.inj e; simp at this; omega)
        have v1 := gcell hgr5 x1'.out (fun e => by have := Option.some.inj e; simp at this; omega)
        have c1 := ccj'.out j rfl
        have c2 := cck'.out
        have hxj := hxB'.out j
        have hcbj := hcb'.out j
        have hcbk := hcbk'.out
        have hCL := hcrk'.out j rfl
        have hos2 := hos1'.out
        have cbj := fun b' w' hx hc => cb'.out j b' w' hlt hx hc
        rw [hok1'.out j, show j + 1 - 1 = j from rfl] at hos2
        rw [hQ'.out] at hxj hCL cbj hos2
        clear q0 q1 q2 q3 e0 e1 p0 p1 p2 p3
        obtain ⟨P, hP⟩ : ∃ P, nth4 f j = P := ⟨_, rfl⟩
        rw [hP] at r0 r1 r2 r3 c1 hxj hcbj hCL cbj hos2
        obtain ⟨⟨b0, b1⟩, ⟨b2, b3⟩⟩ := P
        simp only at r0 r1 r2 r3 c1 c2 cbj v0 v1
        generalize crossB ((b0, b1), (b2, b3)) ((a0, a1), (a2, a3)) (y0, y1) = X at hxj hCL cbj hos2
        generalize cY ((b0, b1), (b2, b3)) (y0, y1) = C1 at c1 hxj hcbj
        generalize cY ((a0, a1), (a2, a3)) (y0, y1) = C2 at c2 hxj hcbk
        have hM : -1 ≤ C1 * C2 ∧ C1 * C2 ≤ 1 := by
          rcases (by omega : C1 = -1 ∨ C1 = 0 ∨ C1 = 1) with rfl | rfl | rfl <;> omega
        have hwm : IntKind.i64.wrap (C1 * C2) = C1 * C2 := by rw [IntKind.wrap_i64]; omega
        have hjw : IntKind.i64.wrap (((j + 1 : Nat) : Int) - 1) = (j : Int) := by rw [IntKind.wrap_i64]; omega
        have hj0 : (0 : Int) < ((j + 1 : Nat) : Int) := by omega
        have hj1 : (0 : Int) ≤ (j : Int) := by omega
        have hj2 : (j : Int) < (n : Int) := by omega
        have hj3 : j < n := by omega
        have hd : Below wc.heap.size wc wc.drew := (Below.refl _ _).drew
        have hjw2 : IntKind.i64.wrap (j : Int) = (j : Int) := by rw [IntKind.wrap_i64]; omega
        have at' : ∀ w' : World, Below wc.heap.size wc w' → w'.cell? ⟨b, off + j * 4, none⟩ = some (.int .i64 b0) ∧ w'.cell? ⟨b, off + j * 4 + 1, none⟩ = some (.int .i64 b1) ∧ w'.cell? ⟨b, off + j * 4 + 2, none⟩ = some (.int .i64 b2) ∧ w'.cell? ⟨b, off + j * 4 + 3, none⟩ = some (.int .i64 b3) ∧ w'.cell? ⟨wr.heap.size, 0, none⟩ = some (.int .i64 a0) ∧ w'.cell? ⟨wr.heap.size, 1, none⟩ = some (.int .i64 a1) ∧ w'.cell? ⟨wr.heap.size, 2, none⟩ = some (.int .i64 a2) ∧ w'.cell? ⟨wr.heap.size, 3, none⟩ = some (.int .i64 a3) ∧ w'.cell? ⟨w.heap.size, 0, none⟩ = some (.int .i64 y0) ∧ w'.cell? ⟨w.heap.size, 1, none⟩ = some (.int .i64 y1) := fun w' h => ⟨bkeep h r0, bkeep h r1, bkeep h r2, bkeep h r3, bkeep h t0, bkeep h t1, bkeep h t2, bkeep h t3, bkeep h v0, bkeep h v1⟩
        clear r0 r1 r2 r3 t0 t1 t2 t3 v0 v1
        have at'' := Lib.hid at'
        clear at'
        cases X
        · have hMn : ¬ C1 * C2 < 0 := by simpa using hxj.symm
          have hBL : BL (j + 1 + 1) = BL (j + 1) ++ PL (j + 1) := by rw [hst1'.out, hCL]; simp
          have hBO : BO (j + 1 + 1) = BO (j + 1) := by rw [hos2]; simp
          clear hxj hCL hos2 cbj
          have hnl2' := Lib.hid hnl2
          have hg5' := Lib.hid hg5
          have hc5' := Lib.hid hc5
          have hgr5' := Lib.hid hgr5
          have hBL' := Lib.hid hBL
          have hBO' := Lib.hid hBO
          have c1' := Lib.hid c1
          have c2' := Lib.hid c2
          clear hnl2 hg5 hc5 hgr5 hBL hBO c1 c2
          go_wp2_with fail
          refine wp_region_held_drew (S := (fun w' => w'.cell? ⟨b, off + j * 4, none⟩ = some (.int .i64 b0) ∧ w'.cell? ⟨b, off + j * 4 + 1, none⟩ = some (.int .i64 b1) ∧ w'.cell? ⟨b, off + j * 4 + 2, none⟩ = some (.int .i64 b2) ∧ w'.cell? ⟨b, off + j * 4 + 3, none⟩ = some (.int .i64 b3) ∧ w'.cell? ⟨wr.heap.size, 0, none⟩ = some (.int .i64 a0) ∧ w'.cell? ⟨wr.heap.size, 1, none⟩ = some (.int .i64 a1) ∧ w'.cell? ⟨wr.heap.size, 2, none⟩ = some (.int .i64 a2) ∧ w'.cell? ⟨wr.heap.size, 3, none⟩ = some (.int .i64 a3) ∧ w'.cell? ⟨w.heap.size, 0, none⟩ = some (.int .i64 y0) ∧ w'.cell? ⟨w.heap.size, 1, none⟩ = some (.int .i64 y1))) (by kernel_rfl) (by (try dsimp only); (first | exact at''.out _ hd | exact at''.out _ hd5 | exact at''.out _ hd6)) (fun hHeld => ?_)
          refine ly_q 0 (v := ?_) hHeld ?_
          try simp only [Act.put, lyA, lyB, lyC]
          refine ly_q 1 (v := .bool true) (hy := by intro wS hSw; (try dsimp only at hSw); go_simp; all_goals (simp [hj0])) hHeld ?_
          try simp only [Act.put, lyA, lyB, lyC]
          refine ly_q 2 (v := ?_) hHeld ?_
          try simp only [Act.put, lyA, lyB, lyC]
          refine ly_q 3 (v := ?_) hHeld ?_
          try simp only [Act.put, lyA, lyB, lyC]
          refine ly_q 4 (v := ?_) hHeld ?_
          try simp only [Act.put, lyA, lyB, lyC]
          refine ly_q 5 (v := ?_) hHeld ?_
          try simp only [Act.put, lyA, lyB, lyC]
          refine ly_q 6 (v := ?_) hHeld ?_
          try simp only [Act.put, lyA, lyB, lyC]
          refine ly_q 7 (v := ?_) hHeld ?_
          try simp only [Act.put, lyA, lyB, lyC]
          refine ly_q 8 (v := ?_) hHeld ?_
          try simp only [Act.put, lyA, lyB, lyC]
          refine ly_q 9 (v := ?_) hHeld ?_
          try simp only [Act.put, lyA, lyB, lyC]
          refine ly_q 11 (v := ?_) hHeld ?_
          try simp only [Act.put, lyA, lyB, lyC]
          refine ly_q 12 (v := ?_) hHeld ?_
          try simp only [Act.put, lyA, lyB, lyC]
          refine ly_q 13 (v := ?_) hHeld ?_
          try simp only [Act.put, lyA, lyB, lyC]
          refine ly_a 10 (fun KK hKK => ?_)
          go_simp
          refine (c1'.out _).mono ?_
          rintro e w5 ⟨rfl, hB5⟩
          have hd5 := hd.trans (hB5.mono hd.size)
          try dsimp only
          refine hKK.out _ _ (by (try dsimp only); (first | exact at''.out _ hd | exact at''.out _ hd5 | exact at''.out _ hd6)) (fun hHeld => ?_)
          clear hKK KK
          try simp only [Act.put, lyA, lyB, lyC]
          refine ly_a 14 (fun KK hKK => ?_)
          go_simp
          refine (c2'.out _).mono ?_
          rintro e w6 ⟨rfl, hB6⟩
          have hd6 := hd5.trans (hB6.mono hd5.size)
          try dsimp only
          refine hKK.out _ _ (by (try dsimp only); (first | exact at''.out _ hd | exact at''.out _ hd5 | exact at''.out _ hd6)) (fun hHeld => ?_)
          clear hKK KK
          try simp only [Act.put, lyA, lyB, lyC]
          refine ly_q 15 (v := ?_) hHeld ?_
          try simp only [Act.put, lyA, lyB, lyC]
          refine ly_q 16 (v := .bool false) (hy := by intro wS hSw; (try dsimp only at hSw); go_simp; all_goals (simp [hwm, hMn])) hHeld ?_
          try simp only [Act.put, lyA, lyB, lyC]
          refine ly_q 17 (v := ?_) hHeld ?_
          try simp only [Act.put, lyA, lyB, lyC]
          refine wpAnyH_done (by kernel_rfl) ?_ _
          clear hHeld
          have hg9 := hg5'.out.below hd6
          have hc9 := hc5'.out.below hd6
          have hgr9 := hgr5'.out.trans (bgrow hd6 (some g))
          have hg9' := Lib.hid hg9
          have hc9' := Lib.hid hc9
          have hgr9' := Lib.hid hgr9
          clear hg9 hc9 hgr9
          go_wp2
          go_roundw
          case rel => exact ⟨j + 1 + 1, by omega, by go_num, by rw [hBL'.out]; exact hnl2'.out, by rw [hBL'.out]; exact hg9'.out, by rw [hBO'.out]; exact hc9'.out, hgr9'.out⟩
          case measure => simp [intOf]; omega
        · have hMn : C1 * C2 < 0 := by simpa using hxj.symm
          rw [if_pos rfl] at hCL
          obtain ⟨Z, hZ⟩ : ∃ Z, backZ ((b0, b1), (b2, b3)) ((a0, a1), (a2, a3)) (y0, y1) = Z := ⟨_, rfl⟩
          rw [hZ] at hCL
          have hBL : BL (j + 1 + 1) = BL (j + 1) ++ PL (j + 1) ++ [Z] := by rw [hst1'.out, hCL, List.append_assoc]
          have cb2 := fun w' hc => cbj (bd || !(BO (j + 1))) w' rfl hc
          generalize backOk ((b0, b1), (b2, b3)) ((a0, a1), (a2, a3)) (y0, y1) = OK at hos2 cb2
          have hfl : (bd || !(BO (j + 1)) || !OK) = (bd || !(BO (j + 1 + 1))) := by rw [hos2]; cases bd <;> cases BO (j + 1) <;> cases OK <;> rfl
          rw [hfl, hZ] at cb2
          obtain ⟨l0, l1⟩ := Z
          clear hxj hCL hos2 cbj hZ hfl hnl2
          have hob' := Lib.hid hob
          have hg5' := Lib.hid hg5
          have hc5' := Lib.hid hc5
          have hgr5' := Lib.hid hgr5
          have hBL' := Lib.hid hBL
          have c1' := Lib.hid c1
          have c2' := Lib.hid c2
          have cb2' := Lib.hid cb2
          have hlp' := Lib.hid hlp
          clear hob hg5 hc5 hgr5 hBL c1 c2 cb2 hlp
          go_wp2_with fail
          refine wp_region_held_drew (S := (fun w' => w'.cell? ⟨b, off + j * 4, none⟩ = some (.int .i64 b0) ∧ w'.cell? ⟨b, off + j * 4 + 1, none⟩ = some (.int .i64 b1) ∧ w'.cell? ⟨b, off + j * 4 + 2, none⟩ = some (.int .i64 b2) ∧ w'.cell? ⟨b, off + j * 4 + 3, none⟩ = some (.int .i64 b3) ∧ w'.cell? ⟨wr.heap.size, 0, none⟩ = some (.int .i64 a0) ∧ w'.cell? ⟨wr.heap.size, 1, none⟩ = some (.int .i64 a1) ∧ w'.cell? ⟨wr.heap.size, 2, none⟩ = some (.int .i64 a2) ∧ w'.cell? ⟨wr.heap.size, 3, none⟩ = some (.int .i64 a3) ∧ w'.cell? ⟨w.heap.size, 0, none⟩ = some (.int .i64 y0) ∧ w'.cell? ⟨w.heap.size, 1, none⟩ = some (.int .i64 y1))) (by kernel_rfl) (by (try dsimp only); (first | exact at''.out _ hd | exact at''.out _ hd5 | exact at''.out _ hd6)) (fun hHeld => ?_)
          refine ly_q 0 (v := ?_) hHeld ?_
          try simp only [Act.put, lyA, lyB, lyC]
          refine ly_q 1 (v := .bool true) (hy := by intro wS hSw; (try dsimp only at hSw); go_simp; all_goals (simp [hj0])) hHeld ?_
          try simp only [Act.put, lyA, lyB, lyC]
          refine ly_q 2 (v := ?_) hHeld ?_
          try simp only [Act.put, lyA, lyB, lyC]
          refine ly_q 3 (v := ?_) hHeld ?_
          try simp only [Act.put, lyA, lyB, lyC]
          refine ly_q 4 (v := ?_) hHeld ?_
          try simp only [Act.put, lyA, lyB, lyC]
          refine ly_q 5 (v := ?_) hHeld ?_
          try simp only [Act.put, lyA, lyB, lyC]
          refine ly_q 6 (v := ?_) hHeld ?_
          try simp only [Act.put, lyA, lyB, lyC]
          refine ly_q 7 (v := ?_) hHeld ?_
          try simp only [Act.put, lyA, lyB, lyC]
          refine ly_q 8 (v := ?_) hHeld ?_
          try simp only [Act.put, lyA, lyB, lyC]
          refine ly_q 9 (v := ?_) hHeld ?_
          try simp only [Act.put, lyA, lyB, lyC]
          refine ly_q 11 (v := ?_) hHeld ?_
          try simp only [Act.put, lyA, lyB, lyC]
          refine ly_q 12 (v := ?_) hHeld ?_
          try simp only [Act.put, lyA, lyB, lyC]
          refine ly_q 13 (v := ?_) hHeld ?_
          try simp only [Act.put, lyA, lyB, lyC]
          refine ly_a 10 (fun KK hKK => ?_)
          go_simp
          refine (c1'.out _).mono ?_
          rintro e w5 ⟨rfl, hB5⟩
          have hd5 := hd.trans (hB5.mono hd.size)
          try dsimp only
          refine hKK.out _ _ (by (try dsimp only); (first | exact at''.out _ hd | exact at''.out _ hd5 | exact at''.out _ hd6)) (fun hHeld => ?_)
          clear hKK KK
          try simp only [Act.put, lyA, lyB, lyC]
          refine ly_a 14 (fun KK hKK => ?_)
          go_simp
          refine (c2'.out _).mono ?_
          rintro e w6 ⟨rfl, hB6⟩
          have hd6 := hd5.trans (hB6.mono hd5.size)
          try dsimp only
          refine hKK.out _ _ (by (try dsimp only); (first | exact at''.out _ hd | exact at''.out _ hd5 | exact at''.out _ hd6)) (fun hHeld => ?_)
          clear hKK KK
          try simp only [Act.put, lyA, lyB, lyC]
          refine ly_q 15 (v := ?_) hHeld ?_
          try simp only [Act.put, lyA, lyB, lyC]
          refine ly_q 16 (v := .bool true) (hy := by intro wS hSw; (try dsimp only at hSw); go_simp; all_goals (simp [hwm, hMn])) hHeld ?_
          try simp only [Act.put, lyA, lyB, lyC]
          refine ly_q 17 (v := ?_) hHeld ?_
          try simp only [Act.put, lyA, lyB, lyC]
          refine wpAnyH_done (by kernel_rfl) ?_ _
          clear hHeld
          have hcd := (hc5'.out.below hd6).drew
          have hg7 := hg5'.out.below hd6.drew
          have hgr7 := gdrew (hgr5'.out.trans (bgrow hd6 (some g)))
          have hb7 : b ≠ g := by omega
          have ht7 : wr.heap.size ≠ g := by omega
          have hw7 : w.heap.size ≠ g := by omega
          have at2 : ∀ w', w6.drew.grownBy w' (some g) → w'.cell? ⟨b, off + j * 4, none⟩ = some (.int .i64 b0) ∧ w'.cell? ⟨b, off + j * 4 + 1, none⟩ = some (.int .i64 b1) ∧ w'.cell? ⟨b, off + j * 4 + 2, none⟩ = some (.int .i64 b2) ∧ w'.cell? ⟨b, off + j * 4 + 3, none⟩ = some (.int .i64 b3) ∧ w'.cell? ⟨wr.heap.size, 0, none⟩ = some (.int .i64 a0) ∧ w'.cell? ⟨wr.heap.size, 1, none⟩ = some (.int .i64 a1) ∧ w'.cell? ⟨wr.heap.size, 2, none⟩ = some (.int .i64 a2) ∧ w'.cell? ⟨wr.heap.size, 3, none⟩ = some (.int .i64 a3) ∧ w'.cell? ⟨w.heap.size, 0, none⟩ = some (.int .i64 y0) ∧ w'.cell? ⟨w.heap.size, 1, none⟩ = some (.int .i64 y1) := fun w' h => by
            obtain ⟨r0, r1, r2, r3, t0, t1, t2, t3, v0, v1⟩ := at''.out _ hd6.drew
            have nb : (some g : Option Nat) ≠ some b := fun e => hb7 (Option.some.inj e).symm
            have nt : (some g : Option Nat) ≠ some wr.heap.size := fun e => ht7 (Option.some.inj e).symm
            have nw : (some g : Option Nat) ≠ some w.heap.size := fun e => hw7 (Option.some.inj e).symm
            exact ⟨gcell h r0 nb, gcell h r1 nb, gcell h r2 nb, gcell h r3 nb, gcell h t0 nt, gcell h t1 nt, gcell h t2 nt, gcell h t3 nt, gcell h v0 nw, gcell h v1 nw⟩
          have hog := World.ownsRow.lt hg5'.out
          have hs6 := hgr7.size
          have at2' := Lib.hid at2
          have hg7' := Lib.hid hg7
          have hgr7' := Lib.hid hgr7
          have hog' := Lib.hid hog
          clear at2 hg7 hgr7 hog
          go_wp2_with fail
          refine wp_region_held_drew (S := (fun w' => w'.cell? ⟨b, off + j * 4, none⟩ = some (.int .i64 b0) ∧ w'.cell? ⟨b, off + j * 4 + 1, none⟩ = some (.int .i64 b1) ∧ w'.cell? ⟨b, off + j * 4 + 2, none⟩ = some (.int .i64 b2) ∧ w'.cell? ⟨b, off + j * 4 + 3, none⟩ = some (.int .i64 b3) ∧ w'.cell? ⟨wr.heap.size, 0, none⟩ = some (.int .i64 a0) ∧ w'.cell? ⟨wr.heap.size, 1, none⟩ = some (.int .i64 a1) ∧ w'.cell? ⟨wr.heap.size, 2, none⟩ = some (.int .i64 a2) ∧ w'.cell? ⟨wr.heap.size, 3, none⟩ = some (.int .i64 a3) ∧ w'.cell? ⟨w.heap.size, 0, none⟩ = some (.int .i64 y0) ∧ w'.cell? ⟨w.heap.size, 1, none⟩ = some (.int .i64 y1))) (by kernel_rfl) (by (try dsimp only); (first | exact at2'.out _ (World.grownBy.refl _ _) | exact at2'.out _ hgA | exact at2'.out _ hgB | exact hcells)) (fun hHeld => ?_)
          refine ly_q 0 (v := ?_) hHeld ?_
          try simp only [Act.put, lyA, lyB, lyC]
          refine ly_q 1 (v := ?_) hHeld ?_
          try simp only [Act.put, lyA, lyB, lyC]
          refine ly_q 2 (v := ?_) hHeld ?_
          try simp only [Act.put, lyA, lyB, lyC]
          refine ly_q 3 (v := ?_) hHeld ?_
          try simp only [Act.put, lyA, lyB, lyC]
          refine ly_q 4 (v := ?_) hHeld ?_
          try simp only [Act.put, lyA, lyB, lyC]
          refine ly_q 5 (v := ?_) hHeld ?_
          try simp only [Act.put, lyA, lyB, lyC]
          refine ly_q 6 (v := ?_) hHeld ?_
          try simp only [Act.put, lyA, lyB, lyC]
          refine ly_q 7 (v := ?_) hHeld ?_
          try simp only [Act.put, lyA, lyB, lyC]
          refine ly_q 8 (v := ?_) hHeld ?_
          try simp only [Act.put, lyA, lyB, lyC]
          refine ly_a 9 (fun KK hKK => ?_)
          go_simp
          refine (cb2'.out _ hcd).mono ?_
          rintro e w7 ⟨rfl, hgA, hcA⟩
          have hs7 := Nat.le_trans hs6 hgA.size
          have hg8 := GrowR.kept hg7'.out hgA (by rw [hs1]; exact Nat.lt_succ_of_lt hgl)
          try dsimp only
          refine hKK.out _ _ (by (try dsimp only); (first | exact at2'.out _ (World.grownBy.refl _ _) | exact at2'.out _ hgA | exact at2'.out _ hgB | exact hcells)) (fun hHeld => ?_)
          clear hKK KK
          try simp only [Act.put, lyA, lyB, lyC]
          refine ly_a 10 (fun KK hKK => ?_)
          go_simp
          have hgB := hgA.trans (bgrow ((Below.refl _ _).alloc (Nat.le_refl _) (.cells #[.int .i64 l0, .int .i64 l1] 42)) (some g))
          try dsimp only
          refine hKK.out _ _ (by (try dsimp only); (first | exact at2'.out _ (World.grownBy.refl _ _) | exact at2'.out _ hgA | exact at2'.out _ hgB | exact hcells)) (fun hHeld => ?_)
          clear hKK KK
          try simp only [Act.put, lyA, lyB, lyC]
          refine ly_a 11 (fun KK hKK => ?_)
          refine wp_append_rat _ _ rfl w1.heap.size u7 (BL (j + 1) ++ PL (j + 1)) l0 l1 _ rfl rfl hg8 hlp'.out hs7 ?_
          intro v9 w9 hg9 hgrow9
          have hcells := cells_on (at2'.out _ hgA) hgrow9 (fun e => by have := (hog'.out _ e).1; omega) (fun e => hob'.out _ e rfl) (fun e => by have := (hog'.out _ e).1; omega)
          try dsimp only
          refine hKK.out _ _ (by (try dsimp only); (first | exact at2'.out _ (World.grownBy.refl _ _) | exact at2'.out _ hgA | exact at2'.out _ hgB | exact hcells)) (fun hHeld => ?_)
          clear hKK KK
          try simp only [Act.put, lyA, lyB, lyC]
          refine ly_q 12 (v := ?_) hHeld ?_
          try simp only [Act.put, lyA, lyB, lyC]
          refine wpAnyH_done (by kernel_rfl) ?_ _
          clear hHeld hcells
          have hgrf : w1.grownBy w9 (some g) := (hgr7'.out.trans hgA).andThen hgrow9 (fun jj hj => .inl (hog'.out jj hj).1)
          have hcf := hcA.grown hgrow9 (fun e => by have := (hog'.out g e).1; omega)
          rw [← hBL'.out] at hg9
          have hne9 : BL (j + 1 + 1) = [] → v9 = .slice none 0 0 := fun h => absurd h (by rw [hBL'.out]; simp)
          have hg9' := Lib.hid hg9
          have hgrf' := Lib.hid hgrf
          have hcf' := Lib.hid hcf
          have hne9' := Lib.hid hne9
          clear hg9 hgrf hcf hne9
          go_wp2
          go_roundw
          case rel => exact ⟨j + 1 + 1, by omega, by go_num, hne9'.out, hg9'.out, hcf'.out, hgrf'.out⟩
          case measure => simp [intOf]; omega
    · obtain rfl : k = n := by omega
      by_cases he : BL k = []
      · have ho := hnl he
        subst ho
        have hBR := hnil'.out he
        clear hg
        have hgr' := Lib.hid hgr
        have hcr' := Lib.hid hcr
        clear hgr hcr
        go_wp2_with fail
        refine (rising_nil _).mono ?_
        rintro e w5 ⟨rfl, hB5⟩
        have hgr5 := hgr'.out.trans (bgrow hB5 (some g))
        have hc5 := hcr'.out.below hB5
        have hgf := (bgrow hB1 (some g)).trans hgr5
        have hgf' := Lib.hid hgf
        have hc5' := Lib.hid hc5
        have hBR' := Lib.hid hBR
        clear hgf hc5 hBR
        go_wp2
        go_ret
        exact ⟨_, rfl, by rw [hBR'.out]; exact HasR.nil _ _, hgf'.out, hc5'.out⟩
      · have hn0 : 0 < (BL k).length := List.length_pos_iff.2 he
        obtain ⟨gg, gc, rfl, hrow⟩ := GrowF.form hg hn0
        have hlt2 := hrow.lt
        have cr := rising_row w1.heap.size gg gc (BL k) wr hg hn0 (fun x hx => hgd'.out x hx) (by have := hsl'.out k; omega)
        clear hg hrow hnl he
        have cr' := Lib.hid cr
        have hgr' := Lib.hid hgr
        have hcr' := Lib.hid hcr
        clear cr hgr hcr
        go_wp2_with fail
        refine (cr'.out).mono ?_
        rintro e w5 ⟨v', rfl, ⟨ys, hm, hp, ho, rfl⟩, hup⟩
        have hBR := hso'.out ys hp hm
        have hgr5 : w1.grownBy w5 (some g) := hgr'.out.andThen hup (fun jj hj => .inl (by have := Option.some.inj hj; omega))
        have hc5 := hcr'.out.grown hup (fun e => by have := Option.some.inj e; omega)
        have hgf := (bgrow hB1 (some g)).trans hgr5
        rw [hBR] at ho
        have hne : 0 < BR.length := by
          obtain ⟨x, hx⟩ := List.exists_mem_of_length_pos hn0
          rw [← hBR]
          exact List.length_pos_of_mem ((cmpL_mem ys x).2 ((hm x).2 hx))
        have ho2 : HasR w5 w.heap.size _ BR := ⟨fun h => absurd hne (by rw [h]; decide), (GrowR.ofOwn ho hne).mono hB1.size⟩
        clear ho hm hp hup
        have hgf' := Lib.hid hgf
        have hc5' := Lib.hid hc5
        have ho2' := Lib.hid ho2
        clear hgf hc5 ho2
        go_wp2
        go_ret
        exact ⟨_, rfl, ho2'.out, hgf'.out, hc5'.out⟩
end Go.Proofs.YtjkgilenhoomoaaGreat

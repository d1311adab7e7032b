/- RefineToMarkov: the program's. No conditions but small sizes. -/
import Derived.Test.YtnggopbehohjnaaGreatRefS
import Derived.Test.YtnggopbehohjnaaGreatRising
import Derived.Deep.Cut
import Derived.Deep.CutRange
import Derived.Deep.CutBlock
namespace Go.Proofs.YtnggopbehohjnaaGreat
open Go.RowKit

theorem refS_unit {f : List Quad} (hf : MapP f) (lin : Bool) : ∀ x, x ∈ refS f lin → unitR x.1 x.2 = true := fun x hx => by
  rcases List.mem_cons.1 hx with e | hx
  · subst e; decide
  · rcases List.mem_cons.1 hx with e | hx
    · subst e; decide
    · exact start_unit hf lin x hx
/-- The first list, in whatever order. -/
def First (f : List Quad) (lin : Bool) (L : List (Int × Int)) : Prop := ∀ y, y ∈ L ↔ y ∈ refS f lin
theorem First.good {f : List Quad} {lin : Bool} {L : List (Int × Int)} (h : First f lin L) (hf : MapP f) : ∀ x ∈ L, goodR x.1 x.2 = true := fun x hx => (unitR_qv.1 (refS_unit hf lin x ((h x).1 hx))).1
theorem First.pos {f : List Quad} {lin : Bool} {L : List (Int × Int)} (h : First f lin L) : 0 < L.length := List.length_pos_of_mem ((h (0, 1)).2 (List.mem_cons_self ..))
theorem First.inv {f : List Quad} {lin : Bool} {L ys : List (Int × Int)} (h : First f lin L) (hf : MapP f) (hm : ∀ y, y ∈ ys ↔ y ∈ L) (hs : ys.Pairwise fun a b => qv a ≤ qv b) : InvX f lin (cmpL ys) := by
  have hu := refS_unit hf lin
  have hg : ∀ y ∈ ys, goodR y.1 y.2 = true := fun y hy => h.good hf y ((hm y).1 hy)
  have hr := cmpL_rise hs hg
  have hmm : ∀ y, y ∈ cmpL ys ↔ y ∈ refS f lin := fun y => by rw [cmpL_mem, hm, h y]
  refine ⟨⟨hr, fun x hx => (hmm x).2 hx, fun D hD x hx => hD.1 x ((hmm x).1 hx)⟩, fun y hy => hu y ((hmm y).1 hy), ?_⟩
  have h1 := nodup_len _ _ (rise_nodup hr) (fun x hx => (hmm x).1 hx)
  have h2 := startL_len hf lin
  unfold refS at h1
  rw [List.length_cons, List.length_cons] at h1
  omega
theorem first_turns (f : List Quad) : First f false ([(0, 1), (1, 1)] ++ tuL f) := fun y => by
  show y ∈ (0, 1) :: (1, 1) :: tuL f ↔ y ∈ (0, 1) :: (1, 1) :: startL f false
  exact Iff.rfl
theorem first_simple {f : List Quad} (hf : MapP f) : First f true (xsL (smL f)) := fun y => by
  obtain ⟨h0, h1⟩ := simple_ends hf
  show y ∈ startL f true ↔ y ∈ (0, 1) :: (1, 1) :: startL f true
  constructor
  · intro h; exact List.mem_cons_of_mem _ (List.mem_cons_of_mem _ h)
  · intro h
    rcases List.mem_cons.1 h with e | h
    · rw [e]; exact h0
    · rcases List.mem_cons.1 h with e | h
      · rw [e]; exact h1
      · exact h
/-- One round: all values at once. -/
theorem InvX.round {f : List Quad} {lin : Bool} {X ys : List (Int × Int)} (h : InvX f lin X) (hf : MapP f) (h9 : X.length ≤ 9) (ho : voK f X X.length = true) (hm : ∀ y, y ∈ ys ↔ y ∈ X ++ vsL f X) (hs : ys.Pairwise fun a b => qv a ≤ qv b) :
    InvX f lin (cmpL ys) ∧ X.length ≤ (cmpL ys).length ∧ ((cmpL ys).length = X.length → EndX f lin (X, true)) := by
  have hok := vo_good ho
  have hu : ∀ y, y ∈ X ++ vsL f X → unitR y.1 y.2 = true := fun y hy => by
    rcases List.mem_append.1 hy with q | q
    · exact h.2.1 y q
    · obtain ⟨x, hx, rfl⟩ := (vsL_mem y).1 q
      exact at_unit hf (h.2.1 x hx) (hok x hx)
  have hg : ∀ y ∈ ys, goodR y.1 y.2 = true := fun y hy => (unitR_qv.1 (hu y ((hm y).1 hy))).1
  have hr := cmpL_rise hs hg
  have hmm : ∀ y, y ∈ cmpL ys ↔ y ∈ X ∨ ∃ x, x ∈ X ∧ atZ f x = y := fun y => by rw [cmpL_mem, hm, List.mem_append, vsL_mem]
  have hl1 := nodup_len _ _ (rise_nodup hr) (fun y hy => List.mem_append.2 (by rcases (hmm y).1 hy with q | q; exact .inl q; exact .inr ((vsL_mem y).2 q)) : ∀ y, y ∈ cmpL ys → y ∈ X ++ vsL f X)
  have hl2 := nodup_len _ _ (rise_nodup h.1.1) (fun y hy => (hmm y).2 (.inl hy))
  have hvl : (vsL f X).length = X.length := vsK_len f X _
  rw [List.length_append, hvl] at hl1
  refine ⟨⟨inv_all h.1 hr hmm, fun y hy => hu y (by rw [cmpL_mem, hm] at hy; exact hy), by omega⟩, hl2, fun hl => ?_⟩
  exact .inr ⟨rfl, h.1, h9, fun x hx => ⟨hok x hx, all_done h.1.1 hmm hl x hx⟩⟩
theorem InvX.stuck {f : List Quad} {lin : Bool} {X : List (Int × Int)} (h : InvX f lin X) (ho : voK f X X.length = false) : EndX f lin ([], false) := by
  obtain ⟨x, hx, hb⟩ := vo_bad ho
  exact .inl ⟨rfl, inv_bad h.1 hx hb⟩

theorem GrowR.keptAt {w w' : World} {B g gx n cap : Nat} {xs : List (Int × Int)} (h : GrowR w B (.slice (some ⟨gx, 0, none⟩) n cap) xs) (hg : w.grownBy w' (some g)) (hne : gx ≠ g) : GrowR w' B (.slice (some ⟨gx, 0, none⟩) n cap) xs :=
  World.ownsRow.kept h hg (.inr (fun e => by
    have : gx = g := by simpa [Value.ownBlock] using e
    omega))
/-- The state at the head of the program's loop. -/
def RefLoop (f : List Quad) (lin : Bool) (w : World) (g : Nat) (o : Value) (wr : World) : Prop :=
  ∃ X gx cap, o = .slice (some ⟨gx, 0, none⟩) X.length cap ∧ gx ≠ g ∧ GrowR wr w.heap.size o X ∧ Below w.heap.size w wr ∧ CalcAt wr g false ∧ InvX f lin X

set_option maxHeartbeats 3200000 in
theorem implRefineToMarkov_end (v : Value) (f : List Quad) (lin : Bool) (w : World) (hv : QuadV w v f) (hm : szPointS f ≤ 1099511627776) (hmb : mapB f = true) :
    Calls Tryz.prog 12 #[v, .bool lin] w (RetEnd f lin w) := by
  have c0 := isMap_any v f w hv hm
  rw [hmb] at c0
  have hf := mapB_true hmb
  have ct := fun w' (hB : Below w.heap.size w w') => turns_any v f w' (hv.below hB) hf
  have cs := fun w' (hB : Below w.heap.size w w') => simple_any v f w' (hv.below hB) hf
  have hsl : (smL f).length ≤ 1048576 := by have := startL_len hf true; have e : (startL f true).length = (smL f).length := xsL_len _; omega
  have htl : (tuL f).length ≤ 1048576 := startL_len hf false
  have hsl2 : (smL f).length ≤ 1099511627776 := by omega
  have cx := fun r w' (hr : QuadV w' r (smL f)) => xsOf_any r (smL f) w' hr hsl2
  have hx1 := first_simple hf
  have ht1 := first_turns f
  have hxl : (xsL (smL f)).length ≤ 1048576 := by rw [xsL_len]; exact hsl
  have cv := fun (g : Nat) (u : Value) (X : List (Int × Int)) w' (hB : Below w.heap.size w w') (hg : w.heap.size ≤ g) hu hug hx hm hc => cvals_upon g false v u f X w w' hv hu hug hB hg hf hx hm hc
  have hgood := fun L (h : First f lin L) => h.good hf
  have hinv := fun L ys (h : First f lin L) hm2 hs => First.inv (ys := ys) h hf hm2 hs
  have hround := fun X ys (h : InvX f lin X) h9 ho hm2 hs => InvX.round (ys := ys) h hf h9 ho hm2 hs
  have hatg := fun x => atZ_good f x
  clear hm hmb hsl2
  have c0' := Lib.hid c0
  have ct' := Lib.hid ct
  have cs' := Lib.hid cs
  have cx' := Lib.hid cx
  have hx1' := Lib.hid hx1
  have ht1' := Lib.hid ht1
  have cv' := Lib.hid cv
  have hgood' := Lib.hid hgood
  have hinv' := Lib.hid hinv
  have hround' := Lib.hid hround
  have hatg' := Lib.hid hatg
  have hsl' := Lib.hid hsl
  have htl' := Lib.hid htl
  have hxl' := Lib.hid hxl
  have hv' := Lib.hid hv
  have hf' := Lib.hid hf
  clear c0 ct cs cx hx1 ht1 cv hgood hinv hround hatg hsl htl hxl hv hf
  go_enter Tryz.func12, Tryz.ntmps12
  go_wp2_with fail
  refine (c0'.out).mono ?_
  rintro e w1 ⟨rfl, hB1⟩
  go_wp2_with fail
  refine (zero_any _).mono ?_
  rintro e w2 ⟨rfl, hB2⟩
  go_wp2_with fail
  refine (oneRat_any _).mono ?_
  rintro e w3 ⟨rfl, hB3⟩
  have hb3 := hB1.trans ((hB2.mono hB1.size).trans (hB3.mono (Nat.le_trans hB1.size hB2.size)))
  clear hB1 hB2 hB3
  obtain ⟨w4, hw4⟩ : ∃ W, w3.alloc (.cells #[.int .i64 0, .int .i64 1, .int .i64 1, .int .i64 1] 50) = W := ⟨_, rfl⟩
  have hB4 : Below w3.heap.size w3 w4 := by rw [← hw4]; exact (Below.refl _ _).alloc (Nat.le_refl _) _
  have hg4 : GrowR w4 w.heap.size (.slice (some ⟨w3.heap.size, 0, none⟩) 2 2) [(0, 1), (1, 1)] := by rw [← hw4]; exact GrowR.put2 hb3.size
  have hb4 := hb3.trans (hB4.mono hb3.size)
  clear hB4
  have ct4 := ct'.out w4 hb4
  have hw4' := Lib.hid hw4
  have hg4' := Lib.hid hg4
  have ct4' := Lib.hid ct4
  clear hw4 hg4 ct4
  go_wp2_with fail
  rw [hw4'.out]
  go_wp2_with fail
  refine (ct4'.out).mono ?_
  rintro e w5 ⟨r5, rfl, hr5, hB5⟩
  have hb5 := hb4.trans (hB5.mono hb4.size)
  have hg5 := hg4'.out.below hB5
  clear hb4 hB5
  go_wp2_with (at_builtin; refine wpList_append_rats rfl _ _ rfl w.heap.size _ _ [(0, 1), (1, 1)] (tuL f) rfl rfl hg5 hr5.read (by have := htl'.out; simp only [List.length_cons, List.length_nil]; omega) hb5.size ?_)
  intro v6 w6 hg6 hgr6
  have hb6 := hg5.belowB hb5 (Nat.le_refl _) hb5.size hgr6
  clear hg5 hgr6 hb5 hr5 hb3
  have hg6' := Lib.hid hg6
  have hb6' := Lib.hid hb6
  clear hg6 hb6
  go_upto_if 18 with fail
  go_cut [6] from 19 to 21 (fun s wx => ∃ L, GrowR wx w.heap.size s L ∧ Below w.heap.size w wx ∧ First f lin L ∧ L.length ≤ 1048600)
  case first =>
    cases lin
    · go_wp2_with fail
      go_meet
      exact ⟨_, hg6'.out, hb6'.out, ht1'.out, by have := htl'.out; rw [List.length_cons, List.length_cons]; omega⟩
    · go_wp2_with fail
      refine (cs'.out _ hb6'.out).mono ?_
      rintro e w7 ⟨r7, rfl, hr7, hB7⟩
      have hb7 := hb6'.out.trans (hB7.mono hb6'.out.size)
      have cx7 := cx'.out r7 w7 hr7.read
      clear hr7 hB7
      have cx7' := Lib.hid cx7
      clear cx7
      go_wp2_with fail
      refine (cx7'.out).mono ?_
      rintro e w8 ⟨r8, rfl, hr8, hB8⟩
      have hb8 := hb7.trans (hB8.mono hb7.size)
      have hg8 := (GrowR.ofOwn hr8 hx1'.out.pos).mono hb7.size
      clear hr8 hB8 hb7
      have hg8' := Lib.hid hg8
      have hb8' := Lib.hid hb8
      clear hg8 hb8
      go_wp2_with fail
      go_meet
      exact ⟨_, hg8'.out, hb8'.out, hx1'.out, by have := hxl'.out; omega⟩
  case rest =>
    obtain ⟨L, hg, hb, hL, hLl⟩ := hcut
    clear hg6' hb6'
    obtain ⟨w9, rfl⟩ : ∃ wo : World, wo = wc := ⟨_, rfl⟩
    obtain ⟨g9, cap9, rfl, hrow9⟩ := GrowF.form hg hL.pos
    have hlt9 := hrow9.lt
    obtain ⟨wk, hwk⟩ : ∃ W, w9.alloc (.cells #[.bool false] 105) = W := ⟨_, rfl⟩
    have hBk : Below w9.heap.size w9 wk := by rw [← hwk]; exact (Below.refl _ _).alloc (Nat.le_refl _) _
    have hck : CalcAt wk w9.heap.size false := by rw [← hwk]; refine ⟨?_, ?_⟩ <;> simp [go_sem]
    have hgk := hg.below hBk
    have hbk := hb.trans (hBk.mono hb.size)
    have cr := rising_row w.heap.size g9 cap9 L wk hgk hL.pos (hgood'.out L hL) (by omega)
    have hne9 : g9 < w9.heap.size := hlt9.2
    have hsz9 := hb.size
    obtain ⟨g, hgeq⟩ : ∃ g, w9.heap.size = g := ⟨_, rfl⟩
    rw [hgeq] at hck hne9 hsz9
    obtain ⟨n9, hn9⟩ : ∃ n9, L.length = n9 := ⟨_, rfl⟩
    rw [hn9] at cr ⊢
    have hw9g : wk.heap.size = g + 1 := by rw [← hwk, ← hgeq]; simp
    clear hg hb hBk hrow9 hLl hn9
    have hwk' := Lib.hid hwk
    have cr' := Lib.hid cr
    have hck' := Lib.hid hck
    have hgk' := Lib.hid hgk
    have hbk' := Lib.hid hbk
    have hL' := Lib.hid hL
    have hgeq' := Lib.hid hgeq
    have hw9g' := Lib.hid hw9g
    clear hwk cr hck hgk hbk hL hgeq hw9g
    go_wp2_with fail
    rw [hwk'.out]
    first | rw [hgeq'.out] | skip
    go_wp2_with fail
    refine (cr'.out).mono ?_
    rintro e w10 ⟨v10, rfl, ⟨ys, hm2, hs2, ho2, rfl⟩, hU⟩
    have hI := hinv'.out L ys hL'.out hm2 hs2
    obtain ⟨hX0, -, -⟩ := hI.parts
    have hgX := GrowR.ofOwn ho2 hX0
    have hst : RefLoop f lin w g (.slice (some ⟨g9, 0, none⟩) (cmpL ys).length cap9) w10 := ⟨cmpL ys, g9, cap9, rfl, by omega, hgX, hbk'.out.trans (hU.below hlt9.1 (by rw [hw9g'.out]; omega)), hck'.out.grown hU (fun e => by have := Option.some.inj e; omega), hI⟩
    obtain ⟨n10, hn10⟩ : ∃ n10, (cmpL ys).length = n10 := ⟨_, rfl⟩
    rw [hn10] at hst ⊢
    clear hI hX0 hgX ho2 hU hm2 hs2 hn10 hbk' hck' hgk' hw9g' hL'
    have hst' := Lib.hid hst
    clear hst
    go_wp2_with fail
    go_loopw [6] (fun o wr => RefLoop f lin w g o wr) (fun o _ => 20 - sliceN o)
    case atStart => exact hst'.out
    case round =>
      clear hst'
      obtain ⟨X, gx, cap, rfl, hne, hg, hb, hc, hI⟩ := hrel
      obtain ⟨hX0, hXm, hXu⟩ := hI.parts
      have hBig := hI.big
      have hStk := hI.stuck
      have hR := hround'.out X
      have hXg : ∀ y, y ∈ X ++ vsL f X → goodR y.1 y.2 = true := fun y hy => by
        rcases List.mem_append.1 hy with q | q
        · exact (unitR_qv.1 (hI.2.1 y q)).1
        · obtain ⟨x, -, rfl⟩ := (vsL_mem y).1 q
          exact hatg'.out x
      have hvl : (vsL f X).length = X.length := vsK_len f X _
      obtain ⟨p, hp⟩ : ∃ p, X.length = p := ⟨_, rfl⟩
      rw [hp] at hX0 hXm hXu hBig hg hvl ⊢
      by_cases h9 : p ≤ 9
      · have cv1 := cv'.out g _ X wr hb hsz9 hg.read (fun _ b off k c e => by cases e; exact hne) (by rw [hp]; exact hXu) (by omega) hc
        have hR1 := fun ys ho hm2 hs => hR ys hI (by omega) ho hm2 hs
        have hlt2 := hc.lt
        have h9' : (p : Int) ≤ 9 := by omega
        clear hR hBig hI hc
        obtain ⟨VO, hVO⟩ : ∃ VO, voK f X X.length = VO := ⟨_, rfl⟩
        rw [hVO] at hStk cv1 hR1
        have cv1' := Lib.hid cv1
        have hStk' := Lib.hid hStk
        have hR1' := Lib.hid hR1
        have hp' := Lib.hid hp
        have hXg' := Lib.hid hXg
        have hvl' := Lib.hid hvl
        have hVO' := Lib.hid hVO
        have hXu' := Lib.hid hXu
        have hg' := Lib.hid hg
        clear cv1 hStk hR1 hp hXg hvl hVO hXu hg
        go_wp2_with fail
        refine (cv1'.out).mono ?_
        rintro e w3 ⟨r, rfl, hr, hg3, hc3⟩
        have hgX := hg'.out.keptAt hg3 hne
        have hb3 : Below w.heap.size w w3 := hb.grown hg3 hb.size (fun j hj => by have := Option.some.inj hj; omega)
        obtain ⟨ro, rcap, rfl, -⟩ := hr.read.form
        rw [hvl'.out] at hr ⊢
        have hlt3 := hc3.lt
        clear hg3 hb
        obtain ⟨w4, hw4⟩ : ∃ W, w3.alloc (.cells #[.slice (some ⟨gx, 0, none⟩) p cap, .slice ro p rcap] 24) = W := ⟨_, rfl⟩
        have hB4 : Below w3.heap.size w3 w4 := by rw [← hw4]; exact (Below.refl _ _).alloc (Nat.le_refl _) _
        have e0 : w4.cell? ⟨w3.heap.size, 0, none⟩ = some (.slice (some ⟨gx, 0, none⟩) p cap) := by rw [← hw4]; simp [go_sem]
        have e1 : w4.cell? ⟨w3.heap.size, 1, none⟩ = some (.slice ro p rcap) := by rw [← hw4]; simp [go_sem]
        have cc := concat_any w3.heap.size _ _ X (vsL f X) w4 (hgX.below hB4).read (hr.read.below hB4) e0 e1 (by rw [hp'.out]; omega) (by rw [hp'.out, hvl'.out]; omega)
        clear e0 e1 hr
        have cc' := Lib.hid cc
        have hw4' := Lib.hid hw4
        have hgX' := Lib.hid hgX
        have hc3' := Lib.hid hc3
        have hb3' := Lib.hid hb3
        clear cc hw4 hgX hc3 hb3
        go_wp2_with fail
        rw [hw4'.out]
        refine (cc'.out).mono ?_
        rintro e w5 ⟨v5, rfl, hg5, hB5⟩
        have cr5 := rising_any w4.heap.size v5 (X ++ vsL f X) w5 hg5 (by rw [List.length_append, hp'.out]; omega) hXg'.out (by rw [List.length_append, hp'.out, hvl'.out]; omega)
        obtain ⟨o5, c5, rfl, -⟩ := hg5.read.form
        rw [List.length_append, hp'.out, hvl'.out] at cr5 ⊢
        clear hg5
        have cr5' := Lib.hid cr5
        clear cr5
        go_wp2_with fail
        refine (cr5'.out).mono ?_
        rintro e w6 ⟨v6, rfl, ⟨zs, hm6, hs6, ho6⟩, hB6⟩
        have hB36 : Below w3.heap.size w3 w6 := hB4.trans ((hB5.mono hB4.size).trans (hB6.mono hB4.size))
        have hc6 := hc3'.out.below hB36
        have hb6 := hb3'.out.trans (hB36.mono hb3'.out.size)
        have hgX6 := hgX'.out.below hB36
        clear hB5 hB6 hB36 hB4
        have hcb := hc6.cell
        cases VO
        · have hE := hStk'.out rfl
          clear ho6 hgX6 hm6 hs6
          have hE' := Lib.hid hE
          have hc6' := Lib.hid hc6
          have hb6' := Lib.hid hb6
          clear hE hc6 hb6
          simp only [Bool.not_false, Bool.or_true] at hcb
          go_wp2
          go_ret2
          exact ⟨_, ([], false), rfl, hE'.out, OwnR.nil _ _ _, hb6'.out⟩
        · obtain ⟨hI6, hl6, hd6⟩ := hR1'.out zs rfl hm6 hs6
          obtain ⟨hN0, -, -⟩ := hI6.parts
          have hgN := GrowR.ofOwn ho6 hN0
          obtain ⟨g6, c6, rfl, hrow6⟩ := GrowF.form hgN hN0
          have hlt6 := hrow6.lt
          have hs46 : w3.heap.size < w4.heap.size := by rw [← hw4'.out]; simp
          obtain ⟨N, hN⟩ : ∃ N, (cmpL zs).length = N := ⟨_, rfl⟩
          have hgN2 := hgN.mono (show w.heap.size ≤ w4.heap.size by have := hb3'.out.size; omega)
          rw [hN] at hgN2 hl6 hd6 ⊢
          rw [hp'.out] at hl6 hd6
          clear hgN hrow6 ho6 hm6 hs6
          simp only [Bool.not_true, Bool.or_false] at hcb hc6
          have hgne : g6 ≠ g := by omega
          by_cases hNp : N = p
          · have hE := hd6 hNp
            have hown := hgX6.own
            subst hNp
            clear hI6 hd6 hl6
            have hE' := Lib.hid hE
            have hown' := Lib.hid hown
            have hb6' := Lib.hid hb6
            have hc6' := Lib.hid hc6
            have hgN2' := Lib.hid hgN2
            have hgX6' := Lib.hid hgX6
            have hN' := Lib.hid hN
            clear hE hown hb6 hc6 hgN2 hgX6 hN
            go_wp2
            go_ret2
            exact ⟨_, (X, true), rfl, hE'.out, hown'.out.mono (Nat.le_refl _) (Nat.le_refl _), hb6'.out⟩
          · have hst : RefLoop f lin w g (.slice (some ⟨g6, 0, none⟩) N c6) w6 := ⟨cmpL zs, g6, c6, by rw [hN], hgne, hgN2, hb6, hc6, hI6⟩
            have hNp' : ((N : Int) == (p : Int)) = false := by rw [beq_eq_false_iff_ne]; omega
            have hNp3 : ¬ (N : Int) = (p : Int) := by omega
            clear hI6 hd6 hgN2 hb6 hc6 hgX6 hN
            have hst' := Lib.hid hst
            clear hst
            go_wp2
            go_roundw
            case rel => exact hst'.out
            case measure => simp [sliceN]; omega
      · have hE := hBig (by omega)
        have h9' : ¬ (p : Int) ≤ 9 := by omega
        clear hR hI hg hXu hXg hvl hStk
        have hE' := Lib.hid hE
        have hb' := Lib.hid hb
        have hc' := Lib.hid hc
        have hp' := Lib.hid hp
        clear hE hb hc hp
        go_wp2
        go_ret2
        exact ⟨_, ([], false), rfl, hE'.out, OwnR.nil _ _ _, hb'.out⟩
theorem implRefineToMarkov_any (v : Value) (f : List Quad) (lin : Bool) (w : World) (hv : QuadV w v f) (hm : szPointS f ≤ 1099511627776) :
    Calls Tryz.prog 12 #[v, .bool lin] w (RetOB OwnR (RefineToMarkov_v f lin) w) := by
  by_cases h : mapB f = true
  · refine (implRefineToMarkov_end v f lin w hv hm h).mono ?_
    rintro e w' ⟨v', r, h1, h2, h3, h4⟩
    obtain rfl := EndX.is h h2
    exact ⟨v', h1, h3, h4⟩
  · have c0 := isMap_any v f w hv hm
    have hV : RefineToMarkov_v f lin = ([], false) := by unfold RefineToMarkov_v; rw [if_neg h]
    rw [hV]
    rw [Bool.not_eq_true] at h
    rw [h] at c0
    clear hv hV h
    have c0' := Lib.hid c0
    clear c0
    go_enter Tryz.func12, Tryz.ntmps12
    go_wp2_with fail
    refine (c0'.out).mono ?_
    rintro e w1 ⟨rfl, hB1⟩
    go_wp2
    go_ret2
    exact ⟨_, rfl, OwnR.nil _ _ _, hB1⟩
end Go.Proofs.YtnggopbehohjnaaGreat

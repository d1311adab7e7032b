/- A further arrow: the reference's walk and the program's. -/
import Derived.Test.YtblippeklbhepaaArrows
namespace Go.Proofs.Ytblippeklbhepaa
open Go.RowKit

def addOk (g : List (List Int)) (x y : Int) : Bool := graphB g && inB x 0 ((g.length : Int) - 1) && inB y 0 ((g.length : Int) - 1) && !(ent g x.toNat y.toNat == 9)
/-- What both AddArrow functions return. -/
def AddArrow_v (g : List (List Int)) (x y : Int) : List (List Int) × Bool :=
  if addOk g x y = true then (tab g.length g.length (upd (ent g) x.toNat y.toNat (ent g x.toNat y.toNat + 1)), true) else ([], false)
theorem AddArrow_no {g : List (List Int)} {x y : Int} (h : addOk g x y = false) : AddArrow_v g x y = ([], false) := by simp [AddArrow_v, h]
theorem AddArrow_yes {g : List (List Int)} {x y : Int} (h : addOk g x y = true) : AddArrow_v g x y = (tab g.length g.length (upd (ent g) x.toNat y.toNat (ent g x.toNat y.toNat + 1)), true) := by simp [AddArrow_v, h]
theorem AddArrow_len (g : List (List Int)) (x y : Int) : szIntSS (AddArrow_v g x y).1 ≤ 1099511627776 := by
  cases h : addOk g x y
  · rw [AddArrow_no h]; exact Nat.zero_le _
  · rw [AddArrow_yes h, sz_tab]
    have hg : graphB g = true := by simp only [addOk, Bool.and_eq_true] at h; exact h.1.1.1
    have h2 := (graphB_sz hg).2
    have : g.length * g.length ≤ 8 * 8 := Nat.mul_le_mul h2 h2
    omega
theorem addOk_of {g : List (List Int)} {x y : Int} (h1 : graphB g = true) (h2 : inB x 0 ((g.length : Int) - 1) = true) (h3 : inB y 0 ((g.length : Int) - 1) = true) : addOk g x y = !(ent g x.toNat y.toNat == 9) := by simp [addOk, h1, h2, h3]
set_option maxHeartbeats 800000 in
theorem implAddArrow_any (v : Value) (g : List (List Int)) (x y : Int) (w : World) (hv : RowsV w v g) (hm : szIntSS g ≤ 1099511627776) (_hx : I64 x) (_hy : I64 y) :
    Calls Try.prog 17 #[v, .int .i64 x, .int .i64 y] w (RetOB OwnSS (AddArrow_v g x y) w) := by
  have c1 := isGraph_any v g w hv hm
  have hl : g.length ≤ 1099511627776 := by unfold szIntSS at hm; omega
  have c2 := fun (z : Int) (w' : World) (hB : Below w.heap.size w w') => isState_any v g z w' (hv.below hB) hl
  have c1' := Lib.hid c1
  have c2' := Lib.hid c2
  clear c1 c2
  cases h : graphB g
  · rw [h] at c1'
    rw [AddArrow_no (by simp [addOk, h])]
    clear h hv hl
    go_enter Try.func17, Try.ntmps17
    go_wp2_with fail
    refine (c1'.out).mono ?_
    rintro e w1 ⟨rfl, hB⟩
    go_wp2
    go_ret2
    exact ⟨_, rfl, OwnSS.nil _ _ _, hB⟩
  rw [h] at c1'
  cases hx : inB x 0 ((g.length : Int) - 1)
  · rw [AddArrow_no (by simp [addOk, hx])]
    have hx' := Lib.hid hx
    clear hx
    clear h hv hl
    go_enter Try.func17, Try.ntmps17
    go_wp2_with fail
    refine (c1'.out).mono ?_
    rintro e w1 ⟨rfl, hB⟩
    go_wp2_with fail
    refine (c2'.out x _ hB).mono ?_
    rintro e w_ ⟨rfl, rfl⟩
    rw [hx'.out]
    go_wp2
    go_ret2
    exact ⟨_, rfl, OwnSS.nil _ _ _, hB⟩
  cases hy : inB y 0 ((g.length : Int) - 1)
  · rw [AddArrow_no (by simp [addOk, hy])]
    have hx' := Lib.hid hx
    have hy' := Lib.hid hy
    clear hx hy
    clear h hv hl
    go_enter Try.func17, Try.ntmps17
    go_wp2_with fail
    refine (c1'.out).mono ?_
    rintro e w1 ⟨rfl, hB⟩
    go_wp2_with fail
    refine (c2'.out x _ hB).mono ?_
    rintro e w_ ⟨rfl, rfl⟩
    rw [hx'.out]
    go_wp2_with fail
    refine (c2'.out y _ hB).mono ?_
    rintro e w_ ⟨rfl, rfl⟩
    rw [hy'.out]
    go_wp2
    go_ret2
    exact ⟨_, rfl, OwnSS.nil _ _ _, hB⟩
  have hok := addOk_of h hx hy
  obtain ⟨a, rfl, ha⟩ := inB_nat hx
  obtain ⟨c, rfl, hc⟩ := inB_nat hy
  simp only [Int.toNat_natCast] at hok
  obtain ⟨n1, n8, -, hent⟩ := graphB_true h
  have hbd := hent a c ha hc
  clear hent
  have hyes := fun q => @AddArrow_yes g a c q
  simp only [Int.toNat_natCast] at hyes
  have hno := @AddArrow_no g a c
  obtain ⟨n, hn⟩ : ∃ n, g.length = n := ⟨_, rfl⟩
  have cc := copyGraph_any v g n
  obtain ⟨b, off, gcap, ro, rof, rcc, rfl, H⟩ := id (hv.graph h hn)
  obtain ⟨e, he⟩ : ∃ e, ent g a c = e := ⟨_, rfl⟩
  rw [he] at hbd hok hyes
  rw [hn] at hx hy hyes n1 n8 ha hc
  by_cases h9 : e = 9
  · rw [hno (by rw [hok, h9]; rfl)]
    subst h9
    have hx' := Lib.hid hx
    have hy' := Lib.hid hy
    have he' := Lib.hid he
    have hv' := Lib.hid hv
    have h' := Lib.hid h
    have hn' := Lib.hid hn
    clear hx hy he hv h hn
    clear hok hyes hno hl cc
    go_enter Try.func17, Try.ntmps17
    go_wp2_with fail
    refine (c1'.out).mono ?_
    rintro e w1 ⟨rfl, hB⟩
    go_wp2_with fail
    refine (c2'.out a _ hB).mono ?_
    rintro e w_ ⟨rfl, rfl⟩
    rw [hn'.out, hx'.out]
    go_wp2_with fail
    refine (c2'.out c _ hB).mono ?_
    rintro e w_ ⟨rfl, rfl⟩
    rw [hn'.out, hy'.out]
    have h1 := (H.below hB a ha).1
    have h4 := (H.below hB a ha).2.2 c hc
    rw [he'.out] at h4
    clear H
    go_wp2
    go_ret2
    exact ⟨_, rfl, OwnSS.nil _ _ _, hB⟩
  · have h9b : (e == 9) = false := by rw [beq_eq_false_iff_ne]; exact h9
    rw [hyes (by rw [hok, h9b]; rfl)]
    have hx' := Lib.hid hx
    have hy' := Lib.hid hy
    have he' := Lib.hid he
    have hv' := Lib.hid hv
    have h' := Lib.hid h
    have hn' := Lib.hid hn
    clear hx hy he hv h hn
    clear hok hyes hno hl h9
    go_enter Try.func17, Try.ntmps17
    go_wp2_with fail
    refine (c1'.out).mono ?_
    rintro e w1 ⟨rfl, hB⟩
    go_wp2_with fail
    refine (c2'.out a _ hB).mono ?_
    rintro e w_ ⟨rfl, rfl⟩
    rw [hn'.out, hx'.out]
    go_wp2_with fail
    refine (c2'.out c _ hB).mono ?_
    rintro e w_ ⟨rfl, rfl⟩
    rw [hn'.out, hy'.out]
    have h1 := (H.below hB a ha).1
    have h4 := (H.below hB a ha).2.2 c hc
    rw [he'.out] at h4
    clear H
    go_wp2_with fail
    refine (cc w1 (hv'.out.below hB) h'.out hn'.out).mono ?_
    rintro e w2 ⟨gg, cap, rb, rc, rfl, hM, hB2⟩
    have q1 := hM.ptr ha
    have q2 := hM.cell ha hc
    have q3 := hM.frozen ha c
    rw [he'.out] at q2
    have hst := (hM.stored ha c (e + 1)).mono hB.size (Nat.le_refl _)
    have hB3 := (hB.trans (hB2.mono hB.size)).setCell (p := ⟨rb a, c, none⟩) (Nat.le_trans hB.size (hM.block ha).1) (.int .i64 (e + 1))
    have hst' := Lib.hid hst
    have hB3' := Lib.hid hB3
    clear hst hB3
    clear hM hB2 h1 h4 cc
    go_wp2
    go_ret2
    exact RetM.ob (by simpa [World.setCell] using hst'.out) hB3'.out rfl

set_option maxHeartbeats 800000 in
theorem specAddArrow_any (v : Value) (g : List (List Int)) (x y : Int) (w : World) (hv : RowsV w v g) (hm : szIntSS g ≤ 1099511627776) (_hx : I64 x) (_hy : I64 y) :
    Calls Try.prog 18 #[v, .int .i64 x, .int .i64 y] w (RetOB OwnSS (AddArrow_v g x y) w) := by
  have hB : Below w.heap.size w (w.alloc (.cells #[.int .i64 x, .int .i64 y] 3)) := (Below.refl _ _).alloc (Nat.le_refl _) _
  have c1 := grHas_any v _ g [x, y] _ (hv.below hB) (IntsV.two w x y) hm (by simp)
  have c1' := Lib.hid c1
  clear c1
  cases hh : hasB g [x, y]
  · rw [hh] at c1'
    rw [AddArrow_no (by
      cases h1 : graphB g
      · simp [addOk, h1]
      · have : (inB x 0 ((g.length : Int) - 1) && inB y 0 ((g.length : Int) - 1)) = false := by simpa [hasB, h1, allB] using hh
        unfold addOk
        rw [Bool.and_assoc (graphB g), this, Bool.and_false, Bool.false_and])]
    clear hh hv
    go_enter Try.func18, Try.ntmps18
    go_wp2_with fail
    refine (c1'.out).mono ?_
    rintro e w1 ⟨rfl, rfl⟩
    go_wp2
    go_ret2
    exact ⟨_, rfl, OwnSS.nil _ _ _, hB⟩
  rw [hh] at c1'
  have h0 : graphB g = true ∧ inB x 0 ((g.length : Int) - 1) = true ∧ inB y 0 ((g.length : Int) - 1) = true := by simpa [hasB, allB] using hh
  clear hh
  obtain ⟨h, hx, hy⟩ := h0
  have hok := addOk_of h hx hy
  obtain ⟨a, rfl, ha⟩ := inB_nat hx
  obtain ⟨c, rfl, hc⟩ := inB_nat hy
  simp only [Int.toNat_natCast] at hok
  obtain ⟨n1, n8, -, hent⟩ := graphB_true h
  have hbd := hent a c ha hc
  clear hent
  have hyes := fun q => @AddArrow_yes g a c q
  simp only [Int.toNat_natCast] at hyes
  have hno := @AddArrow_no g a c
  obtain ⟨n, hn⟩ : ∃ n, g.length = n := ⟨_, rfl⟩
  have cc := grOwn_any v g n
  obtain ⟨b, off, gcap, ro, rof, rcc, rfl, H⟩ := id (hv.graph h hn)
  obtain ⟨e, he⟩ : ∃ e, ent g a c = e := ⟨_, rfl⟩
  rw [he] at hbd hok hyes
  rw [hn] at hyes n1 n8 ha hc
  have h1 := (H.below hB a ha).1
  have h4 := (H.below hB a ha).2.2 c hc
  rw [he] at h4
  clear hx hy
  by_cases h9 : e = 9
  · rw [hno (by rw [hok, h9]; rfl)]
    subst h9
    have he' := Lib.hid he
    have hv' := Lib.hid hv
    have h' := Lib.hid h
    have hn' := Lib.hid hn
    clear he hv h hn
    clear hok hyes hno cc H
    go_enter Try.func18, Try.ntmps18
    go_wp2_with fail
    refine (c1'.out).mono ?_
    rintro e w1 ⟨rfl, rfl⟩
    go_wp2
    go_ret2
    exact ⟨_, rfl, OwnSS.nil _ _ _, hB⟩
  · have h9b : (e == 9) = false := by rw [beq_eq_false_iff_ne]; exact h9
    rw [hyes (by rw [hok, h9b]; rfl)]
    have he' := Lib.hid he
    have hv' := Lib.hid hv
    have h' := Lib.hid h
    have hn' := Lib.hid hn
    clear he hv h hn
    clear hok hyes hno h9 H
    go_enter Try.func18, Try.ntmps18
    go_wp2_with fail
    refine (c1'.out).mono ?_
    rintro e w1 ⟨rfl, rfl⟩
    go_wp2_with fail
    refine (cc _ (hv'.out.below hB) h'.out hn'.out).mono ?_
    rintro e w2 ⟨gg, cap, rb, rc, rfl, hM, hB2⟩
    have q1 := hM.ptr ha
    have q2 := hM.cell ha hc
    have q3 := hM.frozen ha c
    rw [he'.out] at q2
    have hst := (hM.stored ha c (e + 1)).mono hB.size (Nat.le_refl _)
    have hB3 := (hB.trans (hB2.mono hB.size)).setCell (p := ⟨rb a, c, none⟩) (Nat.le_trans hB.size (hM.block ha).1) (.int .i64 (e + 1))
    have hst' := Lib.hid hst
    have hB3' := Lib.hid hB3
    clear hst hB3
    clear hM hB2 h1 h4 cc
    go_wp2
    go_ret2
    exact RetM.ob (by simpa [World.setCell] using hst'.out) hB3'.out rfl

end Go.Proofs.Ytblippeklbhepaa

/- Lists of fractions: all of 0..1, strictly rising; partitions. No conditions. -/
import Derived.Test.YtnggopbehohjnaaRatS
import Derived.Test.YtnggopbehohjnaaFuncs
namespace Go.Proofs.Ytnggopbehohjnaa
open Go.RowKit

theorem unitR_bd {n d : Int} (h : unitR n d = true) : BdR n d := by
  unfold unitR at h
  rw [Bool.and_eq_true] at h
  exact goodR_bd h.1

theorem idxQ_ex : True := trivial
/-- The first place at which p holds, or -1. -/
def idxQ (p : Int × Int → Bool) (xs : List (Int × Int)) : Int := match xs.findIdx? p with | some k => (k : Int) | none => -1
theorem idxQ_hit {p : Int × Int → Bool} {xs : List (Int × Int)} {k : Nat} (hk : k < xs.length) (hno : ∀ j, j < k → p (nthR xs j) = false) (hy : p (nthR xs k) = true) : idxQ p xs = k := by
  have : xs.findIdx? p = some k := by
    rw [List.findIdx?_eq_some_iff_getElem]
    refine ⟨hk, by rw [← nthR_eq hk]; exact hy, fun j hj => ?_⟩
    rw [← nthR_eq (by omega)]; simp [hno j hj]
  simp [idxQ, this]
theorem idxQ_none {p : Int × Int → Bool} {xs : List (Int × Int)} (hno : ∀ j, j < xs.length → p (nthR xs j) = false) : idxQ p xs = -1 := by
  have : xs.findIdx? p = none := by
    rw [List.findIdx?_eq_none_iff]
    intro x hx
    obtain ⟨j, hj, rfl⟩ := List.getElem_of_mem hx
    rw [← nthR_eq hj]; exact hno j hj
  simp [idxQ, this]
theorem idxQ_geq (p : Int × Int → Bool) (xs : List (Int × Int)) : decide (idxQ p xs ≥ 0) = xs.any p := by
  unfold idxQ
  cases h : xs.findIdx? p with
  | none =>
    rw [List.findIdx?_eq_none_iff] at h
    have : xs.any p = false := by rw [List.any_eq_false]; intro x hx; rw [h x hx]; simp
    rw [this]; rfl
  | some k =>
    rw [List.findIdx?_eq_some_iff_getElem] at h
    obtain ⟨hk, hp, _⟩ := h
    have : xs.any p = true := by rw [List.any_eq_true]; exact ⟨_, List.getElem_mem hk, hp⟩
    rw [this]; simp

/-- A function value of fractions that says p, whatever has been laid since w. -/
def SaysQ (g : FuncId) (cb : Array Value) (p : Int × Int → Bool) (w : World) : Prop :=
  ∀ x w', Below w.heap.size w w' → Calls Try.prog g (#[.agg #[.int .i64 x.1, .int .i64 x.2]] ++ cb) w' (Ret (.bool (p x)) w')

set_option maxHeartbeats 400000 in
theorem indexFuncQ_any (v : Value) (xs : List (Int × Int)) (g : FuncId) (cb : Array Value) (p : Int × Int → Bool) (w : World) (eg : Enters Try.prog g) (hp : SaysQ g cb p w) (hv : RatsV w v xs) (hm : xs.length ≤ 1099511627776) :
    Calls Try.prog 41 #[v, .func (.func g) #[] cb] w (Ret (.int .i64 (idxQ p xs)) w) := by
  have heg : ∀ args w, (callFunc g args).run Try.prog w = .ok (.enter g args) w := eg
  obtain ⟨ao, cap, rfl, h1, h2, H0⟩ := hv.form
  obtain ⟨n, hn⟩ : ∃ n, xs.length = n := ⟨_, rfl⟩
  rw [hn] at hm hv h1 ⊢
  clear H0 h1 h2
  have hn' := Lib.hid hn
  clear hn
  go_enter Try.func41, Try.ntmps41
  go_wp2
  go_loopw [8] (fun i wr => ∃ k : Nat, k ≤ n ∧ i = .int .i64 k ∧ (∀ j, j < k → p (nthR xs j) = false) ∧ Below w.heap.size w wr) (fun i _ => n - (intOf i).toNat)
  case atStart => exact ⟨0, Nat.zero_le _, rfl, fun j hj => absurd hj (Nat.not_lt_zero j), Below.refl _ _⟩
  case round =>
    obtain ⟨k, hk, rfl, hno, hB⟩ := hrel
    have hno' := Lib.hid hno
    clear hno
    by_cases hlt : k < n
    · obtain ⟨ao', cap', e, _, _, H⟩ := (hv.below hB).form
      obtain ⟨rfl, e1, rfl⟩ := Value.slice.inj e
      clear e1
      obtain ⟨b, off, rfl, hc0, hc1⟩ := H k (by rw [hn'.out]; exact hlt)
      obtain ⟨r, hr⟩ : ∃ r, nthR xs k = r := ⟨_, rfl⟩
      rw [hr] at hc0 hc1
      have hcall := hp r wr hB
      have hcall' := Lib.hid hcall
      have hr' := Lib.hid hr
      clear hcall hr
      clear H e
      cases hb : p r
      · have hb' := Lib.hid hb
        clear hb
        go_wp2_with fail
        refine (hcall'.out).mono ?_
        rintro e w' ⟨rfl, hB'⟩
        rw [hb'.out]
        go_wp2
        go_roundw
        case rel => exact ⟨k + 1, by omega, by go_num, fun j hj => by
          rcases Nat.lt_succ_iff_lt_or_eq.1 hj with h | rfl
          · exact hno'.out j h
          · rw [hr'.out]; exact hb'.out, hB.trans (hB'.mono hB.size)⟩
        case measure => simp [intOf]; omega
      · have hb' := Lib.hid hb
        clear hb
        go_wp2_with fail
        refine (hcall'.out).mono ?_
        rintro e w' ⟨rfl, hB'⟩
        rw [hb'.out]
        go_wp2
        go_ret
        exact ⟨by rw [idxQ_hit (by rw [hn'.out]; exact hlt) hno'.out (by rw [hr'.out]; exact hb'.out)]; rfl, hB.trans (hB'.mono hB.size)⟩
    · obtain rfl : k = n := by omega
      go_wp2
      go_ret
      exact ⟨by rw [idxQ_none (by rw [hn'.out]; exact hno'.out)]; rfl, hB⟩

theorem containsFuncQ_any (v : Value) (xs : List (Int × Int)) (g : FuncId) (cb : Array Value) (p : Int × Int → Bool) (w : World) (eg : Enters Try.prog g) (hp : SaysQ g cb p w) (hv : RatsV w v xs) (hm : xs.length ≤ 1099511627776) :
    Calls Try.prog 33 #[v, .func (.func g) #[] cb] w (Ret (.bool (xs.any p)) w) := by
  go_enter Try.func33, Try.ntmps33
  go_wp2_with fail
  refine (indexFuncQ_any v xs g cb p _ eg hp hv hm).mono ?_
  rintro e w' ⟨rfl, hB⟩
  go_wp2
  go_ret
  refine ⟨?_, hB⟩
  rw [← idxQ_geq]; rfl

/-- All are fractions of 0..1. -/
def unitsB (xs : List (Int × Int)) : Bool := !(xs.any fun x => !(unitR x.1 x.2))
theorem unitsB_nth {xs : List (Int × Int)} (h : unitsB xs = true) {i : Nat} (hi : i < xs.length) : unitR (nthR xs i).1 (nthR xs i).2 = true := by
  unfold unitsB at h
  rw [Bool.not_eq_true', List.any_eq_false] at h
  have := h _ (List.getElem_mem hi)
  rw [nthR_eq hi]
  simpa using this

theorem areUnits1_any (x : Int × Int) (w : World) : Calls Try.prog 34 #[.agg #[.int .i64 x.1, .int .i64 x.2]] w (Ret (.bool (!(unitR x.1 x.2))) w) := by
  obtain ⟨n, d⟩ := x
  have hB : Below w.heap.size w (w.alloc (.cells #[.int .i64 n, .int .i64 d] 33)) := (Below.refl _ _).alloc (Nat.le_refl _) _
  have c1 := fun w => isUnit_any n d w
  have c1' := Lib.hid c1
  clear c1
  show Calls _ _ _ _ (Ret (.bool (!(unitR n d))) w)
  generalize unitR n d = u at *
  go_enter Try.func34, Try.ntmps34
  go_wp2_with fail
  refine (c1'.out _).mono ?_
  rintro e w1 ⟨rfl, hB2⟩
  go_wp2
  go_ret
  exact ⟨rfl, hB.trans (hB2.mono hB.size)⟩
theorem areUnits_any (v : Value) (xs : List (Int × Int)) (w : World) (hv : RatsV w v xs) (hm : xs.length ≤ 1099511627776) :
    Calls Try.prog 23 #[v] w (Ret (.bool (unitsB xs)) w) := by
  have c1 := containsFuncQ_any v xs 34 #[] (fun x => !(unitR x.1 x.2)) w (enters_of Try.func34 (by kernel_rfl) rfl) (fun x w' _ => areUnits1_any x w') hv hm
  unfold unitsB
  generalize (xs.any fun x => !(unitR x.1 x.2)) = u at *
  have c1' := Lib.hid c1
  clear c1
  clear hv
  go_enter Try.func23, Try.ntmps23
  go_wp2_with fail
  refine (c1'.out).mono ?_
  rintro e w1 ⟨rfl, hB⟩
  go_wp2
  go_ret
  exact ⟨rfl, hB⟩

/-- The first k are strictly rising. -/
def riseK (xs : List (Int × Int)) (k : Nat) : Bool := (List.range (k - 1)).all fun i => ltB (nthR xs i).1 (nthR xs i).2 (nthR xs (i + 1)).1 (nthR xs (i + 1)).2
theorem riseK_step (xs : List (Int × Int)) (k : Nat) (hk : 1 ≤ k) : riseK xs (k + 1) = (riseK xs k && ltB (nthR xs (k - 1)).1 (nthR xs (k - 1)).2 (nthR xs k).1 (nthR xs k).2) := by
  obtain ⟨k, rfl⟩ : ∃ m, k = m + 1 := ⟨k - 1, by omega⟩
  simp [riseK, List.range_succ, List.all_append]
theorem riseK_false {xs : List (Int × Int)} {k n : Nat} (hk : 1 ≤ k) (hn : k < n) (h : ltB (nthR xs (k - 1)).1 (nthR xs (k - 1)).2 (nthR xs k).1 (nthR xs k).2 = false) : riseK xs n = false := by
  unfold riseK
  rw [List.all_eq_false]
  refine ⟨k - 1, List.mem_range.2 (by omega), ?_⟩
  rw [show k - 1 + 1 = k by omega, h]; simp

theorem isRising_any (v : Value) (xs : List (Int × Int)) (w : World) (hv : RatsV w v xs) (hm : xs.length ≤ 1099511627776) (hb : ∀ i, i < xs.length → BdR (nthR xs i).1 (nthR xs i).2) :
    Calls Try.prog 24 #[v] w (Ret (.bool (riseK xs xs.length)) w) := by
  obtain ⟨ao, cap, rfl, _, _, H⟩ := hv.form
  obtain ⟨n, hn⟩ : ∃ n, xs.length = n := ⟨_, rfl⟩
  rw [hn] at hm H hv hb ⊢
  have hn' := Lib.hid hn
  have hv' := Lib.hid hv
  clear hn hv
  go_enter Try.func24, Try.ntmps24
  go_wp2
  go_loopw [3] (fun i wr => ∃ k : Nat, (1 ≤ k ∧ (k ≤ n ∨ k = 1)) ∧ i = .int .i64 k ∧ riseK xs k = true ∧ Below w.heap.size w wr) (fun i _ => n - (intOf i).toNat)
  case atStart => exact ⟨1, ⟨by omega, .inr rfl⟩, rfl, rfl, Below.refl _ _⟩
  case round =>
    obtain ⟨k, ⟨h1, hk⟩, rfl, hr, hB⟩ := hrel
    by_cases hlt : k < n
    · obtain ⟨b, off, rfl, hc0, hc1⟩ := H k hlt
      obtain ⟨_, _, e', hp0, hp1⟩ := H (k - 1) (by omega)
      cases e'
      clear H
      rw [← hB.cell (World.block_lt_of_cell? w _ hc0)] at hc0
      rw [← hB.cell (World.block_lt_of_cell? w _ hc1)] at hc1
      rw [← hB.cell (World.block_lt_of_cell? w _ hp0)] at hp0
      rw [← hB.cell (World.block_lt_of_cell? w _ hp1)] at hp1
      have c1 := fun w => less_any (nthR xs (k - 1)).1 (nthR xs (k - 1)).2 (nthR xs k).1 (nthR xs k).2 w (hb (k - 1) (by omega)) (hb k hlt)
      have hst := riseK_step xs k h1
      have hfa := fun h => riseK_false (xs := xs) h1 hlt h
      clear hb
      rw [hr, Bool.true_and] at hst
      generalize ltB (nthR xs (k - 1)).1 (nthR xs (k - 1)).2 (nthR xs k).1 (nthR xs k).2 = L at *
      generalize nthR xs k = x at *
      generalize nthR xs (k - 1) = y at *
      obtain ⟨p, q⟩ := x
      obtain ⟨p', q'⟩ := y
      have l0 := World.block_lt_of_cell? _ _ hc0
      obtain ⟨m, hm1⟩ : ∃ m : Nat, k - 1 = m := ⟨_, rfl⟩
      rw [hm1] at hp0 hp1
      have g1 : IntKind.i64.wrap ((k : Int) - 1) = (m : Int) := by rw [IntKind.wrap_i64]; omega
      have g2 : (0 : Int) ≤ (m : Int) := by omega
      have g3 : (m : Int) < (n : Int) := by omega
      have g4 : (0 : Int) ≤ (k : Int) := by omega
      have g5 : (k : Int) < (n : Int) := by omega
      have c1' := Lib.hid c1
      have hst' := Lib.hid hst
      have hr' := Lib.hid hr
      have hm1' := Lib.hid hm1
      clear c1 hst hr hm1
      cases L
      · replace hfa := hfa rfl
        have hfa' := Lib.hid hfa
        clear hfa
        go_wp2_with fail
        go_region_held3 (fun w' => (w'.cell? ⟨b, off + k * 2, none⟩ = some (.int .i64 p) ∧ w'.cell? ⟨b, off + k * 2 + 1, none⟩ = some (.int .i64 q)) ∧ w'.cell? ⟨b, off + m * 2, none⟩ = some (.int .i64 p') ∧ w'.cell? ⟨b, off + m * 2 + 1, none⟩ = some (.int .i64 q'))
          (first | exact ⟨⟨hc0, hc1⟩, hp0, hp1⟩ | exact ⟨⟨hd0, hd1⟩, hd0', hd1'⟩)
          (first
            | (go_at_call 36
               refine (c1'.out _).mono ?_
               rintro e w2 ⟨rfl, hB2⟩
               have hd0 := (hB2.cell (p := ⟨b, off + k * 2, none⟩) l0).trans hc0
               have hd1 := (hB2.cell (p := ⟨b, off + k * 2 + 1, none⟩) l0).trans hc1
               have hd0' := (hB2.cell (p := ⟨b, off + m * 2, none⟩) l0).trans hp0
               have hd1' := (hB2.cell (p := ⟨b, off + m * 2 + 1, none⟩) l0).trans hp1))
        have hB3 : Below w.heap.size w w2 := hB.drew.trans (hB2.mono hB.size)
        go_wp2
        go_ret
        exact ⟨by rw [hfa'.out]; rfl, hB3⟩
      · clear hfa
        go_wp2_with fail
        go_region_held3 (fun w' => (w'.cell? ⟨b, off + k * 2, none⟩ = some (.int .i64 p) ∧ w'.cell? ⟨b, off + k * 2 + 1, none⟩ = some (.int .i64 q)) ∧ w'.cell? ⟨b, off + m * 2, none⟩ = some (.int .i64 p') ∧ w'.cell? ⟨b, off + m * 2 + 1, none⟩ = some (.int .i64 q'))
          (first | exact ⟨⟨hc0, hc1⟩, hp0, hp1⟩ | exact ⟨⟨hd0, hd1⟩, hd0', hd1'⟩)
          (first
            | (go_at_call 36
               refine (c1'.out _).mono ?_
               rintro e w2 ⟨rfl, hB2⟩
               have hd0 := (hB2.cell (p := ⟨b, off + k * 2, none⟩) l0).trans hc0
               have hd1 := (hB2.cell (p := ⟨b, off + k * 2 + 1, none⟩) l0).trans hc1
               have hd0' := (hB2.cell (p := ⟨b, off + m * 2, none⟩) l0).trans hp0
               have hd1' := (hB2.cell (p := ⟨b, off + m * 2 + 1, none⟩) l0).trans hp1))
        have hB3 : Below w.heap.size w w2 := hB.drew.trans (hB2.mono hB.size)
        go_wp2
        go_roundw
        case rel => exact ⟨k + 1, ⟨by omega, .inl (by omega)⟩, by go_num, hst'.out, hB3⟩
        case measure => simp [intOf]; omega
    · have hr2 : riseK xs n = true := by
        rcases hk with hk | rfl
        · obtain rfl : k = n := by omega
          exact hr
        · unfold riseK; rw [show n - 1 = 0 by omega]; rfl
      have hr2' := Lib.hid hr2
      clear hr2
      clear H
      go_wp2
      go_ret
      exact ⟨by rw [hr2'.out]; rfl, hB⟩

theorem zero_any (w : World) : Calls Try.prog 25 #[] w (Ret (ratV (0, 1)) w) := by
  go_enter Try.func25, Try.ntmps25
  go_wp2
  refine bodyPost_ret (v := ratV (0, 1)) (by simp [results, Try.results25, go_sem, ratV]) rfl ⟨rfl, ?_⟩
  exact (Below.refl _ _).alloc (Nat.le_refl _) _


theorem oneRat_any (w : World) : Calls Try.prog 26 #[] w (Ret (ratV (1, 1)) w) := by
  go_enter Try.func26, Try.ntmps26
  go_wp2
  refine bodyPost_ret (v := ratV (1, 1)) (by simp [results, Try.results26, go_sem, ratV]) rfl ⟨rfl, ?_⟩
  exact (Below.refl _ _).alloc (Nat.le_refl _) _
theorem raInt_any (n : Int) (w : World) : Calls Try.prog 21 #[.int .i64 n] w (Ret (ratV (n, 1)) w) := by
  go_enter Try.func21, Try.ntmps21
  go_wp2
  refine bodyPost_ret (v := ratV (n, 1)) (by simp [results, Try.results21, go_sem, ratV]) rfl ⟨rfl, ?_⟩
  exact (Below.refl _ _).alloc (Nat.le_refl _) _

end Go.Proofs.Ytnggopbehohjnaa

/- FnWalks: for every input the law returns true, and the arguments read as before. No conditions. -/
import Derived.Test.YtblippeklbhepaaDrawG3
import Derived.Test.YtblippeklbhepaaWalkLaw
import Derived.Test.YtblippeklbhepaaStR
import Derived.Test.YtblippeklbhepaaLiftC
import Derived.Deep.Cut
import Derived.Deep.CutRange
import Derived.Deep.CutBlock
import Derived.Deep.RegionHeld3
namespace Go.Proofs.Ytblippeklbhepaa
open Go.RowKit

set_option maxRecDepth 100000 in
set_option maxHeartbeats 8000000 in
theorem lawWalks_main (ao0 : Option Addr) (n0 cap0 : Nat) (ao1 : Option Addr) (n1 cap1 : Nat) (w : World) (h0 : Hid (CodeV w (.slice ao0 n0 cap0) n0)) (h1 : Hid (CodeV w (.slice ao1 n1 cap1) n1)) (hl : n0 + n1 ≤ 1048576) :
    Calls Try.prog 3 #[.slice ao0 n0 cap0, .slice ao1 n1 cap1] w (Ret (.bool true) w) := by
  have hS := StR.start w
  go_enter Try.func3, Try.ntmps3
  go_wp2_with fail
  refine (DrawPowerOf_any _ _ w (h0.out.below hS.below)).mono ?_
  rintro e w1 ⟨v1, g, t, rfl, q1, ⟨lg, zg⟩, ⟨lot, hit⟩, hB1⟩
  replace hS := hS.push hB1 (show RowsV _ _ g from q1)
  clear hB1
  clear q1
  obtain ⟨⟨p, ok⟩, hr1⟩ : ∃ r, PowerOf_v g t = r := ⟨_, rfl⟩
  have zr1 := PowerOf_len g t
  rw [hr1] at zr1
  have hr1' := Lib.hid hr1
  clear hr1
  have cc := implPowerOf_any _ g t w1 (hS.get (v := v1) (xs := g) (by simp)) (by omega) (by unfold I64; omega)
  rw [hr1'.out] at cc
  have cc' := Lib.hid cc
  clear cc
  go_wp2_with fail
  refine (cc'.out).mono ?_
  rintro e w2 ⟨v2, rfl, q1, hB2⟩
  replace hS := hS.push hB2 (show RowsV _ _ p from q1.read)
  clear hB2
  clear q1 cc'
  have cc := specPowerOf_any _ g t w2 (hS.get (v := v1) (xs := g) (by simp)) (by omega) (by unfold I64; omega)
  rw [hr1'.out] at cc
  have cc' := Lib.hid cc
  clear cc
  go_wp2_with fail
  refine (cc'.out).mono ?_
  rintro e w3 ⟨v3, rfl, q1, hB3⟩
  replace hS := hS.push hB3 (show RowsV _ _ p from q1.read)
  clear hB3
  clear q1 cc'
  obtain ⟨⟨c, one⟩, hr2⟩ : ∃ r, ClosedWalks_v g t = r := ⟨_, rfl⟩
  have hr2' := Lib.hid hr2
  clear hr2
  have cc := implClosedWalks_any _ g t w3 (hS.get (v := v1) (xs := g) (by simp)) (by omega) (by unfold I64; omega)
  rw [hr2'.out] at cc
  have cc' := Lib.hid cc
  clear cc
  go_wp2_with fail
  refine (cc'.out).mono ?_
  rintro e w4 ⟨rfl, hB4⟩
  replace hS := hS.next hB4
  clear hB4
  clear cc'
  have cc := specClosedWalks_any _ g t w4 (hS.get (v := v1) (xs := g) (by simp)) (by omega) (by unfold I64; omega)
  rw [hr2'.out] at cc
  have cc' := Lib.hid cc
  clear cc
  go_wp2_with fail
  refine (cc'.out).mono ?_
  rintro e w5 ⟨rfl, hB5⟩
  replace hS := hS.next hB5
  clear hB5
  clear cc'
  go_wp2_with fail
  refine (DrawWalkCount_any _ _ w5 (h1.out.below hS.below)).mono ?_
  rintro e w6 ⟨v4, h, x, y, s, rfl, q1, ⟨lh, zh⟩, ⟨lox, hix⟩, ⟨loy, hiy⟩, ⟨los, his⟩, hB6⟩
  replace hS := hS.push hB6 (show RowsV _ _ h from q1)
  clear hB6
  clear q1
  obtain ⟨⟨cnt, three⟩, hr3⟩ : ∃ r, WalkCount_v h x y s = r := ⟨_, rfl⟩
  have hr3' := Lib.hid hr3
  clear hr3
  have cc := implWalkCount_any _ h x y s w6 (hS.get (v := v4) (xs := h) (by simp)) (by omega) (by unfold I64; omega) (by unfold I64; omega) (by unfold I64; omega)
  rw [hr3'.out] at cc
  have cc' := Lib.hid cc
  clear cc
  go_wp2_with fail
  refine (cc'.out).mono ?_
  rintro e w7 ⟨rfl, hB7⟩
  replace hS := hS.next hB7
  clear hB7
  clear cc'
  have cc := specWalkCount_any _ h x y s w7 (hS.get (v := v4) (xs := h) (by simp)) (by omega) (by unfold I64; omega) (by unfold I64; omega) (by unfold I64; omega)
  rw [hr3'.out] at cc
  have cc' := Lib.hid cc
  clear cc
  go_wp2_with fail
  refine (cc'.out).mono ?_
  rintro e w8 ⟨rfl, hB8⟩
  replace hS := hS.next hB8
  clear hB8
  clear cc'
  obtain ⟨⟨rv, five⟩, hr5⟩ : ∃ r, ReverseGraph_v g = r := ⟨_, rfl⟩
  have zr5 := ReverseGraph_len g
  rw [hr5] at zr5
  have hr5' := Lib.hid hr5
  clear hr5
  have cc := implReverseGraph_any _ g w8 (hS.get (v := v1) (xs := g) (by simp)) (by omega)
  rw [hr5'.out] at cc
  have cc' := Lib.hid cc
  clear cc
  go_wp2_with fail
  refine (cc'.out).mono ?_
  rintro e w9 ⟨v5, rfl, q1, hB9⟩
  replace hS := hS.push hB9 (show RowsV _ _ rv from q1.read)
  clear hB9
  clear q1 cc'
  have cc := specReverseGraph_any _ g w9 (hS.get (v := v1) (xs := g) (by simp)) (by omega)
  rw [hr5'.out] at cc
  have cc' := Lib.hid cc
  clear cc
  go_wp2_with fail
  refine (cc'.out).mono ?_
  rintro e w10 ⟨v6, rfl, q1, hB10⟩
  replace hS := hS.push hB10 (show RowsV _ _ rv from q1.read)
  clear hB10
  clear q1 cc'
  go_wp2_with fail
  refine (DrawAddArrow_any _ _ w10 (h1.out.below hS.below)).mono ?_
  rintro e w11 ⟨v7, a, x7, y7, rfl, q1, ⟨la, za⟩, ⟨lox7, hix7⟩, ⟨loy7, hiy7⟩, hB11⟩
  replace hS := hS.push hB11 (show RowsV _ _ a from q1)
  clear hB11
  clear q1
  obtain ⟨⟨dd, seven⟩, hr7⟩ : ∃ r, AddArrow_v a x7 y7 = r := ⟨_, rfl⟩
  have zr7 := AddArrow_len a x7 y7
  rw [hr7] at zr7
  have hr7' := Lib.hid hr7
  clear hr7
  have cc := implAddArrow_any _ a x7 y7 w11 (hS.get (v := v7) (xs := a) (by simp)) (by omega) (by unfold I64; omega) (by unfold I64; omega)
  rw [hr7'.out] at cc
  have cc' := Lib.hid cc
  clear cc
  go_wp2_with fail
  refine (cc'.out).mono ?_
  rintro e w12 ⟨v8, rfl, q1, hB12⟩
  replace hS := hS.push hB12 (show RowsV _ _ dd from q1.read)
  clear hB12
  clear q1 cc'
  have cc := specAddArrow_any _ a x7 y7 w12 (hS.get (v := v7) (xs := a) (by simp)) (by omega) (by unfold I64; omega) (by unfold I64; omega)
  rw [hr7'.out] at cc
  have cc' := Lib.hid cc
  clear cc
  go_wp2_with fail
  refine (cc'.out).mono ?_
  rintro e w13 ⟨v9, rfl, q1, hB13⟩
  replace hS := hS.push hB13 (show RowsV _ _ dd from q1.read)
  clear hB13
  clear q1 cc'
  have key : ∃ L, StR w w13 L ∧ (v1, g) ∈ L ∧ (v2, p) ∈ L ∧ (v3, p) ∈ L ∧ (v4, h) ∈ L ∧ (v5, rv) ∈ L ∧ (v6, rv) ∈ L ∧ (v7, a) ∈ L ∧ (v8, dd) ∈ L ∧ (v9, dd) ∈ L := ⟨_, hS, by simp, by simp, by simp, by simp, by simp, by simp, by simp, by simp, by simp⟩
  clear hS
  obtain ⟨L, hS, m1, m2, m3, m4, m5, m6, m7, m8, m9⟩ := key
  have m1' := Lib.hid m1
  have m2' := Lib.hid m2
  have m3' := Lib.hid m3
  have m4' := Lib.hid m4
  have m5' := Lib.hid m5
  have m6' := Lib.hid m6
  have m7' := Lib.hid m7
  have m8' := Lib.hid m8
  have m9' := Lib.hid m9
  clear m1 m2 m3 m4 m5 m6 m7 m8 m9
  have hgf : graphB g = five := by
    have := hr5'.out
    cases hg : graphB g
    · rw [ReverseGraph_no hg] at this; exact (Prod.mk.inj this).2
    · rw [ReverseGraph_yes hg] at this; exact (Prod.mk.inj this).2
  have hof : ok = true → five = true := fun h => by
    have := hr1'.out
    subst h
    rw [← hgf]; exact (power_is this).1
  have hgf' := Lib.hid hgf
  have hof' := Lib.hid hof
  clear hgf hof
  go_upto_region 16 with fail
  go_cut [201] from 138 to 200 (fun s wx => s = .bool false ∧ StR w wx L)
  case first =>
    go_wp2_with fail
    refine (qLists_same v2 v3 p w13 (hS.get m2'.out) (hS.get m3'.out) zr1).mono ?_
    rintro e w14 ⟨rfl, hB14⟩
    replace hS := hS.next hB14
    clear hB14
    go_wp2_with fail
    refine (qLists_same v5 v6 rv w14 (hS.get m5'.out) (hS.get m6'.out) zr5).mono ?_
    rintro e w15 ⟨rfl, hB15⟩
    replace hS := hS.next hB15
    clear hB15
    go_wp2_with fail
    refine (qLists_same v8 v9 dd w15 (hS.get m8'.out) (hS.get m9'.out) zr7).mono ?_
    rintro e w16 ⟨rfl, hB16⟩
    replace hS := hS.next hB16
    clear hB16
    have cc := implIsGraph_any _ g w16 (hS.get m1'.out) (by omega)
    rw [show IsGraph_v g = five from hgf'.out] at cc
    have cc' := Lib.hid cc
    clear cc
    go_wp2_with fail
    refine (cc'.out).mono ?_
    rintro e w17 ⟨rfl, hB17⟩
    replace hS := hS.next hB17
    clear hB17
    cases ok
    · go_wp2_with fail
      go_meet
      exact ⟨rfl, hS⟩
    · obtain rfl := hof'.out rfl
      go_wp2_with fail
      go_meet
      exact ⟨rfl, hS⟩
  case rest =>
  clear hS
  obtain ⟨rfl, hS⟩ := hcut
  obtain ⟨w40, rfl⟩ : ∃ wo : World, wo = wc := ⟨_, rfl⟩
  go_upto_if 202 with fail
  go_cut [34, 35] from 203 to 215 (fun _ _ wx => StR w wx L)
  case first =>
    cases five
    · go_wp2_with fail
      go_meet
      exact hS
    · obtain ⟨-, g2, g3, -, g5⟩ := reverse_back hr5'.out
      have zrv : szIntSS rv ≤ 1000 := by have := (graphB_sz g2).1; omega
      have g2' := Lib.hid g2
      have g3' := Lib.hid g3
      have g5' := Lib.hid g5
      clear g2 g3 g5
      have cc := implReverseGraph_any _ rv w40 (hS.get m5'.out) (by omega)
      rw [g5'.out] at cc
      have cc' := Lib.hid cc
      clear cc
      go_wp2_with fail
      refine (cc'.out).mono ?_
      rintro e w41 ⟨v20, rfl, q1, hB41⟩
      replace hS := hS.push hB41 (show RowsV _ _ g from q1.read)
      clear hB41
      clear q1 cc'
      go_wp2_with fail
      refine (qLists_same v20 v1 g w41 (hS.get (.head _)) (hS.get (.tail _ m1'.out)) (by omega)).mono ?_
      rintro e w42 ⟨rfl, hB42⟩
      replace hS := hS.next hB42
      clear hB42
      go_wp2_with fail
      go_meet
      exact hS.drop
  case rest =>
  clear hS
  have hS := hcut
  obtain ⟨w50, rfl⟩ : ∃ wo : World, wo = wc := ⟨_, rfl⟩
  clear hcut
  go_upto_if 216 with fail
  go_cut [] from 217 to 237 (fun wx => StR w wx L)
  case first =>
    cases seven
    · go_wp2_with fail
      go_meet
      exact hS
    · obtain ⟨i, j, rfl, rfl, hi, hj, ga, gd, gl, ge, g8⟩ := arrow_more hr7'.out
      obtain ⟨b9, o9, cp9, ro9, rof9, rc9, rfl, H9⟩ := ((hS.get m9'.out)).graph gd gl
      obtain ⟨b7, o7, cp7, ro7, rof7, rc7, rfl, H7⟩ := ((hS.get m7'.out)).graph ga rfl
      obtain ⟨E9, hE9⟩ : ∃ z, ent dd i j = z := ⟨_, rfl⟩
      obtain ⟨E7, hE7⟩ : ∃ z, ent a i j = z := ⟨_, rfl⟩
      rw [hE9, hE7] at ge
      rw [hE7] at g8
      have a7 : 0 ≤ E7 := by rw [← hE7]; exact ((graphB_true ga).2.2.2 i j (by omega) (by omega)).1
      subst ge
      have cc := fun (W : World) (hB : Below w50.heap.size w50 W) => implIsGraph_any _ dd W ((hS.next hB).get m8'.out) (by omega)
      rw [show IsGraph_v dd = true from gd] at cc
      have hd : Below w50.heap.size w50 w50.drew := (Below.refl _ _).drew
      have at' : ∀ W, Below w50.heap.size w50 W → (W.cell? ⟨b9, o9 + i, none⟩ = some (.slice (some ⟨ro9 i, rof9 i, none⟩) a.length (rc9 i)) ∧ W.cell? ⟨ro9 i, rof9 i + j, none⟩ = some (.int .i64 (E7 + 1)) ∧ W.cell? ⟨b7, o7 + i, none⟩ = some (.slice (some ⟨ro7 i, rof7 i, none⟩) a.length (rc7 i)) ∧ W.cell? ⟨ro7 i, rof7 i + j, none⟩ = some (.int .i64 E7)) := fun W hB => by
        obtain ⟨p1, -, p2⟩ := H9.below hB i hi
        obtain ⟨p3, -, p4⟩ := H7.below hB i hi
        exact ⟨p1, by rw [← hE9]; exact p2 j hj, p3, by rw [← hE7]; exact p4 j hj⟩
      have cc' := Lib.hid cc
      have at'' := Lib.hid at'
      have hE9' := Lib.hid hE9
      have hE7' := Lib.hid hE7
      have gl' := Lib.hid gl
      clear cc at' hE9 hE7 gl
      clear H9 H7
      go_wp2_with fail
      refine wp_region_held_drew (S := (fun w' => w'.cell? ⟨b9, o9 + i, none⟩ = some (.slice (some ⟨ro9 i, rof9 i, none⟩) a.length (rc9 i)) ∧ w'.cell? ⟨ro9 i, rof9 i + j, none⟩ = some (.int .i64 (E7 + 1)) ∧ w'.cell? ⟨b7, o7 + i, none⟩ = some (.slice (some ⟨ro7 i, rof7 i, none⟩) a.length (rc7 i)) ∧ w'.cell? ⟨ro7 i, rof7 i + j, none⟩ = some (.int .i64 E7))) (by kernel_rfl) (by (try dsimp only); (exact at''.out _ hd)) (fun hHeld => ?_)
      refine wpAnyH_take (i := 0) (oi := Oper.mk _ _ _ _ _ _) (v := ?_) rfl (by kernel_rfl) (by kernel_rfl) (by kernel_rfl) (fun _ _ _ h => h) (Or.inl ⟨by kernel_rfl, ?_⟩) hHeld ?_
      rotate_left
      · (intro wS hSw; (try dsimp only at hSw); go_simp; all_goals (with_reducible rfl))
      try simp only [Act.put, List.setIfInBounds_toArray, List.set_cons_zero, List.set_cons_succ]
      refine wpAnyH_take (i := 1) (oi := Oper.mk _ _ _ _ _ _) (v := ?_) rfl (by kernel_rfl) (by kernel_rfl) (by kernel_rfl) (fun _ _ _ h => h) (Or.inl ⟨by kernel_rfl, ?_⟩) hHeld ?_
      rotate_left
      · (intro wS hSw; (try dsimp only at hSw); go_simp; all_goals (with_reducible rfl))
      try simp only [Act.put, List.setIfInBounds_toArray, List.set_cons_zero, List.set_cons_succ]
      refine wpAnyH_take (i := 2) (oi := Oper.mk _ _ _ _ _ _) (v := ?_) rfl (by kernel_rfl) (by kernel_rfl) (by kernel_rfl) (fun _ _ _ h => h) (Or.inl ⟨by kernel_rfl, ?_⟩) hHeld ?_
      rotate_left
      · (intro wS hSw; (try dsimp only at hSw); go_simp; all_goals (with_reducible rfl))
      try simp only [Act.put, List.setIfInBounds_toArray, List.set_cons_zero, List.set_cons_succ]
      refine wpAnyH_take (i := 3) (oi := Oper.mk _ _ _ _ _ _) (v := ?_) rfl (by kernel_rfl) (by kernel_rfl) (by kernel_rfl) (fun _ _ _ h => h) (Or.inl ⟨by kernel_rfl, ?_⟩) hHeld ?_
      rotate_left
      · (intro wS hSw; (try dsimp only at hSw); go_simp; all_goals (with_reducible rfl))
      try simp only [Act.put, List.setIfInBounds_toArray, List.set_cons_zero, List.set_cons_succ]
      refine wpAnyH_take (i := 4) (oi := Oper.mk _ _ _ _ _ _) (v := ?_) rfl (by kernel_rfl) (by kernel_rfl) (by kernel_rfl) (fun _ _ _ h => h) (Or.inl ⟨by kernel_rfl, ?_⟩) hHeld ?_
      rotate_left
      · (intro wS hSw; (try dsimp only at hSw); go_simp; all_goals (with_reducible rfl))
      try simp only [Act.put, List.setIfInBounds_toArray, List.set_cons_zero, List.set_cons_succ]
      refine wpAnyH_take (i := 5) (oi := Oper.mk _ _ _ _ _ _) (v := ?_) rfl (by kernel_rfl) (by kernel_rfl) (by kernel_rfl) (fun _ _ _ h => h) (Or.inl ⟨by kernel_rfl, ?_⟩) hHeld ?_
      rotate_left
      · (intro wS hSw; (try dsimp only at hSw); go_simp; all_goals (with_reducible rfl))
      try simp only [Act.put, List.setIfInBounds_toArray, List.set_cons_zero, List.set_cons_succ]
      refine wpAnyH_take (i := 6) (oi := Oper.mk _ _ _ _ _ _) (v := ?_) rfl (by kernel_rfl) (by kernel_rfl) (by kernel_rfl) (fun _ _ _ h => h) (Or.inl ⟨by kernel_rfl, ?_⟩) hHeld ?_
      rotate_left
      · (intro wS hSw; (try dsimp only at hSw); go_simp; all_goals (with_reducible rfl))
      try simp only [Act.put, List.setIfInBounds_toArray, List.set_cons_zero, List.set_cons_succ]
      refine wpAnyH_take (i := 7) (oi := Oper.mk _ _ _ _ _ _) (v := ?_) rfl (by kernel_rfl) (by kernel_rfl) (by kernel_rfl) (fun _ _ _ h => h) (Or.inl ⟨by kernel_rfl, ?_⟩) hHeld ?_
      rotate_left
      · (intro wS hSw; (try dsimp only at hSw); go_simp; all_goals (with_reducible rfl))
      try simp only [Act.put, List.setIfInBounds_toArray, List.set_cons_zero, List.set_cons_succ]
      refine wpAnyH_take (i := 8) (oi := Oper.mk _ _ _ _ _ _) (v := ?_) rfl (by kernel_rfl) (by kernel_rfl) (by kernel_rfl) (fun _ _ _ h => h) (Or.inl ⟨by kernel_rfl, ?_⟩) hHeld ?_
      rotate_left
      · (intro wS hSw; (try dsimp only at hSw); go_simp; all_goals (with_reducible rfl))
      try simp only [Act.put, List.setIfInBounds_toArray, List.set_cons_zero, List.set_cons_succ]
      refine wpAnyH_take (i := 9) (oi := Oper.mk _ _ _ _ _ _) (v := ?_) rfl (by kernel_rfl) (by kernel_rfl) (by kernel_rfl) (fun _ _ _ h => h) (Or.inl ⟨by kernel_rfl, ?_⟩) hHeld ?_
      rotate_left
      · (intro wS hSw; (try dsimp only at hSw); go_simp; all_goals (with_reducible rfl))
      try simp only [Act.put, List.setIfInBounds_toArray, List.set_cons_zero, List.set_cons_succ]
      refine wpAnyH_take (i := 10) (oi := Oper.mk _ _ _ _ _ _) (v := ?_) rfl (by kernel_rfl) (by kernel_rfl) (by kernel_rfl) (fun _ _ _ h => h) (Or.inl ⟨by kernel_rfl, ?_⟩) hHeld ?_
      rotate_left
      · (intro wS hSw; (try dsimp only at hSw); go_simp; all_goals (with_reducible rfl))
      try simp only [Act.put, List.setIfInBounds_toArray, List.set_cons_zero, List.set_cons_succ]
      refine wpAnyH_take (i := 11) (oi := Oper.mk _ _ _ _ _ _) (v := ?_) rfl (by kernel_rfl) (by kernel_rfl) (by kernel_rfl) (fun _ _ _ h => h) (Or.inl ⟨by kernel_rfl, ?_⟩) hHeld ?_
      rotate_left
      · (intro wS hSw; (try dsimp only at hSw); go_simp; all_goals (with_reducible rfl))
      try simp only [Act.put, List.setIfInBounds_toArray, List.set_cons_zero, List.set_cons_succ]
      refine wpAnyH_take (i := 12) (oi := Oper.mk _ _ _ _ _ _) (v := ?_) rfl (by kernel_rfl) (by kernel_rfl) (by kernel_rfl) (fun _ _ _ h => h) (Or.inl ⟨by kernel_rfl, ?_⟩) hHeld ?_
      rotate_left
      · (intro wS hSw; (try dsimp only at hSw); go_simp; all_goals (with_reducible rfl))
      try simp only [Act.put, List.setIfInBounds_toArray, List.set_cons_zero, List.set_cons_succ]
      refine wpAnyH_take (i := 13) (oi := Oper.mk _ _ _ _ _ _) (v := ?_) rfl (by kernel_rfl) (by kernel_rfl) (by kernel_rfl) (fun _ _ _ h => h) (Or.inl ⟨by kernel_rfl, ?_⟩) hHeld ?_
      rotate_left
      · (intro wS hSw; (try dsimp only at hSw); go_simp; all_goals (with_reducible rfl))
      try simp only [Act.put, List.setIfInBounds_toArray, List.set_cons_zero, List.set_cons_succ]
      refine wpAnyH_take (i := 14) (oi := Oper.mk _ _ _ _ _ _) (v := ?_) rfl (by kernel_rfl) (by kernel_rfl) (by kernel_rfl) (fun _ _ _ h => h) (Or.inl ⟨by kernel_rfl, ?_⟩) hHeld ?_
      rotate_left
      · (intro wS hSw; (try dsimp only at hSw); go_simp; all_goals (with_reducible rfl))
      try simp only [Act.put, List.setIfInBounds_toArray, List.set_cons_zero, List.set_cons_succ]
      refine wpAnyH_take (i := 15) (oi := Oper.mk _ _ _ _ _ _) (v := .bool false) rfl (by kernel_rfl) (by kernel_rfl) (by kernel_rfl) (fun _ _ _ h => h) (Or.inl ⟨by kernel_rfl, ?_⟩) hHeld ?_
      · (intro wS hSw; (try dsimp only at hSw); go_simp; (rw [IntKind.wrap_i64]; omega))
      try simp only [Act.put, List.setIfInBounds_toArray, List.set_cons_zero, List.set_cons_succ]
      refine wpAnyH_take (i := 16) (oi := Oper.mk _ _ _ _ _ _) (v := ?_) rfl (by kernel_rfl) (by kernel_rfl) (by kernel_rfl) (fun _ _ _ h => h) (Or.inl ⟨by kernel_rfl, ?_⟩) hHeld ?_
      rotate_left
      · (intro wS hSw; (try dsimp only at hSw); go_simp; all_goals (with_reducible rfl))
      try simp only [Act.put, List.setIfInBounds_toArray, List.set_cons_zero, List.set_cons_succ]
      refine wpAnyH_take (i := 17) (oi := Oper.mk _ _ _ _ _ _) (v := ?_) rfl (by kernel_rfl) (by kernel_rfl) (by kernel_rfl) (fun _ _ _ h => h) (Or.inl ⟨by kernel_rfl, ?_⟩) hHeld ?_
      rotate_left
      · (intro wS hSw; (try dsimp only at hSw); go_simp; all_goals (with_reducible rfl))
      try simp only [Act.put, List.setIfInBounds_toArray, List.set_cons_zero, List.set_cons_succ]
      refine wpAnyH_ready (rs := [18]) (by kernel_rfl) (by simp) ?_
      refine AllReadyH.cons (o := Oper.mk _ _ _ _ _ _) rfl (fun KK hKK => ?_) AllReadyH.nil
      rw [if_pos (by kernel_rfl)]
      go_simp
      refine (cc'.out _ hd).mono ?_
      rintro e w51 ⟨rfl, hB51⟩
      replace hd := hd.trans (hB51.mono hd.size)
      try dsimp only
      refine hKK.out _ _ (by (try dsimp only); (exact at''.out _ hd)) (fun hHeld => ?_)
      clear hKK KK
      try simp only [Act.put, List.setIfInBounds_toArray, List.set_cons_zero, List.set_cons_succ]
      refine wpAnyH_take (i := 19) (oi := Oper.mk _ _ _ _ _ _) (v := ?_) rfl (by kernel_rfl) (by kernel_rfl) (by kernel_rfl) (fun _ _ _ h => h) (Or.inl ⟨by kernel_rfl, ?_⟩) hHeld ?_
      rotate_left
      · (intro wS hSw; (try dsimp only at hSw); go_simp; all_goals (with_reducible rfl))
      try simp only [Act.put, List.setIfInBounds_toArray, List.set_cons_zero, List.set_cons_succ]
      refine wpAnyH_take (i := 20) (oi := Oper.mk _ _ _ _ _ _) (v := ?_) rfl (by kernel_rfl) (by kernel_rfl) (by kernel_rfl) (fun _ _ _ h => h) (Or.inl ⟨by kernel_rfl, ?_⟩) hHeld ?_
      rotate_left
      · (intro wS hSw; (try dsimp only at hSw); go_simp; all_goals (with_reducible rfl))
      try simp only [Act.put, List.setIfInBounds_toArray, List.set_cons_zero, List.set_cons_succ]
      refine wpAnyH_done (by kernel_rfl) ?_ _
      go_wp2_with fail
      go_meet
      exact hS.next hd
  case rest =>
  clear hS
  have hS := hcut
  obtain ⟨w60, rfl⟩ : ∃ wo : World, wo = wc := ⟨_, rfl⟩
  clear hcut
  go_upto_if 238 with fail
  go_cut [36, 37, 38, 39, 40, 41, 42, 43, 44, 45, 46] from 239 to 314 (fun _ _ _ _ _ _ _ _ _ _ _ wx => StR w wx L)
  case first =>
    cases three
    · go_wp2_with fail
      go_meet
      exact hS
    · obtain ⟨rr, hrr⟩ := walk_graph hr3'.out
      have hwb := walk_back hr3'.out hrr
      have zrr : szIntSS rr ≤ 1000 := by have := (graphB_sz (reverse_back hrr).2.1).1; omega
      have hrr' := Lib.hid hrr
      have hwb' := Lib.hid hwb
      clear hrr hwb
      have cc := implReverseGraph_any _ h w60 (hS.get m4'.out) (by omega)
      rw [hrr'.out] at cc
      have cc' := Lib.hid cc
      clear cc
      go_wp2_with fail
      refine (cc'.out).mono ?_
      rintro e w61 ⟨v21, rfl, q1, hB61⟩
      replace hS := hS.push hB61 (show RowsV _ _ rr from q1.read)
      clear hB61
      clear q1 cc'
      have cc := implWalkCount_any _ rr y x s w61 (hS.get (.head _)) (by omega) (by unfold I64; omega) (by unfold I64; omega) (by unfold I64; omega)
      rw [hwb'.out] at cc
      have cc' := Lib.hid cc
      clear cc
      go_wp2_with fail
      refine (cc'.out).mono ?_
      rintro e w62 ⟨rfl, hB62⟩
      replace hS := hS.next hB62
      clear hB62
      clear cc'
      replace hS := hS.drop
      by_cases hs0 : 0 < s
      case' neg =>
        go_wp2_with fail
        go_meet
        exact hS
      obtain ⟨a4, T, rfl, ha4, hgh, hent, hT, hnn, htot, hcnt⟩ := walk_parts hr3'.out hs0
      obtain ⟨b4, o4, cp4, ro4, rof4, rc4, rfl, H4⟩ := ((hS.get m4'.out)).graph hgh rfl
      have htb : ∀ j, j ≤ h.length → 0 ≤ tot (fun j => ent h a4 j * T j) j ∧ tot (fun j => ent h a4 j * T j) j ≤ 1000000000 := fun j hj => ⟨tot_nonneg fun i hi => hnn i (by omega), by have := tot_mono hnn hj; omega⟩
      have p4 := (H4 a4 ha4).1
      have hent' := Lib.hid hent
      have hT' := Lib.hid hT
      have hnn' := Lib.hid hnn
      have htot' := Lib.hid htot
      have htb' := Lib.hid htb
      have H4' := Lib.hid H4
      have hgh' := Lib.hid hgh
      clear hent hT hnn htot htb H4 hgh
      clear hcnt
      obtain ⟨w70, rfl⟩ : ∃ wo : World, wo = w62 := ⟨_, rfl⟩
      go_wp2_with fail
      go_loopw [40, 270] (fun q i wr => ∃ j : Nat, j ≤ h.length ∧ i = .int .i64 j ∧ q = .int .i64 (tot (fun j => ent h a4 j * T j) j) ∧ StR w wr L ∧ Below w70.heap.size w70 wr) (fun _ i _ => h.length - (intOf i).toNat)
      case atStart => exact ⟨0, Nat.zero_le _, rfl, rfl, hS, Below.refl _ _⟩
      case round =>
        obtain ⟨j, hj, rfl, rfl, hS, hB⟩ := hrel
        obtain ⟨w71, rfl⟩ : ∃ wo : World, wo = wr := ⟨_, rfl⟩
        by_cases hlt : j < h.length
        · obtain ⟨-, -, q4⟩ := H4'.out.below hB a4 ha4
          replace q4 := q4 j hlt
          have hej := hent'.out j hlt
          have hnj := hnn'.out j hlt
          have hb1 := htb'.out j hj
          have hb2 := htb'.out (j + 1) hlt
          have hTj := hT'.out j hlt
          rw [tot_s] at hb2
          have hts := tot_s (fun j => ent h a4 j * T j) j
          obtain ⟨Q, hQ⟩ : ∃ Q, tot (fun j => ent h a4 j * T j) j = Q := ⟨_, rfl⟩
          rw [hQ] at hb1 hb2 hts ⊢
          obtain ⟨e4, he4⟩ : ∃ z, ent h a4 j = z := ⟨_, rfl⟩
          rw [he4] at q4 hej hnj hb2 hTj hts
          have hts' := Lib.hid hts
          have hQ' := Lib.hid hQ
          have he4' := Lib.hid he4
          have hTj' := Lib.hid hTj
          clear hts hQ he4 hTj
          by_cases hz : e4 = 0
          · subst hz
            go_wp2_with fail
            go_roundw
            case rel => exact ⟨j + 1, by omega, by go_num, by rw [hts'.out, Int.zero_mul, Int.add_zero], hS, hB⟩
            case measure => simp [intOf]; omega
          · have hcj := hTj'.out hz
            obtain ⟨X, hX⟩ : ∃ X, T j = X := ⟨_, rfl⟩
            rw [hX] at hcj hnj hb2 hts'
            have hez : (e4 == 0) = false := by rw [beq_eq_false_iff_ne]; exact hz
            have hcj' := Lib.hid hcj
            have hz' := Lib.hid hz
            have hX' := Lib.hid hX
            clear hcj hz hX
            have cc := implWalkCount_any _ h (j : Int) y (s - 1) w71 (hS.get m4'.out) (by omega) (by unfold I64; omega) (by unfold I64; omega) (by unfold I64; omega)
            rw [hcj'.out] at cc
            have cc' := Lib.hid cc
            clear cc
            go_wp2_with fail
            refine (cc'.out).mono ?_
            rintro e w72 ⟨rfl, hB72⟩
            replace hS := hS.next hB72
            replace hB := hB.trans (hB72.mono hB.size)
            clear hB72 cc'
            have cc := specWalkCount_any _ h (j : Int) y (s - 1) w72 (hS.get m4'.out) (by omega) (by unfold I64; omega) (by unfold I64; omega) (by unfold I64; omega)
            rw [hcj'.out] at cc
            have cc' := Lib.hid cc
            clear cc
            go_wp2_with fail
            refine (cc'.out).mono ?_
            rintro e w73 ⟨rfl, hB73⟩
            replace hS := hS.next hB73
            replace hB := hB.trans (hB73.mono hB.size)
            clear hB73 cc'
            go_wp2_with fail
            go_roundw
            case rel => exact ⟨j + 1, by omega, by go_num, by rw [hts'.out], hS, hB⟩
            case measure => simp [intOf]; omega
        · have hjn : j = h.length := by omega
          subst hjn
          rw [htot'.out]
          go_wp2_with fail
          go_meet
          exact hS
  case rest =>
  clear hS
  have hS := hcut
  obtain ⟨w80, rfl⟩ : ∃ wo : World, wo = wc := ⟨_, rfl⟩
  clear hcut
  cases ok
  · go_wp2_with fail
    go_ret
    exact ⟨rfl, hS.below⟩
  obtain ⟨g1, g2, g3⟩ := power_is hr1'.out
  obtain ⟨f, hf⟩ : ∃ f, pwG g t.toNat = f := ⟨_, rfl⟩
  obtain ⟨n, hn⟩ : ∃ n, g.length = n := ⟨_, rfl⟩
  obtain ⟨n1, n8, -, -⟩ := graphB_true g1
  have hcl : one = true → c = clS f n := fun h => by rw [← hf, ← hn]; exact closed_is (by rw [hr2'.out, h])
  rw [hf, hn] at g2
  rw [hf, hn] at g3
  rw [hn] at n1 n8
  have hv3 := ((hS.get m3'.out))
  rw [g2] at hv3
  obtain ⟨b3, o3, cp3, ro3, rof3, rc3, rfl, -, -, H3⟩ := hv3.gr (n := n) (m := n) (tab_len _ _ _) n1 n1 (fun i hi => by rw [tab_row hi, lst_len])
  have hsb : ∀ k, k ≤ n → 0 ≤ clS f k ∧ clS f k ≤ 8000000000 := fun k hk => by
    have h1 := clS_bd (fun k hk => g3 k k hk hk) k hk
    have h2 : (k : Int) * 1000000000 ≤ 8 * 1000000000 := by omega
    omega
  have g1' := Lib.hid g1
  have g2' := Lib.hid g2
  have g3' := Lib.hid g3
  have hf' := Lib.hid hf
  have hn' := Lib.hid hn
  have hcl' := Lib.hid hcl
  have hsb' := Lib.hid hsb
  have H3' := Lib.hid H3
  clear g1 g2 g3 hf hn hcl hsb H3
  clear hv3
  go_wp2_with fail
  go_loop [47, 319] (fun q i => ∃ j : Nat, j ≤ n ∧ i = .int .i64 j ∧ q = .int .i64 (clS f j)) (fun _ i => n - (intOf i).toNat)
  case atStart => exact ⟨0, Nat.zero_le _, rfl, rfl⟩
  case round =>
    obtain ⟨j, hj, rfl, rfl⟩ := hrel
    by_cases hlt : j < n
    · obtain ⟨q1, -, q2⟩ := H3'.out j hlt
      replace q2 := q2 j hlt
      rw [ent_tab hlt hlt] at q2
      have b1 := hsb'.out j hj
      have b2 := g3'.out j j hlt hlt
      have hs := clS_succ f j
      have hs' := Lib.hid hs
      clear hs
      go_wp2_with fail
      go_round
      case rel => exact ⟨j + 1, by omega, by go_num, by rw [hs'.out]⟩
      case measure => simp [intOf]; omega
    · obtain rfl : j = n := by omega
      cases one
      · go_wp2_with fail
        go_ret
        exact ⟨rfl, hS.below⟩
      · have := hcl'.out rfl
        subst this
        go_wp2_with fail
        go_ret
        exact ⟨rfl, hS.below⟩

set_option maxRecDepth 100000 in
theorem lawWalks_over (ao0 : Option Addr) (n0 cap0 : Nat) (ao1 : Option Addr) (n1 cap1 : Nat) (w : World) (hn0 : n0 ≤ 140737488355328) (hn1 : n1 ≤ 140737488355328) (hl : ¬ n0 + n1 ≤ 1048576) :
    Calls Try.prog 3 #[.slice ao0 n0 cap0, .slice ao1 n1 cap1] w (Ret (.bool true) w) := by
  go_enter Try.func3, Try.ntmps3
  go_wp2
  go_ret
  exact ⟨rfl, Below.refl _ _⟩

theorem lawWalks_any (a0 a1 : Value) (w : World) (h0 : CodeX w a0) (h1 : CodeX w a1) :
    Calls Try.prog 3 #[a0, a1] w (Ret (.bool true) w) := by
  obtain ⟨ao0, n0, cap0, rfl, hn0, h0⟩ := h0
  obtain ⟨ao1, n1, cap1, rfl, hn1, h1⟩ := h1
  by_cases hl : n0 + n1 ≤ 1048576
  · exact lawWalks_main ao0 n0 cap0 ao1 n1 cap1 w (Lib.hid (h0 (by omega))) (Lib.hid (h1 (by omega))) hl
  · exact lawWalks_over ao0 n0 cap0 ao1 n1 cap1 w hn0 hn1 hl


open Go.ChangeShapes Go.WideShapes Go.ChangeAt in
set_option maxRecDepth 100000 in
theorem lawWalks_lifted (os : Os) (started : os.Started) (H : Type) (enc : TypeId × Value → H) :
    ReturnsInHanded {} Try.checked os 3 .any (Rows.fnWalksSpec.pre6 enc Try.prog Try.f3 Rows.fnWalksRow.domain false) (Rows.fnWalksSpec.post enc Try.prog Try.f3 false true false false) := by
  refine returnsInHanded_of_change_sized (C := Try.checked) Try.own started (by kernel_rfl) Try.func3
    (ChangeSpec.witness6 (enc := enc) (C := Try.checked) false ⟨#[], #[.slice none 0 0, .slice none 0 0], []⟩ 8 (by kernel_rfl) (by kernel_rfl) (by kernel_rfl) (by kernel_rfl)) ?_
  intro W base args ds gs before hval0 hW _ hsz0 _
  have hsz : (DataW.weightsEach Try.prog (Try.f3.params.toList ++ Rows.fnWalksSpec.plain.varTypes Try.prog) (ds ++ gs)).all (· ≤ reachBytes) = true := hsz0
  clear hsz0
  have hval : ∀ (j : Nat) t v, Try.f3.params[j]? = some t → args[j]? = some v → Value.okWide Try.prog W .any base t v := hval0
  have hW' := hW
  obtain ⟨p, q, hA0, hV, rfl, _, _⟩ := hW
  have hA : DataW.TrodAll enc Try.prog W 0 (fun _ => true) true Try.f3.params.toList args.toList ds p := hA0
  have hA' := hA
  rw [Try.params3] at hA hval hsz
  obtain ⟨v0, v1, d0, d1, p0, p1, rfl, rfl, rfl, h0, h1⟩ := trodAll_two hA
  obtain ⟨rfl, rfl⟩ := trodVars_none hV
  refine (lawWalks_any v0 v1 W (open_codeX (hval 0 22 v0 rfl rfl) h0 fun _ _ e => by subst e; exact sized_slice hsz (j := 0) rfl rfl Try.underlying22) (open_codeX (hval 1 22 v1 rfl rfl) h1 fun _ _ e => by subst e; exact sized_slice hsz (j := 1) rfl rfl Try.underlying22)).mono fun e W' ⟨he, hB⟩ => ?_
  subst he
  exact law_post hW' rfl hA' (by rw [Try.params3]; decide +kernel) rfl rfl rfl rfl hB

theorem fnWalks_holds : Rows.FnWalksSaid :=
  OpenClaim.holds_of_wide 3 Try.f3 rfl rfl rfl rfl rfl rfl rfl ⟨rfl, rfl, rfl, rfl, rfl⟩ rfl rfl rfl rfl rfl (by kernel_rfl) Try.func3 (by kernel_rfl)
    (of_decide_eq_true (by kernel_rfl)) (by unfold Func.isWrapper; rw [if_neg (of_decide_eq_false (by kernel_rfl))]; exact ⟨rfl, rfl⟩)
    (fun os started H enc _ => lawWalks_lifted os started H enc)

#print axioms fnWalks_holds

end Go.Proofs.Ytblippeklbhepaa

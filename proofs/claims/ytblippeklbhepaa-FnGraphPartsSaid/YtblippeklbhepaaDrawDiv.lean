/- A drawn division, told loosely: two small lists in new memory. No conditions but small sizes. -/
import Derived.Test.YtblippeklbhepaaDrawP
import Derived.Test.YtblippeklbhepaaShift
namespace Go.Proofs.Ytblippeklbhepaa
open Go.RowKit

theorem anyPoly_start (v : Value) (n : Nat) (w : World) (h : CodeV w v n) :
    Calls Try.prog 88 #[.pointer (some ⟨w.heap.size, 0, none⟩)] (w.alloc (.cells #[v, .int .i64 0, .int .u64 0] 69)) fun e w' =>
      ∃ u xs, e = .returned u ∧ IntsV w' u xs ∧ xs.length ≤ 11 ∧ Off w.heap.size u ∧ CurAt w' w.heap.size 200 ∧ Below w.heap.size w w' := by
  refine (anyPoly_any w.heap.size 0 _ (CurAt.start h) (by omega)).mono ?_
  rintro e w' ⟨u, xs, h1, h2, h3, h4, h5⟩
  refine ⟨u, xs, h1, h2.read, h3, ?_, h4, start_below h5⟩
  rintro b off k cap rfl rfl
  rcases h2.2 with ⟨e, _⟩ | ⟨g, cap', cur, e, h6, _⟩
  · cases e
  · simp only [Value.slice.injEq, Option.some.injEq, Addr.mk.injEq] at e
    simp at h6
    omega
set_option maxHeartbeats 4000000 in
theorem DrawDivideByMonic_any (v : Value) (n : Nat) (w : World) (h : CodeV w v n) : Calls Try.prog 26 #[v] w (DrawII w) := by
  have c1 := anyPoly_start v n w h
  obtain ⟨ao, cap, rfl, -, -⟩ := h
  have c1' := Lib.hid c1
  clear c1
  go_enter Try.func26, Try.ntmps26
  go_wp2_with fail
  refine (c1'.out).mono ?_
  rintro e w1 ⟨u1, ps, rfl, ho1, hl1, hoff, hc1, hB1⟩
  have hz1 := hc1.lt
  go_wp2_with fail
  refine (poly_any w.heap.size _ w1 hc1 (by omega)).mono ?_
  rintro e w2 ⟨u2, qs, rfl, ho2, hl2, hc2, hG⟩
  clear hc1
  have hl1' := Lib.hid hl1
  clear hl1
  obtain ⟨qo, qc, rfl⟩ := ho2.shape
  obtain ⟨m, hm⟩ : ∃ m, qs.length = m := ⟨_, rfl⟩
  rw [hm] at ho2 hl2 ⊢
  have hm' := Lib.hid hm
  clear hm
  by_cases h3 : 3 < m
  case' pos =>
    go_wp2_with fail
    refine (among_list w.heap.size _ [2, 3] w2 2 hc2 (by omega) rfl (by omega) (by omega)).mono ?_
    rintro e w3 ⟨v3, rfl, ⟨z, rfl, hz⟩, hc3, hg3⟩
    replace hG := hG.trans hg3
    have ho3 := (ho2.kept hg3 (fun g e => by cases e; exact hz1)).read
    have hz2 : ∃ j : Nat, z = j ∧ j ≤ 3 := by
      simp at hz
      rcases hz with rfl | rfl
      · exact ⟨2, rfl, by omega⟩
      · exact ⟨3, rfl, by omega⟩
    obtain ⟨j, rfl, hj⟩ := hz2
    have hcap : m ≤ qc := by
      obtain ⟨_, _, e, ⟨h1, _⟩, _⟩ := ho3
      cases e; omega
    rw [show m = qs.length from hm'.out.symm] at ho3 hcap h3
    have hq := ho3.take (k := j) (by omega)
    have hql : (qs.take j).length ≤ 3 := by rw [List.length_take]; omega
    have hz' := Lib.hid hz
    have ho3' := Lib.hid ho3
    have hql' := Lib.hid hql
    clear hz ho3 hql
    rw [hm'.out] at hcap h3
    go_wp2_with fail
    refine (poTrim_grow _ _ w3 hq (by have := hql'.out; omega)).mono ?_
    rintro e w4 ⟨u4, rs, rfl, ho4, hrl, hB⟩
    have hs3 := hG.size
    replace hc2 := hc3.below hB hc3.lt
    replace hG := grown_below hG hB hs3
    replace ho4 := ho4.mono (B' := w1.heap.size) hs3
    obtain ⟨ro, rc, rfl⟩ := ho4.shape
    have hk9 := Nat.le_trans hrl (Nat.le_trans hql'.out (show 3 ≤ 9 by omega))
    clear hrl hB hg3
    obtain ⟨k, hk⟩ : ∃ k, rs.length = k := ⟨_, rfl⟩
    rw [hk] at ho4 hk9 ⊢
    replace hc2 : CurAt w4 w.heap.size 400 := hc2.mono (by omega)
    clear hc3 ho2 hq hcap hm' hl2 ho3' hz' hql' h3 hs3
    have hk' := Lib.hid hk
    clear hk
  case' neg =>
    obtain ⟨w4, rfl⟩ : ∃ w4 : World, w4 = w2 := ⟨_, rfl⟩
    obtain ⟨k, rfl⟩ : ∃ k : Nat, k = m := ⟨_, rfl⟩
    obtain ⟨ro, rfl⟩ : ∃ ro : Option Addr, ro = qo := ⟨_, rfl⟩
    obtain ⟨rc, rfl⟩ : ∃ rc : Nat, rc = qc := ⟨_, rfl⟩
    obtain ⟨rs, rfl⟩ : ∃ rs : List Int, rs = qs := ⟨_, rfl⟩
    have ho4 := ho2
    have hk9 := hl2
    replace hc2 : CurAt w4 w.heap.size 400 := hc2.mono (by omega)
    have hk' := hm'
    clear ho2 hm' hl2
  all_goals
   have hs4 := hG.size
   by_cases hk0 : k = 0
   case' pos =>
     subst hk0
     have hl0 : rs.length ≤ 1099511627776 := by rw [hk'.out]; omega
     have hl1 : (rs ++ [1]).length ≤ 10 := by rw [List.length_append, hk'.out]; simp
     have hl0' := Lib.hid hl0
     have hl1' := Lib.hid hl1
     clear hl0 hl1
     go_wp2_with (at_builtin; refine wpList_append_int rfl _ _ rfl w1.heap.size (.slice ro 0 rc) rs 1 _ rfl rfl ho4 hl0'.out hs4 ?_)
     intro v6 w6 hgn hgrow
     have hb5 := ho4.block
     have hc6 := (hc2.kept hgrow (fun g e => by have := hb5 g e; omega)).mono (show 400 ≤ 404 by omega)
     have hG6 := grown_new hG hgrow (fun g e => hb5 g e)
     have hss : ∃ ss, Hid (Grow w6 w1.heap.size v6 ss ∧ ss.length ≤ 10) := ⟨_, Lib.hid ⟨hgn, hl1'.out⟩⟩
     clear hgn hgrow hb5 hl0' hl1' ho4 hk' hc2 hG
   case' neg =>
     have hkz : ((k : Int) == 0) = false := by rw [beq_eq_false_iff_ne]; omega
     go_wp2_with fail
     refine (one_any w.heap.size _ 12 w4 hc2 (by omega) (by omega) (by omega)).mono ?_
     rintro e w6 ⟨vb, rfl, ⟨b, rfl⟩, hc6, hg6⟩
     have hG6 := hG.trans hg6
     replace ho4 := ho4.kept hg6 (fun g e => by cases e; exact hz1)
     replace hs4 := hG6.size
     replace hc6 := hc6.mono (show 400 + 2 ≤ 404 by omega)
     clear hg6 hc2 hG
     cases b
     case' false =>
       have hl0 : rs.length ≤ 1099511627776 := by rw [hk'.out]; omega
       have hl1 : (rs ++ [1]).length ≤ 10 := by rw [List.length_append, hk'.out]; simp; omega
       have hl0' := Lib.hid hl0
       have hl1' := Lib.hid hl1
       clear hl0 hl1
       obtain ⟨w5, rfl⟩ : ∃ w5 : World, w5 = w6 := ⟨_, rfl⟩
       go_wp2_with (at_builtin; refine wpList_append_int rfl _ _ rfl w1.heap.size (.slice ro k rc) rs 1 _ rfl rfl ho4 hl0'.out hs4 ?_)
       intro v6 w6 hgn hgrow
       have hb5 := ho4.block
       replace hc6 := hc6.kept hgrow (fun g e => by have := hb5 g e; omega)
       replace hG6 := grown_new hG6 hgrow (fun g e => hb5 g e)
       have hss : ∃ ss, Hid (Grow w6 w1.heap.size v6 ss ∧ ss.length ≤ 10) := ⟨_, Lib.hid ⟨hgn, hl1'.out⟩⟩
       clear hgn hgrow hb5 hl0' hl1' ho4 hk'
     case' true =>
       have hss : ∃ ss, Hid (Grow w6 w1.heap.size (.slice ro k rc) ss ∧ ss.length ≤ 10) := ⟨rs, Lib.hid ⟨ho4, by rw [hk'.out]; omega⟩⟩
       clear ho4 hk'
  all_goals
   obtain ⟨ss, hss⟩ := hss
   go_wp2_with fail
   refine (one_any w.heap.size _ 4 w6 hc6 (by omega) (by omega) (by omega)).mono ?_
   rintro e w7 ⟨vb, rfl, ⟨b7, rfl⟩, hc7, hg7⟩
   have hG7 := hG6.trans hg7
   have ho7 := hss.out.1.kept hg7 (fun g e => by cases e; exact hz1)
   have hl7 := hss.out.2
   clear hss hc6 hG6 hg7
   have hl7' := Lib.hid hl7
   clear hl7
   cases b7
   · have hr := ho1.off hoff hG7
     have hB := cur_below hB1 hG7 hz1
     go_wp2
     go_ret2
     exact ⟨_, _, ps, ss, rfl, hr, by have := hl1'.out; omega, ho7.read, by have := hl7'.out; omega, hB⟩
   · go_wp2_with fail
     refine (pick_any w.heap.size _ 5 w7 hc7 (by omega) (by omega) (by omega)).mono ?_
     rintro e w8 ⟨v8, rfl, ⟨x8, rfl, hx8⟩, hc8, hg8⟩
     have ho8 := ho7.kept hg8 (fun g e => by cases e; exact hz1)
     have hG8 := hG7.trans hg8
     have hA : Below w8.heap.size w8 (w8.alloc (.cells #[.int .i64 (x8 : Int), .int .i64 1] 3)) := (Below.refl _ _).alloc (Nat.le_refl _) _
     have hpr := specprod_any _ _ ss [(x8 : Int), 1] _ (ho8.read.below hA) (intsV_pair w8 x8 1) (by have := hl7'.out; omega) (by simp)
     have hpl := prodL_len ss [(x8 : Int), 1]
     have hpr' := Lib.hid hpr
     have hpl' := Lib.hid hpl
     have hx8' := Lib.hid hx8
     clear hpr hpl hx8
     go_wp2_with fail
     refine (hpr'.out).mono ?_
     rintro e w9 ⟨v9, rfl, ho9, hB9⟩
     have hA9 := hA.trans (hB9.mono hA.size)
     have hs8 := hG8.size
     have hG9 := grown_below hG8 hA9 hs8
     have hB := cur_below hB1 hG9 hz1
     have hr9 := ho8.read.below hA9
     go_wp2
     go_ret2
     exact ⟨_, _, _, ss, rfl, ho9.read, by have := hl7'.out; have := hpl'.out; simp at this; omega, hr9, by have := hl7'.out; omega, hB⟩

end Go.Proofs.Ytblippeklbhepaa

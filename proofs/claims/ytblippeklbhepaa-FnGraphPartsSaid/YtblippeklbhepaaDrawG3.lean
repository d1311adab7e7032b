/- The draws of graphs, told loosely. No conditions but small sizes. -/
import Derived.Test.YtblippeklbhepaaDrawG2
import Derived.Test.YtblippeklbhepaaDrawDiv
namespace Go.Proofs.Ytblippeklbhepaa
open Go.RowKit

theorem anyGraph_start (v : Value) (n : Nat) (w : World) (h : CodeV w v n) :
    Calls Try.prog 59 #[.pointer (some ⟨w.heap.size, 0, none⟩)] (w.alloc (.cells #[v, .int .i64 0, .int .u64 0] 69)) fun e w' =>
      ∃ u xss, e = .returned u ∧ RowsK w.heap.size w' u xss ∧ (xss.length ≤ 9 ∧ szIntSS xss ≤ 1000) ∧ CurAt w' w.heap.size 400 ∧ Below w.heap.size w w' := by
  refine (anyGraph_any w.heap.size 0 _ (CurAt.start h) (by omega)).mono ?_
  rintro e w' ⟨u, xss, h1, h2, h3, h4, h5⟩
  exact ⟨u, xss, h1, h2, h3, h4, start_below h5⟩

/-- It returns a small table. -/
def DrawT (w : World) (e : Ending) (w' : World) : Prop := ∃ v xss, e = .returned v ∧ RowsV w' v xss ∧ (xss.length ≤ 9 ∧ szIntSS xss ≤ 1000) ∧ Below w.heap.size w w'
/-- It returns a small table and small numbers. -/
def DrawTn (w : World) (e : Ending) (w' : World) : Prop := ∃ v xss x, e = .returned (.tuple #[v, .int .i64 x]) ∧ RowsV w' v xss ∧ (xss.length ≤ 9 ∧ szIntSS xss ≤ 1000) ∧ (-2 ≤ x ∧ x ≤ 20) ∧ Below w.heap.size w w'
def DrawTnn (w : World) (e : Ending) (w' : World) : Prop := ∃ v xss x y, e = .returned (.tuple #[v, .int .i64 x, .int .i64 y]) ∧ RowsV w' v xss ∧ (xss.length ≤ 9 ∧ szIntSS xss ≤ 1000) ∧ (-2 ≤ x ∧ x ≤ 20) ∧ (-2 ≤ y ∧ y ≤ 20) ∧ Below w.heap.size w w'
def DrawTnnn (w : World) (e : Ending) (w' : World) : Prop := ∃ v xss x y z, e = .returned (.tuple #[v, .int .i64 x, .int .i64 y, .int .i64 z]) ∧ RowsV w' v xss ∧ (xss.length ≤ 9 ∧ szIntSS xss ≤ 1000) ∧ (-2 ≤ x ∧ x ≤ 20) ∧ (-2 ≤ y ∧ y ≤ 20) ∧ (-2 ≤ z ∧ z ≤ 20) ∧ Below w.heap.size w w'
def DrawTI (w : World) (e : Ending) (w' : World) : Prop := ∃ v xss u xs, e = .returned (.tuple #[v, u]) ∧ RowsV w' v xss ∧ (xss.length ≤ 9 ∧ szIntSS xss ≤ 1000) ∧ IntsV w' u xs ∧ xs.length ≤ 20 ∧ Below w.heap.size w w'

theorem DrawIsGraph_any (v : Value) (n : Nat) (w : World) (h : CodeV w v n) : Calls Try.prog 102 #[v] w (DrawT w) := by
  have c1 := anyGraph_start v n w h
  obtain ⟨ao, cap, rfl, -, -⟩ := h
  have c1' := Lib.hid c1
  clear c1
  go_enter Try.func102, Try.ntmps102
  go_wp2_with fail
  refine (c1'.out).mono ?_
  rintro e w1 ⟨u, xss, rfl, hK, hl, hc1, hB⟩
  have hl' := Lib.hid hl
  clear hl
  go_wp2
  go_ret
  exact ⟨_, xss, rfl, hK.now, hl'.out, hB⟩
theorem DrawStrongParts_any (v : Value) (n : Nat) (w : World) (h : CodeV w v n) : Calls Try.prog 40 #[v] w (DrawT w) := by
  go_enter Try.func40, Try.ntmps40
  go_wp2_with fail
  refine (DrawIsGraph_any v n _ h).mono ?_
  rintro e w1 ⟨u, xss, rfl, hK, hl, hB⟩
  have hl' := Lib.hid hl
  clear hl
  go_wp2
  go_ret
  exact ⟨_, xss, rfl, hK, hl'.out, hB⟩
theorem DrawPowerOf_any (v : Value) (n : Nat) (w : World) (h : CodeV w v n) : Calls Try.prog 6 #[v] w (DrawTn w) := by
  have c1 := anyGraph_start v n w h
  obtain ⟨ao, cap, rfl, -, -⟩ := h
  have c1' := Lib.hid c1
  clear c1
  go_enter Try.func6, Try.ntmps6
  go_wp2_with fail
  refine (c1'.out).mono ?_
  rintro e w1 ⟨u, xss, rfl, hK, hl, hc1, hB⟩
  go_wp2_with fail
  refine (walkSteps_any w.heap.size _ w1 hc1 (by omega)).mono ?_
  rintro e w2 ⟨v2, rfl, ⟨x, rfl, hx⟩, hc2, hg2⟩
  have hB2 := cur_below hB hg2 hc1.lt
  have hl' := Lib.hid hl
  have hx' := Lib.hid hx
  clear hl hx
  go_wp2
  go_ret2
  exact ⟨_, xss, x, rfl, hK w2 hg2, hl'.out, hx'.out, hB2⟩
theorem DrawReachOf_any (v : Value) (n : Nat) (w : World) (h : CodeV w v n) : Calls Try.prog 52 #[v] w (DrawTn w) := by
  have c1 := anyGraph_start v n w h
  obtain ⟨ao, cap, rfl, -, -⟩ := h
  have c1' := Lib.hid c1
  clear c1
  go_enter Try.func52, Try.ntmps52
  go_wp2_with fail
  refine (c1'.out).mono ?_
  rintro e w1 ⟨u, xss, rfl, hK, hl, hc1, hB⟩
  go_wp2_with fail
  refine (stateOf_any w.heap.size _ u xss w1 hc1 (by omega) hK.now hl.1).mono ?_
  rintro e w2 ⟨v2, rfl, ⟨x, rfl, hx⟩, hc2, hg2⟩
  have hB2 := cur_below hB hg2 hc1.lt
  have hl' := Lib.hid hl
  have hx' := Lib.hid hx
  clear hl hx
  go_wp2
  go_ret2
  exact ⟨_, xss, x, rfl, hK w2 hg2, hl'.out, hx'.out, hB2⟩
theorem DrawAddArrow_any (v : Value) (n : Nat) (w : World) (h : CodeV w v n) : Calls Try.prog 16 #[v] w (DrawTnn w) := by
  have c1 := anyGraph_start v n w h
  obtain ⟨ao, cap, rfl, -, -⟩ := h
  have c1' := Lib.hid c1
  clear c1
  go_enter Try.func16, Try.ntmps16
  go_wp2_with fail
  refine (c1'.out).mono ?_
  rintro e w1 ⟨u, xss, rfl, hK, hl, hc1, hB⟩
  go_wp2_with fail
  refine (stateOf_any w.heap.size _ u xss w1 hc1 (by omega) hK.now hl.1).mono ?_
  rintro e w2 ⟨v2, rfl, ⟨x, rfl, hx⟩, hc2, hg2⟩
  go_wp2_with fail
  refine (stateOf_any w.heap.size _ u xss w2 hc2 (by omega) (hK w2 hg2) hl.1).mono ?_
  rintro e w3 ⟨v3, rfl, ⟨y, rfl, hy⟩, hc3, hg3⟩
  have hg := hg2.trans hg3
  have hB2 := cur_below hB hg hc1.lt
  have hl' := Lib.hid hl
  have hx' := Lib.hid hx
  have hy' := Lib.hid hy
  clear hl hx hy
  go_wp2
  refine bodyPost_ret (v := .tuple #[u, .int .i64 x, .int .i64 y]) (by simp [results, Try.results16, go_sem]) rfl ?_
  exact ⟨_, xss, x, y, rfl, hK w3 hg, hl'.out, hx'.out, hy'.out, hB2⟩
theorem DrawShortestWalk_any (v : Value) (n : Nat) (w : World) (h : CodeV w v n) : Calls Try.prog 49 #[v] w (DrawTnn w) := by
  go_enter Try.func49, Try.ntmps49
  go_wp2_with fail
  refine (DrawAddArrow_any v n _ h).mono ?_
  rintro e w1 ⟨u, xss, x, y, rfl, hK, hl, hx, hy, hB⟩
  have hl' := Lib.hid hl
  have hx' := Lib.hid hx
  have hy' := Lib.hid hy
  clear hl hx hy
  go_wp2
  refine bodyPost_ret (v := .tuple #[u, .int .i64 x, .int .i64 y]) (by simp [results, Try.results49, go_sem]) rfl ?_
  exact ⟨_, xss, x, y, rfl, hK, hl'.out, hx'.out, hy'.out, hB⟩
set_option maxHeartbeats 400000 in
theorem DrawWalkCount_any (v : Value) (n : Nat) (w : World) (h : CodeV w v n) : Calls Try.prog 11 #[v] w (DrawTnnn w) := by
  have c1 := anyGraph_start v n w h
  obtain ⟨ao, cap, rfl, -, -⟩ := h
  have c1' := Lib.hid c1
  clear c1
  go_enter Try.func11, Try.ntmps11
  go_wp2_with fail
  refine (c1'.out).mono ?_
  rintro e w1 ⟨u, xss, rfl, hK, hl, hc1, hB⟩
  go_wp2_with fail
  refine (stateOf_any w.heap.size _ u xss w1 hc1 (by omega) hK.now hl.1).mono ?_
  rintro e w2 ⟨v2, rfl, ⟨x, rfl, hx⟩, hc2, hg2⟩
  go_wp2_with fail
  refine (stateOf_any w.heap.size _ u xss w2 hc2 (by omega) (hK w2 hg2) hl.1).mono ?_
  rintro e w3 ⟨v3, rfl, ⟨y, rfl, hy⟩, hc3, hg3⟩
  go_wp2_with fail
  refine (walkSteps_any w.heap.size _ w3 hc3 (by omega)).mono ?_
  rintro e w4 ⟨v4, rfl, ⟨z, rfl, hz⟩, hc4, hg4⟩
  have hg := hg2.trans (hg3.trans hg4)
  have hB2 := cur_below hB hg hc1.lt
  have hl' := Lib.hid hl
  have hx' := Lib.hid hx
  have hy' := Lib.hid hy
  have hz' := Lib.hid hz
  clear hl hx hy hz
  go_wp2
  refine bodyPost_ret (v := .tuple #[u, .int .i64 x, .int .i64 y, .int .i64 z]) (by simp [results, Try.results11, go_sem]) rfl ?_
  exact ⟨_, xss, x, y, z, rfl, hK w4 hg, hl'.out, hx'.out, hy'.out, hz'.out, hB2⟩
set_option maxHeartbeats 2000000 in
theorem DrawSubGraph_any (v : Value) (n : Nat) (w : World) (h : CodeV w v n) : Calls Try.prog 55 #[v] w (DrawTI w) := by
  have c1 := anyGraph_start v n w h
  obtain ⟨ao, cap, rfl, -, -⟩ := h
  have c1' := Lib.hid c1
  clear c1
  go_enter Try.func55, Try.ntmps55
  go_wp2_with fail
  refine (c1'.out).mono ?_
  rintro e w1 ⟨u, xss, rfl, hK, ⟨hl, hz⟩, hc1, hB⟩
  obtain ⟨go_, gc, rfl⟩ := hK.now.shape
  obtain ⟨m, hm⟩ : ∃ m, xss.length = m := ⟨_, rfl⟩
  rw [hm] at hl hK ⊢
  have hlt := hc1.lt
  have hm' := Lib.hid hm
  have hz' := Lib.hid hz
  have hc1' := Lib.hid hc1
  clear hm hz hc1
  go_wp2
  go_loopw [6, 15] (fun o i wr => ∃ (k : Nat) (xs : List Int), k ≤ m ∧ i = .int .i64 k ∧ xs.length ≤ k ∧ Grow wr w1.heap.size o xs ∧ CurAt wr w.heap.size (400 + 2 * k) ∧ w1.grownBy wr (some w.heap.size)) (fun _ i _ => m - (intOf i).toNat)
  case atStart => exact ⟨0, [], Nat.zero_le _, rfl, Nat.zero_le _, Grow.nil _ _, hc1'.out, World.grownBy.refl _ _⟩
  case round =>
    obtain ⟨k, xs, hk, rfl, hxl, ho, hc, hg⟩ := hrel
    obtain ⟨wo, rfl⟩ : ∃ wo : World, wo = wr := ⟨_, rfl⟩
    have hl9 : xs.length ≤ 9 := by omega
    by_cases hltk : k < m
    · have hl9' := Lib.hid hl9
      have hxl' := Lib.hid hxl
      clear hl9 hxl
      go_wp2_with fail
      refine (one_any w.heap.size _ 3 wo hc (by omega) (by omega) (by omega)).mono ?_
      rintro e w3 ⟨v3, rfl, ⟨b, rfl⟩, hc3, hg3⟩
      have hg4 := hg.trans hg3
      have ho3 := ho.kept hg3 (fun g e => by cases e; exact hlt)
      have hs3 := hg4.size
      clear hc hg hg3 ho
      cases b
      · go_wp2_with (at_builtin; refine wpList_append_int rfl _ _ rfl w1.heap.size u6 xs k _ rfl rfl ho3 (by have := hl9'.out; omega) hs3 ?_)
        intro v' w5 hgn hgrow
        have hb := ho3.block
        have hc5 := hc3.kept hgrow (fun g e => by have := hb g e; omega)
        have hg5 := grown_new hg4 hgrow (fun g e => hb g e)
        have hx1 : (xs ++ [(k : Int)]).length ≤ k + 1 := by rw [List.length_append]; have := hxl'.out; simp; omega
        have hgrow' := Lib.hid hgrow
        have hx1' := Lib.hid hx1
        clear hgrow hx1
        go_wp2
        go_roundw
        case rel => exact ⟨k + 1, _, by omega, by go_num, hx1'.out, hgn, hc5.mono (by omega), hg5⟩
        case measure => simp [intOf]; omega
      · go_wp2
        go_roundw
        case rel => exact ⟨k + 1, xs, by omega, by go_num, by have := hxl'.out; omega, ho3, hc3.mono (by omega), hg4⟩
        case measure => simp [intOf]; omega
    · obtain rfl : k = m := by omega
      obtain ⟨so, sc, rfl⟩ := ho.shape
      obtain ⟨j, hj⟩ : ∃ j, xs.length = j := ⟨_, rfl⟩
      rw [hj] at ho hl9 hxl ⊢
      have hj' := Lib.hid hj
      clear hj
      go_wp2_with fail
      refine (one_any w.heap.size _ 20 wo hc (by omega) (by omega) (by omega)).mono ?_
      rintro e w3 ⟨v3, rfl, ⟨b, rfl⟩, hc3, hg3⟩
      have hg4 := hg.trans hg3
      have ho3 := ho.kept hg3 (fun g e => by cases e; exact hlt)
      have hs3 := hg4.size
      clear hc hg hg3 ho
      cases b
      · have hB2 := cur_below hB hg4 hlt
        have hr := hK w3 hg4
        have hr' := Lib.hid hr
        clear hr
        go_wp2
        go_ret2
        exact ⟨_, xss, _, xs, rfl, hr'.out, ⟨by rw [hm'.out]; exact hl, hz'.out⟩, ho3.read, by rw [hj'.out]; omega, hB2⟩
      · go_wp2_with fail
        refine (among_list w.heap.size _ [-1, 0, (k : Int)] w3 3 hc3 (by omega) rfl (by omega) (by omega)).mono ?_
        rintro e w4 ⟨v4, rfl, ⟨z, rfl, hzz⟩, hc4, hg5⟩
        have hg6 := hg4.trans hg5
        have ho4 := ho3.kept hg5 (fun g e => by cases e; exact hlt)
        have hs4 := hg6.size
        have hzz' := Lib.hid hzz
        clear hzz
        go_wp2_with (at_builtin; refine wpList_append_int rfl _ _ rfl w1.heap.size (.slice so j sc) xs z _ rfl rfl ho4 (by rw [hj'.out]; omega) hs4 ?_)
        intro v' w5 hgn hgrow
        have hg7 := grown_new hg6 hgrow (fun g e => ho4.block g e)
        have hB2 := cur_below hB hg7 hlt
        have hr := hK w5 hg7
        have hr' := Lib.hid hr
        have hgrow' := Lib.hid hgrow
        clear hr hgrow
        go_wp2
        go_ret2
        exact ⟨_, xss, _, _, rfl, hr'.out, ⟨by rw [hm'.out]; exact hl, hz'.out⟩, hgn.read, by rw [List.length_append, hj'.out]; simp; omega, hB2⟩

end Go.Proofs.Ytblippeklbhepaa

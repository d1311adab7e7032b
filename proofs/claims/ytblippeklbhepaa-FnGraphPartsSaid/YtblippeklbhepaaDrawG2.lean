/- Drawn graphs, states, numbers of steps, told loosely. No conditions but small sizes. -/
import Derived.Test.YtblippeklbhepaaDrawG
import Derived.Test.YtblippeklbhepaaLiftC
namespace Go.Proofs.Ytblippeklbhepaa
open Go.RowKit

/-- A table that reads so in every world in which the cursor alone has turned since. -/
def RowsK (c : Nat) (w : World) (v : Value) (xss : List (List Int)) : Prop := ∀ W, w.grownBy W (some c) → RowsV W v xss
theorem MatT.rowsK {w : World} {B E c g n cap m : Nat} {rb rc : Nat → Nat} {f : Nat → Nat → Int} (h : MatT w B E g n cap m rb rc f) (hc : c < B) (hE : E ≤ w.heap.size) : RowsK c w (.slice (some ⟨g, 0, none⟩) n cap) (tab n m f) :=
  fun _ hg => (h.grown hg hc hE).read
theorem RowsK.now {c : Nat} {w : World} {v : Value} {xss : List (List Int)} (h : RowsK c w v xss) : RowsV w v xss := h w (World.grownBy.refl _ _)
theorem RowsK.step {c : Nat} {w w' : World} {v : Value} {xss : List (List Int)} (h : RowsK c w v xss) (hg : w.grownBy w' (some c)) : RowsK c w' v xss := fun W hW => h W (hg.trans hW)
theorem RowsV.shape {w : World} {v : Value} {xss : List (List Int)} (h : RowsV w v xss) : ∃ ao cap, v = .slice ao xss.length cap := by
  obtain ⟨ao, cap, e, _⟩ := h; exact ⟨ao, cap, e⟩

/-- It returns a small table; of the rest the cursor alone has turned. -/
def PicksA (c N : Nat) (w : World) (e : Ending) (w' : World) : Prop :=
  ∃ v xss, e = .returned v ∧ RowsK c w' v xss ∧ (xss.length ≤ 9 ∧ szIntSS xss ≤ 1000) ∧ CurAt w' c N ∧ w.grownBy w' (some c)

/-- A table whose first row has been appended to. -/
theorem push_row {w w' : World} {B c g n cap : Nat} {rb rc : Nat → Nat} {f : Nat → Nat → Int} {v' : Value} {x : Int} (h : MatT w B w.heap.size g n cap n rb rc f) (hc : c < B) (h0 : 0 < n)
    (hgn : Grow w' B v' (lst n (f 0) ++ [x])) (hgrow : w.grownBy w' (some (rb 0))) : RowsK c (w'.setCell ⟨g, 0, none⟩ v') (.slice (some ⟨g, 0, none⟩) n cap) ((tab n n f).set 0 (lst n (f 0) ++ [x])) := by
  intro W hW
  have hlen : ((tab n n f).set 0 (lst n (f 0) ++ [x])).length = n := by rw [List.length_set, tab_len]
  obtain ⟨ao, cap', e, hcap, hmax, _⟩ := h.read
  rw [tab_len] at e hcap
  obtain ⟨rfl, _, rfl⟩ := Value.slice.inj e
  have hgB := h.outer.lt
  have ho' : RowsAt w' B g n cap (rowsOf rb rc n n) := World.ownsRow.kept h.outer hgrow (.inr (by simpa [Value.ownBlock] using fun e => h.ne h0 e.symm))
  obtain ⟨g', cap2, rfl, hr'⟩ := hgn.form (by simp)
  have hne : g' ≠ g := typesApart ho' hr'
  have hset : ∀ k, k ≠ g → (w'.setCell ⟨g, 0, none⟩ (Value.slice (some ⟨g', 0, none⟩) (lst n (f 0) ++ [x]).length cap2)).heap[k]? = w'.heap[k]? := fun k hk => Below.heap_setCell _ _ _ _ hk
  have hblk : ∀ k, k < (w'.setCell ⟨g, 0, none⟩ (Value.slice (some ⟨g', 0, none⟩) (lst n (f 0) ++ [x]).length cap2)).heap.size → k ≠ c → W.heap[k]? = (w'.setCell ⟨g, 0, none⟩ (Value.slice (some ⟨g', 0, none⟩) (lst n (f 0) ++ [x]).length cap2)).heap[k]? := fun k hk hc => hW.block k hk (fun e => hc (Option.some.inj e))
  have hsz : (w'.setCell ⟨g, 0, none⟩ (Value.slice (some ⟨g', 0, none⟩) (lst n (f 0) ++ [x]).length cap2)).heap.size = w'.heap.size := by simp [World.setCell]
  have hs2 := hgrow.size
  have hcell : ∀ i, W.cell? ⟨g, i, none⟩ = (w'.setCell ⟨g, 0, none⟩ (Value.slice (some ⟨g', 0, none⟩) (lst n (f 0) ++ [x]).length cap2)).cell? ⟨g, i, none⟩ := fun i =>
    World.cell?_of_block (a := ⟨g, i, none⟩) (hblk g (by omega) (by omega))
  refine ⟨_, cap, by rw [hlen], by rw [hlen]; exact hcap, hmax, fun i hi => ?_⟩
  rw [hlen] at hi
  have hp : w'.cell? ⟨g, i, none⟩ = some (.slice (some ⟨rb i, 0, none⟩) n (rc i)) := ho'.cell (rowsOf_get hi)
  by_cases e : i = 0
  · subst e
    refine ⟨g, 0, _, rfl, by rw [hcell]; exact World.cell?_setCell_same' _ _ _ (by rw [hp]; rfl), ?_⟩
    have e2 : row ((tab n n f).set 0 (lst n (f 0) ++ [x])) 0 = lst n (f 0) ++ [x] := by
      unfold row; simp [tab_len, h0]
    rw [e2]
    refine (hr'.same ?_).ints
    rw [hblk g' (by have := hr'.lt.2; omega) (by have := hr'.lt.1; omega), hset g' hne]
  · refine ⟨g, 0, _, rfl, by rw [Nat.zero_add, hcell, World.cell?_setCell_other _ _ _ _ (fun q => e (Addr.mk.inj q).2.1.symm)]; exact hp, ?_⟩
    have e2 : row ((tab n n f).set 0 (lst n (f 0) ++ [x])) i = lst n (f i) := by
      rw [← tab_row (f := f) (m := n) hi]; unfold row; simp [Ne.symm e]
    rw [e2]
    have hri := h.rows i hi
    have hrne : rb i ≠ rb 0 := fun q => e (h.inj i 0 hi h0 q)
    have hri' := hri.kept hgrow (fun q => hrne (Option.some.inj q).symm)
    refine (hri'.same ?_).ints
    rw [hblk (rb i) (by have := hri'.lt.2; omega) (by have := hri'.lt.1; omega), hset (rb i) (h.ne hi)]

theorem GrowT.shape {w : World} {B E : Nat} {v : Value} {k m : Nat} {rb rc : Nat → Nat} {f : Nat → Nat → Int} (h : GrowT w B E v k m rb rc f) : ∃ ao cap, v = .slice ao k cap := by
  rcases h.outer.2 with ⟨rfl, h0⟩ | ⟨g, cap, _, e, _⟩
  · exact ⟨none, 0, by rw [h0]⟩
  · exact ⟨_, _, e⟩
theorem sq_le {n : Nat} (h : n ≤ 9) : n + n * n ≤ 90 := by have := Nat.mul_le_mul h h; omega
theorem sz_push {n : Nat} {f : Nat → Nat → Int} {x : Int} (h0 : 0 < n) (h : n ≤ 8) : szIntSS ((tab n n f).set 0 (lst n (f 0) ++ [x])) ≤ 1000 := by
  obtain ⟨m, rfl⟩ : ∃ m, n = m + 1 := ⟨n - 1, by omega⟩
  have e : tab (m + 1) (m + 1) f = lst (m + 1) (f 0) :: (List.range m).map (fun i => lst (m + 1) (f (i + 1))) := by
    unfold tab
    rw [List.range_succ_eq_map, List.map_cons, List.map_map]; rfl
  have hs := sz_tab (m + 1) (m + 1) f
  have hq := sq_le (show m + 1 ≤ 9 by omega)
  rw [e] at hs ⊢
  rw [List.set_cons_zero]
  unfold szIntSS at hs ⊢
  simp only [List.length_cons, List.map_cons, List.sum_cons, List.length_append, List.length_nil] at hs ⊢
  simp only [lst_len] at hs ⊢
  omega

set_option maxRecDepth 10000 in
set_option maxHeartbeats 4000000 in
theorem anyGraph_any (c N : Nat) (w : World) (h : CurAt w c N) (hN : N ≤ 50000) :
    Calls Try.prog 59 #[.pointer (some ⟨c, 0, none⟩)] w (PicksA c (N + 400) w) := by
  have c1 := graph_any c N w h (by omega)
  have hcw := h.lt
  have c1' := Lib.hid c1
  clear c1
  clear h
  go_enter Try.func59, Try.ntmps59
  go_wp2_with fail
  refine (c1'.out).mono ?_
  rintro e w1 ⟨n, gg, cap, rb, rc, F, rfl, ⟨hn1, hn8⟩, hM1, hc1, hg1⟩
  go_wp2_with fail
  refine (pick_any c _ 30 w1 hc1 (by omega) (by omega) (by omega)).mono ?_
  rintro e w2 ⟨v, rfl, ⟨x, rfl, hx⟩, hc2, hg2⟩
  have hM := (hM1.grown hg2 hcw (Nat.le_refl _)).mono (Nat.le_refl _) hg2.size
  have hg := hg1.trans hg2
  clear hM1 hc1 hg1 hg2 c1'
  have hsz := hg.size
  by_cases h0 : x = 0
  · subst h0
    have hgr : w2.grownBy w2.drew (some c) := ⟨rfl, rfl, rfl, Nat.le_refl _, fun _ _ _ => rfl⟩
    have hcur : CurAt w2.drew c _ := hc2.heap rfl
    have hcells : ∀ W, w2.grownBy W (some c) → ∀ a, a < n → W.cell? ⟨gg, a, none⟩ = some (.slice (some ⟨rb a, 0, none⟩) n (rc a)) := fun W hW a ha => (hM.grown hW hcw (Nat.le_refl _)).ptr ha
    have hn0 : 0 < n := hn1
    have hcells' := Lib.hid hcells
    clear hcells
    go_wp2_with fail
    refine wp_region_held_drew (S := (fun w' => ∀ a, a < n → w'.cell? ⟨gg, a, none⟩ = some (.slice (some ⟨rb a, 0, none⟩) n (rc a)))) (by kernel_rfl) (by (try dsimp only); (first | exact hcells'.out _ hgr | exact fun a ha => hMst.ptr ha)) (fun hHeld => ?_)
    refine wpAnyH_take (i := 0) (oi := Oper.mk _ _ _ _ _ _) (v := ?_) rfl (by kernel_rfl) (by kernel_rfl) (by kernel_rfl) (fun _ _ _ h => h) (Or.inl ⟨by kernel_rfl, ?_⟩) hHeld ?_
    rotate_left
    · (intro wS hSw; (try dsimp only at hSw); go_simp; all_goals (with_reducible rfl))
    try simp only [Act.put, List.setIfInBounds_toArray, List.set_cons_zero, List.set_cons_succ]
    refine wpAnyH_take (i := 1) (oi := Oper.mk _ _ _ _ _ _) (v := ?_) rfl (by kernel_rfl) (by kernel_rfl) (by kernel_rfl) (fun _ _ _ h => h) (Or.inl ⟨by kernel_rfl, ?_⟩) hHeld ?_
    rotate_left
    · (intro wS hSw; (try dsimp only at hSw); go_simp; all_goals (with_reducible rfl))
    try simp only [Act.put, List.setIfInBounds_toArray, List.set_cons_zero, List.set_cons_succ]
    refine wpAnyH_take (i := 2) (oi := Oper.mk _ _ _ _ _ _) (v := ?_) rfl (by kernel_rfl) (by kernel_rfl) (by kernel_rfl) (fun _ _ _ h => h) (Or.inl ⟨by kernel_rfl, ?_⟩) hHeld ?_
    rotate_left
    · (intro wS hSw; (try dsimp only at hSw); go_simp; all_goals (with_reducible rfl))
    try simp only [Act.put, List.setIfInBounds_toArray, List.set_cons_zero, List.set_cons_succ]
    refine wpAnyH_take (i := 3) (oi := Oper.mk _ _ _ _ _ _) (v := ?_) rfl (by kernel_rfl) (by kernel_rfl) (by kernel_rfl) (fun _ _ _ h => h) (Or.inl ⟨by kernel_rfl, ?_⟩) hHeld ?_
    rotate_left
    · (intro wS hSw; (try dsimp only at hSw); go_simp; all_goals (with_reducible rfl))
    try simp only [Act.put, List.setIfInBounds_toArray, List.set_cons_zero, List.set_cons_succ]
    refine wpAnyH_take (i := 4) (oi := Oper.mk _ _ _ _ _ _) (v := ?_) rfl (by kernel_rfl) (by kernel_rfl) (by kernel_rfl) (fun _ _ _ h => h) (Or.inl ⟨by kernel_rfl, ?_⟩) hHeld ?_
    rotate_left
    · (intro wS hSw; (try dsimp only at hSw); go_simp; all_goals (with_reducible rfl))
    try simp only [Act.put, List.setIfInBounds_toArray, List.set_cons_zero, List.set_cons_succ]
    refine wpAnyH_take (i := 5) (oi := Oper.mk _ _ _ _ _ _) (v := ?_) rfl (by kernel_rfl) (by kernel_rfl) (by kernel_rfl) (fun _ _ _ h => h) (Or.inl ⟨by kernel_rfl, ?_⟩) hHeld ?_
    rotate_left
    · (intro wS hSw; (try dsimp only at hSw); go_simp; all_goals (with_reducible rfl))
    try simp only [Act.put, List.setIfInBounds_toArray, List.set_cons_zero, List.set_cons_succ]
    refine wpAnyH_take (i := 7) (oi := Oper.mk _ _ _ _ _ _) (v := ?_) rfl (by kernel_rfl) (by kernel_rfl) (by kernel_rfl) (fun _ _ _ h => h) (Or.inl ⟨by kernel_rfl, ?_⟩) hHeld ?_
    rotate_left
    · (intro wS hSw; (try dsimp only at hSw); go_simp; all_goals (with_reducible rfl))
    try simp only [Act.put, List.setIfInBounds_toArray, List.set_cons_zero, List.set_cons_succ]
    refine wpAnyH_ready (rs := [6, 8]) (by kernel_rfl) (by simp) ?_
    refine AllReadyH.cons (o := Oper.mk _ _ _ _ _ _) rfl (fun KK hKK => ?_) (AllReadyH.cons (o := Oper.mk _ _ _ _ _ _) rfl (fun KK hKK => ?_) (AllReadyH.nil))
    · rw [if_pos (by kernel_rfl)]
      go_simp
      refine (pick_any c _ n _ hcur (by omega) (by omega) (by omega)).mono ?_
      rintro e w13 ⟨v13, rfl, ⟨x13, rfl, hx13⟩, hc13, hg13⟩
      replace hcur := hc13
      replace hgr := hgr.trans hg13
      (try replace hI := hI.off hO hg13)
      try dsimp only
      refine hKK.out _ _ (by (try dsimp only); (first | exact hcells'.out _ hgr | exact fun a ha => hMst.ptr ha)) (fun hHeld => ?_)
      clear hKK KK
      try simp only [Act.put, List.setIfInBounds_toArray, List.set_cons_zero, List.set_cons_succ]
      refine wpAnyH_ready (rs := [8]) (by kernel_rfl) (by simp) ?_
      refine AllReadyH.cons (o := Oper.mk _ _ _ _ _ _) rfl (fun KK hKK => ?_) AllReadyH.nil
      rw [if_pos (by kernel_rfl)]
      go_simp
      have hc0 := hcur
      have hI := cur_built hc0 [-1, 10] 2 rfl (by omega)
      have hO := off_new hc0 2
      replace hcur := hc0.kept (World.grownBy_alloc _ (.cells #[.int .i64 (-1), .int .i64 10] 3) none) (fun _ e => by cases e)
      replace hgr := hgr.trans (World.grownBy_alloc _ (.cells #[.int .i64 (-1), .int .i64 10] 3) _)
      try dsimp only
      refine hKK.out _ _ (by (try dsimp only); (first | exact hcells'.out _ hgr | exact fun a ha => hMst.ptr ha)) (fun hHeld => ?_)
      clear hKK KK
      try simp only [Act.put, List.setIfInBounds_toArray, List.set_cons_zero, List.set_cons_succ]
      refine wpAnyH_ready (rs := [9]) (by kernel_rfl) (by simp) ?_
      refine AllReadyH.cons (o := Oper.mk _ _ _ _ _ _) rfl (fun KK hKK => ?_) AllReadyH.nil
      rw [if_pos (by kernel_rfl)]
      go_simp
      refine (among_any c _ _ [-1, 10] _ hcur (by omega) hI hO (by simp) (by simp)).mono ?_
      rintro e w15 ⟨v15, rfl, ⟨x15, rfl, hx15⟩, hc15, hg15⟩
      replace hcur := hc15
      replace hgr := hgr.trans hg15
      have hM15 := hM.grown hgr hcw (Nat.le_refl _)
      have hcell := hM15.cell hn0 hx13
      have hfrz := hM15.frozen hn0 x13
      try dsimp only
      refine hKK.out _ _ (by (try dsimp only); (first | exact hcells'.out _ hgr | exact fun a ha => hMst.ptr ha)) (fun hHeld => ?_)
      clear hKK KK
      try simp only [Act.put, List.setIfInBounds_toArray, List.set_cons_zero, List.set_cons_succ]
      refine wpAnyH_take (i := 10) (oi := Oper.mk _ _ _ _ _ _) (v := ?_) rfl (by kernel_rfl) (by kernel_rfl) (by kernel_rfl) (fun _ _ _ h => h) (Or.inl ⟨by kernel_rfl, ?_⟩) hHeld ?_
      rotate_left
      · (intro wS hSw; (try dsimp only at hSw); go_simp; all_goals (with_reducible rfl))
      try simp only [Act.put, List.setIfInBounds_toArray, List.set_cons_zero, List.set_cons_succ]
      refine wpAnyH_ready (rs := [11]) (by kernel_rfl) (by simp) ?_
      refine AllReadyH.cons (o := Oper.mk _ _ _ _ _ _) rfl (fun KK hKK => ?_) AllReadyH.nil
      rw [if_pos (by kernel_rfl)]
      go_simp
      have hMst := hM15.stored hn0 x13 x15
      have hcst := cur_set hcur (hM.block hn0).1 hcw x13 x15
      try dsimp only
      refine hKK.out _ _ (by (try dsimp only); (first | exact hcells'.out _ hgr | exact fun a ha => hMst.ptr ha)) (fun hHeld => ?_)
      clear hKK KK
      try simp only [Act.put, List.setIfInBounds_toArray, List.set_cons_zero, List.set_cons_succ]
      refine wpAnyH_done (by kernel_rfl) ?_ _
      have hsz15 := hgr.size
      have hgst := grown_set (hg.trans hgr) (hM.block hn0).1 x13 x15
      have hK := (hMst.mono (Nat.le_refl _) (by simpa [World.setCell] using hsz15)).rowsK hcw (Nat.le_refl _)
      have hK' := Lib.hid hK
      have hcst' := Lib.hid hcst
      have hgst' := Lib.hid hgst
      clear hK hcst hgst
      go_wp2_with fail
      go_ret
      exact ⟨_, _, rfl, hK'.out, ⟨by rw [tab_len]; omega, by rw [sz_tab]; exact Nat.le_trans (sq_le (by omega)) (by omega)⟩, hcst'.out.mono (by omega), hgst'.out⟩
    · rw [if_pos (by kernel_rfl)]
      go_simp
      have hc0 := hcur
      have hI := cur_built hc0 [-1, 10] 2 rfl (by omega)
      have hO := off_new hc0 2
      replace hcur := hc0.kept (World.grownBy_alloc _ (.cells #[.int .i64 (-1), .int .i64 10] 3) none) (fun _ e => by cases e)
      replace hgr := hgr.trans (World.grownBy_alloc _ (.cells #[.int .i64 (-1), .int .i64 10] 3) _)
      try dsimp only
      refine hKK.out _ _ (by (try dsimp only); (first | exact hcells'.out _ hgr | exact fun a ha => hMst.ptr ha)) (fun hHeld => ?_)
      clear hKK KK
      try simp only [Act.put, List.setIfInBounds_toArray, List.set_cons_zero, List.set_cons_succ]
      refine wpAnyH_ready (rs := [6]) (by kernel_rfl) (by simp) ?_
      refine AllReadyH.cons (o := Oper.mk _ _ _ _ _ _) rfl (fun KK hKK => ?_) AllReadyH.nil
      rw [if_pos (by kernel_rfl)]
      go_simp
      refine (pick_any c _ n _ hcur (by omega) (by omega) (by omega)).mono ?_
      rintro e w13 ⟨v13, rfl, ⟨x13, rfl, hx13⟩, hc13, hg13⟩
      replace hcur := hc13
      replace hgr := hgr.trans hg13
      (try replace hI := hI.off hO hg13)
      try dsimp only
      refine hKK.out _ _ (by (try dsimp only); (first | exact hcells'.out _ hgr | exact fun a ha => hMst.ptr ha)) (fun hHeld => ?_)
      clear hKK KK
      try simp only [Act.put, List.setIfInBounds_toArray, List.set_cons_zero, List.set_cons_succ]
      refine wpAnyH_ready (rs := [9]) (by kernel_rfl) (by simp) ?_
      refine AllReadyH.cons (o := Oper.mk _ _ _ _ _ _) rfl (fun KK hKK => ?_) AllReadyH.nil
      rw [if_pos (by kernel_rfl)]
      go_simp
      refine (among_any c _ _ [-1, 10] _ hcur (by omega) hI hO (by simp) (by simp)).mono ?_
      rintro e w15 ⟨v15, rfl, ⟨x15, rfl, hx15⟩, hc15, hg15⟩
      replace hcur := hc15
      replace hgr := hgr.trans hg15
      have hM15 := hM.grown hgr hcw (Nat.le_refl _)
      have hcell := hM15.cell hn0 hx13
      have hfrz := hM15.frozen hn0 x13
      try dsimp only
      refine hKK.out _ _ (by (try dsimp only); (first | exact hcells'.out _ hgr | exact fun a ha => hMst.ptr ha)) (fun hHeld => ?_)
      clear hKK KK
      try simp only [Act.put, List.setIfInBounds_toArray, List.set_cons_zero, List.set_cons_succ]
      refine wpAnyH_take (i := 10) (oi := Oper.mk _ _ _ _ _ _) (v := ?_) rfl (by kernel_rfl) (by kernel_rfl) (by kernel_rfl) (fun _ _ _ h => h) (Or.inl ⟨by kernel_rfl, ?_⟩) hHeld ?_
      rotate_left
      · (intro wS hSw; (try dsimp only at hSw); go_simp; all_goals (with_reducible rfl))
      try simp only [Act.put, List.setIfInBounds_toArray, List.set_cons_zero, List.set_cons_succ]
      refine wpAnyH_ready (rs := [11]) (by kernel_rfl) (by simp) ?_
      refine AllReadyH.cons (o := Oper.mk _ _ _ _ _ _) rfl (fun KK hKK => ?_) AllReadyH.nil
      rw [if_pos (by kernel_rfl)]
      go_simp
      have hMst := hM15.stored hn0 x13 x15
      have hcst := cur_set hcur (hM.block hn0).1 hcw x13 x15
      try dsimp only
      refine hKK.out _ _ (by (try dsimp only); (first | exact hcells'.out _ hgr | exact fun a ha => hMst.ptr ha)) (fun hHeld => ?_)
      clear hKK KK
      try simp only [Act.put, List.setIfInBounds_toArray, List.set_cons_zero, List.set_cons_succ]
      refine wpAnyH_done (by kernel_rfl) ?_ _
      have hsz15 := hgr.size
      have hgst := grown_set (hg.trans hgr) (hM.block hn0).1 x13 x15
      have hK := (hMst.mono (Nat.le_refl _) (by simpa [World.setCell] using hsz15)).rowsK hcw (Nat.le_refl _)
      have hK' := Lib.hid hK
      have hcst' := Lib.hid hcst
      have hgst' := Lib.hid hgst
      clear hK hcst hgst
      go_wp2_with fail
      go_ret
      exact ⟨_, _, rfl, hK'.out, ⟨by rw [tab_len]; omega, by rw [sz_tab]; exact Nat.le_trans (sq_le (by omega)) (by omega)⟩, hcst'.out.mono (by omega), hgst'.out⟩
  by_cases h1 : x = 1
  · subst h1
    have q1 := hM.ptr hn1
    have hr0 := hM.rows 0 hn1
    have hG : Grow w2 w.heap.size (.slice (some ⟨rb 0, 0, none⟩) n (rc 0)) (lst n (F 0)) := by unfold Grow; rw [lst_len]; exact hr0
    have hfz := hM.outer.frozen 0
    have hne := hM.ne hn1
    have hggl := hM.outer.lt
    go_wp2_with (at_builtin; refine wpList_append_int rfl _ _ rfl w.heap.size (.slice (some ⟨rb 0, 0, none⟩) n (rc 0)) (lst n (F 0)) 1 _ rfl rfl hG (by rw [lst_len]; omega) hsz ?_)
    intro v' w3 hgn hgrow
    obtain ⟨ao', cap', rfl⟩ := hgn.shape
    obtain ⟨KK, hKe⟩ : ∃ K, (lst n (F 0) ++ [(1 : Int)]).length = K := ⟨_, rfl⟩
    rw [hKe] at hgn ⊢
    have hKe' := Lib.hid hKe
    clear hKe
    have q2 : w3.cell? ⟨gg, 0, none⟩ = some (.slice (some ⟨rb 0, 0, none⟩) n (rc 0)) := by
      rw [World.cell?_of_block (w := w2) (hgrow.block gg hggl.2 (by simpa [Value.ownBlock] using fun e => hne e.symm))]; exact q1
    have q3 : w3.frozen? ⟨gg, 0, none⟩ = false := by
      rw [World.frozen?_of_block (w := w2) (hgrow.block gg hggl.2 (by simpa [Value.ownBlock] using fun e => hne e.symm))]; exact hfz
    have hK := push_row hM hcw hn1 hgn hgrow
    have hc3 := hc2.kept hgrow (fun g e => by cases e; exact Nat.lt_of_lt_of_le hcw (hM.block hn1).1)
    have hc4 : CurAt (w3.setCell ⟨gg, 0, none⟩ (.slice ao' KK cap')) c (N + 400) := (hc3.below (E := w.heap.size) ((Below.refl _ _).setCell (p := ⟨gg, 0, none⟩) hggl.1 _) hcw).mono (by omega)
    have hg3 := grown_new hg hgrow (fun g e => by cases e; exact (hM.block hn1).1)
    have hg4 : w.grownBy (w3.setCell ⟨gg, 0, none⟩ (.slice ao' KK cap')) (some c) := grown_new hg3 (row := some gg) ⟨rfl, rfl, rfl, by simp [World.setCell], fun k _ hk => Below.heap_setCell _ _ _ _ (fun e => hk (by rw [e]))⟩ (fun k e => by cases e; exact hggl.1)
    have hK' := Lib.hid hK
    have hc4' := Lib.hid hc4
    have hg4' := Lib.hid hg4
    clear hK hc4 hg4
    clear hc3 hg3 hgn hgrow hG hr0 q1 hM hc2 hg
    go_wp2_with fail
    go_ret
    exact ⟨_, _, rfl, hK'.out, ⟨by rw [List.length_set, tab_len]; omega, sz_push hn1 hn8⟩, hc4'.out, hg4'.out⟩
  by_cases h2 : x = 2
  · subst h2
    go_wp2_with fail
    go_ret
    exact ⟨_, [], rfl, fun W _ => ⟨none, 0, rfl, ⟨Nat.le_refl _, fun _ => rfl⟩, by simp [maxLen], fun i hi => absurd hi (Nat.not_lt_zero i)⟩, ⟨by simp, by simp [szIntSS]⟩, hc2.mono (by omega), hg⟩
  by_cases h3 : x = 3
  · subst h3
    have hc2' := Lib.hid hc2
    have hg' := Lib.hid hg
    clear hc2 hg
    clear hM h0 h1 h2 hx hsz
    go_wp2_with fail
    go_loopw [3] (fun o wr => ∃ (k : Nat) (rb rc : Nat → Nat), k ≤ 9 ∧ (∃ ao cap, o = .slice ao k cap) ∧ GrowT wr w.heap.size wr.heap.size o k 9 rb rc (fun _ _ => 0) ∧ CurAt wr c (N + 400) ∧ w.grownBy wr (some c)) (fun o _ => 9 - lenOf o)
    case atStart => exact ⟨0, fun _ => 0, fun _ => 0, Nat.zero_le _, ⟨_, _, rfl⟩, GrowT.nil _ _ _ _ _ _ _, hc2'.out.mono (by omega), hg'.out⟩
    case round =>
      obtain ⟨k, rb, rc, hk, ⟨ao, cap2, rfl⟩, hp, hc, hg⟩ := hrel
      obtain ⟨wo, rfl⟩ : ∃ wo : World, wo = wr := ⟨_, rfl⟩
      have hs := hg.size
      by_cases hlt : k < 9
      · obtain ⟨i2, hi2, hy0, hy1, hy2⟩ := info_parts Try.infoInt
        have hp' := Lib.hid hp
        clear hp
        go_wp2_with (at_make; refine wpList_make_full _ rfl _ _ 39 rfl w.heap.size 3 i2 _ 1 Try.underlying39 hi2 hy0 hy1 _ _ _ _ 9 rfl rfl rfl rfl (by rw [hy2]; omega) (by unfold maxLen; omega) hs ?_)
        intro w5 hown hgrow
        have hB2 : Below wo.heap.size wo w5 := below_made (Below.refl _ _) (Nat.le_refl _) hgrow
        have hr := row_made hown
        rw [lst_zero] at hr
        have hp2 := hp'.out.kept hB2
        have hg2 := grown_below hg hB2 hs
        have hc2 := hc.kept hgrow (fun g e => by cases e)
        have hs3 := hg2.size
        clear hown hgrow hp' hB2 hg hc
        go_wp2_with (at_builtin; refine wpList_append_row rfl _ _ rfl w.heap.size _ (.slice ao k cap2) k 9 wo.heap.size 9 _ _ _ _ _ rfl rfl hp2 hr (Nat.le_refl _) (by omega) hs3 ?_)
        intro v' w3 hp3 hg3
        have hg4 := grown_new hg2 hg3 (fun j hj => (World.ownsRow.lt hp2.outer j hj).1)
        have hc4 := hc2.kept hg3 (fun g e => by have := (World.ownsRow.lt hp2.outer g e).1; omega)
        obtain ⟨ao4, cap4, rfl⟩ := hp3.shape
        have hp3' := Lib.hid hp3
        have hg4' := Lib.hid hg4
        have hc4' := Lib.hid hc4
        clear hp3 hg4 hc4
        clear hg3 hp2 hr hg2 hc2
        go_wp2
        go_roundw
        case rel => exact ⟨k + 1, _, _, by omega, ⟨_, _, rfl⟩, (hp3'.out).congr (f' := fun _ _ => 0) (fun i j _ _ => by simp), hc4'.out, hg4'.out⟩
        case measure => show 9 - (k + 1) < 9 - k; omega
      · obtain rfl : k = 9 := by omega
        obtain ⟨g9, cap9, e9, hM9⟩ := hp.form (by omega)
        obtain ⟨rfl, _, rfl⟩ := Value.slice.inj e9
        have hK := hM9.rowsK hcw (Nat.le_refl _)
        have hK' := Lib.hid hK
        clear hK
        clear hp e9
        go_wp2
        go_ret
        exact ⟨_, _, rfl, hK'.out, ⟨by rw [tab_len]; omega, by rw [sz_tab]; omega⟩, hc, hg⟩
  · have hK := hM.rowsK hcw (Nat.le_refl _)
    have b0 : ((x : Int) == 0) = false := by rw [beq_eq_false_iff_ne]; omega
    have b1 : ((x : Int) == 1) = false := by rw [beq_eq_false_iff_ne]; omega
    have b2 : ((x : Int) == 2) = false := by rw [beq_eq_false_iff_ne]; omega
    have b3 : ((x : Int) == 3) = false := by rw [beq_eq_false_iff_ne]; omega
    have hK' := Lib.hid hK
    clear hK
    go_wp2
    go_ret
    exact ⟨_, _, rfl, hK'.out, ⟨by rw [tab_len]; omega, by rw [sz_tab]; exact Nat.le_trans (sq_le (by omega)) (by omega)⟩, hc2.mono (by omega), hg⟩

/-- A number near the states. -/
def Near (v : Value) : Prop := ∃ x : Int, v = .int .i64 x ∧ -2 ≤ x ∧ x ≤ 20
set_option maxHeartbeats 800000 in
theorem stateOf_any (c N : Nat) (v : Value) (xss : List (List Int)) (w : World) (h : CurAt w c N) (hN : N ≤ 100000) (hv : RowsV w v xss) (hl : xss.length ≤ 9) :
    Calls Try.prog 72 #[.pointer (some ⟨c, 0, none⟩), v] w (Picks c (N + 6) w Near) := by
  obtain ⟨ao, cap, rfl⟩ := hv.shape
  clear hv
  obtain ⟨m, hm⟩ : ∃ m, xss.length = m := ⟨_, rfl⟩
  rw [hm] at hl ⊢
  clear hm
  obtain ⟨M, hM, hM1, hM9⟩ : ∃ M : Nat, ((M : Nat) : Int) = max 1 (m : Int) ∧ 1 ≤ M ∧ M ≤ 9 := ⟨max 1 m, by omega, by omega, by omega⟩
  have c1 := pick_any c N 16 w h (by omega) (by omega) (by omega)
  have c0 := fun W => l1Most_any 1 (m : Int) M W hM
  have hM' := Lib.hid hM
  have c0' := Lib.hid c0
  have c1' := Lib.hid c1
  clear hM c0 c1
  go_enter Try.func72, Try.ntmps72
  go_wp2_with fail
  refine (c0'.out _).mono ?_
  rintro e w_ ⟨rfl, rfl⟩
  go_wp2_with fail
  refine (c1'.out).mono ?_
  rintro e w1 ⟨v1, rfl, ⟨y, rfl, hy⟩, hc1, hg1⟩
  obtain ⟨s, hs, hs1, hs2⟩ : ∃ s : Nat, (M : Int) + (y : Int) / 15 = s ∧ 1 ≤ s ∧ s ≤ 20 := ⟨M + y / 15, by omega, by omega, by omega⟩
  have hs' := Lib.hid hs
  clear hs
  go_wp2_with fail
  rw [hs'.out]
  refine (pick_any c _ s w1 hc1 (by omega) hs1 (by omega)).mono ?_
  rintro e w2 ⟨v2, rfl, ⟨z, rfl, hz⟩, hc2, hg2⟩
  go_wp2_with fail
  refine (pick_any c _ 24 w2 hc2 (by omega) (by omega) (by omega)).mono ?_
  rintro e w3 ⟨v3, rfl, ⟨u, rfl, hu⟩, hc3, hg3⟩
  have hgg := hg1.trans (hg2.trans hg3)
  go_wp2_with fail
  go_ret
  exact ⟨_, rfl, ⟨_, rfl, by omega, by omega⟩, hc3, hgg⟩

set_option maxHeartbeats 800000 in
theorem walkSteps_any (c N : Nat) (w : World) (h : CurAt w c N) (hN : N ≤ 100000) :
    Calls Try.prog 60 #[.pointer (some ⟨c, 0, none⟩)] w (Picks c (N + 4) w Near) := by
  have c1 := among_list c N [13, -1] w 2 h (by omega) rfl (by omega) (by omega)
  have c1' := Lib.hid c1
  clear c1
  go_enter Try.func60, Try.ntmps60
  go_wp2_with fail
  refine (c1'.out).mono ?_
  rintro e w1 ⟨v1, rfl, ⟨y, rfl, hy⟩, hc1, hg1⟩
  go_wp2_with fail
  refine (among_list c _ [0, 1, 2, 3, 5, 8, 12, y] w1 8 hc1 (by omega) rfl (by omega) (by omega)).mono ?_
  rintro e w2 ⟨v2, rfl, ⟨z, rfl, hz⟩, hc2, hg2⟩
  have hgg := hg1.trans hg2
  have hb : -2 ≤ z ∧ z ≤ 20 := by simp at hy hz; omega
  have hb' := Lib.hid hb
  have hy' := Lib.hid hy
  have hz' := Lib.hid hz
  clear hb hy hz
  go_wp2_with fail
  go_ret
  exact ⟨_, rfl, ⟨_, rfl, hb'.out.1, hb'.out.2⟩, hc2, hgg⟩

end Go.Proofs.Ytblippeklbhepaa

/- Words on slices of slices of ints, as YtjoeanplgikkcaaLib has for slices of ints. -/
import Derived.Test.YtjoeanplgikkcaaInts
import Derived.Test.YtjoeanplgikkcaaFuncs
namespace Go.Proofs.Ytjoeanplgikkcaa
open Go.RowKit

/-- Row i. -/
def row (xss : List (List Int)) (i : Nat) : List Int := (xss[i]?).getD []
theorem row_eq {xss : List (List Int)} {i : Nat} (h : i < xss.length) : row xss i = xss[i] := by simp [row, List.getElem?_eq_getElem h]
/-- How many values they hold. -/
def szIntSS (xss : List (List Int)) : Nat := xss.length + (xss.map List.length).sum
/-- How many numbers a mark writes. -/
def cntIntSS (xss : List (List Int)) : Nat := (xss.map List.length).sum
theorem cntIntSS_le (xss : List (List Int)) : cntIntSS xss ≤ 4 * szIntSS xss := by unfold cntIntSS szIntSS; omega
theorem row_len_le {xss : List (List Int)} {i : Nat} (h : i < xss.length) : (row xss i).length ≤ cntIntSS xss := by
  induction xss generalizing i with
  | nil => simp at h
  | cons x xss ih =>
    simp only [cntIntSS, List.map_cons, List.sum_cons]
    rcases i with _ | i
    · simp [row]
    · have := ih (i := i) (by simpa using h)
      simp only [row, List.getElem?_cons_succ] at this ⊢
      unfold cntIntSS at this; omega

/-- A slice value that reads as these rows. -/
def RowsV (w : World) (v : Value) (xss : List (List Int)) : Prop :=
  ∃ ao cap, v = .slice ao xss.length cap ∧ (xss.length ≤ cap ∧ (ao = none → cap = 0)) ∧ cap ≤ maxLen ∧ ∀ i, i < xss.length → ∃ b off u, ao = some ⟨b, off, none⟩ ∧ w.cell? ⟨b, off + i, none⟩ = some u ∧ IntsV w u (row xss i)

theorem RowsV.below {w w' : World} {v : Value} {xss : List (List Int)} (h : RowsV w v xss) (hB : Below w.heap.size w w') : RowsV w' v xss := by
  obtain ⟨ao, cap, rfl, h1, h2, h⟩ := h
  refine ⟨ao, cap, rfl, h1, h2, fun i hi => ?_⟩
  obtain ⟨b, off, u, e, hc, hu⟩ := h i hi
  exact ⟨b, off, u, e, by rw [hB.cell (World.block_lt_of_cell? w _ hc)]; exact hc, hu.below hB⟩

/-- Rows that are each the call's own, in blocks of [B, E), no two in one block, none in block g. -/
def RowSet (w : World) (B E g : Nat) (us : List Value) (xss : List (List Int)) : Prop :=
  us.length = xss.length ∧ ∃ lo hi : Nat → Nat, ∀ i, i < us.length → B ≤ lo i ∧ hi i ≤ E ∧ (g < lo i ∨ hi i ≤ g) ∧ (∃ u, us[i]? = some u ∧ Own w (lo i) (hi i) u (row xss i)) ∧ ∀ j, j < us.length → j ≠ i → hi i ≤ lo j ∨ hi j ≤ lo i

/-- A slice of slices of the call's own. -/
def OwnSS (w : World) (B E : Nat) (v : Value) (xss : List (List Int)) : Prop :=
  (xss = [] ∧ ∃ ao cap, v = .slice ao 0 cap ∧ cap ≤ maxLen ∧ (ao = none → cap = 0)) ∨
  ∃ g cap us, v = .slice (some ⟨g, 0, none⟩) xss.length cap ∧ B ≤ g ∧ g < E ∧ w.ownsRow B 29 1 v xss.length us ∧ RowSet w B E g us xss

theorem OwnSS.nil (w : World) (B E : Nat) : OwnSS w B E (.slice none 0 0) [] := .inl ⟨rfl, none, 0, rfl, by simp [maxLen], fun _ => rfl⟩

theorem OwnSS.read {w : World} {B E : Nat} {v : Value} {xss : List (List Int)} (h : OwnSS w B E v xss) : RowsV w v xss := by
  rcases h with ⟨rfl, ao, cap, rfl, hc, hz⟩ | ⟨g, cap, us, rfl, h1, h2, h3, h4, lo, hi, h5⟩
  · exact ⟨ao, cap, rfl, ⟨Nat.zero_le _, hz⟩, hc, fun i hi => absurd hi (Nat.not_lt_zero i)⟩
  · have hcap : xss.length ≤ cap ∧ cap ≤ maxLen := by
      rcases h3.2 with ⟨h4, _⟩ | ⟨g', cap', cur, e', h4, h5, h6, h7, _⟩
      · simp at h4
      · simp only [Value.slice.injEq, Option.some.injEq, Addr.mk.injEq, and_true, true_and] at e'
        omega
    refine ⟨some ⟨g, 0, none⟩, cap, rfl, ⟨hcap.1, fun e => by cases e⟩, hcap.2, fun i hi' => ?_⟩
    obtain ⟨-, -, -, ⟨u, hu, ho⟩, -⟩ := h5 i (by omega)
    refine ⟨g, 0, u, rfl, ?_, ho.read⟩
    rw [Nat.zero_add, World.ownsRow.cellAt h3 i (by omega)]
    simp [hu]

theorem Try.infoInts : (Try.prog.info? 29).map (fun i => (i.zero, i.size, i.bytes)) = some (some (.slice none 0 0), 1, 24) := by kernel_rfl

/-! How a set of rows is made and filled. -/
theorem RowSet.nils (w : World) {B E g : Nat} (n : Nat) (hB : B ≤ g) (hE : g < E) : RowSet w B E g (List.replicate n (.slice none 0 0)) (List.replicate n []) := by
  refine ⟨by simp, fun _ => g + 1, fun _ => g + 1, fun i hi => ⟨show B ≤ g + 1 by omega, show g + 1 ≤ E by omega, .inl (show g < g + 1 by omega), ⟨.slice none 0 0, ?_, ?_⟩, fun j _ _ => .inl (Nat.le_refl _)⟩⟩
  · rw [List.length_replicate] at hi; simp [hi]
  · rw [List.length_replicate] at hi
    have : row (List.replicate n ([] : List Int)) i = [] := by simp [row, hi]
    rw [this]; exact Own.nil _ _ _
theorem RowSet.turned {w w' : World} {B E g B' E' : Nat} {us : List Value} {xss : List (List Int)} (h : RowSet w B E g us xss) (ht : Turned B' E' w w') (hd : (g ≤ B' ∧ E' ≤ g + 1) ∨ E ≤ B' ∨ E' ≤ B) : RowSet w' B E g us xss := by
  obtain ⟨h1, lo, hi, H⟩ := h
  refine ⟨h1, lo, hi, fun i hi' => ?_⟩
  obtain ⟨a, b, c, ⟨u, hu, ho⟩, d⟩ := H i hi'
  exact ⟨a, b, c, ⟨u, hu, ho.turned ht (by omega)⟩, d⟩
theorem RowSet.below {w w' : World} {B E g E' : Nat} {us : List Value} {xss : List (List Int)} (h : RowSet w B E g us xss) (hB : Below E' w w') (hE : E ≤ E') : RowSet w' B E g us xss := by
  obtain ⟨h1, lo, hi, H⟩ := h
  refine ⟨h1, lo, hi, fun i hi' => ?_⟩
  obtain ⟨a, b, c, ⟨u, hu, ho⟩, d⟩ := H i hi'
  exact ⟨a, b, c, ⟨u, hu, ho.below hB (by omega)⟩, d⟩
theorem RowSet.mono {w : World} {B E g B' E' : Nat} {us : List Value} {xss : List (List Int)} (h : RowSet w B E g us xss) (hB : B' ≤ B) (hE : E ≤ E') : RowSet w B' E' g us xss := by
  obtain ⟨h1, lo, hi, H⟩ := h
  refine ⟨h1, lo, hi, fun i hi' => ?_⟩
  obtain ⟨a, b, c, d, e⟩ := H i hi'
  exact ⟨by omega, by omega, c, d, e⟩
theorem RowSet.set {w : World} {B E g a b j : Nat} {us : List Value} {xss : List (List Int)} {u : Value} {ys : List Int} (h : RowSet w B E g us xss) (hu : Own w a b u ys) (hE : E ≤ a) (hBa : B ≤ a) (hab : a ≤ b) (hg : g < a) :
    RowSet w B b g (us.set j u) (xss.set j ys) := by
  obtain ⟨h1, lo, hi, H⟩ := h
  refine ⟨by simp [h1], fun i => if i = j then a else lo i, fun i => if i = j then b else hi i, fun i hi' => ?_⟩
  rw [List.length_set] at hi'
  obtain ⟨p, q, r, ⟨u', hu', ho⟩, t⟩ := H i hi'
  by_cases e : i = j
  · subst e
    simp only [if_true]
    refine ⟨hBa, Nat.le_refl _, .inl hg, ⟨u, by simp [hi'], ?_⟩, fun k hk hne => ?_⟩
    · have : row (xss.set i ys) i = ys := by simp [row, ← h1, hi']
      rw [this]; exact hu
    · rw [List.length_set] at hk
      rw [if_neg hne, if_neg hne]
      have := (H k hk).2.1
      right; omega
  · simp only [if_neg e]
    refine ⟨p, by omega, r, ⟨u', by rw [List.getElem?_set_ne (by omega)]; exact hu', ?_⟩, fun k hk hne => ?_⟩
    · have : row (xss.set j ys) i = row xss i := by simp [row, List.getElem?_set_ne (show j ≠ i by omega)]
      rw [this]; exact ho
    · rw [List.length_set] at hk
      by_cases e2 : k = j
      · rw [if_pos e2, if_pos e2]; left; omega
      · rw [if_neg e2, if_neg e2]; exact t k hk hne

/-- A row of slices at the head of block g, all that a walk wants of it. -/
def RowsAt (w : World) (B g n cap : Nat) (us : List Value) : Prop := w.ownsRow B 29 1 (.slice (some ⟨g, 0, none⟩) n cap) n us
theorem RowsAt.len {w : World} {B g n cap : Nat} {us : List Value} (h : RowsAt w B g n cap us) : us.length = n := by simpa using h.1
theorem RowsAt.cell {w : World} {B g n cap : Nat} {us : List Value} (h : RowsAt w B g n cap us) {j : Nat} {u : Value} (hu : us[j]? = some u) : w.cell? ⟨g, j, none⟩ = some u := by
  have hj := (List.getElem?_eq_some_iff.1 hu).1
  rw [World.ownsRow.cellAt h j (by have := h.len; omega)]; simp [hu]
theorem RowsAt.frozen {w : World} {B g n cap : Nat} {us : List Value} (h : RowsAt w B g n cap us) (j : Nat) : w.frozen? ⟨g, j, none⟩ = false := World.ownsRow.frozenAt h j
theorem RowsAt.stored {w : World} {B g n cap : Nat} {us : List Value} (h : RowsAt w B g n cap us) (j : Nat) (u : Value) : RowsAt (w.setCell ⟨g, j, none⟩ u) B g n cap (us.set j u) := (World.ownsRow.stored h j u).1
theorem RowsAt.below {w w' : World} {B E g n cap : Nat} {us : List Value} (h : RowsAt w B g n cap us) (hB : Below E w w') (hE : g < E) : RowsAt w' B g n cap us := by
  refine ⟨h.1, ?_⟩
  rcases h.2 with h3 | ⟨g', cap', cur, e', h4, h5, h6⟩
  · exact .inl h3
  · refine .inr ⟨g', cap', cur, e', h4, ?_, h6⟩
    simp only [Value.slice.injEq, Option.some.injEq, Addr.mk.injEq, and_true, true_and] at e'
    rw [hB.block g' (by omega)]; exact h5
theorem RowsAt.lt {w : World} {B g n cap : Nat} {us : List Value} (h : RowsAt w B g n cap us) : B ≤ g ∧ g < w.heap.size := World.ownsRow.lt h g rfl
theorem RowsAt.own {w : World} {B g n cap : Nat} {us : List Value} {xss : List (List Int)} (h : RowsAt w B g n cap us) (hr : RowSet w B w.heap.size g us xss) : OwnSS w B w.heap.size (.slice (some ⟨g, 0, none⟩) n cap) xss := by
  have e : xss.length = n := by rw [← hr.1]; exact h.len
  subst e
  exact .inr ⟨g, cap, us, rfl, h.lt.1, h.lt.2, h, hr⟩
/-- 'make([][]int, n)': n times nil. -/
theorem rows_made {w w1 : World} {B n : Nat} (h : w1.ownsRow B 29 1 (.slice (some ⟨w.heap.size, 0, none⟩) n n) n (madeCells #[Value.slice none 0 0] n).toList) : RowsAt w1 B w.heap.size n n (List.replicate n (.slice none 0 0)) := by
  unfold RowsAt; rw [← toList_madeCells_one]; exact h

theorem mat_fill (xss : List (List Int)) (n k : Nat) (hk : k < n) (hn : xss.length = n) : (xss.take k ++ List.replicate (n - k) []).set k (row xss k) = xss.take (k + 1) ++ List.replicate (n - (k + 1)) [] := by
  have h1 : n - k = (n - (k + 1)) + 1 := by omega
  have e2 : min k xss.length = k := by omega
  have h2 : xss.take (k + 1) = xss.take k ++ [row xss k] := by rw [List.take_add_one, List.getElem?_eq_getElem (by omega), row_eq (by omega)]; rfl
  rw [h1, List.replicate_succ, List.set_append_right _ _ (by rw [List.length_take]; omega), List.length_take, e2, Nat.sub_self, h2, List.append_assoc]; rfl

set_option maxHeartbeats 400000 in
theorem toIntSS_any (v : Value) (xss : List (List Int)) (w : World) (hv : RowsV w v xss) (hm : szIntSS xss ≤ 1099511627776) :
    Calls Try.prog 17 #[v] w (RetO OwnSS xss w) := by
  have hc : ∀ i, i < xss.length → szIntS (row xss i) ≤ 1099511627776 := fun i hi => by
    have := row_len_le hi; unfold szIntSS at hm; unfold cntIntSS at this; unfold szIntS; omega
  have hl : xss.length ≤ 1099511627776 := by unfold szIntSS at hm; omega
  clear hm
  obtain ⟨ao, cap, rfl, hz, hz', H0⟩ := hv
  obtain ⟨n, hn⟩ : ∃ n, xss.length = n := ⟨_, rfl⟩
  have hv : RowsV w (.slice ao n cap) xss := ⟨ao, cap, by rw [hn], hz, hz', H0⟩
  rw [hn] at hl hc ⊢
  have hc' := Lib.hid hc
  have hn' := Lib.hid hn
  have hv' := Lib.hid hv
  clear H0 hz hz' hc hn hv
  obtain ⟨i, hi, hz0, hz1, hz2⟩ := info_parts Try.infoInts
  go_enter Try.func17, Try.ntmps17
  go_wp2_with (at_make; refine wpList_make_full _ rfl _ _ 22 rfl w.heap.size 29 i _ 1 Try.underlying22 hi hz0 hz1 _ _ _ _ n rfl rfl rfl rfl (by rw [hz2]; omega) (by unfold maxLen; omega) (Nat.le_refl _) ?_)
  intro w1 hown hgrow
  have hB1 : Below w.heap.size w w1 := below_made (Below.refl _ _) (Nat.le_refl _) hgrow
  have ho := rows_made hown
  have hs1 := ho.lt.2
  clear hown hgrow hi hz0 hz1 hz2
  have hr0 : RowSet w1 w.heap.size w1.heap.size w.heap.size (List.replicate n (.slice none 0 0)) (xss.take 0 ++ List.replicate (n - 0) []) := by
    rw [List.take_zero, List.nil_append, Nat.sub_zero]; exact RowSet.nils _ n (Nat.le_refl _) hs1
  go_wp2
  go_loopw [4] (fun i wr => ∃ (k : Nat) (us : List Value), k ≤ n ∧ i = .int .i64 k ∧ RowsAt wr w.heap.size w.heap.size n n us ∧ RowSet wr w.heap.size wr.heap.size w.heap.size us (xss.take k ++ List.replicate (n - k) []) ∧ Below w.heap.size w wr) (fun i _ => n - (intOf i).toNat)
  case atStart => exact ⟨0, _, Nat.zero_le _, rfl, ho, hr0, hB1⟩
  case round =>
    obtain ⟨k, us, hk, rfl, ho', hr, hB⟩ := hrel
    clear ho hr0 hB1 hs1
    obtain ⟨wo, rfl⟩ : ∃ wo : World, wo = wr := ⟨_, rfl⟩
    by_cases hlt : k < n
    · obtain ⟨ao', cap', e, _, _, H⟩ := hv'.out.below hB
      rw [hn'.out] at e H
      obtain ⟨rfl, _, rfl⟩ := Value.slice.inj e
      obtain ⟨b, off, u, rfl, hc, hu⟩ := H k hlt
      clear H e
      have hcl := toIntS_any u _ wo hu (hc'.out k hlt)
      have hcl' := Lib.hid hcl
      have hg := ho'.lt.2
      have hr' := Lib.hid hr
      clear hcl hu hr
      go_wp2_with fail
      refine hcl'.out.mono ?_
      rintro e w2 ⟨v2, rfl, ho2, hB2⟩
      obtain ⟨ao2, c2, rfl, -, -, -⟩ := id ho2.read
      have ho3 := ho'.below hB2 hg
      have hf := ho3.frozen k
      have hl3 := ho3.len
      have hck := ho3.cell (j := k) (u := us[k]'(by omega)) (List.getElem?_eq_getElem (by omega))
      have hst := ho3.stored k (.slice ao2 (row xss k).length c2)
      have hs2 := hB2.size
      have hrs : RowSet w2 w.heap.size w2.heap.size w.heap.size (us.set k (.slice ao2 (row xss k).length c2)) (xss.take (k + 1) ++ List.replicate (n - (k + 1)) []) := by
        rw [← mat_fill xss n k hlt hn'.out]
        exact (hr'.out.below hB2 (Nat.le_refl _)).set ho2 (Nat.le_refl _) hB.size hs2 hg
      have hrt : RowSet (w2.setCell ⟨w.heap.size, k, none⟩ (.slice ao2 (row xss k).length c2)) w.heap.size w2.heap.size w.heap.size (us.set k (.slice ao2 (row xss k).length c2)) (xss.take (k + 1) ++ List.replicate (n - (k + 1)) []) :=
        hrs.turned ((Turned.refl w.heap.size (w.heap.size + 1) w2).setCell (p := ⟨w.heap.size, k, none⟩) (Nat.le_refl _) (Nat.lt_succ_self _) _) (.inl ⟨Nat.le_refl _, Nat.le_refl _⟩)
      have hrt' := Lib.hid hrt
      have hB' := (hB.trans (hB2.mono hB.size)).setCell (p := ⟨w.heap.size, k, none⟩) (Nat.le_refl _) (.slice ao2 (row xss k).length c2)
      generalize us[k]'(by omega) = uk at hck
      clear hl3 hrs hrt
      go_wp2
      go_roundw
      case rel => exact ⟨k + 1, _, by omega, by go_num, hst, by simpa [World.setCell] using hrt'.out, hB'⟩
      case measure => simp [intOf]; omega
    · obtain rfl : k = n := by omega
      have ho2 : OwnSS wo w.heap.size wo.heap.size (.slice (some ⟨w.heap.size, 0, none⟩) k k) xss := by
        rw [Nat.sub_self, List.replicate_zero, List.append_nil, List.take_of_length_le (by rw [hn'.out]; omega)] at hr
        exact ho'.own hr
      clear hr ho'
      go_wp2
      go_ret
      exact ⟨_, rfl, ho2, hB⟩

/-- Two slices that read alike: true, and but draws have been made. -/
theorem eqIntS_drew (v u : Value) (xs : List Int) (w : World) (hv : IntsV w v xs) (hu : IntsV w u xs) (hm : szIntS xs ≤ 1099511627776) :
    Calls Try.prog 22 #[v, u] w fun e w' => e = .returned (.bool true) ∧ ∃ m, w' = w.drewN m := by
  replace hm : xs.length ≤ 1099511627776 := hm
  obtain ⟨ao, cap, rfl, _, _, H⟩ := hv
  obtain ⟨bo, bcap, rfl, _, _, H'⟩ := hu
  obtain ⟨n, hn⟩ : ∃ n, xs.length = n := ⟨_, rfl⟩
  rw [hn] at hm H H' ⊢
  go_enter Try.func22, Try.ntmps22
  go_wp2
  go_loopw [5] (fun i wr => ∃ k : Nat, k ≤ n ∧ i = .int .i64 k ∧ ∃ q, wr = w.drewN q) (fun i _ => n - (intOf i).toNat)
  case atStart => exact ⟨0, Nat.zero_le _, rfl, 0, rfl⟩
  case round =>
    obtain ⟨k, hk, rfl, q, rfl⟩ := hrel
    by_cases hlt : k < n
    · obtain ⟨b, off, rfl, hc⟩ := H k hlt
      obtain ⟨b', off', rfl, hc'⟩ := H' k hlt
      clear H H'
      go_wp2_with fail
      go_quiet (fail)
      go_wp2
      go_roundw
      case rel => exact ⟨k + 1, by omega, by go_num, _, rfl⟩
      case measure => simp [intOf]; omega
    · clear H H'
      go_wp2
      go_ret
      exact ⟨rfl, _, rfl⟩
theorem RowsV.drewN {w : World} {v : Value} {xss : List (List Int)} (h : RowsV w v xss) (q : Nat) : RowsV (w.drewN q) v xss := h.below (below_drewN (Below.refl _ _) q)

/-- Two slices of slices that read alike: true. -/
theorem eqIntSS_same (v u : Value) (xss : List (List Int)) (w : World) (hv : RowsV w v xss) (hu : RowsV w u xss) (hm : szIntSS xss ≤ 1099511627776) :
    Calls Try.prog 19 #[v, u] w (Ret (.bool true) w) := by
  have hc : ∀ i, i < xss.length → szIntS (row xss i) ≤ 1099511627776 := fun i hi => by
    have := row_len_le hi; unfold szIntSS at hm; unfold cntIntSS at this; unfold szIntS; omega
  have hl : xss.length ≤ 1099511627776 := by unfold szIntSS at hm; omega
  clear hm
  obtain ⟨ao, cap, rfl, _, _, H⟩ := hv
  obtain ⟨bo, bcap, rfl, _, _, H'⟩ := hu
  obtain ⟨n, hn⟩ : ∃ n, xss.length = n := ⟨_, rfl⟩
  rw [hn] at hl hc H H' ⊢
  have hc' := Lib.hid hc
  have h1 := Lib.hid H
  have h2 := Lib.hid H'
  clear hc H H' hn
  go_enter Try.func19, Try.ntmps19
  go_wp2
  go_loopw [5] (fun i wr => ∃ k : Nat, k ≤ n ∧ i = .int .i64 k ∧ ∃ q, wr = w.drewN q) (fun i _ => n - (intOf i).toNat)
  case atStart => exact ⟨0, Nat.zero_le _, rfl, 0, rfl⟩
  case round =>
    obtain ⟨k, hk, rfl, q, rfl⟩ := hrel
    by_cases hlt : k < n
    · obtain ⟨b, off, x, rfl, hcx, hx⟩ := h1.out k hlt
      obtain ⟨b', off', x', rfl, hcx', hx'⟩ := h2.out k hlt
      have hq := fun n' => eqIntS_drew x x' _ (w.drewN n') (hx.below (below_drewN (Below.refl _ _) n')) (hx'.below (below_drewN (Below.refl _ _) n')) (hc'.out k hlt)
      have hq' := Lib.hid hq
      clear hq hx hx'
      go_wp2_with fail
      go_quiet (first | (refine (hq'.out _).mono ?_; rintro _ _ ⟨h5, m, h6⟩; exact ⟨h5, _, by rw [h6, World.drewN_drewN, Nat.add_assoc]⟩))
      go_wp2
      go_roundw
      case rel => exact ⟨k + 1, by omega, by go_num, _, rfl⟩
      case measure => simp [intOf]; omega
    · go_wp2
      go_ret
      exact ⟨rfl, below_drewN (Below.refl _ _) _⟩

theorem RowSet.turn {w : World} {B E g j : Nat} {us : List Value} {xss : List (List Int)} (h : RowSet w B E g us xss) (hj : j < us.length) :
    ∃ a b u, us[j]? = some u ∧ Own w a b u (row xss j) ∧ B ≤ a ∧ b ≤ E ∧ (g < a ∨ b ≤ g) ∧ ∀ w' ys, Own w' a b u ys → Turned a b w w' → RowSet w' B E g us (xss.set j ys) := by
  obtain ⟨h1, lo, hi, H⟩ := h
  obtain ⟨p, q, r, ⟨u, hu, ho⟩, t⟩ := H j hj
  refine ⟨lo j, hi j, u, hu, ho, p, q, r, fun w' ys hy ht => ⟨by simp [h1], lo, hi, fun i hi' => ?_⟩⟩
  obtain ⟨p', q', r', ⟨u', hu', ho'⟩, t'⟩ := H i hi'
  refine ⟨p', q', r', ?_, t'⟩
  by_cases e : i = j
  · subst e
    refine ⟨u, hu, ?_⟩
    have : row (xss.set i ys) i = ys := by simp [row, ← h1, hi']
    rw [this]; exact hy
  · refine ⟨u', hu', ?_⟩
    have : row (xss.set j ys) i = row xss i := by simp [row, List.getElem?_set_ne (show j ≠ i by omega)]
    rw [this]
    exact ho'.turned ht (t i hi' e).symm
theorem RowsAt.turned {w w' : World} {B g n cap a b : Nat} {us : List Value} (h : RowsAt w B g n cap us) (ht : Turned a b w w') (hg : g < a ∨ b ≤ g) : RowsAt w' B g n cap us := by
  refine ⟨h.1, ?_⟩
  rcases h.2 with h3 | ⟨g', cap', cur, e', h4, h5, h6⟩
  · exact .inl h3
  · refine .inr ⟨g', cap', cur, e', h4, ?_, h6⟩
    simp only [Value.slice.injEq, Option.some.injEq, Addr.mk.injEq, and_true, true_and] at e'
    rw [ht.block g' (by omega)]; exact h5

/-- How many numbers the first j rows hold. -/
def cntTo (xss : List (List Int)) (j : Nat) : Nat := cntIntSS (xss.take j)
theorem cntTo_succ {xss : List (List Int)} {j : Nat} (h : j < xss.length) : cntTo xss (j + 1) = cntTo xss j + (row xss j).length := by
  have e : xss.take (j + 1) = xss.take j ++ [row xss j] := by rw [List.take_add_one, List.getElem?_eq_getElem h, row_eq h]; rfl
  unfold cntTo cntIntSS
  rw [e]
  simp only [List.map_append, List.map_cons, List.map_nil, List.sum_append, List.sum_cons, List.sum_nil]; omega
theorem cntTo_all (xss : List (List Int)) : cntTo xss xss.length = cntIntSS xss := by unfold cntTo; rw [List.take_length]
theorem cntTo_le (xss : List (List Int)) (j : Nat) : cntTo xss j ≤ cntIntSS xss := by
  unfold cntTo cntIntSS
  have := congrArg (fun l : List (List Int) => (l.map List.length).sum) (List.take_append_drop j xss)
  simp only [List.map_append, List.sum_append] at this
  omega
/-- The rows once the first j have been marked from k on. -/
def markTo (k : Nat) (xss : List (List Int)) : Nat → List (List Int)
  | 0 => xss
  | j + 1 => (markTo k xss j).set j (marks (k + cntTo xss j) (row xss j).length)
theorem markTo_len (k : Nat) (xss : List (List Int)) (j : Nat) : (markTo k xss j).length = xss.length := by
  induction j with
  | zero => rfl
  | succ j ih => rw [markTo, List.length_set, ih]
theorem markTo_row (k : Nat) (xss : List (List Int)) (j i : Nat) (hi : i < xss.length) : row (markTo k xss j) i = if i < j then marks (k + cntTo xss i) (row xss i).length else row xss i := by
  induction j with
  | zero => simp [markTo]
  | succ j ih =>
    rw [markTo]
    by_cases e : i = j
    · subst e
      rw [if_pos (by omega)]
      simp [row, markTo_len, hi]
    · have : row ((markTo k xss j).set j (marks (k + cntTo xss j) (row xss j).length)) i = row (markTo k xss j) i := by simp [row, List.getElem?_set_ne (show j ≠ i by omega)]
      rw [this, ih]
      by_cases h : i < j
      · rw [if_pos h, if_pos (by omega)]
      · rw [if_neg h, if_neg (by omega)]
/-- The rows of numbers that a mark from k on leaves in the place of xss. -/
def markIntSS (k : Nat) (xss : List (List Int)) : List (List Int) := markTo k xss xss.length

set_option maxHeartbeats 400000 in
theorem markIntSS_any (v : Value) (xss : List (List Int)) (k : Nat) (c : Int) (w : World) (B E : Nat) (hv : OwnSS w B E v xss) (hm : szIntSS xss ≤ 1099511627776) (hk : k ≤ 35184372088832) (hc : c = k) :
    Calls Try.prog 23 #[v, .int .i64 c] w fun e w' => e = .returned (.int .i64 ((k + cntIntSS xss : Nat) : Int)) ∧ OwnSS w' B E v (markIntSS k xss) ∧ Turned B E w w' := by
  subst hc
  have hct := fun j => cntTo_le xss j
  have hcm : cntIntSS xss ≤ 1099511627776 := by unfold szIntSS at hm; unfold cntIntSS; omega
  have hl : xss.length ≤ 1099511627776 := by unfold szIntSS at hm; omega
  clear hm
  rcases hv with ⟨rfl, ao, cap, rfl, hc, hz⟩ | ⟨g, cap, us, rfl, h1, h2, h3, h4⟩
  · go_enter Try.func23, Try.ntmps23
    go_wp2
    refine wp_loop_rounds 1 ?_
    rw [rounds_succ]
    go_wp2
    go_ret
    exact ⟨rfl, .inl ⟨rfl, ao, cap, rfl, hc, hz⟩, Turned.refl _ _ _⟩
  · obtain ⟨n, hn⟩ : ∃ n, xss.length = n := ⟨_, rfl⟩
    have hus : us.length = n := by rw [← hn]; exact h4.1
    rw [hn] at h3 hl ⊢
    have h3' : RowsAt w B g n cap us := h3
    have hall := cntTo_all xss
    rw [hn] at hall
    rw [← hall] at hct hcm ⊢
    have hall' := Lib.hid hall
    have hn' := Lib.hid hn
    have hct' := Lib.hid hct
    have hus' := Lib.hid hus
    clear h3 hn hall hct hus
    go_enter Try.func23, Try.ntmps23
    go_wp2
    go_loopw [1, 5] (fun c i wr => ∃ j : Nat, j ≤ n ∧ i = .int .i64 j ∧ c = .int .i64 ((k + cntTo xss j : Nat) : Int) ∧ RowsAt wr B g n cap us ∧ RowSet wr B E g us (markTo k xss j) ∧ Turned B E w wr) (fun _ i _ => n - (intOf i).toNat)
    case atStart => exact ⟨0, Nat.zero_le _, rfl, by simp [cntTo, cntIntSS], h3', h4, Turned.refl _ _ _⟩
    case round =>
      obtain ⟨j, hj, rfl, rfl, ho, hr, ht⟩ := hrel
      clear h3' h4
      obtain ⟨wo, rfl⟩ : ∃ wo : World, wo = wr := ⟨_, rfl⟩
      by_cases hlt : j < n
      · obtain ⟨a, b, u, hu, hou, ha, hb, hgab, hstep⟩ := hr.turn (j := j) (by rw [hus'.out]; exact hlt)
        have hrow : row (markTo k xss j) j = row xss j := by rw [markTo_row k xss j j (by rw [hn'.out]; exact hlt), if_neg (Nat.lt_irrefl _)]
        rw [hrow] at hou
        have hsz : (row xss j).length ≤ cntTo xss n := by rw [hall'.out]; exact row_len_le (by rw [hn'.out]; exact hlt)
        have hcall := markIntS_any u (row xss j) (k + cntTo xss j) ((k + cntTo xss j : Nat) : Int) wo a b hou (by unfold szIntS; omega) (by have := hct'.out j; omega) rfl
        have hcell := ho.cell hu
        have hsucc := cntTo_succ (xss := xss) (j := j) (by rw [hn'.out]; exact hlt)
        have hcall' := Lib.hid hcall
        have hsucc' := Lib.hid hsucc
        have hstep' := Lib.hid hstep
        clear hcall hr hrow hou hsucc hstep hu
        go_wp2_with fail
        refine hcall'.out.mono ?_
        rintro e w2 ⟨rfl, ho2, ht2⟩
        have hr2 : RowSet w2 B E g us (markTo k xss (j + 1)) := hstep'.out _ _ ho2 ht2
        have ho3 := ho.turned ht2 hgab
        have ht3 := ht.trans (ht2.mono ha hb)
        have hr2' := Lib.hid hr2
        have ho3' := Lib.hid ho3
        clear hr2 ho2 ho3
        go_wp2
        go_roundw
        case rel => exact ⟨j + 1, by omega, by go_num, by rw [hsucc'.out]; simp only [cntIntS]; go_num, ho3'.out, hr2'.out, ht3⟩
        case measure => simp [intOf]; omega
      · obtain rfl : j = n := by omega
        have hfin : OwnSS wo B E (.slice (some ⟨g, 0, none⟩) j cap) (markIntSS k xss) := by
          have e : j = (markTo k xss j).length := by rw [markTo_len, hn'.out]
          unfold markIntSS
          rw [hn'.out]
          refine .inr ⟨g, cap, us, by rw [← e], h1, h2, ?_, hr⟩
          rw [← e]; exact ho
        clear ho hr
        go_wp2
        go_ret
        exact ⟨rfl, hfin, ht⟩


theorem szIntS_core (v : Value) (xs : List Int) (left r : Int) (w : World) (hv : IntsV w v xs) (h0 : 0 ≤ left) (hb : left ≤ 1099511627776) (hr : ((xs.length : Int) ≤ left ∧ r = left - xs.length) ∨ (left < xs.length ∧ r = -1)) :
    Calls Try.prog 64 #[v, .int .i64 left] w (Same (.int .i64 r) w) := by
  obtain ⟨ao, cap, rfl, ⟨hc, -⟩, hm, -⟩ := hv
  unfold maxLen at hm
  generalize xs.length = n at *
  rcases hr with ⟨h, rfl⟩ | ⟨h, rfl⟩
  · have h2 : ¬ (left - n < 0) := by omega
    go_enter Try.func64, Try.ntmps64
    go_wp2
    go_ret
    exact ⟨rfl, rfl⟩
  · have h2 : left - n < 0 := by omega
    go_enter Try.func64, Try.ntmps64
    go_wp2
    go_ret
    exact ⟨rfl, rfl⟩

set_option maxHeartbeats 400000 in
theorem szIntSS_core (v : Value) (xss : List (List Int)) (left r : Int) (w : World) (hv : RowsV w v xss) (h0 : 0 ≤ left) (hb : left ≤ 1099511627776) (hr : ((szIntSS xss : Int) ≤ left ∧ r = left - szIntSS xss) ∨ (left < szIntSS xss ∧ r = -1)) :
    Calls Try.prog 15 #[v, .int .i64 left] w (Same (.int .i64 r) w) := by
  have hall := cntTo_all xss
  have hsz : szIntSS xss = xss.length + cntTo xss xss.length := by rw [hall]; rfl
  rw [hsz] at hr
  have hv' := Lib.hid hv
  obtain ⟨ao, cap, rfl, ⟨hc, -⟩, hm, -⟩ := id hv
  unfold maxLen at hm
  obtain ⟨n, hn⟩ : ∃ n, xss.length = n := ⟨_, rfl⟩
  rw [hn] at hr hv' hc ⊢
  have hn' := Lib.hid hn
  clear hn hall hsz hv
  by_cases hlt0 : left < n
  · obtain rfl : r = -1 := by omega
    have h2 : left - n < 0 := by omega
    clear hr
    go_enter Try.func15, Try.ntmps15
    go_wp2
    go_ret
    exact ⟨rfl, rfl⟩
  · have h2 : ¬ (left - n < 0) := by omega
    go_enter Try.func15, Try.ntmps15
    go_wp2
    go_loop [1, 5] (fun c i => ∃ j : Nat, j ≤ n ∧ i = .int .i64 j ∧ c = .int .i64 (left - n - cntTo xss j) ∧ (cntTo xss j : Int) ≤ left - n) (fun _ i => n - (intOf i).toNat)
    case atStart => exact ⟨0, Nat.zero_le _, rfl, by simp [cntTo, cntIntSS], by simp [cntTo, cntIntSS]; omega⟩
    case round =>
      obtain ⟨j, hj, rfl, rfl, hle⟩ := hrel
      by_cases hlt : j < n
      · obtain ⟨ao', cap', e, -, -, H⟩ := hv'.out
        rw [hn'.out] at e H
        obtain ⟨rfl, _, rfl⟩ := Value.slice.inj e
        obtain ⟨b, off, u, rfl, hcell, hu⟩ := H j hlt
        have hsucc := cntTo_succ (xss := xss) (j := j) (by rw [hn'.out]; exact hlt)
        have hmono : cntTo xss (j + 1) ≤ cntTo xss n := by rw [← hn'.out, cntTo_all]; exact cntTo_le _ _
        clear H e
        by_cases hf : ((row xss j).length : Int) ≤ left - n - cntTo xss j
        · have hcall := szIntS_core u (row xss j) (left - n - cntTo xss j) (left - n - cntTo xss (j + 1)) w hu (by omega) (by omega) (.inl ⟨hf, by omega⟩)
          have hcall' := Lib.hid hcall
          have hle2 : (cntTo xss (j + 1) : Int) ≤ left - n := by omega
          have hle3 : ¬ (left - n - cntTo xss (j + 1) < 0) := by omega
          clear hcall hsucc hu hf hmono hr
          go_wp2_with fail
          refine hcall'.out.mono ?_
          rintro e w_ ⟨rfl, rfl⟩
          go_wp2
          go_round
          case rel => exact ⟨j + 1, by omega, by go_num, rfl, hle2⟩
          case measure => simp [intOf]; omega
        · obtain rfl : r = -1 := by omega
          have hcall := szIntS_core u (row xss j) (left - n - cntTo xss j) (-1) w hu (by omega) (by omega) (.inr ⟨by omega, rfl⟩)
          have hcall' := Lib.hid hcall
          clear hcall hsucc hu hf hmono hr
          go_wp2_with fail
          refine hcall'.out.mono ?_
          rintro e w_ ⟨rfl, rfl⟩
          go_wp2
          go_ret
          exact ⟨rfl, rfl⟩
      · obtain rfl : j = n := by omega
        obtain rfl : r = left - j - cntTo xss j := by omega
        clear hr
        go_wp2
        go_ret
        exact ⟨rfl, rfl⟩

theorem szIntSS_fits (v : Value) (xss : List (List Int)) (left : Int) (w : World) (hv : RowsV w v xss) (h : (szIntSS xss : Int) ≤ left) (hb : left ≤ 1099511627776) :
    Calls Try.prog 15 #[v, .int .i64 left] w (Same (.int .i64 (left - szIntSS xss)) w) :=
  szIntSS_core v xss left _ w hv (by omega) hb (.inl ⟨h, rfl⟩)
theorem szIntSS_over (v : Value) (xss : List (List Int)) (left : Int) (w : World) (hv : RowsV w v xss) (h : left < (szIntSS xss : Int)) (hb : 0 ≤ left ∧ left ≤ 1099511627776) :
    Calls Try.prog 15 #[v, .int .i64 left] w (Same (.int .i64 (-1)) w) :=
  szIntSS_core v xss left _ w hv hb.1 hb.2 (.inr ⟨h, rfl⟩)

theorem OwnSS.below {w w' : World} {B E E' : Nat} {v : Value} {xss : List (List Int)} (h : OwnSS w B E v xss) (hB : Below E' w w') (hE : E ≤ E') : OwnSS w' B E v xss := by
  rcases h with h | ⟨g, cap, us, rfl, h1, h2, h3, h4⟩
  · exact .inl h
  · exact .inr ⟨g, cap, us, rfl, h1, h2, RowsAt.below h3 hB (by omega), h4.below hB hE⟩
theorem OwnSS.mono {w : World} {B E B' E' : Nat} {v : Value} {xss : List (List Int)} (h : OwnSS w B E v xss) (hB : B' ≤ B) (hE : E ≤ E') : OwnSS w B' E' v xss := by
  rcases h with h | ⟨g, cap, us, rfl, h1, h2, h3, h4⟩
  · exact .inl h
  · exact .inr ⟨g, cap, us, rfl, by omega, by omega, h3.mono hB, h4.mono hB hE⟩
theorem OwnSS.turned {w w' : World} {B E B' E' : Nat} {v : Value} {xss : List (List Int)} (h : OwnSS w B E v xss) (ht : Turned B' E' w w') (hd : E ≤ B' ∨ E' ≤ B) : OwnSS w' B E v xss := by
  rcases h with h | ⟨g, cap, us, rfl, h1, h2, h3, h4⟩
  · exact .inl h
  · exact .inr ⟨g, cap, us, rfl, h1, h2, RowsAt.turned h3 ht (by omega), h4.turned ht (by omega)⟩

end Go.Proofs.Ytjoeanplgikkcaa

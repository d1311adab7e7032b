/- Several texts in one: ChnLaw IvsOwn ShrinkI ShrinkS. No conditions but those that each theorem states. -/
import Derived.Test.YtjkgilenhoomoaaGreatShrS
import Derived.Test.YtjkgilenhoomoaaGreatPkN
import Derived.Test.YtjkgilenhoomoaaGreatPkH
import Derived.Test.YtjkgilenhoomoaaGreatPkJ
import Derived.Test.YtjkgilenhoomoaaGreatPkM
import Derived.Test.YtjkgilenhoomoaaGreatShrI

namespace Go.Proofs.YtjkgilenhoomoaaGreat
open Go.RowKit

theorem cfK_mem (f l : List Quad) : ∀ n (x : Int), x ∈ cfK f l n ↔ ∃ k : Nat, x = (k : Int) ∧ k < n ∧ covB f (nth4 l k) (nth4 l (nxt l.length k)) = false := by
  intro n
  induction n with
  | zero => intro x; constructor
            · intro h; cases h
            · rintro ⟨k, _, h, _⟩; omega
  | succ n ih =>
    intro x
    have hE : cfK f l (n + 1) = if covB f (nth4 l n) (nth4 l (nxt l.length n)) = true then cfK f l n else cfK f l n ++ [(n : Int)] := rfl
    rw [hE]
    split
    · rename_i q
      rw [ih]
      constructor
      · rintro ⟨k, a, b, c⟩; exact ⟨k, a, by omega, c⟩
      · rintro ⟨k, a, b, c⟩
        refine ⟨k, a, ?_, c⟩
        by_cases e : k = n
        · subst e; rw [q] at c; cases c
        · omega
    · rename_i q
      rw [List.mem_append, ih, List.mem_singleton]
      constructor
      · rintro (⟨k, a, b, c⟩ | h)
        · exact ⟨k, a, by omega, c⟩
        · exact ⟨n, h, by omega, by simpa using q⟩
      · rintro ⟨k, a, b, c⟩
        by_cases e : k = n
        · subst e; exact .inr a
        · exact .inl ⟨k, a, by omega, c⟩
theorem cfK_sorted (f l : List Quad) : ∀ n, (cfK f l n).Pairwise (· < ·) := by
  intro n
  induction n with
  | zero => exact List.Pairwise.nil
  | succ n ih =>
    have hE : cfK f l (n + 1) = if covB f (nth4 l n) (nth4 l (nxt l.length n)) = true then cfK f l n else cfK f l n ++ [(n : Int)] := rfl
    rw [hE]
    split
    · exact ih
    · rw [List.pairwise_append]
      refine ⟨ih, List.pairwise_singleton _ _, fun a ha b hb => ?_⟩
      obtain ⟨k, e, hk, _⟩ := (cfK_mem f l n a).1 ha
      rw [List.mem_singleton.1 hb, e]
      omega
theorem cf_first {f l : List Quad} {n : Nat} (h : 0 < (cfK f l n).length) : nth (cfK f l n) 0 ∈ cfK f l n ∧ ∀ x, x ∈ cfK f l n → nth (cfK f l n) 0 ≤ x := by
  have hs := cfK_sorted f l n
  generalize cfK f l n = L at *
  match L with
  | [] => simp at h
  | a :: t =>
    show a ∈ a :: t ∧ ∀ x, x ∈ a :: t → a ≤ x
    refine ⟨List.mem_cons_self .., fun x hx => ?_⟩
    rcases List.mem_cons.1 hx with e | e
    · omega
    · have := (List.pairwise_cons.1 hs).1 x e
      omega
/-- The first fault is one of the list. -/
theorem cf_le {f l : List Quad} (h : 0 < (cfK f l l.length).length) : nth (cfK f l l.length) 0 ≤ (l.length : Int) - 1 := by
  obtain ⟨k, e, hk, _⟩ := (cfK_mem f l _ _).1 (cf_first h).1
  rw [e]
  omega
theorem chain_true {f l : List Quad} (h : IsChain_v f l = (true, true)) : mapB f = true ∧ ivsB l = true ∧ ckK f l l.length = true ∧ ∀ k, k + 1 < l.length → covB f (nth4 l k) (nth4 l (k + 1)) = true := by
  unfold IsChain_v ChainFaults_v at h
  by_cases q : mapB f = true ∧ ivsB l = true
  · rw [if_pos q] at h
    unfold cf_v at h
    by_cases q2 : ckK f l l.length = true
    · rw [if_pos q2] at h
      refine ⟨q.1, q.2, q2, fun k hk => ?_⟩
      have hn : nxt l.length k = k + 1 := Nat.mod_eq_of_lt hk
      cases hc : covB f (nth4 l k) (nth4 l (k + 1)) with
      | true => rfl
      | false =>
        have hm : (k : Int) ∈ cfK f l l.length := (cfK_mem f l _ _).2 ⟨k, rfl, by omega, by rw [hn]; exact hc⟩
        have h0 : 0 < (cfK f l l.length).length := List.length_pos_of_mem hm
        have h1 := (cf_first h0).2 _ hm
        unfold chB at h
        rw [if_pos rfl] at h
        have h2 := (Prod.mk.inj h).1
        rw [Bool.or_eq_true, decide_eq_true_iff, decide_eq_true_iff] at h2
        rcases h2 with h2 | h2
        · have h3 : (cfK f l l.length).length = 0 := h2
          omega
        · have h3 : nth (cfK f l l.length) 0 = (l.length : Int) - 1 := h2
          omega
    · rw [if_neg q2] at h
      cases h
  · rw [if_neg q] at h
    cases h
/-- After m steps from the end. -/
def chS (f l : List Quad) : Nat → List Quad × Bool
  | 0 => (l, true)
  | m + 1 => ((chS f l m).1.set (l.length - 2 - m) (ivR f (nth4 l (l.length - 2 - m)) (nth4 (chS f l m).1 (l.length - 1 - m))).1, (chS f l m).2 && (ivR f (nth4 l (l.length - 2 - m)) (nth4 (chS f l m).1 (l.length - 1 - m))).2)
theorem chS_len (f l : List Quad) (m : Nat) : (chS f l m).1.length = l.length := by
  induction m with
  | zero => rfl
  | succ m ih =>
    show ((chS f l m).1.set _ _).length = _
    rw [List.length_set, ih]
theorem chS_false {f l : List Quad} {m n : Nat} (h : m ≤ n) (hb : (chS f l m).2 = false) : (chS f l n).2 = false := by
  induction n with
  | zero => obtain rfl : m = 0 := by omega
            exact hb
  | succ n ih =>
    by_cases e : m = n + 1
    · subst e; exact hb
    · show ((chS f l n).2 && _) = false
      rw [ih (by omega)]
      rfl
theorem nth4_set {l : List Quad} {i j : Nat} {q : Quad} (hj : j < l.length) : nth4 (l.set i q) j = if i = j then q else nth4 l j := by
  rw [nth4_eq (by rw [List.length_set]; exact hj), nth4_eq hj, List.getElem_set]
theorem ckK_true {f l : List Quad} {k n : Nat} (h : ckK f l n = true) (hk : k < n) : imgOk f (nth4 l k).1 (nth4 l k).2 = true := by
  unfold ckK at h
  rw [List.all_eq_true] at h
  exact h k (List.mem_range.2 hk)
/-- Along a chain each shrunk interval is told as the program tells it. -/
theorem chS_law {f l : List Quad} (h : IsChain_v f l = (true, true)) : ∀ m, m + 1 ≤ l.length → (chS f l m).2 = true →
    (∀ j, j < l.length → ivB (nth4 (chS f l m).1 j) = true ∧ qv (nth4 l j).1 ≤ qv (nth4 (chS f l m).1 j).1 ∧ qv (nth4 (chS f l m).1 j).2 ≤ qv (nth4 l j).2) ∧
    (m + 2 ≤ l.length → ivR f (nth4 l (l.length - 2 - m)) (nth4 (chS f l m).1 (l.length - 1 - m)) = shrV f (nth4 l (l.length - 2 - m)) (nth4 (chS f l m).1 (l.length - 1 - m))) := by
  obtain ⟨h1, h2, h3, h4⟩ := chain_true h
  have hf := mapB_true h1
  obtain ⟨l1, l2⟩ := ivsB_true h2
  have hR : ∀ m, m + 2 ≤ l.length → (∀ j, j < l.length → ivB (nth4 (chS f l m).1 j) = true ∧ qv (nth4 l j).1 ≤ qv (nth4 (chS f l m).1 j).1 ∧ qv (nth4 (chS f l m).1 j).2 ≤ qv (nth4 l j).2) → ivR f (nth4 l (l.length - 2 - m)) (nth4 (chS f l m).1 (l.length - 1 - m)) = shrV f (nth4 l (l.length - 2 - m)) (nth4 (chS f l m).1 (l.length - 1 - m)) := by
    intro m hm hq
    obtain ⟨a, b, c⟩ := hq (l.length - 1 - m) (by omega)
    have hc := h4 (l.length - 2 - m) (by omega)
    rw [show l.length - 2 - m + 1 = l.length - 1 - m by omega] at hc
    have hc2 := cov_sub hf (l2 (l.length - 1 - m) (by omega)) a b c hc
    unfold ivR
    rw [if_pos ⟨ckK_true h3 (by omega), hc2⟩]
  intro m
  induction m with
  | zero =>
    intro _ _
    have hq : ∀ j, j < l.length → ivB (nth4 (chS f l 0).1 j) = true ∧ qv (nth4 l j).1 ≤ qv (nth4 (chS f l 0).1 j).1 ∧ qv (nth4 (chS f l 0).1 j).2 ≤ qv (nth4 l j).2 := fun j hj => ⟨l2 j hj, by show qv (nth4 l j).1 ≤ qv (nth4 l j).1; grind, by show qv (nth4 l j).2 ≤ qv (nth4 l j).2; grind⟩
    exact ⟨hq, fun hm => hR 0 hm hq⟩
  | succ m ih =>
    intro hm hb
    have hb2 : (chS f l m).2 = true ∧ (ivR f (nth4 l (l.length - 2 - m)) (nth4 (chS f l m).1 (l.length - 1 - m))).2 = true := by
      have hE : (chS f l (m + 1)).2 = ((chS f l m).2 && (ivR f (nth4 l (l.length - 2 - m)) (nth4 (chS f l m).1 (l.length - 1 - m))).2) := rfl
      rw [hE, Bool.and_eq_true] at hb
      exact hb
    obtain ⟨i1, i2⟩ := ih (by omega) hb2.1
    have hq : ∀ j, j < l.length → ivB (nth4 (chS f l (m + 1)).1 j) = true ∧ qv (nth4 l j).1 ≤ qv (nth4 (chS f l (m + 1)).1 j).1 ∧ qv (nth4 (chS f l (m + 1)).1 j).2 ≤ qv (nth4 l j).2 := by
      intro j hj
      have hE : (chS f l (m + 1)).1 = (chS f l m).1.set (l.length - 2 - m) (ivR f (nth4 l (l.length - 2 - m)) (nth4 (chS f l m).1 (l.length - 1 - m))).1 := rfl
      rw [hE, nth4_set (by rw [chS_len]; exact hj)]
      split
      · rename_i e
        subst e
        have hv := hb2.2
        rw [i2 (by omega)] at hv ⊢
        obtain ⟨o1, o2, o3⟩ := shrV_true hv
        rw [o3]
        obtain ⟨c1, c2, _⟩ := shr_at hf (l2 (l.length - 2 - m) (by omega)) (i1 (l.length - 1 - m) (by omega)).1 o1 o2
        exact ⟨c1, c2⟩
      · exact i1 j hj
    exact ⟨hq, fun hm2 => hR (m + 1) hm2 hq⟩
def ShrinkChain_v (f l : List Quad) : List Quad × Bool := if IsChain_v f l = (true, true) ∧ (chS f l (l.length - 1)).2 = true then ((chS f l (l.length - 1)).1, true) else ([], false)
theorem ShrinkChain_len (f l : List Quad) : (ShrinkChain_v f l).1.length ≤ 1099511627776 := by
  unfold ShrinkChain_v
  split
  · rename_i h
    have := (ivsB_true (chain_true h.1).2.1).1
    show (chS f l (l.length - 1)).1.length ≤ _
    rw [chS_len]; omega
  · simp
end Go.Proofs.YtjkgilenhoomoaaGreat

namespace Go.Proofs.YtjkgilenhoomoaaGreat
open Go.RowKit

theorem wpList_append_ivs {ops : Array Oper} {rest : List Oper} {o : Oper} {a : Act} {w : World} {Q : Exit → Act → World → Prop} (hgd : o.guard = none) (s x : Operand)
    (ho : o.op = .call { callee := .builtin .append, args := #[s, x], argTypes := #[26, 26] }) (B : Nat) (v u : Value) (xs ys : List Quad) (hs : a.eval s = v)
    (hx : a.eval x = u) (hown : GrowI w B v xs) (hu : QuadV w u ys) (hl : xs.length + ys.length ≤ 1099511627776) (hB : B ≤ w.heap.size)
    (h : ∀ v' w', GrowI w' B v' (xs ++ ys) → w.grownBy w' v.ownBlock → wpList Tryz.prog ops Q rest (a.put o.dst v') w') : wpList Tryz.prog ops Q (o :: rest) a w := by
  obtain ⟨i, hi, hz0, hz1, hz2⟩ := info_parts Tryz.infoInterval
  obtain ⟨ao, cap, rfl, ⟨hcap, hnil⟩, _, H⟩ := hu
  cases ao with
  | none =>
    obtain rfl := hnil rfl
    have : ys = [] := List.eq_nil_of_length_eq_zero (by omega)
    subst this
    refine wpList_append_own_none hgd s x 26 ho B 44 i 4 Tryz.underlying26 hi v xs.length _ hs hown hx ?_
    exact h v w (by rw [List.append_nil]; exact hown) (World.grownBy.refl _ _)
  | some ad =>
    refine wpList_append_own _ hgd s x 26 ho B 44 i (.agg #[.int .i64 0, .int .i64 0, .int .i64 0, .int .i64 0]) 4 32 Tryz.underlying26 hi hz0 hz1 hz2 rfl (by decide) v xs.length _ hs hown ad ys.length cap ((fl4 ys).map (Value.int .i64)) hx (by simp [fl4_len]) ?_ ?_ (by unfold maxLen; omega) (by omega) hB ?_
    · intro j z hj
      have hj' : j < (fl4 ys).length := by
        have := (List.getElem?_eq_some_iff.1 hj).1
        simpa using this
      obtain ⟨b, off, e, hc⟩ := H j (by rw [fl4_len] at hj'; exact hj')
      cases e
      rw [Addr.add_lit, hc]
      rw [List.getElem?_map, List.getElem?_eq_getElem hj'] at hj
      rw [nth_eq hj']; exact hj
    · intro z hz
      obtain ⟨_, _, rfl⟩ := List.mem_map.1 hz
      rfl
    · intro v' w' h1 h2 _
      refine h v' w' ?_ h2
      unfold GrowI GrowF
      rw [fl4_append, List.map_append, List.length_append]; exact h1
theorem GrowI.empty {w : World} {B : Nat} (hB : B ≤ w.heap.size) : GrowI (w.alloc (.cells #[] 44)) B (.slice (some ⟨w.heap.size, 0, none⟩) 0 0) [] := by
  unfold GrowI GrowF
  exact World.ownsRow_lit (base := B) (e := 44) (size := 4) w #[] 0 hB (by decide) rfl
theorem GrowI.mono {w : World} {B B' : Nat} {v : Value} {xs : List Quad} (h : GrowI w B v xs) (hB : B' ≤ B) : GrowI w B' v xs := World.ownsRow.mono h hB
theorem GrowI.kept {w w' : World} {B g : Nat} {v : Value} {xs : List Quad} (h : GrowI w B v xs) (hg : w.grownBy w' (some g)) (hgB : g < B) : GrowI w' B v xs :=
  World.ownsRow.kept h hg (.inr (fun e => by have := (World.ownsRow.lt h g e).1; omega))
/-- Four cells of one element written. -/
def setA (w : World) (g a : Nat) (q : Quad) : World := (((w.setCell ⟨g, a, none⟩ (.int .i64 q.1.1)).setCell ⟨g, a + 1, none⟩ (.int .i64 q.1.2)).setCell ⟨g, a + 2, none⟩ (.int .i64 q.2.1)).setCell ⟨g, a + 3, none⟩ (.int .i64 q.2.2)
theorem fl4_set (l : List Quad) (i : Nat) (q : Quad) : fl4 (l.set i q) = ((((fl4 l).set (i * 4) q.1.1).set (i * 4 + 1) q.1.2).set (i * 4 + 2) q.2.1).set (i * 4 + 3) q.2.2 := by
  induction l generalizing i with
  | nil => simp [fl4]
  | cons x t ih =>
    have hc : ∀ (x : Quad) (t : List Quad), fl4 (x :: t) = x.1.1 :: x.1.2 :: x.2.1 :: x.2.2 :: fl4 t := fun _ _ => rfl
    cases i with
    | zero => rw [List.set_cons_zero, hc, hc]; rfl
    | succ i =>
      rw [List.set_cons_succ, hc, hc, ih, show (i + 1) * 4 = i * 4 + 1 + 1 + 1 + 1 by omega, show i * 4 + 1 + 1 + 1 + 1 + 1 = i * 4 + 1 + 1 + 1 + 1 + 1 from rfl, show i * 4 + 1 + 1 + 1 + 1 + 2 = i * 4 + 2 + 1 + 1 + 1 + 1 by omega, show i * 4 + 1 + 1 + 1 + 1 + 3 = i * 4 + 3 + 1 + 1 + 1 + 1 by omega]
      rfl
theorem GrowI.setA {w : World} {B g cap : Nat} {l : List Quad} (h : GrowI w B (.slice (some ⟨g, 0, none⟩) l.length cap) l) (i : Nat) (q : Quad) : GrowI (YtjkgilenhoomoaaGreat.setA w g (i * 4) q) B (.slice (some ⟨g, 0, none⟩) l.length cap) (l.set i q) := by
  have h0 : RowF 44 4 w B g l.length cap (fl4 l) := h
  have h4 := (((h0.stored (i * 4) q.1.1).stored (i * 4 + 1) q.1.2).stored (i * 4 + 2) q.2.1).stored (i * 4 + 3) q.2.2
  unfold GrowI GrowF
  rw [fl4_set, List.length_set]
  exact h4
theorem GrowI.frozen {w : World} {B g cap : Nat} {l : List Quad} (h : GrowI w B (.slice (some ⟨g, 0, none⟩) l.length cap) l) (j : Nat) : w.frozen? ⟨g, j, none⟩ = false := World.ownsRow.frozenAt h j
theorem GrowI.form {w : World} {B : Nat} {v : Value} {xs : List Quad} (h : GrowI w B v xs) (hn : 0 < xs.length) : ∃ g cap, v = .slice (some ⟨g, 0, none⟩) xs.length cap ∧ (B ≤ g ∧ g < w.heap.size) ∧ (xs.length ≤ cap ∧ cap ≤ maxLen) ∧ ∀ i, i < xs.length → w.cell? ⟨g, i * 4, none⟩ = some (.int .i64 (nth4 xs i).1.1) ∧ w.cell? ⟨g, i * 4 + 1, none⟩ = some (.int .i64 (nth4 xs i).1.2) ∧ w.cell? ⟨g, i * 4 + 2, none⟩ = some (.int .i64 (nth4 xs i).2.1) ∧ w.cell? ⟨g, i * 4 + 3, none⟩ = some (.int .i64 (nth4 xs i).2.2) := by
  obtain ⟨g, cap, rfl, hr⟩ := GrowF.form h hn
  obtain ⟨_, _, e, h1, h2, H⟩ := h.read.form
  cases e
  refine ⟨g, cap, rfl, hr.lt, ⟨h1.1, h2⟩, fun i hi => ?_⟩
  obtain ⟨_, _, e, c⟩ := H i hi
  cases e
  simpa using c
theorem setA_far {w : World} {g a : Nat} {q : Quad} {b o : Nat} (h : b ≠ g ∨ o < a ∨ a + 4 ≤ o) : (setA w g a q).cell? ⟨b, o, none⟩ = w.cell? ⟨b, o, none⟩ := by
  have oth : ∀ (W : World) (x : Nat) (v : Value), (b ≠ g ∨ x ≠ o) → (W.setCell ⟨g, x, none⟩ v).cell? ⟨b, o, none⟩ = W.cell? ⟨b, o, none⟩ := fun W x v hne => World.cell?_setCell_other W _ _ v (fun e => by
    have e1 : g = b := congrArg Addr.block e
    have e2 : x = o := congrArg Addr.off e
    rcases hne with h | h
    · exact h e1.symm
    · exact h e2)
  unfold setA
  rw [oth _ _ _ (by omega), oth _ _ _ (by omega), oth _ _ _ (by omega), oth _ _ _ (by omega)]
theorem below_setA {E : Nat} {w W : World} (h : Below E w W) {b : Nat} (hb : E ≤ b) (a : Nat) (q : Quad) : Below E w (setA W b a q) := by
  unfold setA
  exact ((((h.setCell (p := ⟨b, a, none⟩) hb _).setCell (p := ⟨b, a + 1, none⟩) hb _).setCell (p := ⟨b, a + 2, none⟩) hb _).setCell (p := ⟨b, a + 3, none⟩) hb _)
theorem CalcAt.setA {w : World} {g b : Nat} {bd : Bool} (h : CalcAt w g bd) (hne : b ≠ g) (a : Nat) (q : Quad) : CalcAt (YtjkgilenhoomoaaGreat.setA w b a q) g bd := by
  unfold YtjkgilenhoomoaaGreat.setA
  exact (((h.set hne _).set hne _).set hne _).set hne _

set_option maxRecDepth 10000 in
set_option maxHeartbeats 800000 in
theorem cloneIv_any (v : Value) (l : List Quad) (w : World) (hv : QuadV w v l) (hn : 0 < l.length) (hm : l.length ≤ 1099511627776) :
    Calls Tryz.prog 21 #[v] w (fun e w' => ∃ r, e = .returned r ∧ GrowI w' w.heap.size r l ∧ Below w.heap.size w w') := by
  have hB1 := (Below.refl w.heap.size w).alloc (Nat.le_refl _) (.cells #[] 44)
  have hv1 := hv.below hB1
  have hg1 : GrowI (w.alloc (.cells #[] 44)) w.heap.size (.slice (some ⟨w.heap.size, 0, none⟩) 0 0) [] := GrowI.empty (Nat.le_refl _)
  obtain ⟨ao, cap, rfl, _, _, H⟩ := hv.form
  obtain ⟨b, off, rfl, _⟩ := H 0 hn
  have hl : ([] : List Quad).length + l.length ≤ 1099511627776 := by simpa using hm
  have hnil := fun w' => Lib.run_eql_slice_nil (P := Tryz.prog) w' 26 44 (some ⟨b, off, none⟩) l.length cap 0 0 Tryz.underlying26
  have hsz : w.heap.size ≤ (w.alloc (.cells #[] 44)).heap.size := hB1.size
  obtain ⟨n, hn'⟩ : ∃ n, l.length = n := ⟨_, rfl⟩
  rw [hn'] at hv1 hnil ⊢
  clear H hv hm hn
  have hl' := Lib.hid hl
  have hn'' := Lib.hid hn'
  clear hl hn'
  go_enter Tryz.func21, Tryz.ntmps21
  go_wp2_with (at_builtin; refine wpList_append_ivs rfl _ _ rfl w.heap.size _ (.slice (some ⟨b, off, none⟩) n cap) [] l rfl rfl hg1 hv1 hl'.out hsz ?_)
  intro v2 w2 hg2 hgrow
  have hb2 := GrowI.belowB hg1 hB1 (Nat.le_refl _) hB1.size hgrow
  clear hg1 hv1 hnil hgrow
  have hg2' := Lib.hid hg2
  have hb2' := Lib.hid hb2
  clear hg2 hb2
  go_wp2
  go_ret
  exact ⟨_, rfl, hg2'.out, hb2'.out⟩
end Go.Proofs.YtjkgilenhoomoaaGreat

namespace Go.Proofs.YtjkgilenhoomoaaGreat
open Go.RowKit
set_option maxRecDepth 100000

theorem below_grown {w0 w w' : World} {g : Nat} (hb : Below w0.heap.size w0 w) (hg : w0.heap.size ≤ g) (h : w.grownBy w' (some g)) : Below w0.heap.size w0 w' :=
  hb.grown h hb.size (fun j hj => by have := Option.some.inj hj; omega)
theorem keep_next {W : World} {lb gq x a b : Nat} {v0 v1 v2 v3 u0 u1 u2 u3 : Value} {q : Quad}
    (hw : (W.cell? ⟨lb, x, none⟩ = some v0 ∧ W.cell? ⟨lb, x + 1, none⟩ = some v1 ∧ W.cell? ⟨lb, x + 2, none⟩ = some v2 ∧ W.cell? ⟨lb, x + 3, none⟩ = some v3) ∧ (W.cell? ⟨gq, b, none⟩ = some u0 ∧ W.cell? ⟨gq, b + 1, none⟩ = some u1 ∧ W.cell? ⟨gq, b + 2, none⟩ = some u2 ∧ W.cell? ⟨gq, b + 3, none⟩ = some u3)) (hne : lb ≠ gq) (hab : a + 4 ≤ b) :
    ((setA W gq a q).cell? ⟨lb, x, none⟩ = some v0 ∧ (setA W gq a q).cell? ⟨lb, x + 1, none⟩ = some v1 ∧ (setA W gq a q).cell? ⟨lb, x + 2, none⟩ = some v2 ∧ (setA W gq a q).cell? ⟨lb, x + 3, none⟩ = some v3) ∧ ((setA W gq a q).cell? ⟨gq, b, none⟩ = some u0 ∧ (setA W gq a q).cell? ⟨gq, b + 1, none⟩ = some u1 ∧ (setA W gq a q).cell? ⟨gq, b + 2, none⟩ = some u2 ∧ (setA W gq a q).cell? ⟨gq, b + 3, none⟩ = some u3) := by
  obtain ⟨⟨h0, h1, h2, h3⟩, k0, k1, k2, k3⟩ := hw
  refine ⟨⟨?_, ?_, ?_, ?_⟩, ?_, ?_, ?_, ?_⟩
  · rw [setA_far (.inl hne)]; exact h0
  · rw [setA_far (.inl hne)]; exact h1
  · rw [setA_far (.inl hne)]; exact h2
  · rw [setA_far (.inl hne)]; exact h3
  · rw [setA_far (.inr (.inr (by omega)))]; exact k0
  · rw [setA_far (.inr (.inr (by omega)))]; exact k1
  · rw [setA_far (.inr (.inr (by omega)))]; exact k2
  · rw [setA_far (.inr (.inr (by omega)))]; exact k3
theorem shc_no {f l : List Quad} (h : ¬ IsChain_v f l = (true, true)) : ShrinkChain_v f l = ([], false) := by unfold ShrinkChain_v; rw [if_neg (fun e => h e.1)]
set_option linter.unusedSimpArgs false in
set_option maxRecDepth 10000 in
set_option maxHeartbeats 6000000 in
theorem implShrinkChain_any (v : Value) (f : List Quad) (u : Value) (l : List Quad) (w : World) (hv : QuadV w v f) (hm : szPointS f ≤ 1099511627776) (hu : QuadV w u l) (hn : szIntervalS l ≤ 1099511627776) :
    Calls Tryz.prog 9 #[v, u] w (RetOB OwnI (ShrinkChain_v f l) w) := by
  have c1 := implIsChain_any v f u l w hv hm hu hn
  by_cases h : IsChain_v f l = (true, true)
  · obtain ⟨h1, h2, _, _⟩ := chain_true h
    have hf := mapB_true h1
    obtain ⟨l1, l2⟩ := ivsB_true h2
    have hlaw := chS_law h
    have hlen := chS_len f l
    have hfal := fun (m n : Nat) (hmn : m ≤ n) hb => chS_false (f := f) (l := l) hmn hb
    have hstep : ∀ m, chS f l (m + 1) = ((chS f l m).1.set (l.length - 2 - m) (ivR f (nth4 l (l.length - 2 - m)) (nth4 (chS f l m).1 (l.length - 1 - m))).1, (chS f l m).2 && (ivR f (nth4 l (l.length - 2 - m)) (nth4 (chS f l m).1 (l.length - 1 - m))).2) := fun _ => rfl
    have h00 : chS f l 0 = (l, true) := rfl
    have hV : ShrinkChain_v f l = if (chS f l (l.length - 1)).2 = true then ((chS f l (l.length - 1)).1, true) else ([], false) := by
      unfold ShrinkChain_v
      by_cases q : (chS f l (l.length - 1)).2 = true
      · rw [if_pos ⟨h, q⟩, if_pos q]
      · rw [if_neg (fun e => q e.2), if_neg q]
    rw [h] at c1
    obtain ⟨V, hVV⟩ : ∃ V, ShrinkChain_v f l = V := ⟨_, rfl⟩
    rw [hVV] at hV ⊢
    have cc := fun w' (hB : Below w.heap.size w w') => cloneIv_any u l w' (hu.below hB) (by omega) (by omega)
    have cs := fun (g : Nat) (i k : Quad) w' hB hg0 hi hk hc => cshrink_any g v f i k w w' hv hB hg0 hf hi hk hc
    obtain ⟨ao, cap0, rfl, _, _, HL⟩ := hu.form
    obtain ⟨lb, loff, rfl, _⟩ := HL 0 (by omega)
    obtain ⟨n, hnn⟩ : ∃ n, l.length = n := ⟨_, rfl⟩
    rw [hnn] at l1 l2 hlaw hlen hstep hV c1 cc HL ⊢
    generalize chS f l = CS at *
    clear hVV h h1 h2
    have hHL : ∀ w', Below w.heap.size w w' → ∀ i, i < n → w'.cell? ⟨lb, loff + i * 4, none⟩ = some (.int .i64 (nth4 l i).1.1) ∧ w'.cell? ⟨lb, loff + i * 4 + 1, none⟩ = some (.int .i64 (nth4 l i).1.2) ∧ w'.cell? ⟨lb, loff + i * 4 + 2, none⟩ = some (.int .i64 (nth4 l i).2.1) ∧ w'.cell? ⟨lb, loff + i * 4 + 3, none⟩ = some (.int .i64 (nth4 l i).2.2) := fun w' hB i hi => by
      obtain ⟨_, _, e, c0, c1, c2, c3⟩ := HL i hi
      cases e
      exact ⟨bkeep hB c0, bkeep hB c1, bkeep hB c2, bkeep hB c3⟩
    have hlbl : lb < w.heap.size := by
      obtain ⟨_, _, e, c0, _⟩ := HL 0 (by omega)
      cases e
      exact World.block_lt_of_cell? _ _ c0
    clear HL hv hu
    have c1' := Lib.hid c1
    have cc' := Lib.hid cc
    have cs' := Lib.hid cs
    have l2' := Lib.hid l2
    have hlaw' := Lib.hid hlaw
    have hlen' := Lib.hid hlen
    have hfal' := Lib.hid hfal
    have hstep' := Lib.hid hstep
    have h00' := Lib.hid h00
    have hV' := Lib.hid hV
    have hnn' := Lib.hid hnn
    have hHL' := Lib.hid hHL
    clear c1 cc cs l2 hlaw hlen hfal hstep h00 hV hnn hHL
    go_enter Tryz.func9, Tryz.ntmps9
    go_wp2_with fail
    refine (c1'.out).mono ?_
    rintro e w1 ⟨rfl, hB1⟩
    obtain ⟨w2, hw2⟩ : ∃ W, w1.alloc (.cells #[.bool false] 59) = W := ⟨_, rfl⟩
    have hB2 : Below w.heap.size w w2 := by rw [← hw2]; exact hB1.alloc hB1.size _
    have hc2 : CalcAt w2 w1.heap.size false := by rw [← hw2]; exact ⟨by simp [go_sem], by simp [go_sem]⟩
    have hsz : w1.heap.size < w2.heap.size := by rw [← hw2]; simp
    have hs1 := hB1.size
    obtain ⟨g, hg⟩ : ∃ g, w1.heap.size = g := ⟨_, rfl⟩
    rw [hg] at hc2 hsz hs1
    have hw2' := Lib.hid hw2
    have hc2' := Lib.hid hc2
    clear hw2 hc2
    simp only
    go_wp2_with fail
    rw [hw2'.out]
    refine (cc'.out _ hB2).mono ?_
    rintro e w3 ⟨r, rfl, hg3, hB3⟩
    obtain ⟨gq, cap, rfl, hgq, hcap, _⟩ := hg3.form (by rw [hnn'.out]; omega)
    rw [hnn'.out] at hg3 hcap ⊢
    have hc3 := hc2'.out.below hB3
    have hb3 := hB2.trans (hB3.mono hB2.size)
    have hgqg : gq ≠ g := by omega
    have hgw : w.heap.size ≤ gq := by have := hB2.size; omega
    have hnw : IntKind.i64.wrap ((n : Int) - 2) = (n : Int) - 2 := by rw [IntKind.wrap_i64]; omega
    have hg30 : GrowI w3 w2.heap.size (.slice (some ⟨gq, 0, none⟩) n cap) (CS 0).1 := by rw [h00'.out]; exact hg3
    have hc30 : CalcAt w3 g (!(CS 0).2) := by rw [h00'.out]; exact hc3
    clear hB1 hB2 hB3 hc2' hg3 hc3 hw2' cc' c1'
    have hg30' := Lib.hid hg30
    have hc30' := Lib.hid hc30
    have hb3' := Lib.hid hb3
    clear hg30 hc30 hb3
    go_wp2
    go_loopw [10] (fun i W => ∃ m : Nat, m + 1 ≤ n ∧ i = .int .i64 ((n : Int) - 2 - m) ∧ CalcAt W g (!(CS m).2) ∧ ((CS m).2 = true → GrowI W w2.heap.size (.slice (some ⟨gq, 0, none⟩) n cap) (CS m).1) ∧ Below w.heap.size w W) (fun i _ => (intOf i + 1).toNat)
    case atStart => exact ⟨0, by omega, by simp, hc30'.out, fun _ => hg30'.out, hb3'.out⟩
    case round =>
      obtain ⟨m, hm1, rfl, hc, hgr, hB⟩ := hrel
      have hw9 := hB.size
      by_cases hlt : m + 1 < n
      · obtain ⟨j, hj⟩ : ∃ j : Nat, j = n - 2 - m := ⟨_, rfl⟩
        obtain ⟨q, hq⟩ : ∃ q : Nat, q = n - 1 - m := ⟨_, rfl⟩
        have hqj : q = j + 1 := by omega
        rw [show (n : Int) - 2 - (m : Int) = (j : Int) by omega]
        have g0 : (0 : Int) ≤ (j : Int) := by omega
        have g1 : (j : Int) < (n : Int) := by omega
        have g2 : (q : Int) < (n : Int) := by omega
        have g3 : (0 : Int) ≤ (q : Int) := by omega
        have g4 : IntKind.i64.wrap ((j : Int) + 1) = (q : Int) := by rw [IntKind.wrap_i64]; omega
        have g5 : IntKind.i64.wrap ((j : Int) - 1) = (j : Int) - 1 := by rw [IntKind.wrap_i64]; omega
        have g6 : j < n := by omega
        have g7 : q < n := by omega
        cases hcb : (CS m).2
        · rw [hcb] at hc
          have hV2 := hV'.out
          rw [if_neg (by rw [hfal'.out m (n - 1) (by omega) hcb]; decide)] at hV2
          subst hV2
          obtain ⟨k0, k1⟩ := hc
          have k0 : wr.cell? ⟨g, 0, none⟩ = some (.bool true) := k0
          clear hgr k1 hw9
          have hj' := Lib.hid hj
          have hq' := Lib.hid hq
          have hqj' := Lib.hid hqj
          have hB' := Lib.hid hB
          have hcb' := Lib.hid hcb
          clear hj hq hqj hB hcb
          go_wp2
          go_ret2
          exact ⟨_, rfl, OwnI.nil _ _ _, hB'.out⟩
        · rw [hcb] at hc
          have hgm := hgr hcb
          have hla := hlaw'.out m (by omega) hcb
          have hst := hstep'.out m
          have hI := l2'.out j g6
          have hK := (hla.1 q g7).1
          have hiv := hla.2 (by omega)
          have hqlen := hlen'.out m
          rw [← hj, ← hq] at hst hiv
          obtain ⟨a0, a1, a2, a3⟩ := hHL'.out wr hB j g6
          obtain ⟨_, _, e, _, _, hoc⟩ := hgm.form (by rw [hqlen]; omega)
          obtain ⟨e1, e2, e3⟩ := Value.slice.inj e
          cases e1
          clear e e2 e3
          obtain ⟨b0, b1, b2, b3⟩ := hoc q (by rw [hqlen]; exact g7)
          have cS := fun w' hB hc => cs'.out g (nth4 l j) (nth4 (CS m).1 q) w' hB (by omega) hI hK hc
          rw [← hiv] at cS
          obtain ⟨R, hR⟩ : ∃ R, ivR f (nth4 l j) (nth4 (CS m).1 q) = R := ⟨_, rfl⟩
          rw [hR] at cS hst
          obtain ⟨I, hIe⟩ : ∃ I, nth4 l j = I := ⟨_, rfl⟩
          obtain ⟨K, hKe⟩ : ∃ K, nth4 (CS m).1 q = K := ⟨_, rfl⟩
          rw [hIe] at a0 a1 a2 a3 cS
          rw [hKe] at b0 b1 b2 b3 cS
          obtain ⟨⟨i0, i1⟩, ⟨i2, i3⟩⟩ := I
          obtain ⟨⟨q0, q1⟩, ⟨q2, q3⟩⟩ := K
          obtain ⟨⟨⟨r0, r1⟩, ⟨r2, r3⟩⟩, rb⟩ := R
          simp only at a0 a1 a2 a3 b0 b1 b2 b3 cS hst
          have hcd : CalcAt wr.drew g false := hc
          have k0 : wr.cell? ⟨g, 0, none⟩ = some (.bool false) := hc.1
          have hgd1 : wr.grownBy wr.drew (some g) := bgrow ((Below.refl wr.heap.size wr).drew) _
          have hbd := below_grown hB (by omega) hgd1
          have nl : (some g : Option Nat) ≠ some lb := fun e => by have := Option.some.inj e; omega
          have no : (some g : Option Nat) ≠ some gq := fun e => by have := Option.some.inj e; omega
          have at' : ∀ w', wr.grownBy w' (some g) → (w'.cell? ⟨lb, loff + j * 4, none⟩ = some (.int .i64 i0) ∧ w'.cell? ⟨lb, loff + j * 4 + 1, none⟩ = some (.int .i64 i1) ∧ w'.cell? ⟨lb, loff + j * 4 + 2, none⟩ = some (.int .i64 i2) ∧ w'.cell? ⟨lb, loff + j * 4 + 3, none⟩ = some (.int .i64 i3)) ∧ (w'.cell? ⟨gq, q * 4, none⟩ = some (.int .i64 q0) ∧ w'.cell? ⟨gq, q * 4 + 1, none⟩ = some (.int .i64 q1) ∧ w'.cell? ⟨gq, q * 4 + 2, none⟩ = some (.int .i64 q2) ∧ w'.cell? ⟨gq, q * 4 + 3, none⟩ = some (.int .i64 q3)) :=
            fun w' h => ⟨⟨gcell h a0 nl, gcell h a1 nl, gcell h a2 nl, gcell h a3 nl⟩, gcell h b0 no, gcell h b1 no, gcell h b2 no, gcell h b3 no⟩
          have hrow : ∀ w', wr.grownBy w' (some g) → GrowI w' w2.heap.size (.slice (some ⟨gq, 0, none⟩) n cap) (CS m).1 := fun w' h => hgm.kept h hsz
          have hfz : ∀ w', GrowI w' w2.heap.size (.slice (some ⟨gq, 0, none⟩) n cap) (CS m).1 → ((∃ x, w'.cell? ⟨gq, j * 4, none⟩ = some x) ∧ (∃ x, w'.cell? ⟨gq, j * 4 + 1, none⟩ = some x) ∧ (∃ x, w'.cell? ⟨gq, j * 4 + 2, none⟩ = some x) ∧ (∃ x, w'.cell? ⟨gq, j * 4 + 3, none⟩ = some x)) ∧ w'.frozen? ⟨gq, j * 4, none⟩ = false ∧ w'.frozen? ⟨gq, j * 4 + 1, none⟩ = false ∧ w'.frozen? ⟨gq, j * 4 + 2, none⟩ = false ∧ w'.frozen? ⟨gq, j * 4 + 3, none⟩ = false := fun w' h => by
            obtain ⟨_, _, e, _, _, hoc⟩ := h.form (by rw [hqlen]; omega)
            obtain ⟨e1, e2, e3⟩ := Value.slice.inj e
            cases e1
            obtain ⟨c0, c1, c2, c3⟩ := hoc j (by rw [hqlen]; exact g6)
            rw [← hqlen] at h
            exact ⟨⟨⟨_, c0⟩, ⟨_, c1⟩, ⟨_, c2⟩, ⟨_, c3⟩⟩, h.frozen _, h.frozen _, h.frozen _, h.frozen _⟩
          clear hgr hgm hla hI hK hiv a0 a1 a2 a3 b0 b1 b2 b3 hoc nl no hc
          have hj' := Lib.hid hj
          have hq' := Lib.hid hq
          have hqj' := Lib.hid hqj
          have cS' := Lib.hid cS
          have hst' := Lib.hid hst
          have hqlen' := Lib.hid hqlen
          have at'' := Lib.hid at'
          have hrow' := Lib.hid hrow
          have hfz' := Lib.hid hfz
          have hR' := Lib.hid hR
          have hIe' := Lib.hid hIe
          have hKe' := Lib.hid hKe
          have hB' := Lib.hid hB
          clear hj hq hqj cS hst hqlen at' hrow hfz hR hIe hKe hB
          go_wp2_with fail
          refine wp_region_held_drew (S := (fun w' => (w'.cell? ⟨lb, loff + j * 4, none⟩ = some (.int .i64 i0) ∧ w'.cell? ⟨lb, loff + j * 4 + 1, none⟩ = some (.int .i64 i1) ∧ w'.cell? ⟨lb, loff + j * 4 + 2, none⟩ = some (.int .i64 i2) ∧ w'.cell? ⟨lb, loff + j * 4 + 3, none⟩ = some (.int .i64 i3)) ∧ (w'.cell? ⟨gq, q * 4, none⟩ = some (.int .i64 q0) ∧ w'.cell? ⟨gq, q * 4 + 1, none⟩ = some (.int .i64 q1) ∧ w'.cell? ⟨gq, q * 4 + 2, none⟩ = some (.int .i64 q2) ∧ w'.cell? ⟨gq, q * 4 + 3, none⟩ = some (.int .i64 q3)))) (by kernel_rfl) (by (try dsimp only); (first | exact at''.out _ hgd1 | exact at''.out _ hgd2 | exact hcells)) (fun hHeld => ?_)
          refine ly_q 0 (v := ?_) hHeld ?_
          try simp only [Act.put, lyA, lyB, lyC]
          refine ly_q 1 (v := ?_) hHeld ?_
          try simp only [Act.put, lyA, lyB, lyC]
          refine ly_q 2 (v := ?_) hHeld ?_
          try simp only [Act.put, lyA, lyB, lyC]
          refine ly_q 3 (v := ?_) hHeld ?_
          try simp only [Act.put, lyA, lyB, lyC]
          refine ly_q 4 (v := ?_) hHeld ?_
          try simp only [Act.put, lyA, lyB, lyC]
          refine ly_q 5 (v := ?_) hHeld ?_
          try simp only [Act.put, lyA, lyB, lyC]
          refine ly_q 6 (v := ?_) hHeld ?_
          try simp only [Act.put, lyA, lyB, lyC]
          refine ly_q 7 (v := ?_) hHeld ?_
          try simp only [Act.put, lyA, lyB, lyC]
          refine ly_q 8 (v := ?_) hHeld ?_
          try simp only [Act.put, lyA, lyB, lyC]
          refine ly_q 9 (v := ?_) hHeld ?_
          try simp only [Act.put, lyA, lyB, lyC]
          refine ly_q 10 (v := ?_) hHeld ?_
          try simp only [Act.put, lyA, lyB, lyC]
          refine ly_q 11 (v := ?_) hHeld ?_
          try simp only [Act.put, lyA, lyB, lyC]
          refine ly_a 12 (fun KK hKK => ?_)
          go_simp
          refine (cS'.out _ hbd hcd).mono ?_
          rintro e w5 ⟨rfl, hg5, hc5⟩
          have hgd2 := hgd1.trans hg5
          obtain ⟨⟨⟨z0, m0⟩, ⟨z1, m1⟩, ⟨z2, m2⟩, ⟨z3, m3⟩⟩, f0, f1, f2, f3⟩ := hfz'.out w5 (hrow'.out w5 hgd2)
          try dsimp only
          refine hKK.out _ _ (by (try dsimp only); (first | exact at''.out _ hgd1 | exact at''.out _ hgd2 | exact hcells)) (fun hHeld => ?_)
          clear hKK KK
          try simp only [Act.put, lyA, lyB, lyC]
          refine ly_q 13 (v := ?_) hHeld ?_
          try simp only [Act.put, lyA, lyB, lyC]
          refine ly_a 14 (fun KK hKK => ?_)
          go_simp
          have hcells := keep_next (hw := at''.out _ hgd2) (q := ((r0, r1), (r2, r3))) (show lb ≠ gq by omega) (show j * 4 + 4 ≤ q * 4 by have := hqj'.out; omega)
          try dsimp only
          refine hKK.out _ _ (by (try dsimp only); (first | exact at''.out _ hgd1 | exact at''.out _ hgd2 | exact hcells)) (fun hHeld => ?_)
          clear hKK KK
          try simp only [Act.put, lyA, lyB, lyC]
          refine wpAnyH_done (by kernel_rfl) ?_ _
          clear hHeld hcells m0 m1 m2 m3 f0 f1 f2 f3
          have hc6 := hc5.setA hgqg (j * 4) ((r0, r1), (r2, r3))
          have hb6 := below_setA (below_grown hB'.out (by omega) hgd2) hgw (j * 4) ((r0, r1), (r2, r3))
          have hg6 : GrowI (setA w5 gq (j * 4) ((r0, r1), (r2, r3))) w2.heap.size (.slice (some ⟨gq, 0, none⟩) n cap) (CS (m + 1)).1 := by
            have h := hrow'.out w5 hgd2
            have hs := hst'.out
            rw [hs]
            rw [← hqlen'.out] at h ⊢
            exact h.setA j ((r0, r1), (r2, r3))
          have hcb6 : CalcAt (setA w5 gq (j * 4) ((r0, r1), (r2, r3))) g (!(CS (m + 1)).2) := by
            have hs := hst'.out
            rw [hs]
            show CalcAt _ g (!((CS m).2 && rb))
            rw [hcb]
            exact hc6
          clear hc6 hc5 hg5 hgd1 hgd2 hbd hcd k0 hfz' hrow' at'' cS' hcb
          have hb6' := Lib.hid hb6
          have hg6' := Lib.hid hg6
          have hcb6' := Lib.hid hcb6
          clear hb6 hg6 hcb6
          go_wp2
          go_roundw
          case rel => exact ⟨m + 1, by omega, by have h1 := hj'.out; first | (simp; omega) | go_num, hcb6'.out, fun _ => hg6'.out, hb6'.out⟩
          case measure => simp [intOf]
      · have hmn : m = n - 1 := by omega
        have g1 : ¬ (0 : Int) ≤ (n : Int) - 2 - (m : Int) := by omega
        have hV2 := hV'.out
        rw [← hmn] at hV2
        have hmn' := Lib.hid hmn
        clear hmn
        cases hcb : (CS m).2
        · rw [hcb] at hc hV2
          rw [if_neg (by decide)] at hV2
          subst hV2
          have k0 : wr.cell? ⟨g, 0, none⟩ = some (.bool true) := hc.1
          clear hgr hw9 hc
          have hB' := Lib.hid hB
          have hcb' := Lib.hid hcb
          clear hB hcb
          go_wp2
          go_ret2
          exact ⟨_, rfl, OwnI.nil _ _ _, hB'.out⟩
        · rw [hcb] at hc hV2
          rw [if_pos rfl] at hV2
          subst hV2
          have k0 : wr.cell? ⟨g, 0, none⟩ = some (.bool false) := hc.1
          have hown := (hgr hcb).own.mono (show w.heap.size ≤ w2.heap.size by omega) (Nat.le_refl _)
          clear hgr hw9 hc
          have hB' := Lib.hid hB
          have hcb' := Lib.hid hcb
          have hown' := Lib.hid hown
          clear hB hcb hown
          go_wp2
          go_ret2
          exact ⟨_, rfl, hown'.out, hB'.out⟩
  · rw [shc_no h]
    obtain ⟨⟨a, b⟩, hab⟩ : ∃ r, IsChain_v f l = r := ⟨_, rfl⟩
    rw [hab] at c1 h
    clear hv hu hab
    have c1' := Lib.hid c1
    clear c1
    cases b
    · go_enter Tryz.func9, Tryz.ntmps9
      go_wp2_with fail
      refine (c1'.out).mono ?_
      rintro e w1 ⟨rfl, hB1⟩
      clear h
      go_wp2
      go_ret2
      exact ⟨_, rfl, OwnI.nil _ _ _, hB1⟩
    · obtain rfl : a = false := by cases a <;> simp_all
      go_enter Tryz.func9, Tryz.ntmps9
      go_wp2_with fail
      refine (c1'.out).mono ?_
      rintro e w1 ⟨rfl, hB1⟩
      clear h
      go_wp2
      go_ret2
      exact ⟨_, rfl, OwnI.nil _ _ _, hB1⟩
end Go.Proofs.YtjkgilenhoomoaaGreat

namespace Go.Proofs.YtjkgilenhoomoaaGreat
open Go.RowKit
set_option maxRecDepth 100000

theorem new_cells4 {E : Nat} {w W : World} {a b c d : Value} {T : TypeId} (_h : Below E w (W.alloc (.cells #[a, b, c, d] T))) :
    ((W.alloc (.cells #[a, b, c, d] T)).cell? ⟨W.heap.size, 0, none⟩ = some a ∧ (W.alloc (.cells #[a, b, c, d] T)).cell? ⟨W.heap.size, 1, none⟩ = some b ∧ (W.alloc (.cells #[a, b, c, d] T)).cell? ⟨W.heap.size, 2, none⟩ = some c ∧ (W.alloc (.cells #[a, b, c, d] T)).cell? ⟨W.heap.size, 3, none⟩ = some d) ∧
    (W.alloc (.cells #[a, b, c, d] T)).frozen? ⟨W.heap.size, 0, none⟩ = false ∧ (W.alloc (.cells #[a, b, c, d] T)).frozen? ⟨W.heap.size, 1, none⟩ = false ∧ (W.alloc (.cells #[a, b, c, d] T)).frozen? ⟨W.heap.size, 2, none⟩ = false ∧ (W.alloc (.cells #[a, b, c, d] T)).frozen? ⟨W.heap.size, 3, none⟩ = false := by simp [go_sem]
theorem chain_of {f l L : _} (hq : mapB f = true ∧ ivsB l = true) (hc : cf_v f l = (L, true)) : (IsChain_v f l = (true, true)) ↔ ¬ (0 < L.length ∧ nth L 0 < (l.length : Int) - 1) := by
  have hle : 0 < L.length → nth L 0 ≤ (l.length : Int) - 1 := by
    unfold cf_v at hc
    split at hc
    · have e := (Prod.mk.inj hc).1
      rw [← e]
      exact cf_le
    · cases hc
  unfold IsChain_v
  rw [ChainFaults_yes hq, hc]
  unfold chB
  rw [if_pos rfl]
  constructor
  · intro e
    have h := (Prod.mk.inj e).1
    rw [Bool.or_eq_true, decide_eq_true_iff, decide_eq_true_iff] at h
    have h' : L.length = 0 ∨ nth L 0 = (l.length : Int) - 1 := h
    omega
  · intro h
    have h' : L.length = 0 ∨ nth L 0 = (l.length : Int) - 1 := by
      by_cases h0 : L.length = 0
      · exact .inl h0
      · have := hle (by omega)
        right
        omega
    have h2 : (decide (L.length = 0) || decide (nth L 0 = (l.length : Int) - 1)) = true := by
      rw [Bool.or_eq_true, decide_eq_true_iff, decide_eq_true_iff]; exact h'
    show ((decide (L.length = 0) || decide (nth L 0 = (l.length : Int) - 1)), true) = (true, true)
    rw [h2]
set_option linter.unusedSimpArgs false in
set_option maxRecDepth 10000 in
set_option maxHeartbeats 6000000 in
theorem specShrinkChain_any (v : Value) (f : List Quad) (u : Value) (l : List Quad) (w : World) (hv : QuadV w v f) (hm : szPointS f ≤ 1099511627776) (hu : QuadV w u l) (hn : szIntervalS l ≤ 1099511627776) :
    Calls Tryz.prog 6 #[v, u] w (RetOB OwnI (ShrinkChain_v f l) w) := by
  have c0 := asked_imGood_any v u f l w hv hu hm hn
  by_cases hq : mapB f = true ∧ ivsB l = true
  · have hf := mapB_true hq.1
    obtain ⟨l1, l2⟩ := ivsB_true hq.2
    rw [hq.1, hq.2] at c0
    have c1 := fun w' (hB : Below w.heap.size w w') => chFaults_any v u f l w' (hv.below hB) (hu.below hB) hf hq.2
    have hch := fun {L} hc => chain_of (L := L) hq hc
    have hlaw := fun h => chS_law (f := f) (l := l) h
    have hlen := chS_len f l
    have hfal := fun (m n : Nat) (hmn : m ≤ n) hb => chS_false (f := f) (l := l) hmn hb
    have hstep : ∀ m, chS f l (m + 1) = ((chS f l m).1.set (l.length - 2 - m) (ivR f (nth4 l (l.length - 2 - m)) (nth4 (chS f l m).1 (l.length - 1 - m))).1, (chS f l m).2 && (ivR f (nth4 l (l.length - 2 - m)) (nth4 (chS f l m).1 (l.length - 1 - m))).2) := fun _ => rfl
    have h00 : chS f l 0 = (l, true) := rfl
    have hV : IsChain_v f l = (true, true) → ShrinkChain_v f l = if (chS f l (l.length - 1)).2 = true then ((chS f l (l.length - 1)).1, true) else ([], false) := fun h => by
      unfold ShrinkChain_v
      by_cases q : (chS f l (l.length - 1)).2 = true
      · rw [if_pos ⟨h, q⟩, if_pos q]
      · rw [if_neg (fun e => q e.2), if_neg q]
    have hVn : ¬ IsChain_v f l = (true, true) → ShrinkChain_v f l = ([], false) := shc_no
    obtain ⟨V, hVV⟩ : ∃ V, ShrinkChain_v f l = V := ⟨_, rfl⟩
    rw [hVV] at hV hVn ⊢
    clear hVV
    have cs := fun (i k : Quad) w' (hB : Below w.heap.size w w') hi hk => ivShrink_any v f i k w' (hv.below hB) hf hi hk
    have hub := fun w' (hB : Below w.heap.size w w') => hu.below hB
    obtain ⟨ao, cap0, rfl, _, _, HL⟩ := hu.form
    obtain ⟨lb, loff, rfl, _⟩ := HL 0 (by omega)
    obtain ⟨⟨L, B⟩, hcf⟩ : ∃ r, cf_v f l = r := ⟨_, rfl⟩
    rw [hcf] at c1
    have hcfl := cfK_len f l l.length
    have hL9 : L.length ≤ 1000 := by
      unfold cf_v at hcf
      split at hcf
      · have e := (Prod.mk.inj hcf).1
        rw [← e]
        omega
      · have e := (Prod.mk.inj hcf).1
        rw [← e]
        simp
    have hBf : B = false → ¬ IsChain_v f l = (true, true) := fun hB h => by
      subst hB
      unfold IsChain_v at h
      rw [ChainFaults_yes hq, hcf] at h
      cases h
    have hBt := fun (hB : B = true) => hch (L := L) (by rw [hcf, hB])
    clear hch hcf hcfl
    obtain ⟨n, hnn⟩ : ∃ n, l.length = n := ⟨_, rfl⟩
    rw [hnn] at l1 l2 hlaw hlen hstep hV hub c1 c0 HL hBt
    rw [hnn]
    obtain ⟨IC, hIC⟩ : ∃ r, IsChain_v f l = r := ⟨_, rfl⟩
    rw [hIC] at hlaw hV hVn hBf hBt
    generalize chS f l = CS at *
    have hHL : ∀ w', Below w.heap.size w w' → ∀ i, i < n → w'.cell? ⟨lb, loff + i * 4, none⟩ = some (.int .i64 (nth4 l i).1.1) ∧ w'.cell? ⟨lb, loff + i * 4 + 1, none⟩ = some (.int .i64 (nth4 l i).1.2) ∧ w'.cell? ⟨lb, loff + i * 4 + 2, none⟩ = some (.int .i64 (nth4 l i).2.1) ∧ w'.cell? ⟨lb, loff + i * 4 + 3, none⟩ = some (.int .i64 (nth4 l i).2.2) := fun w' hB i hi => by
      obtain ⟨_, _, e, c0, c1, c2, c3⟩ := HL i hi
      cases e
      exact ⟨bkeep hB c0, bkeep hB c1, bkeep hB c2, bkeep hB c3⟩
    have hlbl : lb < w.heap.size := by
      obtain ⟨_, _, e, c0, _⟩ := HL 0 (by omega)
      cases e
      exact World.block_lt_of_cell? _ _ c0
    have hwn : IntKind.i64.wrap ((n : Int) - 1) = (n : Int) - 1 := by rw [IntKind.wrap_i64]; omega
    have hwn2 : IntKind.i64.wrap ((n : Int) - 2) = (n : Int) - 2 := by rw [IntKind.wrap_i64]; omega
    clear HL hv hu hq hIC
    have c0' := Lib.hid c0
    have c1' := Lib.hid c1
    have cs' := Lib.hid cs
    have l2' := Lib.hid l2
    have hlaw' := Lib.hid hlaw
    have hlen' := Lib.hid hlen
    have hfal' := Lib.hid hfal
    have hstep' := Lib.hid hstep
    have h00' := Lib.hid h00
    have hV' := Lib.hid hV
    have hVn' := Lib.hid hVn
    have hnn' := Lib.hid hnn
    have hHL' := Lib.hid hHL
    have hBf' := Lib.hid hBf
    have hBt' := Lib.hid hBt
    have hub' := Lib.hid hub
    clear c0 c1 cs l2 hlaw hlen hfal hstep h00 hV hVn hnn hHL hBf hBt hub
    go_enter Tryz.func6, Tryz.ntmps6
    go_wp2_with fail
    refine (c0'.out).mono ?_
    rintro e w0 ⟨rfl, hB0⟩
    have hs0 := hB0.size
    go_wp2_with fail
    refine (c1'.out _ hB0).mono ?_
    rintro e w1 ⟨s, rfl, hs, hB1⟩
    have hb1 := hB0.trans (hB1.mono hs0)
    clear hB1 c0' c1'
    cases B
    · have hV2 := hVn'.out (hBf'.out rfl)
      subst hV2
      clear hs
      go_wp2
      go_ret2
      exact ⟨_, rfl, OwnI.nil _ _ _, hb1⟩
    · have hic := hBt'.out rfl
      obtain ⟨so, scap, rfl, hh⟩ := IntsV.head hs.read
      generalize hz : nth L 0 = z at *
      generalize hk : L.length = k at *
      obtain ⟨BAD, hBAD⟩ : ∃ b, decide (0 < k ∧ z < (n : Int) - 1) = b := ⟨_, rfl⟩
      have hic2 : BAD = false → IC = (true, true) := fun h => hic.2 (by rw [h] at hBAD; exact of_decide_eq_false hBAD)
      have hic3 : BAD = true → ¬ IC = (true, true) := fun h e => by rw [h] at hBAD; exact hic.1 e (of_decide_eq_true hBAD)
      clear hs hBt' hBf' hic
      have hz' := Lib.hid hz
      have hk' := Lib.hid hk
      have hBAD' := Lib.hid hBAD
      have hic2' := Lib.hid hic2
      have hic3' := Lib.hid hic3
      clear hz hk hBAD hic2 hic3
      simp only
      go_upto_region 4 with fail
      go_cut [22, 23, 24, 25, 26, 27, 28, 29, 30, 31, 32, 33, 34, 35, 36, 37] from 22 to 37 (fun _ _ _ _ _ _ _ _ _ _ _ _ _ _ _ s wx => wx = w1 ∧ s = .bool BAD)
      case first =>
        by_cases h0 : k = 0
        · subst h0
          have hb : Value.bool false = Value.bool BAD := by rw [← hBAD'.out]; simp
          have hb' := Lib.hid hb
          clear hb
          go_wp2
          all_goals (go_meet; exact ⟨rfl, hb'.out⟩)
        · obtain ⟨b, off, rfl, hc⟩ := hh (by omega)
          have k0 : (0 : Int) < (k : Int) := by omega
          have k1 : 0 < k := by omega
          by_cases h1 : z < (n : Int) - 1
          · have hb : Value.bool true = Value.bool BAD := by rw [← hBAD'.out, decide_eq_true ⟨k1, h1⟩]
            have hb' := Lib.hid hb
            clear hb
            go_wp2
            all_goals (go_meet; exact ⟨rfl, hb'.out⟩)
          · have hb : Value.bool false = Value.bool BAD := by rw [← hBAD'.out, decide_eq_false (fun e => h1 e.2)]
            have hb' := Lib.hid hb
            clear hb
            go_wp2
            all_goals (go_meet; exact ⟨rfl, hb'.out⟩)
      case rest =>
      obtain ⟨hwe, rfl⟩ := hcut
      subst hwe
      cases BAD
      · have hIC2 := hic2'.out rfl
        have hV2 := hV'.out hIC2
        have hla := hlaw'.out hIC2
        clear hic2' hic3' hV' hVn' hlaw' hh
        have hB2 := hb1.alloc hb1.size (.cells #[] 44)
        have hv2 := hub'.out _ hB2
        have hg1 : GrowI (wc.alloc (.cells #[] 44)) wc.heap.size (.slice (some ⟨wc.heap.size, 0, none⟩) 0 0) [] := GrowI.empty (Nat.le_refl _)
        have hl : ([] : List Quad).length + l.length ≤ 1099511627776 := by rw [hnn'.out]; simp; omega
        have hsz : wc.heap.size ≤ (wc.alloc (.cells #[] 44)).heap.size := by simp
        have hl' := Lib.hid hl
        have hV2' := Lib.hid hV2
        have hla' := Lib.hid hla
        clear hl hV2 hla
        go_wp2_with (at_builtin; refine wpList_append_ivs rfl _ _ rfl wc.heap.size _ (.slice (some ⟨lb, loff, none⟩) n cap0) [] l rfl rfl hg1 hv2 hl'.out hsz ?_)
        intro v3 w3 hg3 hgrow
        have hb3 := GrowI.belowB hg1 hB2 hb1.size hB2.size hgrow
        obtain ⟨gq, cap, rfl, hgq, hcap, _⟩ := hg3.form (by rw [hnn'.out]; omega)
        have hgw : w.heap.size ≤ gq := by have := hb1.size; omega
        have hs1 := hb1.size
        have hg30 : GrowI w3 wc.heap.size (.slice (some ⟨gq, 0, none⟩) n cap) (CS 0).1 := by rw [h00'.out, ← hnn'.out]; exact hg3
        have hct : (CS 0).2 = true := by rw [h00'.out]
        rw [hnn'.out] at hcap ⊢
        clear hg1 hv2 hgrow hg3 hub' hB2 hsz hb1
        have hg30' := Lib.hid hg30
        have hb3' := Lib.hid hb3
        have hct' := Lib.hid hct
        clear hg30 hb3 hct
        go_wp2
        go_loopw [9] (fun i W => ∃ m : Nat, m + 1 ≤ n ∧ i = .int .i64 ((n : Int) - 2 - m) ∧ (CS m).2 = true ∧ GrowI W wc.heap.size (.slice (some ⟨gq, 0, none⟩) n cap) (CS m).1 ∧ Below w.heap.size w W) (fun i _ => (intOf i + 1).toNat)
        case atStart => exact ⟨0, by omega, by simp, hct'.out, hg30'.out, hb3'.out⟩
        case round =>
          obtain ⟨m, hm1, rfl, hct, hgm, hB⟩ := hrel
          have hw9 := hB.size
          by_cases hlt : m + 1 < n
          · obtain ⟨j, hj⟩ : ∃ j : Nat, j = n - 2 - m := ⟨_, rfl⟩
            obtain ⟨q, hq⟩ : ∃ q : Nat, q = n - 1 - m := ⟨_, rfl⟩
            have hqj : q = j + 1 := by omega
            rw [show (n : Int) - 2 - (m : Int) = (j : Int) by omega]
            have g0 : (0 : Int) ≤ (j : Int) := by omega
            have g1 : (j : Int) < (n : Int) := by omega
            have g2 : (q : Int) < (n : Int) := by omega
            have g3 : (0 : Int) ≤ (q : Int) := by omega
            have g4 : IntKind.i64.wrap ((j : Int) + 1) = (q : Int) := by rw [IntKind.wrap_i64]; omega
            have g5 : IntKind.i64.wrap ((j : Int) - 1) = (j : Int) - 1 := by rw [IntKind.wrap_i64]; omega
            have g6 : j < n := by omega
            have g7 : q < n := by omega
            have hla2 := hla'.out m (by omega) hct
            have hst := hstep'.out m
            have hI := l2'.out j g6
            have hK := (hla2.1 q g7).1
            have hqlen := hlen'.out m
            rw [← hj, ← hq] at hst
            obtain ⟨a0, a1, a2, a3⟩ := hHL'.out wr hB j g6
            obtain ⟨_, _, e, hgl, _, hoc⟩ := hgm.form (by rw [hqlen]; omega)
            obtain ⟨e1, e2, e3⟩ := Value.slice.inj e
            cases e1
            clear e e2 e3
            obtain ⟨b0, b1, b2, b3⟩ := hoc q (by rw [hqlen]; exact g7)
            have cS := fun w' hB => cs'.out (nth4 l j) (nth4 (CS m).1 q) w' hB hI hK
            obtain ⟨R, hR⟩ : ∃ R, ivR f (nth4 l j) (nth4 (CS m).1 q) = R := ⟨_, rfl⟩
            rw [hR] at cS hst
            obtain ⟨I, hIe⟩ : ∃ I, nth4 l j = I := ⟨_, rfl⟩
            obtain ⟨K, hKe⟩ : ∃ K, nth4 (CS m).1 q = K := ⟨_, rfl⟩
            rw [hIe] at a0 a1 a2 a3 cS
            rw [hKe] at b0 b1 b2 b3 cS
            obtain ⟨⟨i0, i1⟩, ⟨i2, i3⟩⟩ := I
            obtain ⟨⟨q0, q1⟩, ⟨q2, q3⟩⟩ := K
            obtain ⟨⟨⟨r0, r1⟩, ⟨r2, r3⟩⟩, rb⟩ := R
            simp only at a0 a1 a2 a3 b0 b1 b2 b3 cS hst
            have hd : Below wr.heap.size wr wr.drew := (Below.refl _ _).drew
            have at' : ∀ w', Below wr.heap.size wr w' → (w'.cell? ⟨lb, loff + j * 4, none⟩ = some (.int .i64 i0) ∧ w'.cell? ⟨lb, loff + j * 4 + 1, none⟩ = some (.int .i64 i1) ∧ w'.cell? ⟨lb, loff + j * 4 + 2, none⟩ = some (.int .i64 i2) ∧ w'.cell? ⟨lb, loff + j * 4 + 3, none⟩ = some (.int .i64 i3)) ∧ (w'.cell? ⟨gq, q * 4, none⟩ = some (.int .i64 q0) ∧ w'.cell? ⟨gq, q * 4 + 1, none⟩ = some (.int .i64 q1) ∧ w'.cell? ⟨gq, q * 4 + 2, none⟩ = some (.int .i64 q2) ∧ w'.cell? ⟨gq, q * 4 + 3, none⟩ = some (.int .i64 q3)) :=
              fun w' h => ⟨⟨bkeep h a0, bkeep h a1, bkeep h a2, bkeep h a3⟩, bkeep h b0, bkeep h b1, bkeep h b2, bkeep h b3⟩
            have hfz : ∀ w', GrowI w' wc.heap.size (.slice (some ⟨gq, 0, none⟩) n cap) (CS m).1 → ((∃ x, w'.cell? ⟨gq, j * 4, none⟩ = some x) ∧ (∃ x, w'.cell? ⟨gq, j * 4 + 1, none⟩ = some x) ∧ (∃ x, w'.cell? ⟨gq, j * 4 + 2, none⟩ = some x) ∧ (∃ x, w'.cell? ⟨gq, j * 4 + 3, none⟩ = some x)) ∧ w'.frozen? ⟨gq, j * 4, none⟩ = false ∧ w'.frozen? ⟨gq, j * 4 + 1, none⟩ = false ∧ w'.frozen? ⟨gq, j * 4 + 2, none⟩ = false ∧ w'.frozen? ⟨gq, j * 4 + 3, none⟩ = false := fun w' h => by
              obtain ⟨_, _, e, _, _, hoc⟩ := h.form (by rw [hqlen]; omega)
              obtain ⟨e1, e2, e3⟩ := Value.slice.inj e
              cases e1
              obtain ⟨c0, c1, c2, c3⟩ := hoc j (by rw [hqlen]; exact g6)
              rw [← hqlen] at h
              exact ⟨⟨⟨_, c0⟩, ⟨_, c1⟩, ⟨_, c2⟩, ⟨_, c3⟩⟩, h.frozen _, h.frozen _, h.frozen _, h.frozen _⟩
            have hgqw : gq < wr.heap.size := hgl.2
            clear hla2 hI hK a0 a1 a2 a3 b0 b1 b2 b3 hoc hgl
            have hj' := Lib.hid hj
            have hq' := Lib.hid hq
            have hqj' := Lib.hid hqj
            have cS' := Lib.hid cS
            have hst' := Lib.hid hst
            have hqlen' := Lib.hid hqlen
            have at'' := Lib.hid at'
            have hfz' := Lib.hid hfz
            have hR' := Lib.hid hR
            have hIe' := Lib.hid hIe
            have hKe' := Lib.hid hKe
            have hB' := Lib.hid hB
            have hgm' := Lib.hid hgm
            have hct' := Lib.hid hct
            clear hj hq hqj cS hst hqlen at' hfz hR hIe hKe hB hgm hct
            go_wp2_with fail
            refine wp_region_held_drew (S := (fun w' => Below wr.heap.size wr w' ∧ (w'.cell? ⟨lb, loff + j * 4, none⟩ = some (.int .i64 i0) ∧ w'.cell? ⟨lb, loff + j * 4 + 1, none⟩ = some (.int .i64 i1) ∧ w'.cell? ⟨lb, loff + j * 4 + 2, none⟩ = some (.int .i64 i2) ∧ w'.cell? ⟨lb, loff + j * 4 + 3, none⟩ = some (.int .i64 i3)) ∧ (w'.cell? ⟨gq, q * 4, none⟩ = some (.int .i64 q0) ∧ w'.cell? ⟨gq, q * 4 + 1, none⟩ = some (.int .i64 q1) ∧ w'.cell? ⟨gq, q * 4 + 2, none⟩ = some (.int .i64 q2) ∧ w'.cell? ⟨gq, q * 4 + 3, none⟩ = some (.int .i64 q3)))) (by kernel_rfl) (by (try dsimp only); (first | exact ⟨hd, at''.out _ hd⟩ | exact ⟨hdp.alloc hdp.size _, at''.out _ (hdp.alloc hdp.size _)⟩ | exact ⟨below_set4 hd hlow ((r0, r1), (r2, r3)), at''.out _ (below_set4 hd hlow ((r0, r1), (r2, r3)))⟩)) (fun hHeld => ?_)
            refine ly_q 0 (v := ?_) hHeld ?_
            try simp only [Act.put, lyA, lyB, lyC]
            refine ly_q 1 (v := ?_) hHeld ?_
            try simp only [Act.put, lyA, lyB, lyC]
            refine ly_q 2 (v := ?_) hHeld ?_
            try simp only [Act.put, lyA, lyB, lyC]
            refine ly_q 3 (v := ?_) hHeld ?_
            try simp only [Act.put, lyA, lyB, lyC]
            refine ly_q 4 (v := ?_) hHeld ?_
            try simp only [Act.put, lyA, lyB, lyC]
            refine ly_q 5 (v := ?_) hHeld ?_
            try simp only [Act.put, lyA, lyB, lyC]
            refine ly_q 6 (v := ?_) hHeld ?_
            try simp only [Act.put, lyA, lyB, lyC]
            refine ly_q 7 (v := ?_) hHeld ?_
            try simp only [Act.put, lyA, lyB, lyC]
            refine ly_q 8 (v := ?_) hHeld ?_
            try simp only [Act.put, lyA, lyB, lyC]
            refine ly_q 9 (v := ?_) hHeld ?_
            try simp only [Act.put, lyA, lyB, lyC]
            refine wpAnyH_ready (rs := [10, 14]) (by kernel_rfl) (by simp) ?_
            refine AllReadyH.cons (o := Oper.mk _ _ _ _ _ _) rfl (fun KK hKK => ?_) (AllReadyH.cons (o := Oper.mk _ _ _ _ _ _) rfl (fun KK hKK => ?_) (AllReadyH.nil))
            · rw [if_pos (by kernel_rfl)]
              go_simp
              refine (cS'.out _ (hB'.out.trans (hd.mono hB'.out.size))).mono ?_
              rintro e w5 ⟨rfl, hB5⟩
              replace hd := hd.trans (hB5.mono hd.size)
              (try replace f0 := gfrozen (bgrow hB5 none) n0 f0 (by simp))
              (try replace f1 := gfrozen (bgrow hB5 none) n1 f1 (by simp))
              (try replace f2 := gfrozen (bgrow hB5 none) n2 f2 (by simp))
              (try replace f3 := gfrozen (bgrow hB5 none) n3 f3 (by simp))
              (try replace n0 := bkeep hB5 n0)
              (try replace n1 := bkeep hB5 n1)
              (try replace n2 := bkeep hB5 n2)
              (try replace n3 := bkeep hB5 n3)
              try dsimp only
              refine hKK.out _ _ (by (try dsimp only); (first | exact ⟨hd, at''.out _ hd⟩ | exact ⟨hdp.alloc hdp.size _, at''.out _ (hdp.alloc hdp.size _)⟩ | exact ⟨below_set4 hd hlow ((r0, r1), (r2, r3)), at''.out _ (below_set4 hd hlow ((r0, r1), (r2, r3)))⟩)) (fun hHeld => ?_)
              clear hKK KK
              try simp only [Act.put, lyA, lyB, lyC]
              refine ly_q 11 (v := ?_) hHeld ?_
              try simp only [Act.put, lyA, lyB, lyC]
              refine ly_q 12 (v := ?_) hHeld ?_
              try simp only [Act.put, lyA, lyB, lyC]
              refine ly_q 13 (v := ?_) hHeld ?_
              try simp only [Act.put, lyA, lyB, lyC]
              refine ly_a 14 (fun KK hKK => ?_)
              go_simp
              have hdp := hd
              have hlow := hd.size
              replace hd := hd.alloc hd.size (.cells #[.int .i64 0, .int .i64 0, .int .i64 0, .int .i64 0] 44)
              obtain ⟨⟨n0, n1, n2, n3⟩, f0, f1, f2, f3⟩ := new_cells4 hd
              (try change World.cell? _ ⟨wr.heap.size, 0, none⟩ = _ at n0)
              (try change World.cell? _ ⟨wr.heap.size, 1, none⟩ = _ at n1)
              (try change World.cell? _ ⟨wr.heap.size, 2, none⟩ = _ at n2)
              (try change World.cell? _ ⟨wr.heap.size, 3, none⟩ = _ at n3)
              (try change World.frozen? _ ⟨wr.heap.size, 0, none⟩ = _ at f0)
              (try change World.frozen? _ ⟨wr.heap.size, 1, none⟩ = _ at f1)
              (try change World.frozen? _ ⟨wr.heap.size, 2, none⟩ = _ at f2)
              (try change World.frozen? _ ⟨wr.heap.size, 3, none⟩ = _ at f3)
              try dsimp only
              refine hKK.out _ _ (by (try dsimp only); (first | exact ⟨hd, at''.out _ hd⟩ | exact ⟨hdp.alloc hdp.size _, at''.out _ (hdp.alloc hdp.size _)⟩ | exact ⟨below_set4 hd hlow ((r0, r1), (r2, r3)), at''.out _ (below_set4 hd hlow ((r0, r1), (r2, r3)))⟩)) (fun hHeld => ?_)
              clear hKK KK
              try simp only [Act.put, lyA, lyB, lyC]
              refine ly_a 15 (fun KK hKK => ?_)
              go_simp
              skip
              try dsimp only
              refine hKK.out _ _ (by (try dsimp only); (first | exact ⟨hd, at''.out _ hd⟩ | exact ⟨hdp.alloc hdp.size _, at''.out _ (hdp.alloc hdp.size _)⟩ | exact ⟨below_set4 hd hlow ((r0, r1), (r2, r3)), at''.out _ (below_set4 hd hlow ((r0, r1), (r2, r3)))⟩)) (fun hHeld => ?_)
              clear hKK KK
              try simp only [Act.put, lyA, lyB, lyC]
              refine ly_q 16 (v := ?_) hHeld ?_
              try simp only [Act.put, lyA, lyB, lyC]
              refine wpAnyH_done (by kernel_rfl) ?_ _
              obtain ⟨hdV, _⟩ := hHeld
              have hbV := hB'.out.trans (hdV.mono hB'.out.size)
              have hrw := hgm'.out.below hdV
              obtain ⟨⟨⟨z0, m0⟩, ⟨z1, m1⟩, ⟨z2, m2⟩, ⟨z3, m3⟩⟩, t0, t1, t2, t3⟩ := hfz'.out _ hrw
              have hst2 := hst'.out
              cases rb
              · have hct2 : (CS (m + 1)).2 = false := by rw [hst2]; simp
                have hV3 := hV2'.out
                rw [if_neg (by rw [hfal'.out (m + 1) (n - 1) (by omega) hct2]; decide)] at hV3
                subst hV3
                clear hst2 hrw m0 m1 m2 m3 t0 t1 t2 t3 hct2 hdV
                have hbV' := Lib.hid hbV
                clear hbV
                go_wp2
                go_ret2
                exact ⟨_, rfl, OwnI.nil _ _ _, hbV'.out⟩
              · have hct2 : (CS (m + 1)).2 = true := by rw [hst2]; show ((CS m).2 && true) = true; rw [hct'.out]; rfl
                have hg6 := hrw
                rw [← hqlen'.out] at hg6
                replace hg6 := hg6.setA j ((r0, r1), (r2, r3))
                have hbS := below_setA hbV hgw (j * 4) ((r0, r1), (r2, r3))
                rw [hqlen'.out, show (CS m).1.set j ((r0, r1), (r2, r3)) = (CS (m + 1)).1 by rw [hst2]] at hg6
                clear hst2 hrw hbV hdV
                have hg6' := Lib.hid hg6
                have hbS' := Lib.hid hbS
                have hct2' := Lib.hid hct2
                clear hg6 hbS hct2
                go_wp2
                go_roundw
                case rel => exact ⟨m + 1, by omega, by have h1 := hj'.out; first | (simp; omega) | go_num, hct2'.out, hg6'.out, hbS'.out⟩
                case measure => simp [intOf]
            · rw [if_pos (by kernel_rfl)]
              go_simp
              have hdp := hd
              have hlow := hd.size
              replace hd := hd.alloc hd.size (.cells #[.int .i64 0, .int .i64 0, .int .i64 0, .int .i64 0] 44)
              obtain ⟨⟨n0, n1, n2, n3⟩, f0, f1, f2, f3⟩ := new_cells4 hd
              (try change World.cell? _ ⟨wr.heap.size, 0, none⟩ = _ at n0)
              (try change World.cell? _ ⟨wr.heap.size, 1, none⟩ = _ at n1)
              (try change World.cell? _ ⟨wr.heap.size, 2, none⟩ = _ at n2)
              (try change World.cell? _ ⟨wr.heap.size, 3, none⟩ = _ at n3)
              (try change World.frozen? _ ⟨wr.heap.size, 0, none⟩ = _ at f0)
              (try change World.frozen? _ ⟨wr.heap.size, 1, none⟩ = _ at f1)
              (try change World.frozen? _ ⟨wr.heap.size, 2, none⟩ = _ at f2)
              (try change World.frozen? _ ⟨wr.heap.size, 3, none⟩ = _ at f3)
              try dsimp only
              refine hKK.out _ _ (by (try dsimp only); (first | exact ⟨hd, at''.out _ hd⟩ | exact ⟨hdp.alloc hdp.size _, at''.out _ (hdp.alloc hdp.size _)⟩ | exact ⟨below_set4 hd hlow ((r0, r1), (r2, r3)), at''.out _ (below_set4 hd hlow ((r0, r1), (r2, r3)))⟩)) (fun hHeld => ?_)
              clear hKK KK
              try simp only [Act.put, lyA, lyB, lyC]
              refine ly_a 10 (fun KK hKK => ?_)
              go_simp
              refine (cS'.out _ (hB'.out.trans (hd.mono hB'.out.size))).mono ?_
              rintro e w5 ⟨rfl, hB5⟩
              replace hd := hd.trans (hB5.mono hd.size)
              (try replace f0 := gfrozen (bgrow hB5 none) n0 f0 (by simp))
              (try replace f1 := gfrozen (bgrow hB5 none) n1 f1 (by simp))
              (try replace f2 := gfrozen (bgrow hB5 none) n2 f2 (by simp))
              (try replace f3 := gfrozen (bgrow hB5 none) n3 f3 (by simp))
              (try replace n0 := bkeep hB5 n0)
              (try replace n1 := bkeep hB5 n1)
              (try replace n2 := bkeep hB5 n2)
              (try replace n3 := bkeep hB5 n3)
              try dsimp only
              refine hKK.out _ _ (by (try dsimp only); (first | exact ⟨hd, at''.out _ hd⟩ | exact ⟨hdp.alloc hdp.size _, at''.out _ (hdp.alloc hdp.size _)⟩ | exact ⟨below_set4 hd hlow ((r0, r1), (r2, r3)), at''.out _ (below_set4 hd hlow ((r0, r1), (r2, r3)))⟩)) (fun hHeld => ?_)
              clear hKK KK
              try simp only [Act.put, lyA, lyB, lyC]
              refine ly_q 11 (v := ?_) hHeld ?_
              try simp only [Act.put, lyA, lyB, lyC]
              refine ly_q 12 (v := ?_) hHeld ?_
              try simp only [Act.put, lyA, lyB, lyC]
              refine ly_q 13 (v := ?_) hHeld ?_
              try simp only [Act.put, lyA, lyB, lyC]
              refine ly_a 15 (fun KK hKK => ?_)
              go_simp
              skip
              try dsimp only
              refine hKK.out _ _ (by (try dsimp only); (first | exact ⟨hd, at''.out _ hd⟩ | exact ⟨hdp.alloc hdp.size _, at''.out _ (hdp.alloc hdp.size _)⟩ | exact ⟨below_set4 hd hlow ((r0, r1), (r2, r3)), at''.out _ (below_set4 hd hlow ((r0, r1), (r2, r3)))⟩)) (fun hHeld => ?_)
              clear hKK KK
              try simp only [Act.put, lyA, lyB, lyC]
              refine ly_q 16 (v := ?_) hHeld ?_
              try simp only [Act.put, lyA, lyB, lyC]
              refine wpAnyH_done (by kernel_rfl) ?_ _
              obtain ⟨hdV, _⟩ := hHeld
              have hbV := hB'.out.trans (hdV.mono hB'.out.size)
              have hrw := hgm'.out.below hdV
              obtain ⟨⟨⟨z0, m0⟩, ⟨z1, m1⟩, ⟨z2, m2⟩, ⟨z3, m3⟩⟩, t0, t1, t2, t3⟩ := hfz'.out _ hrw
              have hst2 := hst'.out
              cases rb
              · have hct2 : (CS (m + 1)).2 = false := by rw [hst2]; simp
                have hV3 := hV2'.out
                rw [if_neg (by rw [hfal'.out (m + 1) (n - 1) (by omega) hct2]; decide)] at hV3
                subst hV3
                clear hst2 hrw m0 m1 m2 m3 t0 t1 t2 t3 hct2 hdV
                have hbV' := Lib.hid hbV
                clear hbV
                go_wp2
                go_ret2
                exact ⟨_, rfl, OwnI.nil _ _ _, hbV'.out⟩
              · have hct2 : (CS (m + 1)).2 = true := by rw [hst2]; show ((CS m).2 && true) = true; rw [hct'.out]; rfl
                have hg6 := hrw
                rw [← hqlen'.out] at hg6
                replace hg6 := hg6.setA j ((r0, r1), (r2, r3))
                have hbS := below_setA hbV hgw (j * 4) ((r0, r1), (r2, r3))
                rw [hqlen'.out, show (CS m).1.set j ((r0, r1), (r2, r3)) = (CS (m + 1)).1 by rw [hst2]] at hg6
                clear hst2 hrw hbV hdV
                have hg6' := Lib.hid hg6
                have hbS' := Lib.hid hbS
                have hct2' := Lib.hid hct2
                clear hg6 hbS hct2
                go_wp2
                go_roundw
                case rel => exact ⟨m + 1, by omega, by have h1 := hj'.out; first | (simp; omega) | go_num, hct2'.out, hg6'.out, hbS'.out⟩
                case measure => simp [intOf]
          · have hmn : m = n - 1 := by omega
            have g1 : ¬ (0 : Int) ≤ (n : Int) - 2 - (m : Int) := by omega
            have hV3 := hV2'.out
            rw [← hmn, if_pos hct] at hV3
            subst hV3
            have hown := hgm.own.mono (show w.heap.size ≤ wc.heap.size by omega) (Nat.le_refl _)
            clear hgm hw9 hct
            have hmn' := Lib.hid hmn
            have hB' := Lib.hid hB
            have hown' := Lib.hid hown
            clear hmn hB hown
            go_wp2
            go_ret2
            exact ⟨_, rfl, hown'.out, hB'.out⟩
      · have hV2 := hVn'.out (hic3'.out rfl)
        subst hV2
        clear hh
        have hb1' := Lib.hid hb1
        clear hb1
        go_wp2
        go_ret2
        exact ⟨_, rfl, OwnI.nil _ _ _, hb1'.out⟩
  · have hV : ShrinkChain_v f l = ([], false) := shc_no (fun h => hq ⟨(chain_true h).1, (chain_true h).2.1⟩)
    rw [hV]
    rw [chain_no hq] at c0
    clear hv hu hq hV
    have c0' := Lib.hid c0
    clear c0
    go_enter Tryz.func6, Tryz.ntmps6
    go_wp2_with fail
    refine (c0'.out).mono ?_
    rintro e w1 ⟨rfl, hB1⟩
    go_wp2
    go_ret2
    exact ⟨_, rfl, OwnI.nil _ _ _, hB1⟩
end Go.Proofs.YtjkgilenhoomoaaGreat

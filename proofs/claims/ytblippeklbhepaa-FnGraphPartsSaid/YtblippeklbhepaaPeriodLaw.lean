/- The period of a graph: what the reference's and the program's potentials have in common. Plain laws, no program in sight. -/
import Derived.Test.YtblippeklbhepaaSteps
import Derived.Test.YtblippeklbhepaaTrans
namespace Go.Proofs.Ytblippeklbhepaa
open Go.RowKit

theorem gcR_congr {e e' : Nat → Bool} {d d' : Nat → Int} {z : Nat} : ∀ n, (∀ k, k < n → e k = e' k) → (∀ k, k < n → e k = true → d k = d' k) → gcR e d z n = gcR e' d' z n := by
  intro n
  induction n with
  | zero => intro _ _; rfl
  | succ n ih =>
    intro h1 h2
    unfold gcR
    rw [ih (fun k hk => h1 k (by omega)) (fun k hk => h2 k (by omega)), ← h1 n (by omega)]
    split
    · rename_i q; rw [h2 n (by omega) q]
    · rfl
theorem gcT_congr {n : Nat} {e : Nat → Nat → Bool} {d d' : Nat → Nat → Int} : ∀ m, (∀ i k, i < m → k < n → d i k = d' i k) → gcT n e d m = gcT n e d' m := by
  intro m
  induction m with
  | zero => intro _; rfl
  | succ m ih =>
    intro h
    unfold gcT
    rw [ih (fun i k hi => h i k (by omega))]
    exact gcR_congr n (fun _ _ => rfl) (fun k hk _ => h m k (by omega) hk)
theorem gcR_le {e : Nat → Bool} {d : Nat → Int} {z M : Nat} (hz : z ≤ M) : ∀ n, (∀ k, k < n → (d k).natAbs ≤ M) → gcR e d z n ≤ M := by
  intro n
  induction n with
  | zero => intro _; exact hz
  | succ n ih =>
    intro h
    have h1 := ih (fun k hk => h k (by omega))
    have h2 := h n (by omega)
    unfold gcR
    split
    · rcases Nat.eq_zero_or_pos (d n).natAbs with q | q
      · rw [q, Nat.gcd_zero_left]; exact h1
      · exact Nat.le_trans (Nat.gcd_le_left _ q) h2
    · exact h1
theorem gcT_le {n M : Nat} {e : Nat → Nat → Bool} {d : Nat → Nat → Int} : ∀ m, (∀ i k, i < m → k < n → (d i k).natAbs ≤ M) → gcT n e d m ≤ M := by
  intro m
  induction m with
  | zero => intro _; exact Nat.zero_le _
  | succ m ih => intro h; exact gcR_le (ih (fun i k hi => h i k (by omega))) n (fun k hk => h m k (by omega) hk)

/-- The steps of a shortest walk from state 0. -/
def dst (g : List (List Int)) (i : Nat) : Nat := if i = 0 then 0 else ((List.range 9).find? fun t => decide (0 < pwG g t 0 i)).getD 0
/-- The period. -/
def perG (g : List (List Int)) : Nat := perT (ent g) g.length (fun i => dst g i)

theorem dst_walk {g : List (List Int)} (hg : graphB g = true) (hT : transB g = true) : ∀ i, i < g.length → wk (ent g) g.length (dst g i) 0 i := by
  obtain ⟨n1, n8, _, _⟩ := graphB_true hg
  intro i hi
  unfold dst
  by_cases h0 : i = 0
  · rw [if_pos h0]; exact h0.symm
  · rw [if_neg h0]
    obtain ⟨t, ht⟩ := rcB_wk (by omega) hi (transB_true.1 hT 0 i (by omega) hi)
    obtain ⟨s, _, hs⟩ := wkMin_of (t + 1) (by omega) ht
    have hl := wkMin_len hi s 0 (by omega) hs
    have hp := (pwG_pos hg (t := s) (by omega) hi).2 hs.2.1
    cases hf : (List.range 9).find? fun t => decide (0 < pwG g t 0 i) with
    | none =>
      have := List.find?_eq_none.1 hf s (List.mem_range.2 (by omega))
      exact absurd (decide_eq_true hp) this
    | some r =>
      have := List.find?_some hf
      exact (pwG_pos hg (by omega) hi).1 (of_decide_eq_true this)
theorem back_walk {g : List (List Int)} (hg : graphB g = true) (hT : transB g = true) : ∃ s : Nat → Nat, s 0 = 0 ∧ ∀ i, i < g.length → wk (ent g) g.length (s i) i 0 := by
  obtain ⟨n1, n8, _, _⟩ := graphB_true hg
  have ex : ∀ i, i < g.length → ∃ t, wk (ent g) g.length t i 0 := fun i hi => by
    obtain ⟨t, ht⟩ := rcB_wk hi (by omega) (transB_true.1 hT i 0 hi (by omega))
    exact ⟨_, ht⟩
  refine ⟨fun i => if h : i ≠ 0 ∧ i < g.length then (ex i h.2).choose else 0, by simp, fun i hi => ?_⟩
  by_cases h0 : i = 0
  · subst h0; simp only [ne_eq, not_true_eq_false, false_and, dite_false]; exact rfl
  · simp only [dif_pos (show i ≠ 0 ∧ i < g.length from ⟨h0, hi⟩)]
    exact (ex i hi).choose_spec
theorem perG_from {g : List (List Int)} (hg : graphB g = true) (hT : transB g = true) {f : Nat → Nat} (f0 : f 0 = 0) (hf : ∀ i, i < g.length → wk (ent g) g.length (f i) 0 i) : perT (ent g) g.length (fun i => f i) = perG g := by
  obtain ⟨n1, _, _, _⟩ := graphB_true hg
  obtain ⟨s, s0, hs⟩ := back_walk hg hT
  unfold perG
  rw [perT_eq (by omega) hf hs f0 s0, perT_eq (by omega) (dst_walk hg hT) hs (by simp [dst]) s0]
theorem perG_to {g : List (List Int)} (hg : graphB g = true) (hT : transB g = true) {s : Nat → Nat} (s0 : s 0 = 0) (hs : ∀ i, i < g.length → wk (ent g) g.length (s i) i 0) : perT (ent g) g.length (fun i => -(s i : Int)) = perG g := by
  obtain ⟨n1, _, _, _⟩ := graphB_true hg
  unfold perG
  rw [perT_eq (by omega) (dst_walk hg hT) hs (by simp [dst]) s0]

/-- The common divisor before arrow (i, k), for a potential's rises d. -/
def gcA (g : Nat → Nat → Int) (n : Nat) (d : Nat → Nat → Int) (i k : Nat) : Nat := gcR (fun x => decide (0 < g i x)) (d i) (gcT n (fun a c => decide (0 < g a c)) d i) k
theorem gcA_zero (g : Nat → Nat → Int) (n : Nat) (d : Nat → Nat → Int) : gcA g n d 0 0 = 0 := rfl
theorem gcA_row (g : Nat → Nat → Int) (n : Nat) (d : Nat → Nat → Int) (i : Nat) : gcA g n d i n = gcA g n d (i + 1) 0 := rfl
theorem gcA_yes {g : Nat → Nat → Int} {n : Nat} {d : Nat → Nat → Int} {i k : Nat} (h : 0 < g i k) : gcA g n d i (k + 1) = Nat.gcd (d i k).natAbs (gcA g n d i k) := by
  show gcR _ _ _ (k + 1) = _
  unfold gcR
  rw [if_pos (decide_eq_true h)]; rfl
theorem gcA_no {g : Nat → Nat → Int} {n : Nat} {d : Nat → Nat → Int} {i k : Nat} (h : ¬ 0 < g i k) : gcA g n d i (k + 1) = gcA g n d i k := by
  show gcR _ _ _ (k + 1) = _
  unfold gcR
  rw [if_neg (by rw [decide_eq_true_iff]; exact h)]; rfl
theorem gcA_end (g : Nat → Nat → Int) (n : Nat) (d : Nat → Nat → Int) : gcA g n d n 0 = gcT n (fun a c => decide (0 < g a c)) d n := rfl
theorem gcA_le {g : Nat → Nat → Int} {n M : Nat} {d : Nat → Nat → Int} (h : ∀ i k, i < n → k < n → (d i k).natAbs ≤ M) {i k : Nat} (hi : i < n) (hk : k ≤ n) : gcA g n d i k ≤ M :=
  gcR_le (gcT_le i (fun a c ha hc => h a c (by omega) hc)) k (fun c hc => h i c hi (by omega))

/-- What is known of the numbers of steps while the reference searches. -/
structure FarI (g : List (List Int)) (n : Nat) (F : Nat → Int) (q : List Nat) : Prop where
  walk : ∀ x, x < n → F x = -1 ∨ ∃ t : Nat, F x = t ∧ wk (ent g) n t 0 x
  f0 : F 0 = 0
  qp : ∀ k, k < q.length + 1 → opA 0 q k < n ∧ 0 ≤ F (opA 0 q k) ∧ F (opA 0 q k) ≤ k
  pq : ∀ x, x < n → 0 ≤ F x → x = 0 ∨ x ∈ q
  len : q.length + 1 = cnt (fun x => decide (0 ≤ F x)) n
theorem FarI.start (g : List (List Int)) {n : Nat} (hn : 0 < n) : FarI g n (updF (fun _ => -1) 0 0) [] := by
  have h0 : (fun x => decide (0 ≤ updF (fun _ => (-1 : Int)) 0 0 x)) = addP (fun _ => false) 0 := by
    funext x
    by_cases e : x = 0
    · subst e; simp [updF_at, addP]
    · rw [updF_ne e]; simp [addP, e]
  have hc : ∀ m, cnt (fun _ => false) m = 0 := fun m => by
    induction m with
    | zero => rfl
    | succ m ih => show cnt _ m + _ = 0; rw [ih]; simp
  refine ⟨fun x _ => ?_, updF_at _ _ _, fun k hk => ?_, fun x _ h => ?_, ?_⟩
  · by_cases e : x = 0
    · subst e; exact .inr ⟨0, updF_at _ _ _, rfl⟩
    · exact .inl (updF_ne e)
  · obtain rfl : k = 0 := by simp at hk; omega
    show (0 < n ∧ _)
    exact ⟨hn, by show 0 ≤ updF _ 0 0 0; rw [updF_at]; omega, by show updF _ 0 0 0 ≤ _; rw [updF_at]; omega⟩
  · by_cases e : x = 0
    · exact .inl e
    · rw [updF_ne e] at h; omega
  · rw [h0, cnt_addP rfl, hc, if_pos hn]; rfl
theorem opA_last (a : Nat) (q : List Nat) (t : Nat) : opA a (q ++ [t]) (q.length + 1) = t := by
  unfold opA
  rw [← List.cons_append, List.getElem?_append_right (by simp)]; simp
theorem FarI.add {g : List (List Int)} {n t k : Nat} {F : Nat → Int} {q : List Nat} (h : FarI g n F q) (hp : F t < 0) (ht : t < n) (hk : k < q.length + 1) (he : 0 < ent g (opA 0 q k) t) : FarI g n (updF F t (F (opA 0 q k) + 1)) (q ++ [t]) := by
  have h0 : (fun x => decide (0 ≤ updF F t (F (opA 0 q k) + 1) x)) = addP (fun x => decide (0 ≤ F x)) t := by
    funext x
    by_cases e : x = t
    · subst e; rw [updF_at]; have := (h.qp k hk).2.1; simp [addP]; omega
    · rw [updF_ne e]; simp [addP, e]
  refine ⟨fun x hx => ?_, ?_, fun j hj => ?_, fun x hx hx0 => ?_, ?_⟩
  · by_cases e : x = t
    · subst e
      rw [updF_at]
      obtain ⟨h1, h2, _⟩ := h.qp k hk
      rcases h.walk _ h1 with h3 | ⟨r, h3, h4⟩
      · omega
      · exact .inr ⟨r + 1, by rw [h3]; rfl, ⟨_, h1, h4, he⟩⟩
    · rw [updF_ne e]; exact h.walk x hx
  · have e : (0 : Nat) ≠ t := fun e => by have := h.f0; rw [e] at this; omega
    rw [updF_ne e]; exact h.f0
  · rw [List.length_append] at hj
    by_cases e : j = q.length + 1
    · subst e
      rw [opA_last, updF_at]
      have := h.qp k hk
      exact ⟨ht, by omega, by omega⟩
    · have hj' : j < q.length + 1 := by simp at hj; omega
      rw [opA_snoc t hj']
      have h1 := h.qp j hj'
      have e2 : opA 0 q j ≠ t := fun e2 => by rw [e2] at h1; omega
      rw [updF_ne e2]; exact h1
  · by_cases e : x = t
    · exact .inr (List.mem_append.2 (.inr (by rw [e]; exact List.mem_singleton.2 rfl)))
    · rw [updF_ne e] at hx0
      rcases h.pq x hx hx0 with r | r
      · exact .inl r
      · exact .inr (List.mem_append.2 (.inl r))
  · rw [h0, cnt_addP (by simp; omega), if_pos ht, ← h.len, List.length_append]; rfl
/-- The arrows from the first k states have been seen, and the first j arrows from state number k. -/
def FSeen (g : List (List Int)) (n : Nat) (F : Nat → Int) (q : List Nat) (k : Nat) : Prop := ∀ i x, i < k → x < n → 0 < ent g (opA 0 q i) x → 0 ≤ F x
def FSeenTo (g : List (List Int)) (F : Nat → Int) (q : List Nat) (k j : Nat) : Prop := ∀ x, x < j → 0 < ent g (opA 0 q k) x → 0 ≤ F x
theorem updF_pos {F : Nat → Int} {t x : Nat} {z : Int} (hz : 0 ≤ z) (h : 0 ≤ F x) : 0 ≤ updF F t z x := by
  by_cases e : x = t
  · subst e; rw [updF_at]; exact hz
  · rw [updF_ne e]; exact h
theorem FSeen.add {g : List (List Int)} {n k t : Nat} {F : Nat → Int} {q : List Nat} {z : Int} (h : FSeen g n F q k) (hz : 0 ≤ z) (hk : k < q.length + 1) : FSeen g n (updF F t z) (q ++ [t]) k := fun i x hi hx he => by
  rw [opA_snoc t (by omega)] at he
  exact updF_pos hz (h i x hi hx he)
theorem FSeenTo.add {g : List (List Int)} {k t : Nat} {F : Nat → Int} {q : List Nat} {z : Int} (h : FSeenTo g F q k t) (hz : 0 ≤ z) (hk : k < q.length + 1) : FSeenTo g (updF F t z) (q ++ [t]) k (t + 1) := fun x hx he => by
  rw [opA_snoc t hk] at he
  by_cases e : x = t
  · subst e; rw [updF_at]; exact hz
  · exact updF_pos hz (h x (by omega) he)
theorem FSeenTo.skip {g : List (List Int)} {k t : Nat} {F : Nat → Int} {q : List Nat} (h : FSeenTo g F q k t) (ht : 0 < ent g (opA 0 q k) t → 0 ≤ F t) : FSeenTo g F q k (t + 1) := fun x hx he => by
  by_cases e : x = t
  · subst e; exact ht he
  · exact h x (by omega) he
theorem FSeen.next {g : List (List Int)} {n k : Nat} {F : Nat → Int} {q : List Nat} (h : FSeen g n F q k) (h2 : FSeenTo g F q k n) : FSeen g n F q (k + 1) := fun i x hi hx he => by
  by_cases e : i = k
  · subst e; exact h2 x hx he
  · exact h i x (by omega) hx he
theorem far_end {g : List (List Int)} {F : Nat → Int} {q : List Nat} (hg : graphB g = true) (hT : transB g = true) (h : FarI g g.length F q) (hs : FSeen g g.length F q (q.length + 1)) : ∀ x, x < g.length → 0 ≤ F x := by
  obtain ⟨n1, _, _, _⟩ := graphB_true hg
  intro x hx
  have := rcB_min (g := g) (fun i j => 0 ≤ F i → 0 ≤ F j) (fun i j hi hj he hia => by
      obtain ⟨k, hk, e⟩ := opA_mem (a := 0) (q := q) (x := i) (h.pq i hi hia)
      exact hs k j hk hj (by rw [e]; exact he))
    (fun i m j _ _ _ h1 h2 hia => h2 (h1 hia)) (by omega) hx (transB_true.1 hT 0 x (by omega) hx)
  exact this (by rw [h.f0]; omega)
theorem far_per {g : List (List Int)} {F : Nat → Int} {q : List Nat} (hg : graphB g = true) (hT : transB g = true) (h : FarI g g.length F q) (hs : FSeen g g.length F q (q.length + 1)) :
    gcA (ent g) g.length (fun i k => F i + 1 - F k) g.length 0 = perG g ∧ ∀ x, x < g.length → 0 ≤ F x ∧ F x ≤ g.length := by
  have hall := far_end hg hT h hs
  have hval : ∀ x, x < g.length → F x = ((F x).toNat : Int) := fun x hx => by have := hall x hx; omega
  refine ⟨?_, fun x hx => ⟨hall x hx, ?_⟩⟩
  · rw [gcA_end, ← perG_from hg hT (f := fun i => (F i).toNat) (by simp [h.f0]) (fun i hi => by
      rcases h.walk i hi with h1 | ⟨t, h1, h2⟩
      · have := hall i hi; omega
      · have : (F i).toNat = t := by omega
        rw [this]; exact h2)]
    exact gcT_congr _ (fun i k hi hk => by have h1 := hval i hi; have h2 := hval k hk; show F i + 1 - F k = ((F i).toNat : Int) + 1 - ((F k).toNat : Int); omega)
  · obtain ⟨k, hk, e⟩ := opA_mem (a := 0) (q := q) (x := x) (h.pq x hx (hall x hx))
    have h1 := (h.qp k hk).2.2
    rw [e] at h1
    have h2 := cnt_le (fun x => decide (0 ≤ F x)) g.length
    have := h.len
    omega
/-- The program's potential: the numbers of steps to state 0, and 0 there. -/
theorem steps_per {g : List (List Int)} {o : Nat → Int} (hg : graphB g = true) (hT : transB g = true) (h : StMin (ent g) g.length 0 o) :
    gcA (ent g) g.length (fun i k => updF o 0 0 k + 1 - updF o 0 0 i) g.length 0 = perG g ∧ ∀ x, x < g.length → 0 ≤ updF o 0 0 x ∧ updF o 0 0 x ≤ g.length := by
  obtain ⟨n1, _, _, _⟩ := graphB_true hg
  have hw : ∀ x, x < g.length → ∃ t : Nat, updF o 0 0 x = t ∧ t ≤ g.length ∧ wk (ent g) g.length t x 0 := fun x hx => by
    by_cases e : x = 0
    · subst e; exact ⟨0, updF_at _ _ _, Nat.zero_le _, rfl⟩
    · rw [updF_ne e]
      rcases h x hx with ⟨_, h2⟩ | ⟨t, h1, h2, h3⟩
      · obtain ⟨t, ht⟩ := rcB_wk hx (by omega) (transB_true.1 hT x 0 hx (by omega))
        exact absurd ht (h2 (t + 1) (by omega))
      · exact ⟨t, h1, h2, h3.2.1⟩
  refine ⟨?_, fun x hx => by obtain ⟨t, h1, h2, _⟩ := hw x hx; omega⟩
  rw [gcA_end, ← perG_to hg hT (s := fun i => (updF o 0 0 i).toNat) (by simp [updF_at]) (fun i hi => by
    obtain ⟨t, h1, _, h2⟩ := hw i hi
    have : (updF o 0 0 i).toNat = t := by omega
    rw [this]; exact h2)]
  exact gcT_congr _ (fun i k hi hk => by
    obtain ⟨t, h1, _, _⟩ := hw i hi
    obtain ⟨t', h1', _, _⟩ := hw k hk
    show updF o 0 0 k + 1 - updF o 0 0 i = -((updF o 0 0 i).toNat : Int) + 1 - -((updF o 0 0 k).toNat : Int)
    omega)

end Go.Proofs.Ytblippeklbhepaa

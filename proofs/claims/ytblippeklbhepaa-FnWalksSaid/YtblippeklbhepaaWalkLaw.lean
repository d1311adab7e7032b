/- Plain laws on numbers of walks: the capped numbers are the true ones capped; the other way round there are as many; one step more; the diagonal. No conditions but those stated. -/
import Derived.Test.YtblippeklbhepaaPowers
import Derived.Test.YtblippeklbhepaaArrows
import Derived.Test.YtblippeklbhepaaAddArrow
namespace Go.Proofs.Ytblippeklbhepaa
open Go.RowKit

/-- The sum of the first n. -/
def tot (F : Nat → Int) : Nat → Int
  | 0 => 0
  | n + 1 => tot F n + F n
theorem tot_s (F : Nat → Int) (n : Nat) : tot F (n + 1) = tot F n + F n := rfl
theorem tot_congr {F G : Nat → Int} {n : Nat} (h : ∀ i, i < n → F i = G i) : tot F n = tot G n := by
  induction n with
  | zero => rfl
  | succ n ih => rw [tot_s, tot_s, ih (fun i hi => h i (by omega)), h n (by omega)]
theorem tot_nonneg {F : Nat → Int} {n : Nat} (h : ∀ i, i < n → 0 ≤ F i) : 0 ≤ tot F n := by
  induction n with
  | zero => exact Int.le_refl _
  | succ n ih => rw [tot_s]; have := ih (fun i hi => h i (by omega)); have := h n (by omega); omega
theorem tot_add (F G : Nat → Int) (n : Nat) : tot (fun i => F i + G i) n = tot F n + tot G n := by
  induction n with
  | zero => rfl
  | succ n ih => rw [tot_s, tot_s, tot_s, ih]; omega
theorem tot_mul (a : Int) (F : Nat → Int) (n : Nat) : tot (fun i => a * F i) n = a * tot F n := by
  induction n with
  | zero => show (0 : Int) = a * 0; rw [Int.mul_zero]
  | succ n ih => rw [tot_s, tot_s, ih, Int.mul_add]
theorem tot_mul' (a : Int) (F : Nat → Int) (n : Nat) : tot (fun i => F i * a) n = tot F n * a := by
  induction n with
  | zero => show (0 : Int) = 0 * a; rw [Int.zero_mul]
  | succ n ih => rw [tot_s, tot_s, ih, Int.add_mul]
theorem tot_zero (n : Nat) : tot (fun _ => 0) n = 0 := by
  induction n with
  | zero => rfl
  | succ n ih => rw [tot_s, ih]; rfl
theorem tot_swap (F : Nat → Nat → Int) (n m : Nat) : tot (fun i => tot (F i) m) n = tot (fun j => tot (fun i => F i j) n) m := by
  induction n with
  | zero => show (0 : Int) = tot (fun _ => 0) m; rw [tot_zero]
  | succ n ih =>
    rw [tot_s, ih, ← tot_add]
    exact tot_congr fun j _ => rfl
theorem tot_le {F : Nat → Int} {n j : Nat} (h : ∀ i, i < n → 0 ≤ F i) (hj : j < n) : F j ≤ tot F n := by
  induction n with
  | zero => omega
  | succ n ih =>
    rw [tot_s]
    have h0 := tot_nonneg (F := F) (n := n) (fun i hi => h i (by omega))
    by_cases e : j = n
    · rw [e]; omega
    · have := ih (fun i hi => h i (by omega)) (by omega); have := h n (by omega); omega
theorem tot_mono {F : Nat → Int} {n m : Nat} (h : ∀ i, i < n → 0 ≤ F i) (hm : m ≤ n) : tot F m ≤ tot F n := by
  induction n with
  | zero => obtain rfl : m = 0 := by omega
            exact Int.le_refl _
  | succ n ih =>
    by_cases e : m = n + 1
    · rw [e]; exact Int.le_refl _
    · rw [tot_s]; have := ih (fun i hi => h i (by omega)) (by omega); have := h n (by omega); omega
/-- The sum of what is 1 at one place. -/
theorem tot_delta (F : Nat → Int) (n a : Nat) (ha : a < n) : tot (fun k => (if a = k then 1 else 0) * F k) n = F a := by
  induction n with
  | zero => omega
  | succ n ih =>
    rw [tot_s]
    by_cases e : a = n
    · subst e
      rw [tot_congr (G := fun _ => 0) (fun i hi => by rw [if_neg (by omega), Int.zero_mul]), tot_zero, if_pos rfl]; omega
    · rw [ih (by omega), if_neg e]; omega

/-- The true numbers of walks of t steps. -/
def tw (g : Nat → Nat → Int) (n : Nat) : Nat → Nat → Nat → Int
  | 0 => fun i j => if i = j then 1 else 0
  | t + 1 => fun i j => tot (fun k => tw g n t i k * g k j) n
theorem tw_s (g : Nat → Nat → Int) (n t i j : Nat) : tw g n (t + 1) i j = tot (fun k => tw g n t i k * g k j) n := rfl
theorem tw_nonneg {g : Nat → Nat → Int} {n : Nat} (hg : ∀ i j, i < n → j < n → 0 ≤ g i j) : ∀ t i j, i < n → j < n → 0 ≤ tw g n t i j
  | 0, i, j, _, _ => by show 0 ≤ if i = j then (1 : Int) else 0; split <;> omega
  | t + 1, i, j, hi, hj => by rw [tw_s]; exact tot_nonneg fun k hk => Int.mul_nonneg (tw_nonneg hg t i k hi hk) (hg k j hk hj)
/-- The first arrow, and the walks behind it. -/
theorem tw_front {g : Nat → Nat → Int} {n : Nat} : ∀ t i j, i < n → j < n → tw g n (t + 1) i j = tot (fun k => g i k * tw g n t k j) n
  | 0, i, j, hi, hj => by
    rw [tw_s]
    show tot (fun k => (if i = k then (1 : Int) else 0) * g k j) n = tot (fun k => g i k * (if k = j then (1 : Int) else 0)) n
    rw [tot_delta (fun k => g k j) n i hi, tot_congr (F := fun k => g i k * (if k = j then (1 : Int) else 0)) (G := fun k => (if j = k then 1 else 0) * g i k) (fun k _ => by
      rw [Int.mul_comm]
      by_cases e : k = j
      · rw [if_pos e, if_pos e.symm]
      · rw [if_neg e, if_neg (fun q => e q.symm)]), tot_delta (fun k => g i k) n j hj]
  | t + 1, i, j, hi, hj => by
    rw [tw_s, tot_congr (G := fun k => tot (fun l => g i l * tw g n t l k * g k j) n) (fun k hk => by rw [tw_front t i k hi hk, tot_mul']), tot_swap]
    refine tot_congr fun l hl => ?_
    rw [tw_s, ← tot_mul]
    exact tot_congr fun k _ => by rw [Int.mul_assoc]
/-- The other way round there are as many. -/
theorem tw_back {g h : Nat → Nat → Int} {n : Nat} (hh : ∀ i j, i < n → j < n → h i j = g j i) : ∀ t i j, i < n → j < n → tw h n t i j = tw g n t j i
  | 0, i, j, _, _ => by
    show (if i = j then (1 : Int) else 0) = if j = i then 1 else 0
    by_cases e : i = j
    · rw [if_pos e, if_pos e.symm]
    · rw [if_neg e, if_neg (fun q => e q.symm)]
  | t + 1, i, j, hi, hj => by
    rw [tw_s, tw_front t j i hj hi]
    exact tot_congr fun k hk => by rw [tw_back hh t i k hi hk, hh k j hk hj, Int.mul_comm]

theorem cap_step {S p q M : Int} (hS : 0 ≤ S) (hp : 0 ≤ p) (hq : 0 ≤ q) (hM : 0 ≤ M) : min (min S M + min p M * q) M = min (S + p * q) M := by
  by_cases h : p ≤ M
  · rw [Int.min_eq_left h]
    have := Int.mul_nonneg hp hq
    omega
  · rw [Int.min_eq_right (show M ≤ p by omega)]
    by_cases h0 : q = 0
    · subst h0; rw [Int.mul_zero, Int.mul_zero]; omega
    · have h1 : M * 1 ≤ M * q := Int.mul_le_mul_of_nonneg_left (by omega) hM
      have h2 : p * 1 ≤ p * q := Int.mul_le_mul_of_nonneg_left (by omega) hp
      omega
/-- The capped numbers are the true ones, capped. -/
theorem pwE_tw {g : Nat → Nat → Int} {most : Int} {n : Nat} (h0 : 1 ≤ most) (hb : most ≤ 1000000001) (hg : ∀ i j, i < n → j < n → 0 ≤ g i j ∧ g i j ≤ 9) :
    ∀ t i j, i < n → j < n → pwE g most n t i j = min (tw g n t i j) most := by
  intro t
  induction t with
  | zero => intro i j _ _; show (if i = j then (1 : Int) else 0) = min (if i = j then (1 : Int) else 0) most; split <;> omega
  | succ t ih =>
    intro i j hi hj
    rw [pwE_succ, tw_s]
    have hbd := pwS_bd (o := pwE g most n t) (g := g) (most := most) (n := n) (i := i) (c := j) (by omega) hb (fun k hk => pwE_bd h0 hb hg t i k hi hk) (fun k hk => hg k j hk hj)
    have key : ∀ K, K ≤ n → pwS (pwE g most n t) g most i j K = min (tot (fun k => tw g n t i k * g k j) K) most := by
      intro K
      induction K with
      | zero => intro _; show (0 : Int) = min 0 most; omega
      | succ K ihK =>
        intro hK
        have hs := (hbd K (by omega)).2 (by omega)
        have hnn : ∀ i j, i < n → j < n → 0 ≤ g i j := fun i j hi hj => (hg i j hi hj).1
        have n1 := tot_nonneg (F := fun k => tw g n t i k * g k j) (n := K) (fun k hk => Int.mul_nonneg (tw_nonneg hnn t i k hi (by omega)) (hnn k j (by omega) hj))
        have n2 := tw_nonneg hnn t i K hi (by omega)
        have c := cap_step (S := tot (fun k => tw g n t i k * g k j) K) (p := tw g n t i K) (q := g K j) (M := most) n1 n2 (hnn K j (by omega) hj) (by omega)
        rw [hs, ihK (by omega), ih i K hi (by omega), tot_s, ← c]
        split <;> omega
    exact key n (Nat.le_refl _)
theorem pwG_tw {g : List (List Int)} (h : graphB g = true) (t : Nat) {i j : Nat} (hi : i < g.length) (hj : j < g.length) : pwG g t i j = min (tw (ent g) g.length t i j) 1000000001 := by
  obtain ⟨_, _, _, hent⟩ := graphB_true h
  exact pwE_tw (by omega) (by omega) hent t i j hi hj

theorem graphB_tab {n : Nat} {f : Nat → Nat → Int} (h1 : 1 ≤ n) (h8 : n ≤ 8) (hf : ∀ i j, i < n → j < n → 0 ≤ f i j ∧ f i j ≤ 9) : graphB (tab n n f) = true := by
  simp only [graphB, Bool.and_eq_true, inB_true, List.all_eq_true, tab_len]
  refine ⟨by omega, fun r hr => ?_⟩
  unfold tab at hr
  obtain ⟨i, hi, rfl⟩ := List.mem_map.1 hr
  rw [List.mem_range] at hi
  simp only [rowB, Bool.and_eq_true, decide_eq_true_eq, allB, List.all_eq_true, inB_true]
  refine ⟨by simp [lst_len], fun x hx => ?_⟩
  obtain ⟨j, hj, rfl⟩ := List.getElem_of_mem hx
  rw [lst_len] at hj
  rw [← nth_eq, nth_lst hj]
  exact hf i j hi hj
/-- The reverse of a graph is one, and its reverse is the graph. -/
theorem reverse_back {g r : List (List Int)} (h : ReverseGraph_v g = (r, true)) : graphB g = true ∧ graphB r = true ∧ r.length = g.length ∧ (∀ i j, i < g.length → j < g.length → ent r i j = ent g j i) ∧ ReverseGraph_v r = (g, true) := by
  cases hg : graphB g
  · rw [ReverseGraph_no hg] at h; simp at h
  rw [ReverseGraph_yes hg] at h
  simp only [Prod.mk.injEq, and_true] at h
  subst h
  obtain ⟨h1, h8, hr, hent⟩ := graphB_true hg
  have hgr : graphB (tab g.length g.length fun i j => ent g j i) = true := graphB_tab h1 h8 (fun i j hi hj => hent j i hj hi)
  refine ⟨rfl, hgr, tab_len _ _ _, fun i j hi hj => ent_tab hi hj, ?_⟩
  rw [ReverseGraph_yes hgr, tab_len]
  refine Prod.ext ?_ rfl
  show tab g.length g.length _ = g
  rw [show tab g.length g.length (fun i j => ent (tab g.length g.length fun i j => ent g j i) j i) = tab g.length g.length (ent g) from tab_congr fun i j hi hj => ent_tab hj hi]
  exact (eq_tab rfl hr).symm

/-- The other way round there are as many walks. -/
theorem walk_back {h r : List (List Int)} {x y t c : Int} (hw : WalkCount_v h x y t = (c, true)) (hr : ReverseGraph_v h = (r, true)) : WalkCount_v r y x t = (c, true) := by
  obtain ⟨g1, g2, g3, g4, _⟩ := reverse_back hr
  unfold WalkCount_v at hw
  split at hw
  · rename_i hok
    have hok2 : walkOk r y x t = true := by
      simp only [walkOk, Bool.and_eq_true] at hok ⊢
      rw [g3]; exact ⟨⟨⟨g2, hok.1.2⟩, hok.1.1.2⟩, hok.2⟩
    have hok' := hok
    simp only [walkOk, Bool.and_eq_true] at hok'
    obtain ⟨a, rfl, ha⟩ := inB_nat hok'.1.1.2
    obtain ⟨b, rfl, hb⟩ := inB_nat hok'.1.2
    have e : pwG r t.toNat b a = pwG h t.toNat a b := by
      rw [pwG_tw g2 _ (by omega) (by omega), pwG_tw g1 _ ha hb, g3, tw_back (g := ent h) g4 _ b a hb ha]
    unfold WalkCount_v
    rw [if_pos hok2]
    simp only [Int.toNat_natCast] at hw ⊢
    rw [e]; exact hw
  · simp at hw
theorem walk_graph {h : List (List Int)} {x y t c : Int} (hw : WalkCount_v h x y t = (c, true)) : ∃ r, ReverseGraph_v h = (r, true) := by
  unfold WalkCount_v at hw
  split at hw
  · rename_i hok
    simp only [walkOk, Bool.and_eq_true] at hok
    exact ⟨_, ReverseGraph_yes hok.1.1.1⟩
  · simp at hw
/-- The parts of a told number of walks. -/
theorem walk_parts {h : List (List Int)} {x y t c : Int} (hw : WalkCount_v h x y t = (c, true)) (ht : 0 < t) :
    ∃ (a : Nat) (T : Nat → Int), x = a ∧ a < h.length ∧ graphB h = true ∧ (∀ j, j < h.length → 0 ≤ ent h a j ∧ ent h a j ≤ 9) ∧ (∀ j, j < h.length → ent h a j ≠ 0 → WalkCount_v h j y (t - 1) = (T j, true)) ∧
      (∀ j, j < h.length → 0 ≤ ent h a j * T j) ∧ tot (fun j => ent h a j * T j) h.length = c ∧ c ≤ 1000000000 := by
  unfold WalkCount_v at hw
  split at hw
  · rename_i hok
    simp only [walkOk, Bool.and_eq_true] at hok
    obtain ⟨⟨⟨hg, hx⟩, hy⟩, hst⟩ := hok
    obtain ⟨a, rfl, ha⟩ := inB_nat hx
    obtain ⟨b, rfl, hb⟩ := inB_nat hy
    have hst' := inB_true.1 hst
    obtain ⟨s, hs⟩ : ∃ s : Nat, t = (s : Int) + 1 := ⟨(t - 1).toNat, by omega⟩
    subst hs
    obtain ⟨h1, h8, hr, hent⟩ := graphB_true hg
    have hnn : ∀ i j, i < h.length → j < h.length → 0 ≤ ent h i j := fun i j hi hj => (hent i j hi hj).1
    have e1 : ((s : Int) + 1).toNat = s + 1 := by omega
    rw [e1] at hw
    simp only [Int.toNat_natCast] at hw
    have e2 := pwG_tw hg (s + 1) ha hb
    have e3 := tw_front (g := ent h) (n := h.length) s a b ha hb
    have hT := fun j (hj : j < h.length) => tw_nonneg hnn s j b hj hb
    split at hw
    · simp at hw
    · rename_i hle
      simp only [Prod.mk.injEq, and_true] at hw
      have hc : tw (ent h) h.length (s + 1) a b = c := by omega
      refine ⟨a, fun j => tw (ent h) h.length s j b, rfl, ha, hg, fun j hj => hent a j ha hj, fun j hj hne => ?_, fun j hj => Int.mul_nonneg (hnn a j ha hj) (hT j hj), by rw [← e3]; exact hc, by omega⟩
      have hpos := hnn a j ha hj
      have hle2 := tot_le (F := fun k => ent h a k * tw (ent h) h.length s k b) (n := h.length) (fun i hi => Int.mul_nonneg (hnn a i ha hi) (hT i hi)) hj
      rw [← e3, hc] at hle2
      have h1' : 1 * tw (ent h) h.length s j b ≤ ent h a j * tw (ent h) h.length s j b := Int.mul_le_mul_of_nonneg_right (by omega) (hT j hj)
      have hcap := pwG_tw hg s hj hb
      have hok2 : walkOk h (j : Int) (b : Int) ((s : Int) + 1 - 1) = true := by
        simp only [walkOk, Bool.and_eq_true, inB_true]
        exact ⟨⟨⟨hg, by omega⟩, by omega⟩, by omega⟩
      unfold WalkCount_v
      rw [if_pos hok2]
      have e4 : ((s : Int) + 1 - 1).toNat = s := by omega
      rw [e4]
      simp only [Int.toNat_natCast]
      rw [if_neg (by omega)]
      refine Prod.ext ?_ rfl
      show pwG h s j b = tw (ent h) h.length s j b
      omega
  · simp at hw
/-- A further arrow. -/
theorem arrow_more {a d : List (List Int)} {x y : Int} (h : AddArrow_v a x y = (d, true)) : ∃ i j : Nat, x = i ∧ y = j ∧ i < a.length ∧ j < a.length ∧ graphB a = true ∧ graphB d = true ∧ d.length = a.length ∧ ent d i j = ent a i j + 1 ∧ ent a i j ≤ 8 := by
  unfold AddArrow_v at h
  split at h
  · rename_i hok
    simp only [Prod.mk.injEq, and_true] at h
    subst h
    simp only [addOk, Bool.and_eq_true, Bool.not_eq_true', beq_eq_false_iff_ne] at hok
    obtain ⟨⟨⟨hg, hx⟩, hy⟩, hne⟩ := hok
    obtain ⟨i, rfl, hi⟩ := inB_nat hx
    obtain ⟨j, rfl, hj⟩ := inB_nat hy
    simp only [Int.toNat_natCast] at hne ⊢
    obtain ⟨h1, h8, hr, hent⟩ := graphB_true hg
    have hij := hent i j hi hj
    refine ⟨i, j, rfl, rfl, hi, hj, hg, graphB_tab h1 h8 fun a b ha hb => ?_, tab_len _ _ _, ?_, by omega⟩
    · unfold upd
      split
      · omega
      · exact hent a b ha hb
    · rw [ent_tab hi hj]; unfold upd; rw [if_pos ⟨rfl, rfl⟩]
  · simp at h
/-- What a power holds. -/
theorem power_is {g p : List (List Int)} {t : Int} (h : PowerOf_v g t = (p, true)) : graphB g = true ∧ p = tab g.length g.length (pwG g t.toNat) ∧ (∀ i j, i < g.length → j < g.length → 0 ≤ pwG g t.toNat i j ∧ pwG g t.toNat i j ≤ 1000000000) := by
  unfold PowerOf_v at h
  split at h
  · rename_i hok
    simp only [Prod.mk.injEq, and_true] at h
    simp only [powOk, clOk, Bool.and_eq_true, List.all_eq_true] at hok
    refine ⟨hok.1.1, h.symm, fun i j hi hj => ?_⟩
    have h1 := hok.2 (lst g.length (pwG g t.toNat i)) (by unfold tab; exact List.mem_map.2 ⟨i, List.mem_range.2 hi, rfl⟩)
    simp only [allB, List.all_eq_true, inB_true] at h1
    have h2 := h1 (nth (lst g.length (pwG g t.toNat i)) j) (nth_mem (by rw [lst_len]; exact hj))
    rw [nth_lst hj] at h2
    exact h2
  · simp at h
theorem closed_is {g : List (List Int)} {t c : Int} (h : ClosedWalks_v g t = (c, true)) : c = clS (pwG g t.toNat) g.length := by
  unfold ClosedWalks_v at h
  split at h
  · unfold clR at h
    split at h
    · simp at h
    · simp only [Prod.mk.injEq, and_true] at h; exact h.symm
  · simp at h
end Go.Proofs.Ytblippeklbhepaa

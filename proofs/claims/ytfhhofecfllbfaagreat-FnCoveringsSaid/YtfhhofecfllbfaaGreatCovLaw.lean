/- What FnCoverings asks, in plain Lean: the shrunk interval, the image's interval, the graph of coverings. No program in sight. -/
import Derived.Test.YtfhhofecfllbfaaGreatShrinkTo
import Derived.Test.YtfhhofecfllbfaaGreatImgIv
import Derived.Test.YtfhhofecfllbfaaGreatPkM
import Derived.Test.YtfhhofecfllbfaaGreatPkR
namespace Go.Proofs.YtfhhofecfllbfaaGreat
open Go.RowKit

def UnitQ (x : Int × Int) : Prop := unitR x.1 x.2 = true
theorem allB_lst {n : Nat} {f : Nat → Int} {lo hi : Int} (h : ∀ j, j < n → lo ≤ f j ∧ f j ≤ hi) : allB (lst n f) lo hi = true := by
  unfold allB lst
  rw [List.all_eq_true]
  intro x hx
  obtain ⟨j, hj, rfl⟩ := List.mem_map.1 hx
  exact inB_true.2 (h j (List.mem_range.1 hj))
theorem lessR_p {P : Int × Int → Prop} {a b : Int × Int} (ha : P a) (hb : P b) : P (lessR a b) := by unfold lessR; split <;> assumption
theorem greatR_p {P : Int × Int → Prop} {a b : Int × Int} (ha : P a) (hb : P b) : P (greatR a b) := by unfold greatR; split <;> assumption
theorem lessR_le {a b : Int × Int} (ha : goodR a.1 a.2 = true) (hb : goodR b.1 b.2 = true) : qv (lessR a b) ≤ qv a ∧ qv (lessR a b) ≤ qv b := by
  unfold lessR
  cases h : ltB b.1 b.2 a.1 a.2
  · rw [ltB_qvf hb ha] at h
    rw [if_neg (by decide)]
    exact ⟨Rat.le_refl, h⟩
  · rw [ltB_qv hb ha] at h
    rw [if_pos rfl]
    exact ⟨Rat.le_of_lt h, Rat.le_refl⟩
theorem greatR_ge {a b : Int × Int} (ha : goodR a.1 a.2 = true) (hb : goodR b.1 b.2 = true) : qv a ≤ qv (greatR a b) ∧ qv b ≤ qv (greatR a b) := by
  unfold greatR
  cases h : ltB a.1 a.2 b.1 b.2
  · rw [ltB_qvf ha hb] at h
    rw [if_neg (by decide)]
    exact ⟨Rat.le_refl, h⟩
  · rw [ltB_qv ha hb] at h
    rw [if_pos rfl]
    exact ⟨Rat.le_of_lt h, Rat.le_refl⟩
theorem imS_unit {f : List Quad} (hf : MapP f) {a b : Int × Int} (ha : unitR a.1 a.2 = true) (hb : unitR b.1 b.2 = true) (h : imgOk f a b = true) :
    ∀ k, k ≤ f.length → UnitQ (imS f a b k).1 ∧ UnitQ (imS f a b k).2 ∧ qv (imS f a b k).1 ≤ qv (imS f a b k).2 := by
  unfold imgOk at h
  rw [Bool.and_eq_true] at h
  have ua := at_unit hf ha h.1
  have ub := at_unit hf hb h.2
  intro k
  induction k with
  | zero =>
    intro _
    rw [imS_zero]
    exact ⟨lessR_p (P := UnitQ) ua ub, greatR_p (P := UnitQ) ua ub, Rat.le_trans (lessR_le (unitR_good ua) (unitR_good ub)).1 (greatR_ge (unitR_good ua) (unitR_good ub)).1⟩
  | succ k ih =>
    intro hk
    obtain ⟨i1, i2, i3⟩ := ih (by omega)
    cases hm : midB a b (nth4 f k)
    · rw [imS_no hm]; exact ⟨i1, i2, i3⟩
    · rw [imS_yes hm]
      have uy := coordR_unit (hf.coord k (by omega)).2
      exact ⟨lessR_p (P := UnitQ) i1 uy, greatR_p (P := UnitQ) i2 uy, Rat.le_trans (lessR_le (unitR_good i1) (unitR_good uy)).1 (Rat.le_trans i3 (greatR_ge (unitR_good i2) (unitR_good uy)).1)⟩
theorem cmp_le {a b : Int × Int} (ha : goodR a.1 a.2 = true) (hb : goodR b.1 b.2 = true) (h : qv a ≤ qv b) : cmpN a.1 a.2 b.1 b.2 ≤ 0 := by
  have e := cmpN_le a.1 a.2 b.1 b.2
  rw [(ltB_qvf hb ha).2 h] at e
  simpa using e
/-- What is known of an image's interval. -/
theorem image_fact {f : List Quad} {i m : Quad} (h : ImageInterval_v f i = (m, true)) : CoversInterval_v f i m = (true, true) ∧ BdR m.1.1 m.1.2 ∧ BdR m.2.1 m.2.2 ∧
    ∀ k, CoversInterval_v f i k = (true, true) → cmpN m.1.1 m.1.2 k.1.1 k.1.2 ≤ 0 ∧ cmpN k.2.1 k.2.2 m.2.1 m.2.2 ≤ 0 ∧ BdR k.1.1 k.1.2 ∧ BdR k.2.1 k.2.2 := by
  unfold ImageInterval_v at h
  by_cases hc : ivB i = true ∧ (ImageOf_v f i.1 i.2).2 = true ∧ ¬ (ImageOf_v f i.1 i.2).1.1 = (ImageOf_v f i.1 i.2).1.2
  · rw [if_pos hc] at h
    obtain ⟨hi, ho, hne⟩ := hc
    have hm := (Prod.mk.inj h).1
    have hA : mapB f = true := by
      unfold ImageOf_v at ho
      cases hA : mapB f
      · rw [hA, if_neg (by decide)] at ho; cases ho
      · rfl
    have hf := mapB_true hA
    obtain ⟨i1, i2, i3⟩ := ivB_true hi
    have hok : imgOk f i.1 i.2 = true := by
      unfold ImageOf_v at ho
      rw [hA, if_pos rfl] at ho
      cases hk : imgOk f i.1 i.2
      · rw [imgR_bad hk] at ho; cases ho
      · rfl
    have hv : ImageOf_v f i.1 i.2 = (imS f i.1 i.2 f.length, true) := by unfold ImageOf_v; rw [if_pos hA, imgR_ok hok]
    rw [hv] at hm hne
    obtain ⟨u1, u2, u3⟩ := imS_unit hf i1 i2 hok f.length (Nat.le_refl _)
    simp only at hm hne
    rw [hm] at u1 u2 u3 hne
    have hmB : ivB m = true := by
      unfold ivB
      rw [show unitR m.1.1 m.1.2 = true from u1, show unitR m.2.1 m.2.2 = true from u2, Bool.true_and, Bool.true_and, ltB_qv (unitR_good u1) (unitR_good u2)]
      rcases Rat.le_iff_lt_or_eq.1 u3 with h | h
      · exact h
      · exact absurd (qv_inj (unitR_good u1) (unitR_good u2) h) hne
    have hcm : covB f i m = true := by
      unfold covB
      rw [hm, (ltB_qvf (unitR_good u1) (unitR_good u1)).2 Rat.le_refl, (ltB_qvf (unitR_good u2) (unitR_good u2)).2 Rat.le_refl]; rfl
    refine ⟨?_, unit_bd u1, unit_bd u2, fun k hk => ?_⟩
    · rw [cvi_yes ⟨hA, hi, hmB⟩]; unfold covR; rw [if_pos hok, hcm]
    · obtain ⟨⟨_, _, hkB⟩, _, hck⟩ := cvi_true hk
      obtain ⟨k1, k2, _⟩ := ivB_true hkB
      unfold covB at hck
      rw [hm, Bool.and_eq_true, Bool.not_eq_true', Bool.not_eq_true', ltB_qvf (unitR_good k1) (unitR_good u1), ltB_qvf (unitR_good u2) (unitR_good k2)] at hck
      exact ⟨cmp_le (unitR_good u1) (unitR_good k1) hck.1, cmp_le (unitR_good k2) (unitR_good u2) hck.2, unit_bd k1, unit_bd k2⟩
  · rw [if_neg hc] at h; cases (Prod.mk.inj h).2
/-- What is known of a shrunk interval. -/
theorem shrunk_fact {f : List Quad} {i k s : Quad} (h : ShrinkTo_v f i k = (s, true)) : CoversInterval_v f i k = (true, true) ∧ ivB s = true ∧ ImageOf_v f s.1 s.2 = (k, true) ∧
    cmpN i.1.1 i.1.2 s.1.1 s.1.2 ≤ 0 ∧ cmpN s.2.1 s.2.2 i.2.1 i.2.2 ≤ 0 ∧ BdR i.1.1 i.1.2 ∧ BdR i.2.1 i.2.2 := by
  by_cases hc : CoversInterval_v f i k = (true, true)
  · obtain ⟨⟨hA, hi, hk⟩, hok, hcv⟩ := cvi_true hc
    rw [sht_yes ⟨hA, hi, hk⟩] at h
    unfold ivR at h
    rw [if_pos ⟨hok, hcv⟩] at h
    have hf := mapB_true hA
    obtain ⟨s1, s2, s3⟩ := shrV_true (by rw [h])
    rw [h] at s3
    have hs : (shrR f i k).1 = s := by rw [← s3]
    have hat := shr_at hf hi hk s1 s2
    have him := shr_img hf hi hk s1 s2
    rw [hs] at hat him
    obtain ⟨hsB, ⟨q1, q2⟩, ⟨o1, o2⟩, _⟩ := hat
    obtain ⟨i1, i2, _⟩ := ivB_true hi
    obtain ⟨t1, t2, _⟩ := ivB_true hsB
    refine ⟨hc, hsB, ?_, cmp_le (unitR_good i1) (unitR_good t1) q1, cmp_le (unitR_good t2) (unitR_good i2) q2, unit_bd i1, unit_bd i2⟩
    unfold ImageOf_v
    rw [if_pos hA, imgR_ok (by unfold imgOk; rw [o1, o2]; rfl), him]
  · rw [sht_cov hc] at h; cases (Prod.mk.inj h).2
/-- What is known of a graph of coverings. -/
theorem graph_fact {f l : List Quad} {h : List (List Int)} (e : CoverGraph_v f l = (h, true)) : graphB h = true ∧ h.length = l.length ∧
    ∀ a b, a < l.length → b < l.length → CoversInterval_v f (nth4 l a) (nth4 l b) = (decide (nth (row h a) b = 1), true) := by
  by_cases hc : mapB f = true ∧ ivsB l = true
  · rw [CoverGraph_yes hc] at e
    obtain ⟨hA, hl⟩ := hc
    obtain ⟨⟨l1, l8⟩, hiv⟩ := ivsB_true hl
    unfold cg_v at e
    cases hk : ckK f l l.length
    · rw [hk, if_neg (by decide)] at e; cases (Prod.mk.inj e).2
    · rw [hk, if_pos rfl] at e
      have hh := (Prod.mk.inj e).1
      have hlen : h.length = l.length := by rw [← hh, tab_len]
      refine ⟨graphB_yes ?_ ?_, hlen, ?_⟩
      · rw [hlen]; exact inB_true.2 (by omega)
      · intro i hi
        rw [hlen] at hi ⊢
        rw [← hh, tab_row hi]
        unfold rowB
        rw [lst_len, decide_eq_true rfl, Bool.true_and]
        exact allB_lst fun j hj => by unfold cvN; split <;> omega
      · intro a b ha hb
        rw [cvi_yes ⟨hA, hiv a ha, hiv b hb⟩]
        unfold covR
        have hka : imgOk f (nth4 l a).1 (nth4 l a).2 = true := by
          unfold ckK at hk
          rw [List.all_eq_true] at hk
          exact hk a (List.mem_range.2 ha)
        rw [if_pos hka, ← hh, tab_row ha, nth_lst hb]
        unfold cvN
        cases covB f (nth4 l a) (nth4 l b) <;> rfl
  · rw [CoverGraph_no hc] at e; cases (Prod.mk.inj e).2
end Go.Proofs.YtfhhofecfllbfaaGreat

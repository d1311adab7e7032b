/- The reference's reading of a number. No conditions but small sizes. -/
import Derived.Test.YtgpabfbnbmbmeaaGreatDoorTextC
namespace Go.Proofs.YtgpabfbnbmbmeaaGreatDoor
open Go.Shelf Go.RowKit

theorem rdL_snoc (l : Bytes) (c : UInt8) : rdL 0 (l ++ [c]) = 10 * rdL 0 l + (c.toNat - 48) := by simp [rdL]
set_option linter.unusedSimpArgs false in
set_option maxRecDepth 20000 in
set_option maxHeartbeats 2000000 in
theorem raRead_any (S : ByteArray) (s : Bytes) (hs : S.data.toList = s) (w : World) (hn : s.length ≤ 2097152) :
    Calls Tryz.prog 52 #[.string S] w fun e w' => e = .returned (.int .i64 (raRd s)) ∧ Below w.heap.size w w' := by
  have hsz : S.size = s.length := by rw [← hs]; exact Array.length_toList.symm
  have c1 := fun w' => l1In_any (s.length : Int) 1 10 w'
  obtain ⟨V, hV⟩ : ∃ V, raRd s = V := ⟨_, rfl⟩
  rw [hV]
  unfold raRd at hV
  by_cases hr : 1 ≤ s.length ∧ s.length ≤ 10
  rotate_left
  · rw [if_neg (fun q => hr q.1)] at hV
    rw [show inB (s.length : Int) 1 10 = false from inB_false.2 (by omega)] at c1
    subst hV
    obtain ⟨n, hn0⟩ : ∃ n, s.length = n := ⟨_, rfl⟩
    rw [hn0] at c1
    have hszn : S.size = n := hsz.trans hn0
    clear hsz hn hn0 hs hr
    have c1' := Lib.hid c1
    clear c1
    go_enter Tryz.func52, Tryz.ntmps52
    go_wp2_with fail
    refine (c1'.out _).mono ?_
    rintro e w_ ⟨rfl, rfl⟩
    go_wp2
    go_ret
    exact ⟨rfl, Below.refl _ _⟩
  rw [show inB (s.length : Int) 1 10 = true from inB_true.2 (by omega)] at c1
  have hb0 : ∀ (h : 0 < S.size), S[0] = s[0]'(by omega) := fun h => byte_at hs h (by omega)
  have hbt := fun k (h : k < S.size) (h2 : k < s.length) => byte_at hs h h2
  have hh : s.head? = some (s[0]'(by omega)) := by
    cases s with
    | nil => simp at hr
    | cons a b => rfl
  by_cases hz : s.head? = some 48 ∧ 1 < s.length
  · rw [if_neg (fun q => q.2.1 hz)] at hV
    subst hV
    have h48 : s[0]'(by omega) = 48 := by rw [hh] at hz; exact Option.some.inj hz.1
    rw [h48] at hb0
    obtain ⟨n, hn0⟩ : ∃ n, s.length = n := ⟨_, rfl⟩
    have hn1 : 1 < n := by rw [← hn0]; exact hz.2
    rw [hn0] at c1
    have hszn : S.size = n := hsz.trans hn0
    have hp0 : 0 < S.size := by omega
    have hq : (((S[0]'hp0).toNat : Int) == 48) = true := by rw [hb0 hp0]; rfl
    have hq1 : (1 : Int) < (n : Int) := by omega
    clear hbt hh hz h48 hb0
    clear hsz hn hn0 hs
    have c1' := Lib.hid c1
    clear c1
    go_enter Tryz.func52, Tryz.ntmps52
    go_wp2_with fail
    refine (c1'.out _).mono ?_
    rintro e w_ ⟨rfl, rfl⟩
    go_wp2
    go_ret
    exact ⟨rfl, Below.refl _ _⟩
  have hV1 : s.all isDig = true → V = (rdL 0 s : Int) := fun h => by rw [← hV, if_pos ⟨hr, hz, h⟩]
  have hV0 : s.all isDig = false → V = -1 := fun h => by rw [← hV, if_neg (fun q => by rw [q.2.2] at h; cases h)]
  have hst : ∀ k (h : k < s.length), s.take (k + 1) = s.take k ++ [s[k]] := fun k h => by rw [List.take_add_one, List.getElem?_eq_getElem h]; rfl
  have hbad : ∀ k (h : k < s.length), isDig s[k] = false → V = -1 := fun k h hb => hV0 (by rw [List.all_eq_false]; exact ⟨s[k], List.getElem_mem h, by rw [hb]; simp⟩)
  have hend : s.take s.length = s := List.take_length
  have h48 : ((s[0]'(by omega)).toNat : Int) = 48 → s.length = 1 := fun e => by
    have e2 : s[0]'(by omega) = 48 := UInt8.toNat_inj.1 (by have e3 : ((48 : UInt8).toNat : Int) = 48 := rfl; omega)
    rw [hh, e2] at hz
    have : ¬ 1 < s.length := fun q => hz ⟨rfl, q⟩
    omega
  obtain ⟨n, hn0⟩ : ∃ n, s.length = n := ⟨_, rfl⟩
  have hn1 : 1 ≤ n ∧ n ≤ 10 := by omega
  rw [hn0] at c1 hend
  have hszn : S.size = n := hsz.trans hn0
  have hp0 : 0 < S.size := by omega
  obtain ⟨z, hzz⟩ : ∃ z : UInt8, s[0]'(by omega) = z := ⟨_, rfl⟩
  have hS0 : S[0]'hp0 = z := (hb0 hp0).trans hzz
  rw [hzz] at h48
  rw [hn0] at h48
  clear hb0 hh hz hV hV0 hzz
  have hT0 : rdL 0 (s.take 0) = 0 := rfl
  have hA0 : (s.take 0).all isDig = true := rfl
  clear hsz hn
  have c1' := Lib.hid c1
  have hbt' := Lib.hid hbt
  have hst' := Lib.hid hst
  have hbad' := Lib.hid hbad
  have hend' := Lib.hid hend
  have hV1' := Lib.hid hV1
  have hn0' := Lib.hid hn0
  have hs' := Lib.hid hs
  have hT0' := Lib.hid hT0
  have hA0' := Lib.hid hA0
  clear c1 hbt hst hbad hend hV1 hn0 hs hT0 hA0
  -- from the loop on both ways are alike
  have main : ∀ (g : Bool), ((z.toNat : Int) == 48) = g → (g = true → ¬ (1 : Int) < (n : Int)) → Calls Tryz.prog 52 #[.string S] w fun e w' => e = .returned (.int .i64 V) ∧ Below w.heap.size w w' := by
    intro g hg hg1
    have hg1n : g = true → ¬ 1 < n := fun q => by have := hg1 q; omega
    cases g
    all_goals
      have q1 := hg1
      have q2 := hg1n
      simp only [forall_const, reduceCtorEq, false_implies] at q1 q2
      clear hg1 hg1n
      go_enter Tryz.func52, Tryz.ntmps52
      go_wp2_with fail
      refine (c1'.out _).mono ?_
      rintro e w_ ⟨rfl, rfl⟩
      go_wp2
      go_loopw [3, 4] (fun a i wr => ∃ k : Nat, k ≤ n ∧ i = .int .i64 k ∧ a = .int .i64 (rdL 0 (s.take k) : Nat) ∧ rdL 0 (s.take k) < 10 ^ k ∧ (s.take k).all isDig = true ∧ wr = w) (fun _ i _ => n - (intOf i).toNat)
      case atStart => exact ⟨0, Nat.zero_le _, rfl, rfl, by rw [hT0'.out]; decide, hA0'.out, rfl⟩
      case round =>
        obtain ⟨k, hk, rfl, rfl, hb, hd, rfl⟩ := hrel
        by_cases hlt : k < n
        · have h1 : (k : Int) < (n : Int) := by omega
          have hkS : k < S.size := by rw [hszn]; exact hlt
          have hks : k < s.length := by rw [hn0'.out]; exact hlt
          have hst1 := hst'.out k hks
          have hbd := hbad'.out k hks
          have hSk := hbt'.out k hkS hks
          obtain ⟨c, hc⟩ : ∃ c, s[k] = c := ⟨_, rfl⟩
          rw [hc] at hst1 hbd hSk
          have hpw : 10 ^ k ≤ 10 ^ 9 := Nat.pow_le_pow_right (by decide) (by omega)
          have hnx : rdL 0 (s.take (k + 1)) = 10 * rdL 0 (s.take k) + (c.toNat - 48) := by rw [hst1, rdL_snoc]
          have hdx : isDig c = true → (s.take (k + 1)).all isDig = true := fun q => by rw [hst1, List.all_append, hd, Bool.true_and]; simp [q]
          obtain ⟨X, hX⟩ : ∃ X, rdL 0 (s.take k) = X := ⟨_, rfl⟩
          rw [hX] at hb hnx ⊢
          have hX9 : X < 1000000000 := by omega
          have hpx : 10 ^ (k + 1) = 10 * 10 ^ k := by rw [Nat.pow_succ]; omega
          clear hc hst1 hX hd hpw
          by_cases hlo : c.toNat < 48
          · have hV2 := hbd (by simp [isDig]; omega)
            subst hV2
            have hlo1 : (c.toNat : Int) < 48 := by omega
            clear hbd hnx hdx hpx hb
            go_wp2
            go_ret
            exact ⟨rfl, Below.refl _ _⟩
          · by_cases hhi : 57 < c.toNat
            · have hV2 := hbd (by simp [isDig]; omega)
              subst hV2
              have hlo1 : ¬ (c.toNat : Int) < 48 := by omega
              have hhi1 : (57 : Int) < (c.toNat : Int) := by omega
              clear hbd hnx hdx hpx hb
              go_wp2
              go_ret
              exact ⟨rfl, Below.refl _ _⟩
            · have hdx1 := hdx (by simp [isDig]; omega)
              have hlo1 : ¬ (c.toNat : Int) < 48 := by omega
              have hhi1 : ¬ (57 : Int) < (c.toNat : Int) := by omega
              obtain ⟨d, hdd⟩ : ∃ d : Nat, c.toNat - 48 = d := ⟨_, rfl⟩
              have hd9 : d ≤ 9 := by omega
              have e1 : (c.toNat : Int) - 48 = (d : Int) := by omega
              rw [hdd] at hnx
              have hbn : rdL 0 (s.take (k + 1)) < 10 ^ (k + 1) := by rw [hnx, hpx]; omega
              have hnz : ((rdL 0 (s.take (k + 1)) : Nat) : Int) = 10 * (X : Int) + (d : Int) := by rw [hnx]; push_cast; rfl
              clear hbd hdx hpx hb hnx hdd
              have hdx1' := Lib.hid hdx1
              have hbn' := Lib.hid hbn
              have hnz' := Lib.hid hnz
              clear hdx1 hbn hnz
              go_wp2
              go_roundw
              case rel => exact ⟨k + 1, by omega, by go_num, by rw [hnz'.out], hbn'.out, hdx1'.out, trivial⟩
              case measure => simp [intOf]; omega
        · have h1 : ¬ (k : Int) < (n : Int) := by omega
          obtain rfl : k = n := by omega
          rw [hend'.out] at hd ⊢
          have hV2 := hV1'.out hd
          subst hV2
          clear hb hd
          go_wp2
          go_ret
          exact ⟨rfl, Below.refl _ _⟩
  by_cases hz8 : (z.toNat : Int) = 48
  · exact main true (by rw [hz8]; rfl) (fun _ => by have := h48 hz8; omega)
  · exact main false (by rw [beq_eq_false_iff_ne]; exact hz8) (fun q => by cases q)
end Go.Proofs.YtgpabfbnbmbmeaaGreatDoor

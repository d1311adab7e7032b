/- The graph the other way round, a further arrow: the reference's walks and the program's. -/
import Derived.Test.YtblippeklbhepaaTabs
namespace Go.Proofs.Ytblippeklbhepaa
open Go.RowKit

theorem RetM.ob {n m : Nat} {f : Nat → Nat → Int} {w : World} {e : Ending} {w' : World} {g cap : Nat} {rb rc : Nat → Nat} (h : MatT w' w.heap.size w'.heap.size g n cap m rb rc f) (hB : Below w.heap.size w w') (he : e = .returned (.tuple #[.slice (some ⟨g, 0, none⟩) n cap, .bool true])) : RetOB OwnSS (tab n m f, true) w e w' :=
  ⟨_, he, h.own, hB⟩

/-- What both ReverseGraph functions return. -/
def ReverseGraph_v (g : List (List Int)) : List (List Int) × Bool := if graphB g = true then (tab g.length g.length (fun i j => ent g j i), true) else ([], false)
theorem ReverseGraph_no {g : List (List Int)} (h : graphB g = false) : ReverseGraph_v g = ([], false) := by simp [ReverseGraph_v, h]
theorem ReverseGraph_yes {g : List (List Int)} (h : graphB g = true) : ReverseGraph_v g = (tab g.length g.length (fun i j => ent g j i), true) := by simp [ReverseGraph_v, h]
theorem ReverseGraph_len (g : List (List Int)) : szIntSS (ReverseGraph_v g).1 ≤ 1099511627776 := by
  cases h : graphB g
  · rw [ReverseGraph_no h]; exact Nat.zero_le _
  · rw [ReverseGraph_yes h, sz_tab]
    have h2 := (graphB_sz h).2
    have : g.length * g.length ≤ 8 * 8 := Nat.mul_le_mul h2 h2
    omega

set_option maxHeartbeats 400000 in
theorem grBack_any (v : Value) (g : List (List Int)) (n : Nat) (w : World) (hv : RowsV w v g) (hg : graphB g = true) (hn : g.length = n) :
    Calls Try.prog 77 #[v] w (RetM n n (fun i j => ent g j i) w) := by
  obtain ⟨b, off, gcap, ro, rof, rcc, rfl, H⟩ := hv.graph hg hn
  obtain ⟨n1, n8, -, -⟩ := graphB_true hg
  rw [hn] at n1 n8
  have H' := Lib.hid H
  have hn' := Lib.hid hn
  have hg' := Lib.hid hg
  clear H hn hg
  clear hv
  go_enter Try.func77, Try.ntmps77
  go_wp2
  go_loopw [3, 9] (fun o i wr => ∃ (k : Nat) (rb rc : Nat → Nat), k ≤ n ∧ i = .int .i64 k ∧ GrowT wr w.heap.size wr.heap.size o k n rb rc (fun i j => ent g j i) ∧ Below w.heap.size w wr) (fun _ i _ => n - (intOf i).toNat)
  case atStart => exact ⟨0, fun _ => 0, fun _ => 0, Nat.zero_le _, rfl, GrowT.nil _ _ _ _ _ _ _, Below.refl _ _⟩
  case round =>
    obtain ⟨k, rb, rc, hk, rfl, hp, hB⟩ := hrel
    obtain ⟨wo, rfl⟩ : ∃ wo : World, wo = wr := ⟨_, rfl⟩
    by_cases hlt : k < n
    · have hp' := Lib.hid hp
      clear hp
      go_wp2
      go_loopw [5, 14] (fun o i wr => ∃ (j : Nat), j ≤ n ∧ i = .int .i64 j ∧ Grow wr wo.heap.size o (lst j fun c => ent g c k) ∧ Below wo.heap.size wo wr) (fun _ i _ => n - (intOf i).toNat)
      case atStart => exact ⟨0, Nat.zero_le _, rfl, Grow.nil _ _, Below.refl _ _⟩
      case round =>
        obtain ⟨j, hj, rfl, hr, hB2⟩ := hrel
        obtain ⟨wi, rfl⟩ : ∃ wi : World, wi = wr := ⟨_, rfl⟩
        have hB3 := hB.trans (hB2.mono hB.size)
        by_cases hlt2 : j < n
        · obtain ⟨h1, -, h3⟩ := H'.out.below hB3 j hlt2
          have h4 := h3 k hlt
          have hsz := hB2.size
          clear h3
          go_wp2_with (at_builtin; refine wpList_append_int rfl _ _ rfl wo.heap.size u5 (lst j fun c => ent g c k) (ent g j k) _ rfl rfl hr (by rw [lst_len]; omega) hsz ?_)
          intro v' w' hg' hgrow
          rw [← lst_succ] at hg'
          have hB4 := hr.belowB hB2 (Nat.le_refl _) hsz hgrow
          clear hr
          go_wp2
          go_roundw
          case rel => exact ⟨j + 1, by omega, by go_num, hg', hB4⟩
          case measure => simp [intOf]; omega
        · obtain rfl : n = j := by omega
          obtain ⟨r, c, rfl, hr1⟩ := hr.form (by rw [lst_len]; omega)
          rw [lst_len] at hr1 ⊢
          have hr2 := hr1.mono hB.size
          have hr3 := hr1.lt.1
          have hp2 := hp'.out.kept hB2
          have hs3 := hB3.size
          clear hr hr1
          go_wp2_with (at_builtin; refine wpList_append_row rfl _ _ rfl w.heap.size _ _ k n r c _ _ _ _ _ rfl rfl hp2 hr2 hr3 (by omega) hs3 ?_)
          intro v' w3 hp3 hg3
          have hB4 : Below w.heap.size w w3 := hB3.grown hg3 hs3 (fun j hj => by have := (World.ownsRow.lt hp2.outer j hj).1; omega)
          have hp3' := Lib.hid hp3
          have hB4' := Lib.hid hB4
          clear hp3 hB4
          clear hg3 hp2 hr2 hB3
          go_wp2
          go_roundw
          case rel => exact ⟨k + 1, _, _, by omega, by go_num, (hp3'.out).congr (fun i j _ _ => by split <;> (try subst_vars) <;> rfl), hB4'.out⟩
          case measure => simp [intOf]; omega
    · obtain rfl : k = n := by omega
      obtain ⟨gg, cap, rfl, hall⟩ := hp.form n1
      clear hp
      go_wp2
      go_ret
      exact ⟨_, _, _, _, rfl, hall, hB⟩

theorem specReverseGraph_any (v : Value) (g : List (List Int)) (w : World) (hv : RowsV w v g) (hm : szIntSS g ≤ 1099511627776) :
    Calls Try.prog 15 #[v] w (RetOB OwnSS (ReverseGraph_v g) w) := by
  have c1 := grGood_any v g w hv hm
  have c1' := Lib.hid c1
  clear c1
  cases h : graphB g
  · rw [h] at c1'
    rw [ReverseGraph_no h]
    clear h hv
    go_enter Try.func15, Try.ntmps15
    go_wp2_with fail
    refine (c1'.out).mono ?_
    rintro e w_ ⟨rfl, rfl⟩
    go_wp2
    go_ret2
    exact ⟨_, rfl, OwnSS.nil _ _ _, Below.refl _ _⟩
  · rw [h] at c1'
    rw [ReverseGraph_yes h]
    have c2 := grBack_any v g _ w hv h rfl
    have c2' := Lib.hid c2
    clear c2
    clear h hv
    go_enter Try.func15, Try.ntmps15
    go_wp2_with fail
    refine (c1'.out).mono ?_
    rintro e w_ ⟨rfl, rfl⟩
    go_wp2_with fail
    refine (c2'.out).mono ?_
    rintro e w2 ⟨gg, cap, rb, rc, rfl, hM, hB⟩
    have hM' := Lib.hid hM
    clear hM
    go_wp2
    go_ret2
    exact RetM.ob hM'.out hB rfl

set_option maxHeartbeats 800000 in
theorem implReverseGraph_any (v : Value) (g : List (List Int)) (w : World) (hv : RowsV w v g) (hm : szIntSS g ≤ 1099511627776) :
    Calls Try.prog 14 #[v] w (RetOB OwnSS (ReverseGraph_v g) w) := by
  have c1 := isGraph_any v g w hv hm
  have c1' := Lib.hid c1
  clear c1
  cases h : graphB g
  · rw [h] at c1'
    rw [ReverseGraph_no h]
    clear h hv
    go_enter Try.func14, Try.ntmps14
    go_wp2_with fail
    refine (c1'.out).mono ?_
    rintro e w1 ⟨rfl, hB⟩
    go_wp2
    go_ret2
    exact ⟨_, rfl, OwnSS.nil _ _ _, hB⟩
  · rw [h] at c1'
    rw [ReverseGraph_yes h]
    obtain ⟨n, hn⟩ : ∃ n, g.length = n := ⟨_, rfl⟩
    obtain ⟨b, off, gcap, ro, rof, rcc, rfl, H⟩ := hv.graph h hn
    obtain ⟨n1, n8, -, -⟩ := graphB_true h
    rw [hn] at n1 n8 ⊢
    have H' := Lib.hid H
    have hn' := Lib.hid hn
    have h' := Lib.hid h
    clear H hn h
    clear hv
    go_enter Try.func14, Try.ntmps14
    go_wp2_with fail
    refine (c1'.out).mono ?_
    rintro e w1 ⟨rfl, hB1⟩
    go_wp2_with fail
    refine (emptyGraph_any n _ (by omega) n1).mono ?_
    rintro e w2 ⟨gg, cap, rb, rc, rfl, hM, hB2⟩
    have hB := hB1.trans (hB2.mono hB1.size)
    replace hM := hM.mono hB1.size (Nat.le_refl _)
    clear c1' hB1 hB2
    have hM' := Lib.hid hM
    clear hM
    go_wp2
    go_loopw [17] (fun i wr => ∃ k : Nat, k ≤ n ∧ i = .int .i64 k ∧ MatT wr w.heap.size w2.heap.size gg n cap n rb rc (fun a c => if c < k then ent g c a else 0) ∧ Turned w.heap.size w2.heap.size w2 wr) (fun i _ => n - (intOf i).toNat)
    case atStart => exact ⟨0, Nat.zero_le _, rfl, hM'.out.congr (fun i j _ _ => by rw [if_neg (Nat.not_lt_zero _)]), Turned.refl _ _ _⟩
    case round =>
      obtain ⟨k, hk, rfl, hM2, ht⟩ := hrel
      clear hM'
      by_cases hlt : k < n
      · have hBr := hB.trans ht.below
        have Hk := H'.out.below hBr k hlt
        have h1 := Hk.1
        have hM2' := Lib.hid hM2
        have Hk' := Lib.hid Hk
        clear hM2 Hk
        go_wp2
        go_loopw [24] (fun i wr => ∃ j : Nat, j ≤ n ∧ i = .int .i64 j ∧ MatT wr w.heap.size w2.heap.size gg n cap n rb rc (fun a c => if c < k ∨ (c = k ∧ a < j) then ent g c a else 0) ∧ Turned w.heap.size w2.heap.size w2 wr) (fun i _ => n - (intOf i).toNat)
        case atStart => exact ⟨0, Nat.zero_le _, rfl, hM2'.out.congr (fun i j _ _ => by simp), ht⟩
        case round =>
          obtain ⟨j, hj, rfl, hM3, ht3⟩ := hrel
          clear hM2'
          by_cases hlt2 : j < n
          · have h4 := (H'.out.below (hB.trans ht3.below) k hlt).2.2 j hlt2
            have h5 := hM3.ptr hlt2
            have h6 := hM3.cell hlt2 hlt
            have h7 := hM3.frozen hlt2 k
            have hst := hM3.stored hlt2 k (ent g k j)
            have ht4 := hM3.turn hlt2 k (ent g k j) ht3
            have hst' := Lib.hid hst
            have ht4' := Lib.hid ht4
            clear hst ht4
            clear hM3 Hk' h1
            go_wp2
            go_roundw
            case rel => exact ⟨j + 1, by omega, by go_num, hst'.out.congr (fun a c _ _ => by
              simp only [upd]
              by_cases e : a = j ∧ c = k
              · rw [if_pos e, if_pos (by omega), e.1, e.2]
              · rw [if_neg e]
                by_cases e2 : c < k ∨ c = k ∧ a < j
                · rw [if_pos e2, if_pos (by omega)]
                · rw [if_neg e2, if_neg (by omega)]), ht4'.out⟩
            case measure => simp [intOf]; omega
          · obtain rfl : n = j := by omega
            go_wp2
            go_roundw
            case rel => exact ⟨k + 1, by omega, by go_num, hM3.congr (fun a c ha _ => by
              by_cases e : c < k + 1
              · rw [if_pos e, if_pos (by omega)]
              · rw [if_neg e, if_neg (by omega)]), ht3⟩
            case measure => simp [intOf]; omega
      · obtain rfl : n = k := by omega
        have hfin := hM2.congr (f' := fun i j => ent g j i) (fun a c _ hc => by rw [if_pos hc])
        have hsz := ht.size
        have hBr := hB.trans ht.below
        have hfin' := Lib.hid hfin
        clear hfin
        clear hM2
        go_wp2
        go_ret2
        exact RetM.ob (hfin'.out.mono (Nat.le_refl _) (by omega)) hBr rfl

end Go.Proofs.Ytblippeklbhepaa

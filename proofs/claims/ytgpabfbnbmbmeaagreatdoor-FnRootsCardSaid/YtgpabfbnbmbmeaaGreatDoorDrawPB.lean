/- A drawn polynomial, its numbers told to be small. No conditions but a readable code. -/
import Derived.Test.YtgpabfbnbmbmeaaGreatDoorDrawP
import Derived.Test.YtgpabfbnbmbmeaaGreatDoorPkB
namespace Go.Proofs.YtgpabfbnbmbmeaaGreatDoor
open Go.RowKit

def PicksB (c N : Nat) (w : World) (e : Ending) (w' : World) : Prop := ∃ v xs, e = .returned v ∧ IntsV w' v xs ∧ xs.length ≤ 9 ∧ (∀ n ∈ xs, -1000000 ≤ n ∧ n ≤ 1000000) ∧ CurAt w' c N ∧ w.grownBy w' (some c)
theorem trimZ_mem {xs : List Int} {n : Int} (h : n ∈ trimZ xs) : n ∈ xs := by
  unfold trimZ at h
  exact List.mem_of_mem_take h
set_option maxHeartbeats 2000000 in
theorem polyBd_any (c N : Nat) (w : World) (h : CurAt w c N) (hN : N ≤ 1000000) :
    Calls Tryz.prog 47 #[.pointer (some ⟨c, 0, none⟩)] w (PicksB c (N + 100) w) := by
  have c1 := pick_any c N 6 w h (by omega) (by omega) (by omega)
  have hlt := h.lt
  have c1' := Lib.hid c1
  clear c1
  clear h
  go_enter Tryz.func47, Tryz.ntmps47
  go_wp2_with fail
  refine (c1'.out).mono ?_
  rintro e w1 ⟨v, rfl, ⟨n, rfl, hn⟩, hc1, hg1⟩
  go_wp2_with fail
  refine (one_any c (N + 2) 8 w1 hc1 (by omega) (by omega) (by omega)).mono ?_
  rintro e w2 ⟨v, rfl, ⟨b, rfl⟩, hc2, hg2⟩
  have hg := hg1.trans hg2
  clear hc1 hg1 hg2 c1'
  cases b
  · have hc2' := Lib.hid hc2
    have hg' := Lib.hid hg
    clear hc2 hg
    go_wp2
    go_loopw [4] (fun o wr => ∃ xs : List Int, xs.length ≤ n ∧ (∀ n ∈ xs, -1000000 ≤ n ∧ n ≤ 1000000) ∧ Grow wr w.heap.size o xs ∧ CurAt wr c (N + 4 + 6 * xs.length) ∧ w.grownBy wr (some c)) (fun o _ => n - lenOf o)
    case atStart => exact ⟨[], Nat.zero_le _, (fun _ h => by cases h), Grow.nil _ _, hc2'.out, hg'.out⟩
    case round =>
      obtain ⟨xs, hl, hbd, ho, hc, hg⟩ := hrel
      obtain ⟨wo, rfl⟩ : ∃ wo : World, wo = wr := ⟨_, rfl⟩
      obtain ⟨ao, cap, rfl⟩ := ho.shape
      obtain ⟨k, hk⟩ : ∃ k, xs.length = k := ⟨_, rfl⟩
      rw [hk] at hl hc ho ⊢
      have hsz := hg.size
      have hk' := Lib.hid hk
      have ho' := Lib.hid ho
      have hg' := Lib.hid hg
      have hbd' := Lib.hid hbd
      clear hk ho hg hbd
      by_cases hkm : k < n
      · go_wp2_with fail
        refine (pick_any c _ 41 wo hc (by omega) (by omega) (by omega)).mono ?_
        rintro e w3 ⟨v, rfl, ⟨x, rfl, hx⟩, hc3, hg3⟩
        go_wp2_with fail
        refine (among_list c _ [1000, 1000000, -1000000] w3 3 hc3 (by omega) rfl (by omega) (by omega)).mono ?_
        rintro e w4 ⟨v, rfl, ⟨y, rfl, hy⟩, hc4, hg4⟩
        go_wp2_with fail
        refine (among_list c _ [0, 1, -1, 2, -3, 5, (x : Int) - 20, y] w4 8 hc4 (by omega) rfl (by omega) (by omega)).mono ?_
        rintro e w5 ⟨v, rfl, ⟨z, rfl, hz⟩, hc5, hg5⟩
        have hgg := hg3.trans (hg4.trans hg5)
        have hbz : ∀ n ∈ xs ++ [z], -1000000 ≤ n ∧ n ≤ 1000000 := fun n hn => by
          rcases List.mem_append.1 hn with h | h
          · exact hbd'.out n h
          · rw [List.mem_singleton] at h
            subst h
            simp at hy hz
            omega
        have hbz' := Lib.hid hbz
        clear hbz
        have ho5 := ho'.out.kept hgg (fun g e => by cases e; exact hlt)
        have hg6 := hg'.out.trans hgg
        have hl9 : xs.length ≤ 1099511627776 := by rw [hk'.out]; omega
        have hsz5 := hg6.size
        have hl9' := Lib.hid hl9
        have hy' := Lib.hid hy
        have hz' := Lib.hid hz
        have hgg' := Lib.hid hgg
        have hg3' := Lib.hid hg3
        have hg4' := Lib.hid hg4
        have hg5' := Lib.hid hg5
        clear hl9 hy hz hgg hg3 hg4 hg5
        go_wp2_with (at_builtin; refine wpList_append_int rfl _ _ rfl w.heap.size (.slice ao k cap) xs z _ rfl rfl ho5 hl9'.out hsz5 ?_)
        intro v' w' hg' hgrow
        have hb5 := ho5.block
        have hc7 := hc5.kept hgrow (fun g e => Nat.lt_of_lt_of_le hlt (hb5 g e))
        have hg7 := grown_new hg6 hgrow (fun g e => hb5 g e)
        have hk1 : (xs ++ [z]).length = k + 1 := by rw [List.length_append, hk'.out]; rfl
        obtain ⟨ao', cap', rfl⟩ := hg'.shape
        have hk1' := Lib.hid hk1
        have hgrow' := Lib.hid hgrow
        clear hk1 hgrow
        go_wp2
        go_roundw
        case rel => exact ⟨xs ++ [z], by rw [hk1'.out]; omega, hbz'.out, hg', by rw [hk1'.out]; exact hc7.mono (by omega), hg7⟩
        case measure => show n - (xs ++ [z]).length < n - k; rw [hk1'.out]; omega
      · have hr := ho'.out.read
        have hl9 : xs.length ≤ 9 := by rw [hk'.out]; omega
        have hl9' := Lib.hid hl9
        clear hl9
        go_wp2_with fail
        refine (poTrim_any _ xs wo hr (by have := hl9'.out; omega)).mono ?_
        rintro e w3 ⟨v, rfl, hy, hB⟩
        have hg8 := grown_below hg'.out hB hsz
        have hc8 := hc.below hB (by omega)
        have hrr := hy.read
        have htl := trimZ_len xs
        have htm : ∀ n ∈ trimZ xs, -1000000 ≤ n ∧ n ≤ 1000000 := fun n hn => hbd'.out n (trimZ_mem hn)
        have htl' := Lib.hid htl
        have htm' := Lib.hid htm
        clear htl htm
        go_wp2
        go_ret
        exact ⟨_, trimZ xs, rfl, hrr, Nat.le_trans htl'.out hl9'.out, htm'.out, hc8.mono (by omega), hg8⟩
  · have hc2' := Lib.hid hc2
    have hg' := Lib.hid hg
    clear hc2 hg
    go_wp2
    go_loopw [4] (fun o wr => ∃ xs : List Int, xs.length ≤ 9 ∧ (∀ n ∈ xs, -1000000 ≤ n ∧ n ≤ 1000000) ∧ Grow wr w.heap.size o xs ∧ CurAt wr c (N + 4 + 6 * xs.length) ∧ w.grownBy wr (some c)) (fun o _ => 9 - lenOf o)
    case atStart => exact ⟨[], Nat.zero_le _, (fun _ h => by cases h), Grow.nil _ _, hc2'.out, hg'.out⟩
    case round =>
      obtain ⟨xs, hl, hbd, ho, hc, hg⟩ := hrel
      obtain ⟨wo, rfl⟩ : ∃ wo : World, wo = wr := ⟨_, rfl⟩
      obtain ⟨ao, cap, rfl⟩ := ho.shape
      obtain ⟨k, hk⟩ : ∃ k, xs.length = k := ⟨_, rfl⟩
      rw [hk] at hl hc ho ⊢
      have hsz := hg.size
      have hk' := Lib.hid hk
      have ho' := Lib.hid ho
      have hg' := Lib.hid hg
      have hbd' := Lib.hid hbd
      clear hk ho hg hbd
      by_cases hkm : k < 9
      · go_wp2_with fail
        refine (pick_any c _ 41 wo hc (by omega) (by omega) (by omega)).mono ?_
        rintro e w3 ⟨v, rfl, ⟨x, rfl, hx⟩, hc3, hg3⟩
        go_wp2_with fail
        refine (among_list c _ [1000, 1000000, -1000000] w3 3 hc3 (by omega) rfl (by omega) (by omega)).mono ?_
        rintro e w4 ⟨v, rfl, ⟨y, rfl, hy⟩, hc4, hg4⟩
        go_wp2_with fail
        refine (among_list c _ [0, 1, -1, 2, -3, 5, (x : Int) - 20, y] w4 8 hc4 (by omega) rfl (by omega) (by omega)).mono ?_
        rintro e w5 ⟨v, rfl, ⟨z, rfl, hz⟩, hc5, hg5⟩
        have hgg := hg3.trans (hg4.trans hg5)
        have hbz : ∀ n ∈ xs ++ [z], -1000000 ≤ n ∧ n ≤ 1000000 := fun n hn => by
          rcases List.mem_append.1 hn with h | h
          · exact hbd'.out n h
          · rw [List.mem_singleton] at h
            subst h
            simp at hy hz
            omega
        have hbz' := Lib.hid hbz
        clear hbz
        have ho5 := ho'.out.kept hgg (fun g e => by cases e; exact hlt)
        have hg6 := hg'.out.trans hgg
        have hl9 : xs.length ≤ 1099511627776 := by rw [hk'.out]; omega
        have hsz5 := hg6.size
        have hl9' := Lib.hid hl9
        have hy' := Lib.hid hy
        have hz' := Lib.hid hz
        have hgg' := Lib.hid hgg
        have hg3' := Lib.hid hg3
        have hg4' := Lib.hid hg4
        have hg5' := Lib.hid hg5
        clear hl9 hy hz hgg hg3 hg4 hg5
        go_wp2_with (at_builtin; refine wpList_append_int rfl _ _ rfl w.heap.size (.slice ao k cap) xs z _ rfl rfl ho5 hl9'.out hsz5 ?_)
        intro v' w' hg' hgrow
        have hb5 := ho5.block
        have hc7 := hc5.kept hgrow (fun g e => Nat.lt_of_lt_of_le hlt (hb5 g e))
        have hg7 := grown_new hg6 hgrow (fun g e => hb5 g e)
        have hk1 : (xs ++ [z]).length = k + 1 := by rw [List.length_append, hk'.out]; rfl
        obtain ⟨ao', cap', rfl⟩ := hg'.shape
        have hk1' := Lib.hid hk1
        have hgrow' := Lib.hid hgrow
        clear hk1 hgrow
        go_wp2
        go_roundw
        case rel => exact ⟨xs ++ [z], by rw [hk1'.out]; omega, hbz'.out, hg', by rw [hk1'.out]; exact hc7.mono (by omega), hg7⟩
        case measure => show 9 - (xs ++ [z]).length < 9 - k; rw [hk1'.out]; omega
      · have hr := ho'.out.read
        have hl9 : xs.length ≤ 9 := by rw [hk'.out]; omega
        have hl9' := Lib.hid hl9
        clear hl9
        go_wp2_with fail
        refine (poTrim_any _ xs wo hr (by have := hl9'.out; omega)).mono ?_
        rintro e w3 ⟨v, rfl, hy, hB⟩
        have hg8 := grown_below hg'.out hB hsz
        have hc8 := hc.below hB (by omega)
        have hrr := hy.read
        have htl := trimZ_len xs
        have htm : ∀ n ∈ trimZ xs, -1000000 ≤ n ∧ n ≤ 1000000 := fun n hn => hbd'.out n (trimZ_mem hn)
        have htl' := Lib.hid htl
        have htm' := Lib.hid htm
        clear htl htm
        go_wp2
        go_ret
        exact ⟨_, trimZ xs, rfl, hrr, Nat.le_trans htl'.out hl9'.out, htm'.out, hc8.mono (by omega), hg8⟩

end Go.Proofs.YtgpabfbnbmbmeaaGreatDoor

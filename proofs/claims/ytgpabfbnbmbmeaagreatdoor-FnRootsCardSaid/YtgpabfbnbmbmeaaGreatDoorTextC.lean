/- The reference's cutting of a text at blanks. No conditions but small sizes. -/
import Derived.Test.YtgpabfbnbmbmeaaGreatDoorTextJ
namespace Go.Proofs.YtgpabfbnbmbmeaaGreatDoor
open Go.Shelf Go.RowKit

def lastW (s : Bytes) : Bytes := (words s).getLast?.getD []
theorem words_last (s : Bytes) : (words s).dropLast ++ [lastW s] = words s := by
  have h := words_ne s
  unfold lastW
  rw [List.getLast?_eq_some_getLast h, Option.getD_some]
  exact List.dropLast_concat_getLast h
theorem words_blank (s : Bytes) : (words (s ++ [32])).dropLast = words s ∧ lastW (s ++ [32]) = [] := by
  have e : words (s ++ [32]) = words s ++ [[]] := by
    unfold words
    rw [cut32_snoc, if_pos rfl]
  unfold lastW
  rw [e]
  simp
theorem words_sign (s : Bytes) (c : UInt8) (h : c ≠ 32) : (words (s ++ [c])).dropLast = (words s).dropLast ∧ lastW (s ++ [c]) = lastW s ++ [c] := by
  have e : words (s ++ [c]) = (words s).dropLast ++ [lastW s ++ [c]] := by
    unfold words lastW
    rw [cut32_snoc, if_neg h]
    rfl
  have e2 : lastW (s ++ [c]) = (words (s ++ [c])).getLast?.getD [] := rfl
  rw [e2, e]
  simp
theorem ext_list {S : ByteArray} {s : Bytes} (hs : S.data.toList = s) (j k : Nat) : S.extract j k = ⟨((s.take k).drop j).toArray⟩ := by
  apply ByteArray.ext
  apply Array.ext'
  rw [ByteArray.data_extract, Array.toList_extract, hs]
  simp [List.drop_take]
theorem byte_at {S : ByteArray} {s : Bytes} (hs : S.data.toList = s) {k : Nat} (h : k < S.size) (h2 : k < s.length) : S[k] = s[k] := by
  subst hs
  rfl

set_option linter.unusedSimpArgs false in
set_option maxRecDepth 20000 in
set_option maxHeartbeats 2000000 in
theorem l1Split_any (S : ByteArray) (s : Bytes) (hs : S.data.toList = s) (w : World) (hn : s.length ≤ 1048576) :
    Calls Tryz.prog 51 #[.string S, .int .u8 32] w fun e w' => ∃ v, e = .returned v ∧ GrowS w' w.heap.size v (words s) ∧ Below w.heap.size w w' := by
  have hsz : S.size = s.length := by rw [← hs]; exact Array.length_toList.symm
  have hbt := fun k (h : k < S.size) (h2 : k < s.length) => byte_at hs h h2
  have hex := ext_list hs
  have hjn := words_last
  have hst : ∀ k (h : k < s.length), s.take (k + 1) = s.take k ++ [s[k]] := fun k h => by rw [List.take_add_one, List.getElem?_eq_getElem h]; rfl
  have hwl : ∀ k, (words (s.take k)).dropLast.length ≤ 1048577 := fun k => by
    have h1 := (cut32_len (s.take k) []).2
    have h2 : (s.take k).length ≤ s.length := by rw [List.length_take]; omega
    unfold words
    rw [List.length_dropLast]
    omega
  have hend : s.take s.length = s := List.take_length
  obtain ⟨n, hn0⟩ : ∃ n, s.length = n := ⟨_, rfl⟩
  rw [hn0] at hn hend
  have hszn : S.size = n := hsz.trans hn0
  clear hsz
  have h0 : (words (s.take 0)).dropLast = [] := rfl
  have h00 : lastW (s.take 0) = [] := rfl
  have hbt' := Lib.hid hbt
  have hex' := Lib.hid hex
  have hjn' := Lib.hid hjn
  have hst' := Lib.hid hst
  have hwl' := Lib.hid hwl
  have hend' := Lib.hid hend
  have hn0' := Lib.hid hn0
  have h0' := Lib.hid h0
  have h00' := Lib.hid h00
  have hs' := Lib.hid hs
  clear hbt hex hjn hst hwl hend hn0 h0 h00 hs
  go_enter Tryz.func51, Tryz.ntmps51
  go_wp2
  go_loopw [5, 6, 7] (fun o f i wr => ∃ k j : Nat, k ≤ n ∧ j ≤ k ∧ f = .int .i64 j ∧ i = .int .i64 k ∧ GrowS wr w.heap.size o (words (s.take k)).dropLast ∧ (s.take k).drop j = lastW (s.take k) ∧ Below w.heap.size w wr) (fun _ _ i _ => n - (intOf i).toNat)
  case atStart => exact ⟨0, 0, Nat.zero_le _, Nat.le_refl _, rfl, rfl, by rw [h0'.out]; exact GrowS.nil _ _, by rw [h00'.out]; rfl, Below.refl _ _⟩
  case round =>
    obtain ⟨k, j, hk, hj, rfl, rfl, hg, hl, hB⟩ := hrel
    by_cases hlt : k < n
    · have h1 : (k : Int) < (n : Int) := by omega
      have hkS : k < S.size := by rw [hszn]; exact hlt
      have hks : k < s.length := by rw [hn0'.out]; exact hlt
      have hb := hbt'.out k hkS hks
      have hst1 := hst'.out k hks
      by_cases hc : s[k] = 32
      · have hc2 : (((S[k]).toNat : Int) == 32) = true := by rw [hb, hc]; rfl
        have hx := hex'.out j k
        obtain ⟨P, hP⟩ : ∃ P, (s.take k).drop j = P := ⟨_, rfl⟩
        rw [hP] at hx hl
        rw [hc] at hst1
        obtain ⟨e1, e2⟩ := words_blank (s.take k)
        rw [← hst1] at e1 e2
        have hjn1 := hjn'.out (s.take k)
        rw [← hl] at hjn1
        have hwl1 := hwl'.out k
        have hsr := hB.size
        have hkk : k ≤ k + 1 := by omega
        have hdr : (s.take (k + 1)).drop (k + 1) = lastW (s.take (k + 1)) := by
          rw [e2, List.drop_eq_nil_iff, List.length_take]
          omega
        clear hb hst1 hc hP e2 hl
        generalize (words (s.take k)).dropLast = DL at *
        generalize words (s.take k) = WK at *
        have hg' := Lib.hid hg
        have hB' := Lib.hid hB
        have hjn1' := Lib.hid hjn1
        have hwl1' := Lib.hid hwl1
        have e1' := Lib.hid e1
        have hdr' := Lib.hid hdr
        clear hg hB hjn1 hwl1 e1 hdr
        go_wp2_with (at_builtin; refine wpList_append_str rfl _ _ rfl w.heap.size u5 DL P _ rfl rfl hg'.out (by have := hwl1'.out; omega) hsr ?_)
        intro v' w' hown hgrow
        have hbf := hg'.out.belowB hB'.out (Nat.le_refl _) hsr hgrow
        rw [hjn1'.out, ← e1'.out] at hown
        clear hgrow
        have hown' := Lib.hid hown
        have hbf' := Lib.hid hbf
        clear hown hbf
        go_wp2
        go_roundw
        case rel => exact ⟨k + 1, k + 1, by omega, by omega, by go_num, by go_num, hown'.out, hdr'.out, hbf'.out⟩
        case measure => simp [intOf]; omega
      · have hc2 : (((S[k]).toNat : Int) == 32) = false := by
          rw [hb, beq_eq_false_iff_ne]
          intro e
          apply hc
          apply UInt8.toNat_inj.1
          have : (s[k].toNat : Int) = ((32 : UInt8).toNat : Int) := e
          omega
        obtain ⟨e1, e2⟩ := words_sign (s.take k) s[k] hc
        rw [← hst1] at e1 e2
        have hdr : (s.take (k + 1)).drop j = lastW (s.take (k + 1)) := by
          rw [e2, hst1, List.drop_append_of_le_length (by rw [List.length_take]; omega), hl]
        rw [← e1] at hg
        clear hb hst1 hc e1 e2 hl
        have hg' := Lib.hid hg
        have hB' := Lib.hid hB
        have hdr' := Lib.hid hdr
        clear hg hB hdr
        go_wp2
        go_roundw
        case rel => exact ⟨k + 1, j, by omega, by omega, rfl, by go_num, hg'.out, hdr'.out, hB'.out⟩
        case measure => simp [intOf]; omega
    · have h1 : ¬ (k : Int) < (n : Int) := by omega
      obtain rfl : k = n := by omega
      have hx := hex'.out j k
      obtain ⟨P, hP⟩ : ∃ P, (s.take k).drop j = P := ⟨_, rfl⟩
      rw [hP] at hx hl
      have hjn1 := hjn'.out (s.take k)
      rw [← hl] at hjn1
      have hwl1 := hwl'.out k
      have hsr := hB.size
      rw [hend'.out] at hjn1 hg hwl1
      clear hP hl hlt
      have hg' := Lib.hid hg
      have hB' := Lib.hid hB
      have hjn1' := Lib.hid hjn1
      have hwl1' := Lib.hid hwl1
      clear hg hB hjn1 hwl1
      go_wp2_with (at_builtin; refine wpList_append_str rfl _ _ rfl w.heap.size u5 (words s).dropLast P _ rfl rfl hg'.out (by have := hwl1'.out; omega) hsr ?_)
      intro v' w' hown hgrow
      have hbf := hg'.out.belowB hB'.out (Nat.le_refl _) hsr hgrow
      rw [hjn1'.out] at hown
      obtain ⟨rfl | ⟨g9, cap9, cur9, rfl, -⟩, -⟩ : (v' = .slice none 0 0 ∨ ∃ g cap cur, v' = .slice (some ⟨g, 0, none⟩) (words s).length cap ∧ cur = (0 : Nat)) ∧ True := ⟨by
        rcases hown.2 with ⟨e, _⟩ | ⟨g, cap, cur, e, _⟩
        · exact .inl e
        · exact .inr ⟨g, cap, 0, e, rfl⟩, trivial⟩
      all_goals
        clear hgrow
        have hown' := Lib.hid hown
        have hbf' := Lib.hid hbf
        clear hown hbf
        go_wp2
        go_ret
        exact ⟨_, rfl, hown'.out, hbf'.out⟩
end Go.Proofs.YtgpabfbnbmbmeaaGreatDoor

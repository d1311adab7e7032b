/- Numbers as texts: the reference's walks. No conditions but small numbers. -/
import Derived.Test.YtgpabfbnbmbmeaaGreatDoorTextIo
import Derived.Test.YtgpabfbnbmbmeaaGreatDoorPkA
import Derived.Deep.Cut
import Derived.Deep.CutRange
import Derived.Deep.CutBlock
namespace Go.Proofs.YtgpabfbnbmbmeaaGreatDoor
open Go.Shelf Go.RowKit

theorem dec_small {n : Nat} (h : n < 10) : Lib.decDigits n = [UInt8.ofNat (48 + n)] := by rw [Lib.decDigits, dif_pos h]
theorem dec_big {n : Nat} (h : ¬ n < 10) : Lib.decDigits n = Lib.decDigits (n / 10) ++ [UInt8.ofNat (48 + n % 10)] := by rw [Lib.decDigits, dif_neg h]
theorem conv_digit (d : Int) (c : UInt8) (hc : (c.toNat : Int) = d) (W : World) (b : Nat) (h : W.cell? ⟨b, 0, none⟩ = some (.int .u8 d)) :
    (convert 22 9 (.slice (some ⟨b, 0, none⟩) 1 1)).run Tryz.prog W = .ok (.string ⟨#[c]⟩) W := by
  have := run_convert_bytes_back (P := Tryz.prog) W 22 9 5 ⟨b, 0, none⟩ 1 [c] (by kernel_rfl) (by kernel_rfl) (by kernel_rfl) (fun j hj => by
    obtain rfl : j = 0 := by simp at hj; omega
    rw [show ((⟨b, 0, none⟩ : Addr).add 0) = ⟨b, 0, none⟩ from rfl, h]
    simp only [List.getElem_cons_zero, hc])
  exact this
theorem conv_new (d : Int) (c : UInt8) (hc : (c.toNat : Int) = d) (W : World) :
    (convert 22 9 (.slice (some ⟨W.heap.size, 0, none⟩) 1 1)).run Tryz.prog (W.alloc (.cells #[.int .u8 d] 5)) = .ok (.string ⟨#[c]⟩) (W.alloc (.cells #[.int .u8 d] 5)) :=
  conv_digit d c hc _ _ (by simp [go_sem])
theorem keepC {w w' : World} (h : Below w.heap.size w w') {a : Addr} {v : Value} (hc : w.cell? a = some v) : w'.cell? a = some v :=
  (h.cell (World.block_lt_of_cell? _ _ hc)).trans hc
theorem dig_nat {d : Nat} (h : d < 10) : ((UInt8.ofNat (48 + d)).toNat : Int) = 48 + (d : Int) := by
  have e : (UInt8.ofNat (48 + d)).toNat = 48 + d := by simp [UInt8.toNat_ofNat]; omega
  rw [e]; omega
theorem bytes_add (a b : List UInt8) : (⟨a.toArray⟩ : ByteArray) ++ ⟨b.toArray⟩ = ⟨(a ++ b).toArray⟩ := by
  apply ByteArray.ext
  simp

set_option linter.unusedSimpArgs false in
set_option maxRecDepth 20000 in
set_option maxHeartbeats 2000000 in
theorem l1Num_small (n : Nat) (w : World) (hn : n < 10) :
    Calls Tryz.prog 73 #[.int .i64 n] w fun e w' => e = .returned (.string ⟨(Lib.decDigits n).toArray⟩) ∧ Below w.heap.size w w' := by
  have h1 : (n : Int) < 10 := by omega
  obtain ⟨c, hc⟩ : ∃ c, UInt8.ofNat (48 + n) = c := ⟨_, rfl⟩
  have hcv := conv_new (48 + (n : Int)) c (by rw [← hc]; exact dig_nat hn)
  have hB : Below w.heap.size w (w.alloc (.cells #[.int .u8 (48 + (n : Int))] 5)) := (Below.refl _ _).alloc (Nat.le_refl _) _
  rw [dec_small hn, hc]
  clear hc
  have hB' := Lib.hid hB
  clear hB
  go_enter Tryz.func73, Tryz.ntmps73
  go_wp2
  go_ret
  exact ⟨rfl, hB'.out⟩

set_option linter.unusedSimpArgs false in
set_option maxRecDepth 20000 in
set_option maxHeartbeats 2000000 in
theorem l1Num_any (n : Nat) : ∀ (w : World), n ≤ 9223372036854775807 →
    Calls Tryz.prog 73 #[.int .i64 n] w fun e w' => e = .returned (.string ⟨(Lib.decDigits n).toArray⟩) ∧ Below w.heap.size w w' := by
  induction n using Nat.strongRecOn with
  | _ n ih =>
  intro w hn
  by_cases h : n < 10
  · exact l1Num_small n w h
  · have h1 : ¬ (n : Int) < 10 := by omega
    obtain ⟨q, hq⟩ : ∃ q : Nat, n / 10 = q := ⟨_, rfl⟩
    obtain ⟨r, hr⟩ : ∃ r : Nat, n % 10 = r := ⟨_, rfl⟩
    have c1 := fun w' => ih q (by omega) w' (by omega)
    have hr10 : r < 10 := by omega
    obtain ⟨c, hc⟩ : ∃ c, UInt8.ofNat (48 + r) = c := ⟨_, rfl⟩
    have hcv := conv_new (48 + (r : Int)) c (by rw [← hc]; exact dig_nat hr10)
    have hcd := fun W b => conv_digit (48 + (r : Int)) c (by rw [← hc]; exact dig_nat hr10) W b
    have e1 : (n : Int) / 10 = (q : Int) := by omega
    have e2 : IntKind.i64.wrap (q : Int) = (q : Int) := by rw [IntKind.wrap_i64]; omega
    have e3 : (n : Int) % 10 = (r : Int) := by omega
    have e3b : Int.tmod (n : Int) 10 = (r : Int) := by rw [Int.tmod_eq_emod_of_nonneg (by omega)]; exact e3
    have e4 : IntKind.i64.wrap (48 + (r : Int)) = 48 + (r : Int) := by rw [IntKind.wrap_i64]; omega
    have e5 : IntKind.i64.wrap (r : Int) = (r : Int) := by rw [IntKind.wrap_i64]; omega
    have e6 : IntKind.u8.wrap (48 + (r : Int)) = 48 + (r : Int) := by
      have : ∀ r : Fin 10, IntKind.u8.wrap (48 + (r.1 : Int)) = 48 + (r.1 : Int) := by decide
      exact this ⟨r, hr10⟩
    rw [dec_big h, hq, hr, hc]
    have hD := decDigits_len 19 q (by omega) (by omega)
    generalize Lib.decDigits q = D at *
    have hDl : ¬ 9223372036854775807 < D.length + 1 := by omega
    clear ih hc hq hr
    have c1' := Lib.hid c1
    have hcd' := Lib.hid hcd
    clear c1 hcd
    go_enter Tryz.func73, Tryz.ntmps73
    go_upto_region 3 with fail
    refine wp_region_held_drew (S := (fun _ => True)) (by kernel_rfl) (by (try dsimp only); (all_goals trivial)) (fun hHeld => ?_)
    refine ly_q 0 (v := ?_) hHeld ?_
    try simp only [Act.put, lyA, lyB, lyC]
    refine ly_q 1 (v := ?_) hHeld ?_
    try simp only [Act.put, lyA, lyB, lyC]
    refine ly_q 3 (v := ?_) hHeld ?_
    try simp only [Act.put, lyA, lyB, lyC]
    refine ly_q 4 (v := ?_) hHeld ?_
    try simp only [Act.put, lyA, lyB, lyC]
    refine ly_q 5 (v := ?_) hHeld ?_
    try simp only [Act.put, lyA, lyB, lyC]
    refine ly_q 6 (v := ?_) hHeld ?_
    try simp only [Act.put, lyA, lyB, lyC]
    refine wpAnyH_ready (rs := [2, 7]) (by kernel_rfl) (by simp) ?_
    refine AllReadyH.cons (o := Oper.mk _ _ _ _ _ _) rfl (fun KK hKK => ?_) (AllReadyH.cons (o := Oper.mk _ _ _ _ _ _) rfl (fun KK hKK => ?_) (AllReadyH.nil))
    · rw [if_pos (by kernel_rfl)]
      go_simp
      refine (c1'.out _).mono ?_
      rintro e w5 ⟨rfl, hB5⟩
      try dsimp only
      refine hKK.out _ _ (by (try dsimp only); (all_goals trivial)) (fun hHeld => ?_)
      clear hKK KK
      try simp only [Act.put, lyA, lyB, lyC]
      refine ly_a 7 (fun KK hKK => ?_)
      go_simp
      skip
      try dsimp only
      refine hKK.out _ _ (by (try dsimp only); (all_goals trivial)) (fun hHeld => ?_)
      clear hKK KK
      try simp only [Act.put, lyA, lyB, lyC]
      refine ly_a 8 (fun KK hKK => ?_)
      go_simp
      (first | (rw [hcd'.out w5 w.heap.size (keepC hB5 (by simp [go_sem]))]; go_simp) | (rw [hcd'.out ((w.alloc (.cells #[.int .u8 (48 + (r : Int))] 5)).drew) w.heap.size (by simp [go_sem])]; go_simp) | skip)
      try dsimp only
      refine hKK.out _ _ (by (try dsimp only); (all_goals trivial)) (fun hHeld => ?_)
      clear hKK KK
      try simp only [Act.put, lyA, lyB, lyC]
      refine ly_q 9 (v := ?_) hHeld ?_
      try simp only [Act.put, lyA, lyB, lyC]
      refine ly_q 10 (v := ?_) hHeld ?_
      try simp only [Act.put, lyA, lyB, lyC]
      refine wpAnyH_done (by kernel_rfl) ?_ _
      go_wp2
      go_ret
      have hd : Below w.heap.size w w.drew := (Below.refl _ _).drew
      have hr : Below w.heap.size w (w.alloc (.cells #[.int .u8 (48 + (r : Int))] 5)).drew := ((Below.refl _ _).alloc (Nat.le_refl _) _).drew
      refine ⟨congrArg (fun x => Ending.returned (Value.string x)) (bytes_add D [c]), ?_⟩
      first
        | exact (hd.trans (hB5.mono hd.size)).alloc (hd.trans (hB5.mono hd.size)).size _
        | exact hr.trans (hB5.mono hr.size)
    · rw [if_pos (by kernel_rfl)]
      go_simp
      skip
      try dsimp only
      refine hKK.out _ _ (by (try dsimp only); (all_goals trivial)) (fun hHeld => ?_)
      clear hKK KK
      try simp only [Act.put, lyA, lyB, lyC]
      refine wpAnyH_ready (rs := [2, 8]) (by kernel_rfl) (by simp) ?_
      refine AllReadyH.cons (o := Oper.mk _ _ _ _ _ _) rfl (fun KK hKK => ?_) (AllReadyH.cons (o := Oper.mk _ _ _ _ _ _) rfl (fun KK hKK => ?_) (AllReadyH.nil))
      · rw [if_pos (by kernel_rfl)]
        go_simp
        refine (c1'.out _).mono ?_
        rintro e w5 ⟨rfl, hB5⟩
        try dsimp only
        refine hKK.out _ _ (by (try dsimp only); (all_goals trivial)) (fun hHeld => ?_)
        clear hKK KK
        try simp only [Act.put, lyA, lyB, lyC]
        refine ly_a 8 (fun KK hKK => ?_)
        go_simp
        (first | (rw [hcd'.out w5 w.heap.size (keepC hB5 (by simp [go_sem]))]; go_simp) | (rw [hcd'.out ((w.alloc (.cells #[.int .u8 (48 + (r : Int))] 5)).drew) w.heap.size (by simp [go_sem])]; go_simp) | skip)
        try dsimp only
        refine hKK.out _ _ (by (try dsimp only); (all_goals trivial)) (fun hHeld => ?_)
        clear hKK KK
        try simp only [Act.put, lyA, lyB, lyC]
        refine ly_q 9 (v := ?_) hHeld ?_
        try simp only [Act.put, lyA, lyB, lyC]
        refine ly_q 10 (v := ?_) hHeld ?_
        try simp only [Act.put, lyA, lyB, lyC]
        refine wpAnyH_done (by kernel_rfl) ?_ _
        go_wp2
        go_ret
        have hd : Below w.heap.size w w.drew := (Below.refl _ _).drew
        have hr : Below w.heap.size w (w.alloc (.cells #[.int .u8 (48 + (r : Int))] 5)).drew := ((Below.refl _ _).alloc (Nat.le_refl _) _).drew
        refine ⟨congrArg (fun x => Ending.returned (Value.string x)) (bytes_add D [c]), ?_⟩
        first
          | exact (hd.trans (hB5.mono hd.size)).alloc (hd.trans (hB5.mono hd.size)).size _
          | exact hr.trans (hB5.mono hr.size)
      · rw [if_pos (by kernel_rfl)]
        go_simp
        (first | (rw [hcd'.out w5 w.heap.size (keepC hB5 (by simp [go_sem]))]; go_simp) | (rw [hcd'.out ((w.alloc (.cells #[.int .u8 (48 + (r : Int))] 5)).drew) w.heap.size (by simp [go_sem])]; go_simp) | skip)
        try dsimp only
        refine hKK.out _ _ (by (try dsimp only); (all_goals trivial)) (fun hHeld => ?_)
        clear hKK KK
        try simp only [Act.put, lyA, lyB, lyC]
        refine ly_a 2 (fun KK hKK => ?_)
        go_simp
        refine (c1'.out _).mono ?_
        rintro e w5 ⟨rfl, hB5⟩
        try dsimp only
        refine hKK.out _ _ (by (try dsimp only); (all_goals trivial)) (fun hHeld => ?_)
        clear hKK KK
        try simp only [Act.put, lyA, lyB, lyC]
        refine ly_q 9 (v := ?_) hHeld ?_
        try simp only [Act.put, lyA, lyB, lyC]
        refine ly_q 10 (v := ?_) hHeld ?_
        try simp only [Act.put, lyA, lyB, lyC]
        refine wpAnyH_done (by kernel_rfl) ?_ _
        go_wp2
        go_ret
        have hd : Below w.heap.size w w.drew := (Below.refl _ _).drew
        have hr : Below w.heap.size w (w.alloc (.cells #[.int .u8 (48 + (r : Int))] 5)).drew := ((Below.refl _ _).alloc (Nat.le_refl _) _).drew
        refine ⟨congrArg (fun x => Ending.returned (Value.string x)) (bytes_add D [c]), ?_⟩
        first
          | exact (hd.trans (hB5.mono hd.size)).alloc (hd.trans (hB5.mono hd.size)).size _
          | exact hr.trans (hB5.mono hr.size)

set_option linter.unusedSimpArgs false in
set_option maxRecDepth 20000 in
set_option maxHeartbeats 2000000 in
theorem l1Int_any (n : Int) (w : World) (h1 : -1000000 ≤ n) (h2 : n ≤ 1000000) :
    Calls Tryz.prog 63 #[.int .i64 n] w fun e w' => e = .returned (.string ⟨(Lib.itoa n).toArray⟩) ∧ Below w.heap.size w w' := by
  by_cases h : n < 0
  · have c1 := fun w' => l1Num_any n.natAbs w' (by omega)
    have e : Lib.itoa n = 45 :: Lib.decDigits n.natAbs := by unfold Lib.itoa; rw [if_pos h]
    have en : ((n.natAbs : Nat) : Int) = -n := by omega
    have hD := decDigits_len 19 n.natAbs (by omega) (by omega)
    rw [e]
    rw [en] at c1
    have ew : IntKind.i64.wrap (-n) = -n := by rw [IntKind.wrap_i64]; omega
    have hb := bytes_add [45] (Lib.decDigits n.natAbs)
    generalize Lib.decDigits n.natAbs = D at *
    have hDl : ¬ 9223372036854775807 < 1 + D.length := by omega
    clear e en
    have c1' := Lib.hid c1
    have hb' := Lib.hid hb
    clear c1 hb
    go_enter Tryz.func63, Tryz.ntmps63
    go_wp2_with fail
    refine (c1'.out _).mono ?_
    rintro e w1 ⟨rfl, hB1⟩
    go_wp2
    go_ret
    exact ⟨congrArg (fun x => Ending.returned (Value.string x)) hb'.out, hB1⟩
  · have c1 := fun w' => l1Num_any n.toNat w' (by omega)
    have e : Lib.itoa n = Lib.decDigits n.toNat := by unfold Lib.itoa; rw [if_neg h]
    have en : ((n.toNat : Nat) : Int) = n := by omega
    rw [e]
    rw [en] at c1
    generalize Lib.decDigits n.toNat = D at *
    clear e en
    have c1' := Lib.hid c1
    clear c1
    go_enter Tryz.func63, Tryz.ntmps63
    go_wp2_with fail
    refine (c1'.out _).mono ?_
    rintro e w1 ⟨rfl, hB1⟩
    go_wp2
    go_ret
    exact ⟨rfl, hB1⟩
end Go.Proofs.YtgpabfbnbmbmeaaGreatDoor

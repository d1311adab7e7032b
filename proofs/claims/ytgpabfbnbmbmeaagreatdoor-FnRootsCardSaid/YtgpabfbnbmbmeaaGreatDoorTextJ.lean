/- The program's text of a polynomial, and PolyText of both. No conditions but the table that Itoa reads. -/
import Derived.Test.YtgpabfbnbmbmeaaGreatDoorTextP
import Derived.Lib.AppendIntMem
namespace Go.Proofs.YtgpabfbnbmbmeaaGreatDoor
open Go.Shelf Go.RowKit

theorem grow_below (w : World) (k : Nat) (os : Array Obj) : Below w.heap.size w (Sort.grow (w.drewN k) os) := by
  refine ⟨rfl, rfl, rfl, ?_, fun j hj => ?_⟩
  · show w.heap.size ≤ (w.heap ++ os).size
    simp
  · show (w.heap ++ os)[j]? = w.heap[j]?
    rw [Array.getElem?_append_left hj]
theorem itoaB_any (n : Int) (w : World) (h0 : -9223372036854775808 ≤ n) (h1 : n ≤ 9223372036854775807) (ht : TabPow w) :
    Calls Tryz.prog 71 #[.int .i64 n] w fun e w' => e = .returned (.string ⟨(Lib.itoa n).toArray⟩) ∧ Below w.heap.size w w' := by
  refine (itoa_any n w h0 h1 ht).mono ?_
  rintro e w' ⟨rfl, k, os, rfl⟩
  exact ⟨rfl, grow_below w k os⟩
theorem TabPow.below {w w' : World} (h : TabPow w) (hB : Below w.heap.size w w') : TabPow w' := Lib.tabBelow_of_tabIs h w' hB

def strV (x : Bytes) : Value := .string ⟨x.toArray⟩
/-- A slice of the call's own of texts that is appended to. -/
def GrowS (w : World) (B : Nat) (v : Value) (xs : List Bytes) : Prop := w.ownsRow B 9 1 v xs.length (xs.map strV)
theorem GrowS.nil (w : World) (B : Nat) : GrowS w B (.slice none 0 0) [] := World.ownsRow_nil w B 9 1
theorem GrowS.below {w w' : World} {B : Nat} {v : Value} {xs : List Bytes} (h : GrowS w B v xs) (hB : Below w.heap.size w w') : GrowS w' B v xs := by
  refine ⟨h.1, ?_⟩
  rcases h.2 with h3 | ⟨g', cap', cur, e', h4, h5, h6⟩
  · exact .inl h3
  · exact .inr ⟨g', cap', cur, e', h4, by rw [hB.block g' (Array.getElem?_eq_some_iff.1 h5).1]; exact h5, h6⟩
theorem GrowS.belowB {w0 w w' : World} {B : Nat} {v : Value} {xs : List Bytes} {b : Nat} (h : GrowS w B v xs) (hb : Below b w0 w) (hB : b ≤ B) (hsz : b ≤ w.heap.size) (hg : w.grownBy w' v.ownBlock) : Below b w0 w' :=
  hb.grown hg hsz (fun k hk => by have := (World.ownsRow.lt h k hk).1; omega)
theorem GrowS.form {w : World} {B : Nat} {v : Value} {xs : List Bytes} (h : GrowS w B v xs) (hn : 0 < xs.length) :
    ∃ g cap, v = .slice (some ⟨g, 0, none⟩) xs.length cap ∧ g < w.heap.size ∧ xs.length ≤ cap ∧ ∀ j (hj : j < xs.length), w.cell? ⟨g, j, none⟩ = some (strV xs[j]) := by
  have h' := h
  rcases h.2 with ⟨rfl, h0⟩ | ⟨g, cap, cur, rfl, h1, h2, h3, h4, h5, h6⟩
  · omega
  · refine ⟨g, cap, rfl, (Array.getElem?_eq_some_iff.1 h2).1, by omega, fun j hj => ?_⟩
    rw [World.ownsRow.cellAt h' j (by simpa using hj)]
    simp [List.getElem?_eq_getElem hj]
theorem Tryz.infoString : (Tryz.prog.info? 9).map (fun i => (i.zero, i.size, i.bytes)) = some (some (.string ⟨#[]⟩), 1, 16) := by kernel_rfl
theorem wpList_append_str {ops : Array Oper} {rest : List Oper} {o : Oper} {a : Act} {w : World} {Q : Exit → Act → World → Prop} (hgd : o.guard = none) (s x : Operand)
    (ho : o.op = .call { callee := .builtin .append, args := #[s, x], argTypes := #[65, 65] }) (B : Nat) (v : Value) (xs : List Bytes) (z : Bytes) (c : Nat) (hs : a.eval s = v)
    (hx : a.eval x = .slice (some ⟨w.heap.size, 0, none⟩) 1 c) (hown : GrowS w B v xs) (hl : xs.length ≤ 1099511627776) (hB : B ≤ w.heap.size)
    (h : ∀ v' w', GrowS w' B v' (xs ++ [z]) → w.grownBy w' v.ownBlock → wpList Tryz.prog ops Q rest (a.put o.dst v') w') : wpList Tryz.prog ops Q (o :: rest) a (w.alloc (.cells #[.string ⟨z.toArray⟩] 9)) := by
  obtain ⟨i, hi, hz0, hz1, hz2⟩ := info_parts Tryz.infoString
  refine wpList_append_own _ hgd s x 65 ho B 9 i (.string ⟨#[]⟩) 1 16 Tryz.underlying65 hi hz0 hz1 hz2 rfl (by decide) v xs.length _ hs (World.ownsRow.alloc hown _) ⟨w.heap.size, 0, none⟩ 1 c [.string ⟨z.toArray⟩] hx rfl (cell_one_new _ _ _) (by simp [Value.oneCell']) (by unfold maxLen; omega) (by omega) (by simp; omega) ?_
  intro v' w' h1 h2 _
  refine h v' w' (by unfold GrowS; rw [List.map_append, List.length_append]; exact h1) ((World.grownBy_alloc _ _ _).trans h2)
theorem joinB_any (g c : Nat) (ys : List Bytes) (w : World) (hcells : ∀ j (h : j < ys.length), w.cell? ⟨g, j, none⟩ = some (strV ys[j])) (hbk : g < w.heap.size) (hN : ys.length ≤ 1000) (hcap : ys.length ≤ c) (hlen : (Lib.join ys [32]).length ≤ 1000000) :
    Calls Tryz.prog 72 #[.slice (some ⟨g, 0, none⟩) ys.length c, .string ⟨#[32]⟩] w fun e w' => e = .returned (.string ⟨(Lib.join ys [32]).toArray⟩) ∧ Below w.heap.size w w' := by
  have hm : (ys.map fun y => (⟨y.toArray⟩ : ByteArray)).map (·.data.toList) = ys := by
    rw [List.map_map]
    conv => rhs; rw [← List.map_id ys]
    apply List.map_congr_left
    intro y _
    simp
  have h := join_any g 0 c (ys.map fun y => (⟨y.toArray⟩ : ByteArray)) ⟨#[32]⟩ w (fun j x hj => by
    rw [List.getElem?_map] at hj
    cases hy : ys[j]? with
    | none => rw [hy] at hj; cases hj
    | some y =>
      rw [hy] at hj
      have hlt := (List.getElem?_eq_some_iff.1 hy).1
      have hy2 : ys[j] = y := by rw [List.getElem?_eq_getElem hlt] at hy; exact Option.some.inj hy
      have hx := Option.some.inj hj
      rw [Nat.zero_add, hcells j hlt, hy2, ← hx]
      rfl) hbk (by rw [List.length_map]; omega) (by rw [List.length_map]; exact hcap) (by rw [hm]; show (Lib.join ys [32]).length ≤ _; omega)
  rw [hm, List.length_map] at h
  exact h

set_option linter.unusedSimpArgs false in
set_option maxRecDepth 20000 in
set_option maxHeartbeats 2000000 in
theorem joinNumbers_any (v : Value) (p : List Int) (w : World) (hv : IntsV w v p) (h0 : p ≠ []) (hp : polyB p = true) (ht : TabPow w) :
    Calls Tryz.prog 62 #[v, .string ⟨#[32]⟩] w fun e w' => e = .returned (.string ⟨(textP p).toArray⟩) ∧ Below w.heap.size w w' := by
  obtain ⟨ao, cap, rfl, _, _, H⟩ := hv
  have hl9 := polyB_le9 hp
  have hmem := polyB_mem hp
  have hlen := jnK_len hmem p.length (Nat.le_refl _)
  have hT : Lib.join (p.map Lib.itoa) [32] = textP p := by unfold textP; rw [if_neg h0]
  have hJ : jnK p p.length = Lib.join (p.map Lib.itoa) [32] := by unfold jnK; rw [List.take_length]
  rw [hJ] at hlen
  have hn0 : 0 < p.length := by cases p with | nil => exact absurd rfl h0 | cons _ _ => simp
  have hnm : ∀ k, k < p.length → (-1000000 ≤ nth p k ∧ nth p k ≤ 1000000) := fun k hk => hmem _ (by unfold nth; rw [List.getElem?_eq_getElem hk]; exact List.getElem_mem _)
  have hst : ∀ k, k < p.length → (p.take (k + 1)).map Lib.itoa = (p.take k).map Lib.itoa ++ [Lib.itoa (nth p k)] := fun k hk => by
    rw [List.take_add_one, List.getElem?_eq_getElem hk, List.map_append]
    simp [nth, List.getElem?_eq_getElem hk]
  have hall : (p.take p.length).map Lib.itoa = p.map Lib.itoa := by rw [List.take_length]
  have hw0 : (p.take 0).map Lib.itoa = [] := rfl
  have hwl : ∀ k, ((p.take k).map Lib.itoa).length ≤ p.length := fun k => by simp; omega
  have cI := fun k w' (hk : k < p.length) (hB : Below w.heap.size w w') => itoaB_any (nth p k) w' (by have := hnm k hk; omega) (by have := hnm k hk; omega) (ht.below hB)
  have cJ := fun g c w' hc hb (hcap : (p.map Lib.itoa).length ≤ c) => joinB_any g c (p.map Lib.itoa) w' hc hb (by rw [List.length_map]; omega) hcap (by omega)
  rw [hT] at cJ
  have hlm : (p.map Lib.itoa).length = p.length := by simp
  obtain ⟨n, hn⟩ : ∃ n, p.length = n := ⟨_, rfl⟩
  rw [hn] at H hl9 hn0 hst hall hwl cI hlm ⊢
  generalize textP p = TX at *
  obtain ⟨WK, hWK⟩ : ∃ WK : Nat → List Bytes, ∀ k, (p.take k).map Lib.itoa = WK k := ⟨_, fun _ => rfl⟩
  simp only [hWK] at hst hall hw0 hwl
  generalize p.map Lib.itoa = WA at *
  clear hmem hp h0 hnm hT hJ hlen hWK ht
  have H' := Lib.hid H
  have hst' := Lib.hid hst
  have hall' := Lib.hid hall
  have hw0' := Lib.hid hw0
  have hwl' := Lib.hid hwl
  have cI' := Lib.hid cI
  have cJ' := Lib.hid cJ
  have hlm' := Lib.hid hlm
  have hn' := Lib.hid hn
  clear H hst hall hw0 hwl cI cJ hlm hn
  go_enter Tryz.func62, Tryz.ntmps62
  go_wp2
  go_loopw [5, 10] (fun o i wr => ∃ k : Nat, k ≤ n ∧ i = .int .i64 k ∧ GrowS wr w.heap.size o (WK k) ∧ Below w.heap.size w wr) (fun _ i _ => n - (intOf i).toNat)
  case atStart => exact ⟨0, Nat.zero_le _, rfl, by rw [hw0'.out]; exact GrowS.nil _ _, Below.refl _ _⟩
  case round =>
    obtain ⟨k, hk, rfl, hg, hB⟩ := hrel
    by_cases hlt : k < n
    · obtain ⟨b, off, rfl, d0⟩ := H'.out k hlt
      replace d0 := keepC hB d0
      have cI1 := cI'.out k wr hlt hB
      have hst1 := hst'.out k hlt
      have hwl1 := hwl'.out k
      generalize Lib.itoa (nth p k) = I at *
      generalize nth p k = N at *
      have cI1' := Lib.hid cI1
      have hst1' := Lib.hid hst1
      have hwl1' := Lib.hid hwl1
      have hg' := Lib.hid hg
      have hB' := Lib.hid hB
      clear cI1 hst1 hwl1 hg hB
      go_wp2_with fail
      refine (cI1'.out).mono ?_
      rintro e w5 ⟨rfl, hB5⟩
      have hb5 := hB'.out.trans (hB5.mono hB'.out.size)
      have hg5 := hg'.out.below hB5
      have hs5 := hb5.size
      clear hB5
      have hb5' := Lib.hid hb5
      have hg5' := Lib.hid hg5
      clear hb5 hg5
      go_wp2_with (at_builtin; refine wpList_append_str rfl _ _ rfl w.heap.size u5 (WK k) I _ rfl rfl hg5'.out (by have := hwl1'.out; omega) hs5 ?_)
      intro v' w' hown hgrow
      have hbf := hg5'.out.belowB hb5'.out (Nat.le_refl _) hs5 hgrow
      rw [← hst1'.out] at hown
      clear hgrow
      have hown' := Lib.hid hown
      have hbf' := Lib.hid hbf
      clear hown hbf
      go_wp2
      go_roundw
      case rel => exact ⟨k + 1, by omega, by go_num, hown'.out, hbf'.out⟩
      case measure => simp [intOf]; omega
    · obtain rfl : k = n := by omega
      rw [hall'.out] at hg
      obtain ⟨g, c, rfl, hgl, hcap, hc⟩ := GrowS.form hg (by rw [hlm'.out]; exact hn0)
      have cJ1 := cJ'.out g c wr hc hgl hcap
      rw [hlm'.out] at cJ1 ⊢
      clear hg hc H' hst' hall' hw0' hwl' cI' cJ' hlm' hn'
      have cJ1' := Lib.hid cJ1
      have hB' := Lib.hid hB
      clear cJ1 hB
      go_wp2_with fail
      refine (cJ1'.out).mono ?_
      rintro e w5 ⟨rfl, hB5⟩
      have hb5 := hB'.out.trans (hB5.mono hB'.out.size)
      have hb5' := Lib.hid hb5
      clear hb5
      go_wp2
      go_ret
      exact ⟨rfl, hb5'.out⟩

set_option linter.unusedSimpArgs false in
set_option maxRecDepth 20000 in
theorem polyText_any (v : Value) (p : List Int) (w : World) (hv : IntsV w v p) (hp : polyB p = true) (ht : TabPow w) :
    Calls Tryz.prog 41 #[v] w fun e w' => e = .returned (.string ⟨(textP p).toArray⟩) ∧ Below w.heap.size w w' := by
  by_cases h0 : p = []
  · subst h0
    obtain ⟨ao, cap, rfl, _⟩ := hv
    go_enter Tryz.func41, Tryz.ntmps41
    go_wp2
    go_ret
    exact ⟨rfl, Below.refl _ _⟩
  · have c1 := joinNumbers_any v p w hv h0 hp ht
    have hn0 : 0 < p.length := by cases p with | nil => exact absurd rfl h0 | cons _ _ => simp
    obtain ⟨ao, cap, rfl, _⟩ := hv
    generalize textP p = TX at *
    generalize p.length = n at *
    have q0 : ¬ (n : Int) = 0 := by omega
    have q1 : ¬ n = 0 := by omega
    have q2 : ((n : Int) == 0) = false := by rw [beq_eq_false_iff_ne]; exact q0
    clear h0 hp ht
    have c1' := Lib.hid c1
    clear c1
    go_enter Tryz.func41, Tryz.ntmps41
    go_wp2_with fail
    refine (c1'.out).mono ?_
    rintro e w1 ⟨rfl, hB1⟩
    go_wp2
    go_ret
    exact ⟨rfl, hB1⟩

/-- What PolyText returns. -/
def PolyText_v (p : List Int) : Bytes × Bool := if polyB p = true then (textP p, true) else ([], false)
def RetTB (r : Bytes × Bool) (w : World) (e : Ending) (w' : World) : Prop := e = .returned (.tuple #[.string ⟨r.1.toArray⟩, .bool r.2]) ∧ Below w.heap.size w w'
set_option linter.unusedSimpArgs false in
set_option linter.unusedVariables false in
theorem specPolyText_any (v : Value) (p : List Int) (w : World) (hv : IntsV w v p) (hm : p.length ≤ 1099511627776) (ht : TabPow w) :
    Calls Tryz.prog 12 #[v] w (RetTB (PolyText_v p) w) := by
  have c1 := poGood_ret v p w hv hm
  unfold PolyText_v
  cases hp : polyB p
  · rw [hp] at c1
    rw [if_neg (by decide)]
    obtain ⟨ao, cap, rfl, _⟩ := hv
    have c1' := Lib.hid c1
    clear c1
    go_enter Tryz.func12, Tryz.ntmps12
    go_wp2_with fail
    refine (c1'.out).mono ?_
    rintro e w1 ⟨rfl, hB1⟩
    go_wp2
    go_ret2
    exact ⟨rfl, hB1⟩
  · have c2 := fun w' (hB : Below w.heap.size w w') => poText_any v p w' (hv.below hB) hp 
    rw [hp] at c1
    rw [if_pos rfl]
    obtain ⟨ao, cap, rfl, _⟩ := hv
    generalize textP p = TX at *
    have c1' := Lib.hid c1
    have c2' := Lib.hid c2
    clear c1 c2
    go_enter Tryz.func12, Tryz.ntmps12
    go_wp2_with fail
    refine (c1'.out).mono ?_
    rintro e w1 ⟨rfl, hB1⟩
    have c3 := c2'.out w1 hB1
    have c3' := Lib.hid c3
    clear c3
    go_wp2_with fail
    refine (c3'.out).mono ?_
    rintro e w2 ⟨rfl, hB2⟩
    have hb2 := hB1.trans (hB2.mono hB1.size)
    go_wp2
    go_ret2
    exact ⟨rfl, hb2⟩
set_option linter.unusedSimpArgs false in
set_option linter.unusedVariables false in
theorem implPolyText_any (v : Value) (p : List Int) (w : World) (hv : IntsV w v p) (hm : p.length ≤ 1099511627776) (ht : TabPow w) :
    Calls Tryz.prog 11 #[v] w (RetTB (PolyText_v p) w) := by
  have c1 := isPolynomial_ret v p w hv hm
  unfold PolyText_v
  cases hp : polyB p
  · rw [hp] at c1
    rw [if_neg (by decide)]
    obtain ⟨ao, cap, rfl, _⟩ := hv
    have c1' := Lib.hid c1
    clear c1
    go_enter Tryz.func11, Tryz.ntmps11
    go_wp2_with fail
    refine (c1'.out).mono ?_
    rintro e w1 ⟨rfl, hB1⟩
    go_wp2
    go_ret2
    exact ⟨rfl, hB1⟩
  · have c2 := fun w' (hB : Below w.heap.size w w') => polyText_any v p w' (hv.below hB) hp (ht.below hB)
    rw [hp] at c1
    rw [if_pos rfl]
    obtain ⟨ao, cap, rfl, _⟩ := hv
    generalize textP p = TX at *
    have c1' := Lib.hid c1
    have c2' := Lib.hid c2
    clear c1 c2
    go_enter Tryz.func11, Tryz.ntmps11
    go_wp2_with fail
    refine (c1'.out).mono ?_
    rintro e w1 ⟨rfl, hB1⟩
    have c3 := c2'.out w1 hB1
    have c3' := Lib.hid c3
    clear c3
    go_wp2_with fail
    refine (c3'.out).mono ?_
    rintro e w2 ⟨rfl, hB2⟩
    have hb2 := hB1.trans (hB2.mono hB1.size)
    go_wp2
    go_ret2
    exact ⟨rfl, hb2⟩
end Go.Proofs.YtgpabfbnbmbmeaaGreatDoor

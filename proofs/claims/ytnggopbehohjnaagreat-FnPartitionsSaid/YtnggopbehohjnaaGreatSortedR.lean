/- slices.SortFunc on a row of fractions: what it leaves there. No conditions but small sizes. -/
import Derived.Test.YtnggopbehohjnaaGreatSortR
import Derived.Test.YtnggopbehohjnaaGreatPutR
namespace Go.Proofs.YtnggopbehohjnaaGreat
open Go.Shelf Go.RowKit

/-- A row of n fractions at the head of block g. -/
def RowC (w : World) (g n : Nat) (Z : Nat → Int × Int) : Prop :=
  ∀ i, i < n → (w.cell? ⟨g, i * 2, none⟩ = some (.int .i64 (Z i).1) ∧ w.cell? ⟨g, i * 2 + 1, none⟩ = some (.int .i64 (Z i).2)) ∧ w.frozen? ⟨g, i * 2, none⟩ = false ∧ w.frozen? ⟨g, i * 2 + 1, none⟩ = false
theorem RowC.rats {w : World} {g n k cap : Nat} {Z : Nat → Int × Int} {zs : List (Int × Int)} (h : RowC w g n Z) (hk : zs.length = k) (hkn : k ≤ n) (hz : ∀ i, i < k → Z i = nthR zs i) (hc : k ≤ cap ∧ cap ≤ maxLen) : RatsV w (.slice (some ⟨g, 0, none⟩) k cap) zs := by
  subst hk
  refine RatsV.mk ⟨hc.1, fun e => by cases e⟩ hc.2 (fun i hi => ?_)
  obtain ⟨⟨c0, c1⟩, _⟩ := h i (by omega)
  rw [hz i hi] at c0 c1
  exact ⟨g, 0, rfl, by rw [Nat.zero_add]; exact c0, by rw [Nat.zero_add]; exact c1⟩
theorem RowC.of {w : World} {B g cap : Nat} {xs : List (Int × Int)} (h : RowF 50 2 w B g xs.length cap (flR xs)) : RowC w g xs.length (nthR xs) := fun i hi => by
  obtain ⟨n0, n1⟩ := nth_flR hi
  have c0 := h.cell (j := i * 2) (by omega)
  have c1 := h.cell (j := i * 2 + 1) (by omega)
  rw [n0] at c0; rw [n1] at c1
  exact ⟨⟨c0, c1⟩, h.frozen _, h.frozen _⟩
/-- The block is a row of fractions, of that room. -/
def ShapeC (w : World) (g cap : Nat) : Prop := ∃ cur, w.heap[g]? = some (.cells cur 50 (0, 0)) ∧ cur.size = cap * 2
theorem ShapeC.of {w : World} {B g n cap : Nat} {ys : List Int} (h : RowF 50 2 w B g n cap ys) : ShapeC w g cap := by
  rcases h.2 with ⟨h0, _⟩ | ⟨g', cap', cur, e, _, h2, _, _, h5, _⟩
  · cases h0
  · cases e
    exact ⟨cur, h2, h5⟩
theorem ShapeC.setCell {w : World} {g cap : Nat} (h : ShapeC w g cap) (p : Addr) (v : Value) : ShapeC (w.setCell p v) g cap := by
  obtain ⟨cur, h1, h2⟩ := h
  unfold ShapeC World.setCell
  simp only [Array.getElem?_modify]
  by_cases e : p.block = g
  · rw [if_pos e, h1]
    refine ⟨_, rfl, ?_⟩
    split
    · exact h2
    · simpa using h2
  · rw [if_neg e, h1]
    exact ⟨cur, rfl, h2⟩
theorem ShapeC.setCells {g cap b : Nat} : ∀ (vs : List Value) (o : Nat) (w : World), ShapeC w g cap → ShapeC (w.setCells b o vs) g cap
  | [], _, _, h => h
  | v :: r, o, _, h => ShapeC.setCells r (o + 1) _ (h.setCell ⟨b, o, none⟩ v)
theorem ShapeC.sorted {α : Type} {enc : α → List Value} [Inhabited α] {k : Nat} {w : World} {g cap : Nat} (h : ShapeC w g cap) (off n : Nat) (dk : Array α) (os : Array Obj) : ShapeC (sortWorldK enc k w g off n dk os) g cap := by
  obtain ⟨cur, h1, h2⟩ := h
  have hlt : g < w.heap.size := (Array.getElem?_eq_some_iff.1 h1).1
  unfold ShapeC sortWorldK Go.Sort.grow Go.Sort.putRowK Go.Sort.putRow Go.Sort.mapBlock Go.Sort.ahead
  simp only
  rw [Array.getElem?_append_left (by simp; omega), Array.getElem?_modify, if_pos rfl, h1]
  refine ⟨_, rfl, ?_⟩
  unfold Go.Sort.putCells
  rw [Array.size_mapIdx]
  exact h2
theorem own_of {w : World} {B g cap : Nat} {ys : List (Int × Int)} (hr : RowC w g ys.length (nthR ys)) (hs : ShapeC w g cap) (hB : B ≤ g) (hc : ys.length ≤ cap ∧ cap ≤ maxLen) : OwnR w B w.heap.size (.slice (some ⟨g, 0, none⟩) ys.length cap) ys := by
  obtain ⟨cur, h1, h2⟩ := hs
  have hlt : g < w.heap.size := (Array.getElem?_eq_some_iff.1 h1).1
  refine .inr ⟨g, cap, rfl, hB, hlt, by rw [List.length_map, flR_len], .inr ⟨g, cap, cur, rfl, hB, h1, hc.1, hc.2, h2, ?_⟩⟩
  have hcell : ∀ j, w.cell? ⟨g, j, none⟩ = cur[j]? := fun j => by simp [World.cell?, h1]
  apply List.ext_getElem?
  intro j
  by_cases hj : j < ys.length * 2
  · rw [List.getElem?_take_of_lt hj, Array.getElem?_toList, ← hcell, List.getElem?_map, List.getElem?_eq_getElem (by rw [flR_len]; exact hj)]
    obtain ⟨⟨c0, c1⟩, _⟩ := hr (j / 2) (by omega)
    obtain ⟨n0, n1⟩ := nth_flR (xs := ys) (i := j / 2) (by omega)
    rw [← nth_eq]
    rcases Nat.mod_two_eq_zero_or_one j with q | q
    · rw [show j / 2 * 2 = j by omega] at c0 n0
      rw [c0, n0]; rfl
    · rw [show j / 2 * 2 + 1 = j by omega] at c1 n1
      rw [c1, n1]; rfl
  · rw [List.getElem?_eq_none (by simp [h2]; omega), List.getElem?_eq_none (by rw [List.length_map, flR_len]; omega)]
/-- Block g alone may have turned; new blocks may lie behind. -/
def Upon (g : Nat) (w w' : World) : Prop := w.grownBy w' (some g)
theorem Upon.refl (g : Nat) (w : World) : Upon g w w := World.grownBy.refl _ _
theorem Upon.trans {g : Nat} {a b c : World} (h : Upon g a b) (k : Upon g b c) : Upon g a c := World.grownBy.trans h k
theorem Upon.drewN {g : Nat} {w w' : World} (h : Upon g w w') (n : Nat) : Upon g w (w'.drewN n) :=
  h.trans ⟨(below_drewN (Below.refl w'.heap.size _) n).os, (below_drewN (Below.refl w'.heap.size _) n).tape, (below_drewN (Below.refl w'.heap.size _) n).output, (below_drewN (Below.refl w'.heap.size _) n).size, fun k hk _ => (below_drewN (Below.refl w'.heap.size _) n).block k hk⟩
theorem Upon.setCell {g : Nat} {w w' : World} (h : Upon g w w') (o : Nat) (u : Value) : Upon g w (w'.setCell ⟨g, o, none⟩ u) :=
  h.trans ⟨rfl, rfl, rfl, by simp [World.setCell], fun k _ hne => Below.heap_setCell _ _ _ _ (fun e => hne (by rw [e]))⟩
theorem Upon.setCells {g : Nat} {w : World} : ∀ (vs : List Value) (o : Nat) {w' : World}, Upon g w w' → Upon g w (w'.setCells g o vs)
  | [], _, _, h => h
  | v :: r, o, _, h => Upon.setCells r (o + 1) (h.setCell o v)
theorem Upon.below {g B : Nat} {w w' : World} (h : Upon g w w') (hB : B ≤ g) (hg : g < w.heap.size) : Below B w w' :=
  ⟨h.os, h.tape, h.output, h.size, fun k hk => h.block k (by omega) (fun e => by have := Option.some.inj e; omega)⟩
theorem upon_sorted {α : Type} {enc : α → List Value} [Inhabited α] {k : Nat} (w : World) (blk off n : Nat) (dk : Array α) (os : Array Obj) : Upon blk w (sortWorldK enc k w blk off n dk os) := by
  refine ⟨rfl, rfl, rfl, size_sortWorldK_c (enc := enc) (k := k) (w := w) _ _ _ _ _, fun j hj hne => ?_⟩
  unfold sortWorldK Go.Sort.grow Go.Sort.putRowK Go.Sort.putRow Go.Sort.mapBlock Go.Sort.ahead
  simp only
  rw [Array.getElem?_append_left (by simp; omega), Array.getElem?_modify, if_neg (by intro e; exact hne (by rw [e]))]
theorem getD_map (xs : List (Int × Int)) (d : List GoodR) (h : d.map Subtype.val = xs) {i : Nat} (hi : i < xs.length) : (d.toArray[i]!).1 = nthR xs i := by
  subst h
  have hi' : i < d.length := by simpa using hi
  rw [nthR_eq hi, List.getElem_map, getElem!_pos _ i (by simpa using hi')]
  simp
theorem sorted_any (g cap : Nat) (xs : List (Int × Int)) (w : World) (hr : RowC w g xs.length (nthR xs)) (hgd : ∀ x ∈ xs, goodR x.1 x.2 = true) (hblk : g < w.heap.size) (hm : xs.length ≤ 1099511627776) :
    Calls Tryz.prog 175 #[.slice (some ⟨g, 0, none⟩) xs.length cap, .func (.func 137) #[] #[]] w fun e w' =>
      e = .returned (.tuple #[]) ∧ (∃ ys : List (Int × Int), ys.length = xs.length ∧ (∀ y, y ∈ ys ↔ y ∈ xs) ∧ (ys.Pairwise fun a b => qv a ≤ qv b) ∧ RowC w' g xs.length (nthR ys)) ∧ (∀ c, ShapeC w g c → ShapeC w' g c) ∧ Upon g w w' := by
  obtain ⟨d, hd⟩ : ∃ d : List GoodR, d.map Subtype.val = xs := ⟨xs.attach.map fun x => ⟨x.1, hgd x.1 x.2⟩, by rw [List.map_map]; exact (List.attach_map_val (l := xs) (f := id)).trans (List.map_id xs)⟩
  have hl : d.length = xs.length := by rw [← hd]; simp
  have hl2 : d.toArray.size = xs.length := by simpa using hl
  have hH : Go.Sort.HoldsK encR 2 w g 0 d.toArray := by
    intro j hj
    rw [Go.Sort.size_flatK, hl2] at hj
    rw [Go.Sort.get_flatK _ _ _ _ (by rw [hl2]; exact hj)]
    obtain ⟨⟨c0, c1⟩, f0, f1⟩ := hr (j / 2) (by omega)
    have e := getD_map xs d hd (i := j / 2) (by omega)
    rcases Nat.mod_two_eq_zero_or_one j with q | q
    · have ej : j / 2 * 2 = j := by omega
      rw [ej] at c0 f0
      rw [q, Nat.zero_add]
      exact ⟨by rw [c0, ← e]; rfl, f0⟩
    · have ej : j / 2 * 2 + 1 = j := by omega
      rw [ej] at c1 f1
      rw [q, Nat.zero_add]
      exact ⟨by rw [c1, ← e]; rfl, f1⟩
  have hcon := sortFunc_any g 0 cap d.toArray w hH hblk (by omega)
  rw [hl2] at hcon
  refine hcon.mono ?_
  rintro e w' ⟨rfl, n, os, rfl⟩
  have ht : (d.toArray.toList) = d := rfl
  rw [ht]
  obtain ⟨s, hs⟩ : ∃ s, (d.mergeSort fun x y => !(ltOf cfR) y x) = s := ⟨_, rfl⟩
  have hsl : s.length = d.length := by rw [← hs]; exact List.length_mergeSort ..
  have hsm : ∀ y, y ∈ s ↔ y ∈ d := fun y => by rw [← hs]; exact List.mem_mergeSort
  have hsp : s.Pairwise fun x y => (!(ltOf cfR) y x) = true := by
    rw [← hs]
    refine List.pairwise_mergeSort (fun a b c h1 h2 => ?_) (fun a b => ?_) d
    · have h1' : ltOf cfR b a = false := by simpa using h1
      have h2' : ltOf cfR c b = false := by simpa using h2
      rw [ltRf] at h1' h2'
      have : ltOf cfR c a = false := by rw [ltRf]; grind
      simp [this]
    · by_cases h : ltOf cfR b a = true
      · have : ltOf cfR a b = false := by rw [ltR] at h; rw [ltRf]; grind
        simp [this]
      · simp [Bool.eq_false_iff.2 h]
  rw [hs]
  refine ⟨rfl, ⟨s.map Subtype.val, by simp [hsl, hl], fun y => ?_, ?_, ?_⟩, fun c h => h.sorted 0 n s.toArray os, upon_sorted w g 0 n s.toArray os⟩
  · rw [← hd, List.mem_map, List.mem_map]
    constructor
    · rintro ⟨a, h, e⟩; exact ⟨a, (hsm a).1 h, e⟩
    · rintro ⟨a, h, e⟩; exact ⟨a, (hsm a).2 h, e⟩
  · rw [List.pairwise_map]
    refine hsp.imp fun {a b} h => ?_
    have h' : ltOf cfR b a = false := by simpa using h
    exact (ltRf b a).1 h'
  · have hH2 : Go.Sort.HoldsK encR 2 (sortWorldK encR 2 w g 0 n s.toArray os) g 0 s.toArray := holdsK_sortWorldK_c encR 2 w g 0 d.toArray s.toArray n os hH hblk (by simp [hsl])
    intro i hi
    have hi2 : i < s.toArray.size := by simp [hsl]; omega
    have e := getD_map (s.map Subtype.val) s rfl (i := i) (by simp [hsl]; omega)
    obtain ⟨c0, f0⟩ := hH2.cell (c := 0) hi2 (by decide)
    obtain ⟨c1, f1⟩ := hH2.cell (c := 1) hi2 (by decide)
    rw [Nat.zero_add, Nat.add_zero] at c0 f0
    rw [Nat.zero_add] at c1 f1
    exact ⟨⟨by rw [c0, ← e]; rfl, by rw [c1, ← e]; rfl⟩, f0, f1⟩

end Go.Proofs.YtnggopbehohjnaaGreat

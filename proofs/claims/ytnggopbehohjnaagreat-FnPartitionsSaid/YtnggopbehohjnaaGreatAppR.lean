/- Several fractions appended to a slice of the call's own. No conditions but small sizes. -/
import Derived.Test.YtnggopbehohjnaaGreatPkD
import Derived.Test.YtnggopbehohjnaaGreatRise
namespace Go.Proofs.YtnggopbehohjnaaGreat
open Go.RowKit

theorem wpList_append_rats {ops : Array Oper} {rest : List Oper} {o : Oper} {a : Act} {w : World} {Q : Exit → Act → World → Prop} (hgd : o.guard = none) (s x : Operand)
    (ho : o.op = .call { callee := .builtin .append, args := #[s, x], argTypes := #[24, 24] }) (B : Nat) (v u : Value) (xs ys : List (Int × Int)) (hs : a.eval s = v)
    (hx : a.eval x = u) (hown : GrowR w B v xs) (hu : RatsV w u ys) (hl : xs.length + ys.length ≤ 4398046511104) (hB : B ≤ w.heap.size)
    (h : ∀ v' w', GrowR w' B v' (xs ++ ys) → w.grownBy w' v.ownBlock → wpList Tryz.prog ops Q rest (a.put o.dst v') w') : wpList Tryz.prog ops Q (o :: rest) a w := by
  obtain ⟨i, hi, hz0, hz1, hz2⟩ := info_parts Tryz.infoRat
  obtain ⟨ao, cap, rfl, ⟨hcap, hnil⟩, _, H⟩ := hu
  cases ao with
  | none =>
    obtain rfl := hnil rfl
    have : ys = [] := List.eq_nil_of_length_eq_zero (by omega)
    subst this
    refine wpList_append_own_none hgd s x 24 ho B 50 i 2 Tryz.underlying24 hi v xs.length _ hs hown hx ?_
    exact h v w (by rw [List.append_nil]; exact hown) (World.grownBy.refl _ _)
  | some ad =>
    refine wpList_append_own _ hgd s x 24 ho B 50 i (.agg #[.int .i64 0, .int .i64 0]) 2 16 Tryz.underlying24 hi hz0 hz1 hz2 rfl (by decide) v xs.length _ hs hown ad ys.length cap ((flR ys).map (Value.int .i64)) hx (by simp [flR_len]) ?_ ?_ (by unfold maxLen; omega) (by omega) hB ?_
    · intro j z hj
      have hj' : j < (flR ys).length := by
        have := (List.getElem?_eq_some_iff.1 hj).1
        simpa using this
      obtain ⟨b, off, e, hc⟩ := H j (by rw [flR_len] at hj'; exact hj')
      cases e
      rw [Addr.add_lit, hc]
      rw [List.getElem?_map, List.getElem?_eq_getElem hj'] at hj
      rw [nth_eq hj']; exact hj
    · intro z hz
      obtain ⟨_, _, rfl⟩ := List.mem_map.1 hz
      rfl
    · intro v' w' h1 h2 _
      refine h v' w' ?_ h2
      unfold GrowR GrowF
      rw [flR_append, List.map_append, List.length_append]; exact h1

end Go.Proofs.YtnggopbehohjnaaGreat

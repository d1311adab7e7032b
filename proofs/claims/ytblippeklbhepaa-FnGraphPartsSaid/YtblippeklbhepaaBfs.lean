/- The states that a state reaches, as the reference finds them. No conditions but small sizes. -/
import Derived.Test.YtblippeklbhepaaPut
import Derived.Test.YtblippeklbhepaaWk
namespace Go.Proofs.Ytblippeklbhepaa
open Go.RowKit

theorem wpList_append_intA {ops : Array Oper} {rest : List Oper} {o : Oper} {a : Act} {w : World} {Q : Exit → Act → World → Prop} (hgd : o.guard = none) (s x : Operand)
    (ho : o.op = .call { callee := .builtin .append, args := #[s, x], argTypes := #[39, 39] }) (B : Nat) (v : Value) (xs : List Int) (z : Int) (c : Nat) (hs : a.eval s = v)
    (hx : a.eval x = .slice (some ⟨w.heap.size, 0, none⟩) 1 c) (hown : Grow w B v xs) (hl : xs.length ≤ 1099511627776) (hB : B ≤ w.heap.size)
    (h : ∀ v' w', Grow w' B v' (xs ++ [z]) → w.grownBy w' v.ownBlock → (v'.ownBlock = v.ownBlock ∨ v'.ownBlock = some (w.heap.size + 1)) → wpList Try.prog ops Q rest (a.put o.dst v') w') : wpList Try.prog ops Q (o :: rest) a (w.alloc (.cells #[.int .i64 z] 3)) := by
  obtain ⟨i, hi, hz0, hz1, hz2⟩ := info_parts Try.infoInt
  refine wpList_append_own_at _ hgd s x 39 ho B 3 i (.int .i64 0) 1 8 Try.underlying39 hi hz0 hz1 hz2 rfl (by decide) v xs.length _ hs (World.ownsRow.alloc hown _) ⟨w.heap.size, 0, none⟩ 1 c [.int .i64 z] hx rfl (cell_one_new _ _ _) (by simp [Value.oneCell']) (by unfold maxLen; omega) (by omega) (by simp; omega) ?_
  intro v' w' h1 h2 _ h4
  refine h v' w' (by unfold Grow; rw [List.map_append, List.length_append]; exact h1) ((World.grownBy_alloc _ _ _).trans h2) (by simpa using h4)

/-- The numbers less than n with a property, rising. -/
def setL (n : Nat) (p : Nat → Bool) : List Int := ((List.range n).filter p).map fun (k : Nat) => (k : Int)
theorem setL_succ (n : Nat) (p : Nat → Bool) : setL (n + 1) p = setL n p ++ if p n = true then [(n : Int)] else [] := by
  unfold setL
  rw [List.range_succ, List.filter_append, List.map_append]
  by_cases h : p n = true <;> simp [h]
theorem setL_congr {n : Nat} {p q : Nat → Bool} (h : ∀ x, x < n → p x = q x) : setL n p = setL n q := by
  unfold setL
  rw [List.filter_congr (fun x hx => h x (List.mem_range.1 hx))]
theorem setL_mem {n : Nat} {p : Nat → Bool} {x : Int} : x ∈ setL n p ↔ ∃ k : Nat, k < n ∧ p k = true ∧ x = k := by
  unfold setL
  simp only [List.mem_map, List.mem_filter, List.mem_range]
  constructor
  · rintro ⟨k, ⟨h1, h2⟩, rfl⟩; exact ⟨k, h1, h2, rfl⟩
  · rintro ⟨k, h1, h2, rfl⟩; exact ⟨k, ⟨h1, h2⟩, rfl⟩
theorem setL_len (n : Nat) (p : Nat → Bool) : (setL n p).length = cnt p n := by
  induction n with
  | zero => rfl
  | succ n ih =>
    rw [setL_succ, List.length_append, ih]
    show _ = cnt p n + _
    by_cases h : p n = true <;> simp [h]
theorem setL_has {n t : Nat} {p : Nat → Bool} (ht : t < n) : hasI (setL n p) t = p t := by
  unfold hasI
  rw [Bool.eq_iff_iff, List.any_eq_true]
  constructor
  · rintro ⟨x, hx, he⟩
    obtain ⟨k, _, h2, rfl⟩ := setL_mem.1 hx
    have he2 : (k : Int) = t := by simpa using he
    have : k = t := by omega
    rw [← this]; exact h2
  · intro h; exact ⟨t, setL_mem.2 ⟨t, ht, h, rfl⟩, by simp⟩
/-- A number more. -/
def addP (p : Nat → Bool) (t : Nat) : Nat → Bool := fun x => p x || decide (x = t)
theorem addP_self (p : Nat → Bool) (t : Nat) : addP p t t = true := by simp [addP]
theorem addP_ne {p : Nat → Bool} {t x : Nat} (h : x ≠ t) : addP p t x = p x := by simp [addP, h]
theorem addP_mono {p : Nat → Bool} {t x : Nat} (h : p x = true) : addP p t x = true := by simp [addP, h]
theorem addP_true {p : Nat → Bool} {t x : Nat} (h : addP p t x = true) : p x = true ∨ x = t := by simpa [addP] using h
theorem cnt_addP {p : Nat → Bool} {t : Nat} (hp : p t = false) : ∀ n, cnt (addP p t) n = cnt p n + if t < n then 1 else 0 := by
  intro n
  induction n with
  | zero => rfl
  | succ n ih =>
    show cnt (addP p t) n + (if addP p t n = true then 1 else 0) = cnt p n + (if p n = true then 1 else 0) + _
    rw [ih]
    by_cases e : n = t
    · subst e
      rw [addP_self, hp, if_neg (Nat.lt_irrefl _), if_pos (Nat.lt_succ_self _)]; simp
    · rw [addP_ne e]
      by_cases e2 : t < n
      · rw [if_pos e2, if_pos (show t < n + 1 by omega)]; omega
      · rw [if_neg e2, if_neg (show ¬ t < n + 1 by omega)]; omega
theorem setL_split {p : Nat → Bool} {t : Nat} (hp : p t = false) : ∀ n, t < n → ∃ A R, setL n p = A ++ R ∧ setL n (addP p t) = A ++ (t : Int) :: R ∧ (∀ x ∈ A, x < (t : Int)) ∧ ∀ x ∈ R, (t : Int) < x := by
  intro n
  induction n with
  | zero => intro h; omega
  | succ n ih =>
    intro h
    by_cases e : t = n
    · subst e
      refine ⟨setL t p, [], ?_, ?_, fun x hx => ?_, fun x hx => by cases hx⟩
      · rw [setL_succ, hp]; simp
      · rw [setL_succ, addP_self, if_pos rfl, setL_congr (q := p) (fun x hx => addP_ne (by omega))]
      · obtain ⟨k, h1, _, rfl⟩ := setL_mem.1 hx
        omega
    · obtain ⟨A, R, h1, h2, h3, h4⟩ := ih (by omega)
      refine ⟨A, R ++ if p n = true then [(n : Int)] else [], ?_, ?_, h3, fun x hx => ?_⟩
      · rw [setL_succ, h1, List.append_assoc]
      · rw [setL_succ, h2, addP_ne (fun q => e q.symm)]; simp
      · rcases List.mem_append.1 hx with hx | hx
        · exact h4 x hx
        · by_cases hpn : p n = true
          · rw [if_pos hpn] at hx
            have := List.mem_singleton.1 hx
            omega
          · rw [if_neg hpn] at hx; cases hx

/-- The list of states to be looked at. -/
def opn (a : Nat) (q : List Nat) : List Int := (a :: q).map fun (k : Nat) => (k : Int)
/-- State number k of them. -/
def opA (a : Nat) (q : List Nat) (k : Nat) : Nat := (a :: q)[k]?.getD 0
theorem opn_len (a : Nat) (q : List Nat) : (opn a q).length = q.length + 1 := by simp [opn]
theorem opn_nth {a k : Nat} {q : List Nat} (h : k < q.length + 1) : nth (opn a q) k = (opA a q k : Nat) := by
  unfold nth opn opA
  rw [List.getElem?_map]
  have : k < (a :: q).length := by simpa using h
  rw [List.getElem?_eq_getElem this]; rfl
theorem opn_snoc (a : Nat) (q : List Nat) (t : Nat) : opn a q ++ [(t : Int)] = opn a (q ++ [t]) := by simp [opn]
theorem opA_snoc {a k : Nat} {q : List Nat} (t : Nat) (h : k < q.length + 1) : opA a (q ++ [t]) k = opA a q k := by
  unfold opA
  rw [← List.cons_append, List.getElem?_append_left (by simpa using h)]
theorem opA_mem {a x : Nat} {q : List Nat} (h : x = a ∨ x ∈ q) : ∃ k, k < q.length + 1 ∧ opA a q k = x := by
  have : x ∈ a :: q := List.mem_cons.2 h
  obtain ⟨k, hk, e⟩ := List.getElem_of_mem this
  exact ⟨k, by simpa using hk, by unfold opA; rw [List.getElem?_eq_getElem hk]; exact e⟩
theorem opA_in {a k : Nat} {q : List Nat} (h : k < q.length + 1) : opA a q k = a ∨ opA a q k ∈ q := by
  have hk : k < (a :: q).length := by simpa using h
  have : opA a q k ∈ a :: q := by unfold opA; rw [List.getElem?_eq_getElem hk]; exact List.getElem_mem hk
  exact List.mem_cons.1 this

/-- What is known while the search runs. -/
structure BfsI (g : List (List Int)) (n a : Nat) (p : Nat → Bool) (q : List Nat) : Prop where
  good : ∀ x, p x = true → x < n ∧ rcB g a x = true
  qp : ∀ x, x ∈ q → p x = true
  pq : ∀ x, p x = true → x ∈ q
  len : q.length = cnt p n
theorem BfsI.start (g : List (List Int)) (n a : Nat) : BfsI g n a (fun _ => false) [] :=
  ⟨fun x h => by simp at h, fun x h => by simp at h, fun x h => by simp at h, by
    have : ∀ m, cnt (fun _ => false) m = 0 := fun m => by
      induction m with
      | zero => rfl
      | succ m ih => show cnt _ m + _ = 0; rw [ih]; simp
    rw [this]; rfl⟩
theorem BfsI.add {g : List (List Int)} {n a t : Nat} {p : Nat → Bool} {q : List Nat} (h : BfsI g n a p q) (hp : p t = false) (ht : t < n) (hr : rcB g a t = true) : BfsI g n a (addP p t) (q ++ [t]) :=
  ⟨fun x hx => by
      rcases addP_true hx with hx | rfl
      · exact h.good x hx
      · exact ⟨ht, hr⟩,
    fun x hx => by
      rcases List.mem_append.1 hx with hx | hx
      · exact addP_mono (h.qp x hx)
      · rw [List.mem_singleton.1 hx]; exact addP_self _ _,
    fun x hx => by
      rcases addP_true hx with hx | rfl
      · exact List.mem_append.2 (.inl (h.pq x hx))
      · exact List.mem_append.2 (.inr (List.mem_singleton.2 rfl)),
    by rw [List.length_append, cnt_addP hp, if_pos ht, h.len]; rfl⟩
/-- The arrows from the first k states have been seen. -/
def Seen (g : List (List Int)) (n a : Nat) (p : Nat → Bool) (q : List Nat) (k : Nat) : Prop := ∀ i x, i < k → x < n → 0 < ent g (opA a q i) x → p x = true
/-- The first j arrows from state number k have been seen. -/
def SeenTo (g : List (List Int)) (a : Nat) (p : Nat → Bool) (q : List Nat) (k j : Nat) : Prop := ∀ x, x < j → 0 < ent g (opA a q k) x → p x = true
theorem bfs_end {g : List (List Int)} {a : Nat} {p : Nat → Bool} {q : List Nat} (h : BfsI g g.length a p q) (hs : Seen g g.length a p q (q.length + 1)) (ha : a < g.length) : ∀ x, x < g.length → p x = rcB g a x := by
  intro x hx
  rw [Bool.eq_iff_iff]
  constructor
  · exact fun hp => (h.good x hp).2
  · intro hr
    have := rcB_min (g := g) (fun i j => (i = a ∨ p i = true) → p j = true) (fun i j hi hj he hia => by
        obtain ⟨k, hk, e⟩ := opA_mem (a := a) (q := q) (x := i) (hia.imp_right (h.pq i))
        exact hs k j hk hj (by rw [e]; exact he))
      (fun i m j _ _ _ h1 h2 hia => h2 (.inr (h1 hia))) ha hx hr
    exact this (.inl rfl)

set_option maxRecDepth 100000 in
set_option maxHeartbeats 2000000 in
theorem grReach_any (v : Value) (g : List (List Int)) (a n : Nat) (w : World) (hv : RowsV w v g) (hg : graphB g = true) (hn : g.length = n) (ha : a < n) :
    Calls Try.prog 104 #[v, .int .i64 a] w (RetO Own (setL n (rcB g a)) w) := by
  obtain ⟨b, off, gcap, ro, rof, rcc, rfl, H⟩ := hv.graph hg hn
  obtain ⟨n1, n8, -, -⟩ := graphB_true hg
  rw [hn] at n1 n8
  have hend := fun p q => @bfs_end g a p q
  have hedge : ∀ s t, 0 < ent g s t → rcB g s t = true := fun s t h => rcB_edge h
  have htr : ∀ s t, s < n → rcB g a s = true → rcB g s t = true → rcB g a t = true := fun s t hs h1 h2 => rcB_trans (by rw [hn]; exact hs) h1 h2
  rw [hn] at hend
  have hB0 := (Below.refl w.heap.size w).alloc (Nat.le_refl _) (.cells #[.int .i64 a] 3)
  have hg0 : Grow (w.alloc (.cells #[.int .i64 a] 3)) w.heap.size (.slice (some ⟨w.heap.size, 0, none⟩) 1 1) (opn a []) :=
    ⟨by simp, .inr ⟨w.heap.size, 1, #[.int .i64 a], rfl, Nat.le_refl _, heap_alloc_new w _, Nat.le_refl _, by simp [maxLen], rfl, rfl⟩⟩
  have hb0 := BfsI.start g n a
  have hs0 : Seen g n a (fun _ => false) [] 0 := fun i x hi => absurd hi (Nat.not_lt_zero i)
  have he0 : setL n (fun _ => false) = [] := by unfold setL; simp
  have H' := Lib.hid H
  have hn' := Lib.hid hn
  have hg' := Lib.hid hg
  have hend' := Lib.hid hend
  have hB0' := Lib.hid hB0
  have hg0' := Lib.hid hg0
  have hb0' := Lib.hid hb0
  have hs0' := Lib.hid hs0
  have hedge' := Lib.hid hedge
  have htr' := Lib.hid htr
  have he0' := Lib.hid he0
  clear H hn hg hend hB0 hg0 hb0 hs0 hedge htr he0
  clear hv
  go_enter Try.func104, Try.ntmps104
  go_wp2
  go_loopw [5, 6, 7] (fun o op i wr => ∃ (k lo hi : Nat) (p : Nat → Bool) (q : List Nat), k ≤ q.length + 1 ∧ i = .int .i64 k ∧ (w.heap.size ≤ lo ∧ lo ≤ hi ∧ hi ≤ wr.heap.size) ∧ Own wr lo hi o (setL n p) ∧ (q = [] → o = .slice none 0 0) ∧ (∀ b, op.ownBlock = some b → b < lo ∨ hi ≤ b) ∧ Grow wr w.heap.size op (opn a q) ∧ Below w.heap.size w wr ∧ BfsI g n a p q ∧ Seen g n a p q k) (fun _ _ i _ => n + 2 - (intOf i).toNat)
  case atStart => exact ⟨0, w.heap.size, w.heap.size, _, _, Nat.zero_le _, rfl, ⟨Nat.le_refl _, Nat.le_refl _, by simp⟩, by rw [he0'.out]; exact Own.nil _ _ _, fun _ => rfl, fun b hb => by omega, hg0'.out, hB0'.out, hb0'.out, hs0'.out⟩
  case round =>
    obtain ⟨k, lo, hi, p, q, hk, rfl, hlh, ho, hnil, hblk, hgr, hB, hI, hS⟩ := hrel
    clear hg0' hB0' hb0' hs0'
    obtain ⟨bo, co, rfl, hrow⟩ := hgr.form (by rw [opn_len]; omega)
    rw [opn_len] at hrow hgr ⊢
    have hq8 : q.length ≤ n := by rw [hI.len]; exact cnt_le _ _
    by_cases hlt : k < q.length + 1
    · obtain ⟨s, hs⟩ : ∃ s, opA a q k = s := ⟨_, rfl⟩
      have hsn : s < n := by
        rw [← hs]
        rcases opA_in (a := a) hlt with e | e
        · rw [e]; exact ha
        · exact (hI.good _ (hI.qp _ e)).1
      have hra : s = a ∨ rcB g a s = true := by
        rw [← hs]
        rcases opA_in (a := a) hlt with e | e
        · exact .inl e
        · exact .inr (hI.good _ (hI.qp _ e)).2
      have hreach : ∀ t, 0 < ent g s t → rcB g a t = true := fun t h => by
        rcases hra with e | e
        · rw [← e]; exact hedge'.out s t h
        · exact htr'.out s t hsn e (hedge'.out s t h)
      have c1 := hrow.cell hlt
      rw [opn_nth hlt, hs] at c1
      have p1 := (H'.out.below hB s hsn).1
      have hST : SeenTo g a p q k 0 := fun x hx => absurd hx (Nat.not_lt_zero x)
      clear hrow hra
      obtain ⟨ql, hql⟩ : ∃ ql, q.length = ql := ⟨_, rfl⟩
      rw [hql] at hlt hgr hk hq8 ⊢
      have hlti : decide ((k : Int) < (ql : Int) + 1) = true := decide_eq_true (by omega)
      have ho' := Lib.hid ho
      have hnil' := Lib.hid hnil
      have hblk' := Lib.hid hblk
      have hgr' := Lib.hid hgr
      have hB' := Lib.hid hB
      have hI' := Lib.hid hI
      have hS' := Lib.hid hS
      have hST' := Lib.hid hST
      have hs' := Lib.hid hs
      have hreach' := Lib.hid hreach
      have hql' := Lib.hid hql
      clear ho hnil hblk hgr hB hI hS hST hs hreach hql
      go_wp2
      go_loopw [5, 6, 26] (fun o op i wr => ∃ (j lo hi : Nat) (p : Nat → Bool) (q : List Nat), j ≤ n ∧ i = .int .i64 j ∧ k < q.length + 1 ∧ opA a q k = s ∧ (w.heap.size ≤ lo ∧ lo ≤ hi ∧ hi ≤ wr.heap.size) ∧ Own wr lo hi o (setL n p) ∧ (q = [] → o = .slice none 0 0) ∧ (∀ b, op.ownBlock = some b → b < lo ∨ hi ≤ b) ∧ Grow wr w.heap.size op (opn a q) ∧ Below w.heap.size w wr ∧ BfsI g n a p q ∧ Seen g n a p q k ∧ SeenTo g a p q k j) (fun _ _ i _ => n - (intOf i).toNat)
      case atStart => exact ⟨0, lo, hi, p, q, Nat.zero_le _, rfl, by rw [hql'.out]; exact hlt, hs'.out, hlh, ho'.out, hnil'.out, hblk'.out, hgr'.out, hB'.out, hI'.out, hS'.out, hST'.out⟩
      case round =>
        clear ho' hnil' hblk' hgr' hB' hI' hS' hST' hs' hql' hlt hk hq8 hlh c1 p1 hlti
        clear lo hi p q
        obtain ⟨j, lo, hi, p, q, hj, rfl, hlt, hs, hlh, ho, hnil, hblk, hgr, hB, hI, hS, hST⟩ := hrel
        by_cases hltj : j < n
        · have p2 := (H'.out.below hB s hsn).2.2 j hltj
          have hext : ∀ p', (∀ x, p x = true → p' x = true) → (0 < ent g s j → p' j = true) → SeenTo g a p' q k (j + 1) := fun p' hp' hj' x hx he => by
            by_cases e : x = j
            · subst e; rw [hs] at he; exact hj' he
            · exact hp' _ (hST x (by omega) he)
          by_cases hedg : 0 < ent g s j
          · have hH := l1Has_any _ (setL n p) (j : Int) _ ho.read (by rw [setL_len]; have := cnt_le p n; omega)
            rw [setL_has hltj] at hH
            cases hp : p j
            · obtain ⟨A, R, e1, e2, hA, hR⟩ := setL_split hp n hltj
              rw [hp] at hH
              have hlen : (A ++ R).length ≤ 1099511627776 := by rw [← e1, setL_len]; have := cnt_le p n; omega
              have hP := fun w' (hq : IntsV w' u5 (A ++ R)) => l1Put_any u5 A R (j : Int) w' hq hA hR hlen (fun e => hnil (by
                have : (setL n p).length = 0 := by rw [e1, e]; rfl
                rw [setL_len, ← hI.len] at this
                exact List.eq_nil_of_length_eq_zero this))
              rw [← e2] at hP
              have hP2 := hP _ (by rw [← e1]; exact ho.read)
              have hI2 := hI.add hp hltj (hreach'.out j hedg)
              have hS2 : Seen g n a (addP p j) (q ++ [j]) k := fun i x hi hx he => by
                rw [opA_snoc j (by omega)] at he
                exact addP_mono (hS i x hi hx he)
              have hST2 : SeenTo g a (addP p j) (q ++ [j]) k (j + 1) := fun x hx he => by
                rw [opA_snoc j hlt] at he
                exact hext _ (fun _ => addP_mono) (fun _ => addP_self _ _) x hx he
              have hs2 : opA a (q ++ [j]) k = s := by rw [opA_snoc j hlt]; exact hs
              have hlt3 : k < (q ++ [j]).length + 1 := by rw [List.length_append]; omega
              have hq8 : q.length ≤ n := by rw [hI.len]; exact cnt_le _ _
              have hbw := fun b hb => (World.ownsRow.lt hgr b hb)
              clear hP ho hnil hI hS hST hp hext e1 e2 hA hR hlen hs hlt
              have hH' := Lib.hid hH
              have hP2' := Lib.hid hP2
              have hI2' := Lib.hid hI2
              have hS2' := Lib.hid hS2
              have hST2' := Lib.hid hST2
              have hs2' := Lib.hid hs2
              have hgr' := Lib.hid hgr
              have hB' := Lib.hid hB
              have hblk' := Lib.hid hblk
              have hlt3' := Lib.hid hlt3
              have hq8' := Lib.hid hq8
              have hbw' := Lib.hid hbw
              clear hH hP2 hI2 hS2 hST2 hs2 hgr hB hblk hlt3 hq8 hbw
              go_wp2_with fail
              refine (hH'.out).mono ?_
              rintro e w_ ⟨rfl, rfl⟩
              go_wp2_with fail
              refine hP2'.out.mono ?_
              rintro e w2 ⟨v2, rfl, ho2, hB2⟩
              have hB3 := hB'.out.trans (hB2.mono hB'.out.size)
              have hgr2 := hgr'.out.below hB2
              have hs3 := hB3.size
              have hsz := hB2.size
              have ho2' := Lib.hid ho2
              clear ho2
              clear hH' hP2' p2
              go_wp2_with (at_builtin; refine wpList_append_intA rfl _ _ rfl w.heap.size u6 (opn a q) (j : Int) _ rfl rfl hgr2 (by rw [opn_len]; have := hq8'.out; omega) hs3 ?_)
              intro v3 w3 hgr3 hg3 hfr
              rw [opn_snoc] at hgr3
              have hB4 := hgr2.belowB hB3 (Nat.le_refl _) hs3 hg3
              have ho3 := ho2'.out.kept hg3 (fun b hb => .inl (hbw'.out b hb).2)
              have hblk3 : ∀ b, v3.ownBlock = some b → b < wr.heap.size ∨ w2.heap.size ≤ b := fun b hb => by
                rcases hfr with h | h
                · rw [h] at hb; exact .inl (hbw'.out b hb).2
                · rw [h] at hb; cases hb; exact .inr (Nat.le_succ _)
              have hs4 := hg3.size
              have hsb := hB'.out.size
              clear hgr2 hg3 hfr
              have hgr3' := Lib.hid hgr3
              have hB4' := Lib.hid hB4
              have ho3' := Lib.hid ho3
              have hblk3' := Lib.hid hblk3
              clear hgr3 hB4 ho3 hblk3
              go_wp2
              go_roundw
              case rel => exact ⟨j + 1, _, _, _, _, by omega, by go_num, hlt3'.out, hs2'.out, ⟨hsb, hsz, hs4⟩, ho3'.out, fun e => by simp at e, hblk3'.out, hgr3'.out, hB4'.out, hI2'.out, hS2'.out, hST2'.out⟩
              case measure => simp [intOf]; omega
            · rw [hp] at hH
              have hST2 := hext p (fun _ h => h) (fun _ => hp)
              clear hext hp
              have hH' := Lib.hid hH
              have hST2' := Lib.hid hST2
              have ho' := Lib.hid ho
              have hnil' := Lib.hid hnil
              have hblk' := Lib.hid hblk
              have hgr' := Lib.hid hgr
              have hB' := Lib.hid hB
              have hI' := Lib.hid hI
              have hS' := Lib.hid hS
              have hs' := Lib.hid hs
              have hST' := Lib.hid hST
              have hlt' := Lib.hid hlt
              clear hH hST2 ho hnil hblk hgr hB hI hS hs hST hlt
              go_wp2_with fail
              refine (hH'.out).mono ?_
              rintro e w_ ⟨rfl, rfl⟩
              go_wp2
              go_roundw
              case rel => exact ⟨j + 1, _, _, _, _, by omega, by go_num, hlt'.out, hs'.out, hlh, ho'.out, hnil'.out, hblk'.out, hgr'.out, hB'.out, hI'.out, hS'.out, hST2'.out⟩
              case measure => simp [intOf]; omega
          · have hST2 := hext p (fun _ h => h) (fun h => absurd h hedg)
            have hd : decide (0 < ent g s j) = false := decide_eq_false hedg
            clear hext
            have hST2' := Lib.hid hST2
            have ho' := Lib.hid ho
            have hnil' := Lib.hid hnil
            have hblk' := Lib.hid hblk
            have hgr' := Lib.hid hgr
            have hB' := Lib.hid hB
            have hI' := Lib.hid hI
            have hS' := Lib.hid hS
            have hs' := Lib.hid hs
            have hST' := Lib.hid hST
            have hlt' := Lib.hid hlt
            clear hST2 ho hnil hblk hgr hB hI hS hs hST hlt
            go_wp2
            go_roundw
            case rel => exact ⟨j + 1, _, _, _, _, by omega, by go_num, hlt'.out, hs'.out, hlh, ho'.out, hnil'.out, hblk'.out, hgr'.out, hB'.out, hI'.out, hS'.out, hST2'.out⟩
            case measure => simp [intOf]; omega
        · obtain rfl : n = j := by omega
          have hS2 : Seen g n a p q (k + 1) := fun i x hi hx he => by
            by_cases e : i = k
            · subst e; exact hST x hx he
            · exact hS i x (by omega) hx he
          have hq8 : q.length ≤ n := by rw [hI.len]; exact cnt_le _ _
          clear hS hST hs
          have hS2' := Lib.hid hS2
          have ho' := Lib.hid ho
          have hnil' := Lib.hid hnil
          have hblk' := Lib.hid hblk
          have hgr' := Lib.hid hgr
          have hB' := Lib.hid hB
          have hI' := Lib.hid hI
          clear hS2 ho hnil hblk hgr hB hI
          go_wp2
          go_roundw
          case rel => exact ⟨k + 1, _, _, _, _, by omega, by go_num, hlh, ho'.out, hnil'.out, hblk'.out, hgr'.out, hB'.out, hI'.out, hS2'.out⟩
          case measure => simp [intOf]; omega
    · obtain rfl : k = q.length + 1 := by omega
      have hfin := setL_congr (hend'.out p q hI hS ha)
      rw [hfin] at ho
      have hfo := ho.mono hlh.1 hlh.2.2
      clear hI hS hfin ho hgr hrow hnil hblk
      obtain ⟨ql, hql⟩ : ∃ ql, q.length = ql := ⟨_, rfl⟩
      rw [hql] at hq8 ⊢
      have hfo' := Lib.hid hfo
      have hql' := Lib.hid hql
      clear hfo hql
      go_wp2
      go_ret
      exact ⟨_, rfl, hfo'.out, hB⟩

end Go.Proofs.Ytblippeklbhepaa

/- Numbers as texts: writing, splitting and reading back. Plain laws, no program in sight. -/
import Derived.Lib.ItoaNum
import Derived.Lib.AtoiAll
import Derived.Lib.SplitLaws
import Derived.Lib.Join
namespace Go.Proofs.YtgpabfbnbmbmeaaGreatDoor
open Go.Lib

abbrev Bytes := List UInt8
/-- A text cut at each blank. -/
def cut32 : Bytes → Bytes → List Bytes
  | acc, [] => [acc]
  | acc, c :: r => if c = 32 then acc :: cut32 [] r else cut32 (acc ++ [c]) r
def words (s : Bytes) : List Bytes := cut32 [] s
theorem cut32_word (x : Bytes) : ∀ (acc : Bytes), (∀ c ∈ x, c ≠ 32) → ∀ r, cut32 acc (x ++ r) = cut32 (acc ++ x) r := by
  induction x with
  | nil => intro acc _ r; simp
  | cons c x ih =>
    intro acc h r
    have hc : c ≠ 32 := h c (List.mem_cons_self ..)
    rw [List.cons_append, cut32, if_neg hc, ih _ (fun d hd => h d (List.mem_cons_of_mem _ hd))]
    simp
theorem words_join : ∀ (xs : List Bytes), xs ≠ [] → (∀ x ∈ xs, ∀ c ∈ x, c ≠ 32) → words (join xs [32]) = xs := by
  intro xs h0 h
  match xs with
  | [] => exact absurd rfl h0
  | x :: r =>
    clear h0
    have main : ∀ (r : List Bytes) (x : Bytes), (∀ y ∈ x :: r, ∀ c ∈ y, c ≠ 32) → cut32 [] (x ++ joinTail [32] r) = x :: r := by
      intro r
      induction r with
      | nil =>
        intro x h
        have : joinTail [32] [] = [] := rfl
        rw [this, cut32_word x [] (h x (List.mem_cons_self ..)), cut32]
        simp
      | cons y r ih =>
        intro x h
        have : joinTail [32] (y :: r) = 32 :: (y ++ joinTail [32] r) := by simp [joinTail]
        rw [this, cut32_word x [] (h x (List.mem_cons_self ..)), List.nil_append, cut32, if_pos rfl, ih y (fun z hz => h z (List.mem_cons_of_mem _ hz))]
    unfold words
    rw [join_cons]
    exact main r x h
theorem cut32_len (s : Bytes) : ∀ acc, 1 ≤ (cut32 acc s).length ∧ (cut32 acc s).length ≤ s.length + 1 := by
  induction s with
  | nil => intro acc; simp [cut32]
  | cons c r ih =>
    intro acc
    rw [cut32]
    split
    · have := ih []; simp; omega
    · have := ih (acc ++ [c]); simp; omega
/-- The reader's way: from the last cut on. -/
theorem cut32_snoc (s : Bytes) (c : UInt8) : ∀ acc, cut32 acc (s ++ [c]) = if c = 32 then cut32 acc s ++ [[]] else (cut32 acc s).dropLast ++ [((cut32 acc s).getLast?.getD []) ++ [c]] := by
  induction s with
  | nil =>
    intro acc
    simp only [List.nil_append, cut32]
    split <;> simp
  | cons d r ih =>
    intro acc
    simp only [List.cons_append, cut32]
    by_cases hd : d = 32
    · rw [if_pos hd, if_pos hd, ih]
      have hn : (cut32 [] r) ≠ [] := by have := (cut32_len r []).1; intro e; rw [e] at this; simp at this
      split
      · simp
      · rw [List.dropLast_cons_of_ne_nil hn, List.getLast?_cons]
        cases h : (cut32 [] r).getLast? with
        | none => rw [List.getLast?_eq_none_iff] at h; exact absurd h hn
        | some z => simp
    · rw [if_neg hd, if_neg hd, ih]
theorem dec_digit (u : Nat) : ∀ c ∈ decDigits u, 48 ≤ c.toNat ∧ c.toNat ≤ 57 := by
  induction u using Nat.strongRecOn with
  | _ u ih =>
    intro c hc
    rw [decDigits] at hc
    have key : ∀ k, k < 10 → (UInt8.ofNat (48 + k)).toNat = 48 + k := fun k hk => by simp [UInt8.toNat_ofNat]; omega
    split at hc
    · rename_i h
      rw [List.mem_singleton] at hc
      subst hc
      rw [key u h]; omega
    · rename_i h
      rcases List.mem_append.1 hc with h1 | h1
      · exact ih (u / 10) (by omega) c h1
      · rw [List.mem_singleton] at h1
        subst h1
        rw [key _ (by omega)]; omega
theorem dec_ne (u : Nat) : decDigits u ≠ [] := by
  rw [decDigits]; split <;> simp
theorem itoa_no32 (n : Int) : ∀ c ∈ itoa n, c ≠ 32 := by
  intro c hc e
  subst e
  unfold itoa at hc
  split at hc
  · rcases List.mem_cons.1 hc with h | h
    · cases h
    · have := dec_digit _ _ h; revert this; decide
  · have := dec_digit _ _ hc; revert this; decide
theorem decDigits_len (k : Nat) : ∀ u, u < 10 ^ k → 1 ≤ k → (decDigits u).length ≤ k := by
  induction k with
  | zero => intro u _ h; omega
  | succ k ih =>
    intro u hu _
    rw [decDigits]
    split
    · simp
    · rename_i h
      by_cases hk : 1 ≤ k
      · have := ih (u / 10) (by rw [Nat.pow_succ] at hu; omega) hk
        simp; omega
      · obtain rfl : k = 0 := by omega
        simp at hu; omega
theorem dec_head0 (u : Nat) (h : 1 ≤ u) : ∃ c r, decDigits u = c :: r ∧ c.toNat ≠ 48 := by
  induction u using Nat.strongRecOn with
  | _ u ih =>
    rw [decDigits]
    split
    · rename_i h2
      refine ⟨_, [], rfl, ?_⟩
      simp [UInt8.toNat_ofNat]; omega
    · obtain ⟨c, r, e, h3⟩ := ih (u / 10) (by omega) (by omega)
      exact ⟨c, r ++ [UInt8.ofNat (48 + u % 10)], by rw [e]; rfl, h3⟩
/-- Digits read from the left. -/
def rdL (acc : Nat) (l : Bytes) : Nat := l.foldl (fun a c => 10 * a + (c.toNat - 48)) acc
theorem rdL_dec (u : Nat) : rdL 0 (decDigits u) = u := by
  induction u using Nat.strongRecOn with
  | _ u ih =>
    rw [decDigits]
    have key : ∀ k, k < 10 → (UInt8.ofNat (48 + k)).toNat = 48 + k := fun k hk => by simp [UInt8.toNat_ofNat]; omega
    split
    · rename_i h
      simp only [rdL, List.foldl_cons, List.foldl_nil, key u h]; omega
    · rename_i h
      have := ih (u / 10) (by omega)
      simp only [rdL, List.foldl_append, List.foldl_cons, List.foldl_nil, key _ (show u % 10 < 10 by omega)] at this ⊢
      rw [this]; omega
def isDig (c : UInt8) : Bool := decide (48 ≤ c.toNat) && decide (c.toNat ≤ 57)
/-- The reference's reading of a number: -1 for what is none. -/
def raRd (l : Bytes) : Int := if (1 ≤ l.length ∧ l.length ≤ 10) ∧ ¬ (l.head? = some 48 ∧ 1 < l.length) ∧ l.all isDig = true then (rdL 0 l : Int) else -1
def rdS (l : Bytes) : Int := if 1 < l.length ∧ l.head? = some 45 then - raRd l.tail else raRd l
theorem raRd_dec (u : Nat) (hu : u < 10000000000) : raRd (decDigits u) = u := by
  unfold raRd
  have h1 := decDigits_len 10 u (by omega) (by omega)
  have h2 : 1 ≤ (decDigits u).length := by
    have := dec_ne u
    cases h : decDigits u with
    | nil => exact absurd h this
    | cons _ _ => simp
  rw [if_pos, rdL_dec]
  refine ⟨⟨h2, h1⟩, ?_, ?_⟩
  · rintro ⟨a, b⟩
    by_cases h0 : 1 ≤ u
    · obtain ⟨c, r, e, hc⟩ := dec_head0 u h0
      rw [e] at a
      simp at a
      subst a
      exact hc rfl
    · obtain rfl : u = 0 := by omega
      rw [show decDigits 0 = [48] by rw [decDigits]; rfl] at b
      simp at b
  · rw [List.all_eq_true]
    intro c hc
    have := dec_digit u c hc
    simp [isDig]; omega
theorem rdS_itoa (n : Int) (h1 : -1000000 ≤ n) (h2 : n ≤ 1000000) : rdS (itoa n) = n := by
  unfold itoa
  split
  · rename_i h
    unfold rdS
    have hl : 1 < (45 :: decDigits n.natAbs).length := by
      have := dec_ne n.natAbs
      cases h : decDigits n.natAbs with
      | nil => exact absurd h this
      | cons _ _ => simp
    rw [if_pos ⟨hl, rfl⟩, List.tail_cons, raRd_dec _ (by omega)]
    omega
  · rename_i h
    unfold rdS
    rw [if_neg, raRd_dec _ (by omega)]
    · omega
    · rintro ⟨_, e⟩
      cases hd : decDigits n.toNat with
      | nil => rw [hd] at e; cases e
      | cons c r =>
        rw [hd] at e
        simp at e
        have := dec_digit n.toNat c (by rw [hd]; exact List.mem_cons_self ..)
        subst e
        revert this; decide
theorem parse_dec (l : Bytes) : ∀ acc, (∀ c ∈ l, 48 ≤ c.toNat ∧ c.toNat ≤ 57) → rdL acc l < 10000000000 → parseUint10 acc l = .ok (rdL acc l) := by
  induction l with
  | nil => intro acc _ _; rfl
  | cons c r ih =>
    intro acc h hb
    have hc := h c (List.mem_cons_self ..)
    have hmono : ∀ (l : Bytes) a, a ≤ rdL a l := by
      intro l
      induction l with
      | nil => intro a; exact Nat.le_refl _
      | cons d l ih2 => intro a; have := ih2 (10 * a + (d.toNat - 48)); simp only [rdL, List.foldl_cons] at this ⊢; omega
    have e : rdL acc (c :: r) = rdL (10 * acc + (c.toNat - 48)) r := rfl
    have hb2 := hmono r (10 * acc + (c.toNat - 48))
    rw [e] at hb ⊢
    rw [parseUint10, if_pos hc, if_neg (by omega), if_neg (by omega), Nat.mul_comm acc 10]
    exact ih _ (fun d hd => h d (List.mem_cons_of_mem _ hd)) hb
theorem atoi_itoa (n : Int) (h1 : -1000000 ≤ n) (h2 : n ≤ 1000000) : atoiAll (itoa n) = .ok n := by
  have hd : ∀ u : Nat, u ≤ 1000000 → parseMag (decDigits u) = .ok u := fun u hu => by
    unfold parseMag
    rw [if_neg (dec_ne u), parse_dec _ 0 (dec_digit u) (by rw [rdL_dec]; omega), rdL_dec]
  unfold itoa
  split
  · unfold atoiAll
    simp only [show (45 : UInt8).toNat = 45 from rfl, or_true, if_true]
    rw [hd _ (by omega)]
    have h3 : ¬ (9223372036854775808 < n.natAbs) := by omega
    simp [h3]; omega
  · have h3 := hd n.toNat (by omega)
    have hdg := dec_digit n.toNat
    have hne := dec_ne n.toNat
    generalize decDigits n.toNat = l at *
    match l with
    | [] => exact absurd rfl hne
    | c :: r =>
      have hc := hdg c (List.mem_cons_self ..)
      unfold atoiAll
      simp only
      rw [if_neg (by omega), h3]
      have h5 : ¬ (c.toNat = 45) := by omega
      have h6 : ¬ (9223372036854775808 ≤ n.toNat) := by omega
      simp [h5, h6]; omega
/-- The text of a polynomial. -/
def textP (p : List Int) : Bytes := if p = [] then [48] else join (p.map itoa) [32]
theorem words_text {p : List Int} (h : p ≠ []) : words (textP p) = p.map itoa := by
  unfold textP
  rw [if_neg h]
  refine words_join _ (by simpa using h) ?_
  intro x hx c hc
  obtain ⟨n, _, rfl⟩ := List.mem_map.1 hx
  exact itoa_no32 n c hc
/-- What a reading tells of a text, for a reading of words. -/
def readV (good : List Int → Bool) (rd : Bytes → Int) (s : Bytes) : List Int × Bool :=
  if s = [48] then ([], true) else if good ((words s).map rd) = true ∧ textP ((words s).map rd) = s then ((words s).map rd, true) else ([], false)
theorem words_ne (s : Bytes) : words s ≠ [] := by
  have := (cut32_len s []).1
  intro e
  unfold words at e
  rw [e] at this
  simp at this
theorem read_back {good : List Int → Bool} {rd : Bytes → Int} (hgood : ∀ p, good p = true → ∀ n ∈ p, -1000000 ≤ n ∧ n ≤ 1000000) (hrd : ∀ n, -1000000 ≤ n → n ≤ 1000000 → rd (itoa n) = n) {p : List Int} (h0 : p ≠ []) (hp : good p = true) : (words (textP p)).map rd = p := by
  rw [words_text h0, List.map_map]
  have : ∀ n ∈ p, (rd ∘ itoa) n = id n := fun n hn => hrd n (hgood p hp n hn).1 (hgood p hp n hn).2
  rw [List.map_congr_left this, List.map_id]
/-- Two readings that are right at written numbers tell the same. -/
theorem read_same {good : List Int → Bool} {rd rd2 : Bytes → Int} (hgood : ∀ p, good p = true → ∀ n ∈ p, -1000000 ≤ n ∧ n ≤ 1000000) (h1 : ∀ n, -1000000 ≤ n → n ≤ 1000000 → rd (itoa n) = n) (h2 : ∀ n, -1000000 ≤ n → n ≤ 1000000 → rd2 (itoa n) = n) (s : Bytes) : readV good rd s = readV good rd2 s := by
  have key : ∀ {r1 r2 : Bytes → Int}, (∀ n, -1000000 ≤ n → n ≤ 1000000 → r2 (itoa n) = n) → good ((words s).map r1) = true → textP ((words s).map r1) = s → (words s).map r2 = (words s).map r1 := by
    intro r1 r2 hr hg ht
    have hne : (words s).map r1 ≠ [] := by simpa using words_ne s
    have := read_back hgood hr hne hg
    rwa [ht] at this
  unfold readV
  split
  · rfl
  · split
    · rename_i h
      have e := key h2 h.1 h.2
      rw [e, if_pos h]
    · rename_i h
      rw [if_neg]
      intro h3
      have e := key h1 h3.1 h3.2
      rw [e] at h
      exact h h3
/-- A text that is told has only written numbers for words. -/
theorem read_words {good : List Int → Bool} {rd : Bytes → Int} (hgood : ∀ p, good p = true → ∀ n ∈ p, -1000000 ≤ n ∧ n ≤ 1000000) {s : Bytes} (h : good ((words s).map rd) = true) (ht : textP ((words s).map rd) = s) : ∀ x ∈ words s, ∃ n, (-1000000 ≤ n ∧ n ≤ 1000000) ∧ x = itoa n := by
  intro x hx
  have hne : (words s).map rd ≠ [] := by simpa using words_ne s
  have hw := words_text hne
  rw [ht] at hw
  rw [hw] at hx
  obtain ⟨n, hn, rfl⟩ := List.mem_map.1 hx
  exact ⟨n, hgood _ h n hn, rfl⟩
/-- A text of words that are no written number is not told. -/
theorem read_bad {good : List Int → Bool} {rd : Bytes → Int} (hgood : ∀ p, good p = true → ∀ n ∈ p, -1000000 ≤ n ∧ n ≤ 1000000) {s : Bytes} (h0 : s ≠ [48]) {x : Bytes} (hx : x ∈ words s) (hb : ∀ n, -1000000 ≤ n → n ≤ 1000000 → x ≠ itoa n) : readV good rd s = ([], false) := by
  unfold readV
  rw [if_neg h0, if_neg]
  rintro ⟨h1, h2⟩
  obtain ⟨n, ⟨a, b⟩, e⟩ := read_words hgood h1 h2 x hx
  exact hb n a b e
/-- Nor is a text of too many words. -/
theorem read_many {good : List Int → Bool} {rd : Bytes → Int} (hgood : ∀ p, good p = true → p.length ≤ 9) {s : Bytes} (h0 : s ≠ [48]) (hx : 9 < (words s).length) : readV good rd s = ([], false) := by
  unfold readV
  rw [if_neg h0, if_neg]
  rintro ⟨h1, _⟩
  have := hgood _ h1
  rw [List.length_map] at this
  omega
/-- The library's cut is the same. -/
theorem index_at32 (acc r : Bytes) (h : ∀ c ∈ acc, c ≠ 32) : index (acc ++ 32 :: r) [32] = (acc.length : Int) := by
  refine index_first (by simp) ?_ ?_
  · simp [occAt]
  · intro j hj
    cases hc : occAt (acc ++ 32 :: r) [32] j
    · rfl
    · have := occAt_head rfl hc
      rw [List.getElem?_append_left hj, List.getElem?_eq_getElem hj] at this
      exact absurd (Option.some.inj this) (h _ (List.getElem_mem hj))
theorem splitK_words : ∀ (s acc : Bytes), (∀ c ∈ acc, c ≠ 32) → splitK [32] 0 (s.count 32) (acc ++ s) = cut32 acc s := by
  intro s
  induction s with
  | nil => intro acc _; simp [splitK, cut32]
  | cons c r ih =>
    intro acc h
    by_cases hc : c = 32
    · subst hc
      have hi := index_at32 acc r h
      rw [List.count_cons_self, splitK, if_neg (by rw [hi]; simp), cut32, if_pos rfl, hi]
      have e1 : (acc ++ 32 :: r).take ((acc.length : Int).toNat + 0) = acc := by simp
      have e2 : (acc ++ 32 :: r).drop ((acc.length : Int).toNat + ([32] : Bytes).length) = r := by
        rw [show (acc ++ 32 :: r) = (acc ++ [32]) ++ r by simp]
        simp
      rw [e1, e2]
      have := ih [] (fun _ h => by cases h)
      rw [List.nil_append] at this
      rw [this]
    · rw [List.count_cons_of_ne (by simpa using hc), cut32, if_neg hc]
      have := ih (acc ++ [c]) (fun d hd => by
        rcases List.mem_append.1 hd with h1 | h1
        · exact h d h1
        · rw [List.mem_singleton] at h1; subst h1; exact hc)
      rw [List.append_assoc] at this
      exact this
theorem split_words (s : Bytes) : split s [32] = words s := by
  have := splitK_words s [] (fun _ h => by cases h)
  rw [List.nil_append] at this
  unfold split words
  rw [count_one, this]
end Go.Proofs.YtgpabfbnbmbmeaaGreatDoor

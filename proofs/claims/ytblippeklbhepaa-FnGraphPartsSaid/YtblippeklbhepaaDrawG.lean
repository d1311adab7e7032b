/- Drawn graphs, told loosely: some table of a small size, in new memory. No conditions but small sizes. -/
import Derived.Test.YtblippeklbhepaaDrawP
import Derived.Test.YtblippeklbhepaaTabs
import Derived.Deep.Cut
import Derived.Deep.CutRange
import Derived.Deep.RegionHeld3
import Derived.Outline
namespace Go.Proofs.Ytblippeklbhepaa
open Go.RowKit

theorem RowAt.same {w w' : World} {B g n cap : Nat} {xs : List Int} (h : RowAt w B g n cap xs) (hs : w'.heap[g]? = w.heap[g]?) : RowAt w' B g n cap xs := by
  refine ⟨h.1, ?_⟩
  rcases h.2 with h3 | ⟨g', cap', cur, e', h4, h5, h6⟩
  · exact .inl h3
  · refine .inr ⟨g', cap', cur, e', h4, ?_, h6⟩
    simp only [Value.slice.injEq, Option.some.injEq, Addr.mk.injEq, and_true, true_and] at e'
    rw [← e'.1] at h5 ⊢
    rw [hs]; exact h5
theorem GrowT.same {w w' : World} {B E : Nat} {v : Value} {k m : Nat} {rb rc : Nat → Nat} {f : Nat → Nat → Int} (h : GrowT w B E v k m rb rc f) (hs : ∀ j, B ≤ j → j < E → w'.heap[j]? = w.heap[j]?) : GrowT w' B E v k m rb rc f := by
  refine ⟨⟨h.outer.1, ?_⟩, fun i hi => (h.rows i hi).same (hs _ (h.rows i hi).lt.1 (h.top.2 i hi)), h.inj, h.top⟩
  rcases h.outer.2 with h3 | ⟨g', cap', cur, e', h4, h5, h6⟩
  · exact .inl h3
  · exact .inr ⟨g', cap', cur, e', h4, by rw [hs g' h4 (h.top.1 g' (by subst e'; rfl))]; exact h5, h6⟩
theorem GrowT.grown {w w' : World} {B E c : Nat} {v : Value} {k m : Nat} {rb rc : Nat → Nat} {f : Nat → Nat → Int} (h : GrowT w B E v k m rb rc f) (hg : w.grownBy w' (some c)) (hc : c < B) (hE : E ≤ w.heap.size) : GrowT w' B E v k m rb rc f :=
  h.same (fun j h1 h2 => hg.block j (by omega) (fun e => by cases e; omega))
theorem GrowT.mono {w : World} {B E E' : Nat} {v : Value} {k m : Nat} {rb rc : Nat → Nat} {f : Nat → Nat → Int} (h : GrowT w B E v k m rb rc f) (hE : E ≤ E') : GrowT w B E' v k m rb rc f :=
  ⟨h.outer, h.rows, h.inj, fun g hg => Nat.lt_of_lt_of_le (h.top.1 g hg) hE, fun i hi => Nat.lt_of_lt_of_le (h.top.2 i hi) hE⟩
theorem MatT.same {w w' : World} {B E g n cap m : Nat} {rb rc : Nat → Nat} {f : Nat → Nat → Int} (h : MatT w B E g n cap m rb rc f) (hs : ∀ j, B ≤ j → j < E → w'.heap[j]? = w.heap[j]?) : MatT w' B E g n cap m rb rc f := by
  obtain ⟨h1, h2, h3, h4, h5⟩ := h.grow.same hs
  exact ⟨h1, h2, h3, h.top⟩
theorem MatT.grown {w w' : World} {B E c g n cap m : Nat} {rb rc : Nat → Nat} {f : Nat → Nat → Int} (h : MatT w B E g n cap m rb rc f) (hg : w.grownBy w' (some c)) (hc : c < B) (hE : E ≤ w.heap.size) : MatT w' B E g n cap m rb rc f :=
  h.same (fun j h1 h2 => hg.block j (by omega) (fun e => by cases e; omega))
theorem lst_nth {xs : List Int} {n : Nat} (h : xs.length = n) : lst n (nth xs) = xs := by
  subst h
  apply List.ext_getElem (by rw [lst_len])
  intro j h1 h2
  rw [lst_len] at h1
  rw [← nth_eq, ← nth_eq, nth_lst h1]

theorem off_new {w : World} {c N : Nat} (h : CurAt w c N) (n : Nat) : ∀ b off k cap, Value.slice (some ⟨w.heap.size, 0, none⟩) n n = .slice (some ⟨b, off, none⟩) k cap → b ≠ c := by
  intro b off k cap e
  have := h.lt
  simp only [Value.slice.injEq, Option.some.injEq, Addr.mk.injEq] at e
  omega
theorem grown_set {w W : World} {c g : Nat} (h : w.grownBy W (some c)) (hg : w.heap.size ≤ g) (j : Nat) (x : Int) : w.grownBy (W.setCell ⟨g, j, none⟩ (.int .i64 x)) (some c) :=
  grown_new h (row := some g) ⟨rfl, rfl, rfl, by simp [World.setCell], fun k _ hk => Below.heap_setCell _ _ _ _ (fun e => hk (by rw [e]))⟩ (fun k e => by cases e; exact hg)
theorem cur_built {w : World} {c N : Nat} (_ : CurAt w c N) (xs : List Int) (n : Nat) (hn : xs.length = n) (hm : n ≤ 1048576) : IntsV (w.alloc (.cells (xs.map (Value.int .i64)).toArray 3)) (.slice (some ⟨w.heap.size, 0, none⟩) n n) xs := IntsV.built w xs n hn hm
theorem cur_set {W : World} {c N B g : Nat} (h : CurAt W c N) (hg : B ≤ g) (hc : c < B) (j : Nat) (x : Int) : CurAt (W.setCell ⟨g, j, none⟩ (.int .i64 x)) c N :=
  h.below (E := B) ((Below.refl B W).setCell (p := ⟨g, j, none⟩) hg _) hc

/-- It returns a square table in new memory; of the rest the cursor alone has turned. -/
def PicksG (c N : Nat) (w : World) (e : Ending) (w' : World) : Prop :=
  ∃ n g cap rb rc f, e = .returned (.slice (some ⟨g, 0, none⟩) n cap) ∧ (1 ≤ n ∧ n ≤ 8) ∧ MatT w' w.heap.size w'.heap.size g n cap n rb rc f ∧ CurAt w' c N ∧ w.grownBy w' (some c)

/-- The first stretch: the table is laid entry by entry. -/
theorem few_of {z : Int} (h : z ∈ [(2 : Int), 2, 3]) : ∃ f : Nat, z = f ∧ 2 ≤ f ∧ f ≤ 3 := by
  simp at h
  rcases h with rfl | rfl
  · exact ⟨2, rfl, by omega⟩
  · exact ⟨3, rfl, by omega⟩
theorem size_of {z : Int} (h : z ∈ [(5 : Int), 6, 7, 8]) : ∃ f : Nat, z = f ∧ 1 ≤ f ∧ f ≤ 8 := by
  simp at h
  rcases h with rfl | rfl | rfl | rfl
  · exact ⟨5, rfl, by omega⟩
  · exact ⟨6, rfl, by omega⟩
  · exact ⟨7, rfl, by omega⟩
  · exact ⟨8, rfl, by omega⟩

set_option maxHeartbeats 8000000 in
theorem graph_any (c N : Nat) (w : World) (h : CurAt w c N) (hN : N ≤ 100000) :
    Calls Try.prog 117 #[.pointer (some ⟨c, 0, none⟩)] w (PicksG c (N + 300) w) := by
  have c1 := pick_any c N 4 w h (by omega) (by omega) (by omega)
  have hcw := h.lt
  have c1' := Lib.hid c1
  clear c1
  clear h
  go_enter Try.func117, Try.ntmps117
  go_wp2_with fail
  refine (c1'.out).mono ?_
  rintro e w1 ⟨v, rfl, ⟨x, rfl, hx⟩, hc1, hg1⟩
  go_wp2_with fail
  refine (one_any c _ 12 w1 hc1 (by omega) (by omega) (by omega)).mono ?_
  rintro e w2 ⟨v, rfl, ⟨b, rfl⟩, hc2, hg2⟩
  have hg := hg1.trans hg2
  clear hg1 hg2 hc1 c1'
  go_upto_if 16 with fail
  go_cut [3] from 17 to 19 (fun s3 wx => ∃ n : Nat, s3 = .int .i64 n ∧ (1 ≤ n ∧ n ≤ 8) ∧ CurAt wx c (N + 6) ∧ w.grownBy wx (some c))
  case first =>
    cases b
    · go_wp2_with fail
      go_meet
      exact ⟨x + 1, by simp; omega, by omega, hc2.mono (by omega), hg⟩
    · go_wp2_with fail
      refine (among_list c _ [5, 6, 7, 8] w2 4 hc2 (by omega) rfl (by omega) (by omega)).mono ?_
      rintro e w3 ⟨v, rfl, ⟨z, rfl, hz⟩, hc3, hg3⟩
      obtain ⟨n, rfl, hn1⟩ := size_of hz
      replace hg := hg.trans hg3
      go_wp2_with fail
      go_meet
      exact ⟨n, rfl, hn1, hc3.mono (by omega), hg⟩
  case rest =>
   obtain ⟨n, rfl, ⟨hn1, hn8⟩, hc3, hg3⟩ := hcut
   clear hc2 hg hx
   go_wp2_with fail
   refine (among_list c _ [2, 2, 3] wc 3 hc3 (by omega) rfl (by omega) (by omega)).mono ?_
   rintro e w4 ⟨v, rfl, ⟨z4, rfl, hz4⟩, hc4, hg4⟩
   obtain ⟨f, rfl, hf1, hf2⟩ := few_of hz4
   have hg := hg3.trans hg4
   clear hz4 hg4 hc3 hg3
   have hc4' := Lib.hid hc4
   have hg' := Lib.hid hg
   clear hc4 hg
   go_wp2
   go_loopw [5, 6] (fun o i wr => ∃ (k : Nat) (rb rc : Nat → Nat) (F : Nat → Nat → Int), k ≤ n ∧ i = .int .i64 k ∧ GrowT wr w.heap.size wr.heap.size o k n rb rc F ∧ CurAt wr c (N + 8 + 32 * k) ∧ w.grownBy wr (some c)) (fun _ i _ => n - (intOf i).toNat)
   case atStart => exact ⟨0, fun _ => 0, fun _ => 0, fun _ _ => 0, Nat.zero_le _, rfl, GrowT.nil _ _ _ _ _ _ _, hc4'.out.mono (by omega), hg'.out⟩
   case round =>
     obtain ⟨i, rb, rc, F, hi, rfl, hT, hc, hg⟩ := hrel
     obtain ⟨wo, rfl⟩ : ∃ wo : World, wo = wr := ⟨_, rfl⟩
     have hsz := hg.size
     by_cases hlt : i < n
     · have hT' := Lib.hid hT
       have hc' := Lib.hid hc
       have hg' := Lib.hid hg
       clear hT hc hg
       go_wp2
       go_loopw [7, 8] (fun r kk wr => ∃ (k : Nat) (xs : List Int), k ≤ n ∧ kk = .int .i64 k ∧ xs.length = k ∧ Grow wr wo.heap.size r xs ∧ CurAt wr c (N + 8 + 32 * i + 4 * k) ∧ wo.grownBy wr (some c)) (fun _ kk _ => n - (intOf kk).toNat)
       case atStart => exact ⟨0, [], Nat.zero_le _, rfl, rfl, Grow.nil _ _, hc'.out.mono (by omega), World.grownBy.refl _ _⟩
       case round =>
         obtain ⟨k, xs, hk, rfl, hxl, hr, hc5, hg5⟩ := hrel
         obtain ⟨wi, rfl⟩ : ∃ wi : World, wi = wr := ⟨_, rfl⟩
         have hsz5 := hg5.size
         have hxl' := Lib.hid hxl
         clear hxl
         by_cases hltk : k < n
         · go_upto_region 14 with fail
           go_cut [47] from 28 to 46 (fun s47 wx => ∃ B : Bool, s47 = .bool B ∧ CurAt wx c (N + 8 + 32 * i + 4 * k + 2) ∧ wi.grownBy wx (some c))
           case first =>
             go_wp2_with fail
             refine (one_any c _ f wi hc5 (by omega) (by omega) (by omega)).mono ?_
             rintro e w6 ⟨v, rfl, ⟨b, rfl⟩, hc6, hg6⟩
             cases b
             · by_cases hf : f = 2
               · have hf0 : ((f : Int) == 2) = true := by rw [beq_iff_eq]; omega
                 obtain ⟨q, hq⟩ : ∃ q : Nat, ((i : Int) + 1) % (n : Int) = q := ⟨(i + 1) % n, by simp⟩
                 obtain ⟨B, hB⟩ : ∃ B, ((k : Int) == (q : Int)) = B := ⟨_, rfl⟩
                 clear hf
                 go_wp2_with fail
                 go_meet
                 exact ⟨B, rfl, hc6, hg6⟩
               · have hf0 : ((f : Int) == 2) = false := by rw [beq_eq_false_iff_ne]; omega
                 clear hf
                 go_wp2_with fail
                 go_meet
                 exact ⟨false, rfl, hc6, hg6⟩
             · go_wp2_with fail
               go_meet
               exact ⟨true, rfl, hc6, hg6⟩
           case rest =>
             obtain ⟨B, rfl, hc6, hg6⟩ := hcut
             obtain ⟨w6, rfl⟩ : ∃ w6 : World, w6 = wc := ⟨_, rfl⟩
             go_upto_if 47 with fail
             go_cut [9] from 48 to 50 (fun s9 wx => ∃ x : Int, s9 = .int .i64 x ∧ CurAt wx c (N + 8 + 32 * i + 4 * k + 4) ∧ wi.grownBy wx (some c))
             case first =>
               cases B
               · go_wp2_with fail
                 go_meet
                 exact ⟨0, rfl, hc6.mono (by omega), hg6⟩
               · go_wp2_with fail
                 refine (among_list c _ [1, 1, 1, 2] w6 4 hc6 (by omega) rfl (by omega) (by omega)).mono ?_
                 rintro e w7 ⟨v, rfl, ⟨z, rfl, hz⟩, hc7, hg7⟩
                 have hg8 := hg6.trans hg7
                 go_wp2_with fail
                 go_meet
                 exact ⟨z, rfl, hc7.mono (by omega), hg8⟩
             case rest =>
             clear hc6 hg6
             obtain ⟨x, rfl, hc6, hg6⟩ := hcut
             have hr6 := hr.kept hg6 (fun g e => by cases e; omega)
             have hg7 := hg5.trans hg6
             have hsz7 := hg7.size
             have hl8 : xs.length ≤ 1099511627776 := by rw [hxl'.out]; omega
             have hx1 : (xs ++ [x]).length = k + 1 := by rw [List.length_append, hxl'.out]; rfl
             have hl8' := Lib.hid hl8
             have hx1' := Lib.hid hx1
             clear hl8 hx1
             clear hr hg5 hg6 hc5
             go_wp2_with (at_builtin; refine wpList_append_int rfl _ _ rfl wo.heap.size u7 xs x _ rfl rfl hr6 hl8'.out hsz7 ?_)
             intro v' w' hgn hgrow
             have hb := hr6.block
             have hc8 := hc6.kept hgrow (fun g e => by have := hb g e; omega)
             have hg8 := grown_new hg7 hgrow (fun g e => hb g e)
             have hgrow' := Lib.hid hgrow
             clear hgrow
             go_wp2
             go_roundw
             case rel => exact ⟨k + 1, xs ++ [x], by omega, by go_num, hx1'.out, hgn, hc8.mono (by omega), hg8⟩
             case measure => simp [intOf]; omega
         · obtain rfl : n = k := by omega
           obtain ⟨r, rc1, rfl, hr1⟩ := hr.form (by rw [hxl'.out]; omega)
           rw [hxl'.out] at hr1 ⊢
           rw [← lst_nth hxl'.out] at hr1
           have hr2 := hr1.mono hsz
           have hr3 := hr1.lt.1
           have hg6 := hg'.out.trans hg5
           have hT2 : GrowT wi w.heap.size wo.heap.size u5 i n rb rc F := hT'.out.grown hg5 hcw (Nat.le_refl _)
           have hs3 := hg6.size
           clear hr hr1
           go_wp2_with (at_builtin; refine wpList_append_row rfl _ _ rfl w.heap.size wo.heap.size u5 i n r rc1 _ rb rc F (nth xs) rfl rfl hT2 hr2 hr3 (by omega) hs3 ?_)
           intro v' w9 hp3 hg9
           have hg10 := grown_new hg6 hg9 (fun j hj => (World.ownsRow.lt hT2.outer j hj).1)
           have hc10 := hc5.kept hg9 (fun g e => by have := (World.ownsRow.lt hT2.outer g e).1; omega)
           have hp3' := Lib.hid hp3
           have hg10' := Lib.hid hg10
           have hc10' := Lib.hid hc10
           clear hp3 hg10 hc10
           clear hg9 hT2 hr2 hg5 hg6 hc5
           go_wp2
           go_roundw
           case rel => exact ⟨i + 1, _, _, _, by omega, by go_num, hp3'.out, hc10'.out.mono (by omega), hg10'.out⟩
           case measure => simp [intOf]; omega
     · obtain rfl : i = n := by omega
       obtain ⟨gg, cap, rfl, hM⟩ := hT.form hn1
       clear hT
       go_wp2_with fail
       refine (one_any c _ 12 wo hc (by omega) (by omega) (by omega)).mono ?_
       rintro e w11 ⟨v, rfl, ⟨b11, rfl⟩, hc11, hg11⟩
       have hM11 := (hM.grown hg11 hcw (Nat.le_refl _)).mono (Nat.le_refl _) hg11.size
       have hg12 := hg.trans hg11
       clear hM hg hg11 hc
       go_upto_if 60 with fail
       go_cut [] from 61 to 73 (fun wx => ∃ F, MatT wx w.heap.size wx.heap.size gg i cap i rb rc F ∧ CurAt wx c (N + 8 + 32 * i + 10) ∧ w.grownBy wx (some c))
       case first =>
         cases b11
         · go_wp2_with fail
           go_meet
           exact ⟨_, hM11, hc11.mono (by omega), hg12⟩
         · have hgr : w11.grownBy w11.drew (some c) := ⟨rfl, rfl, rfl, Nat.le_refl _, fun _ _ _ => rfl⟩
           have hcur : CurAt w11.drew c _ := hc11.heap rfl
           have hcells : ∀ W, w11.grownBy W (some c) → ∀ a, a < i → W.cell? ⟨gg, a, none⟩ = some (.slice (some ⟨rb a, 0, none⟩) i (rc a)) := fun W hW a ha => (hM11.grown hW hcw (Nat.le_refl _)).ptr ha
           have hcells' := Lib.hid hcells
           clear hcells
           go_wp2_with fail
           refine wp_region_held_drew (S := (fun w' => ∀ a, a < i → w'.cell? ⟨gg, a, none⟩ = some (.slice (some ⟨rb a, 0, none⟩) i (rc a)))) (by kernel_rfl) (by (try dsimp only); (first | exact hcells'.out _ hgr | exact fun a ha => hMst.ptr ha)) (fun hHeld => ?_)
           refine wpAnyH_take (i := 0) (oi := Oper.mk _ _ _ _ _ _) (v := ?_) rfl (by kernel_rfl) (by kernel_rfl) (by kernel_rfl) (fun _ _ _ h => h) (Or.inl ⟨by kernel_rfl, ?_⟩) hHeld ?_
           rotate_left
           · (intro wS hSw; (try dsimp only at hSw); go_simp; all_goals (with_reducible rfl))
           try simp only [Act.put, List.setIfInBounds_toArray, List.set_cons_zero, List.set_cons_succ]
           refine wpAnyH_take (i := 1) (oi := Oper.mk _ _ _ _ _ _) (v := ?_) rfl (by kernel_rfl) (by kernel_rfl) (by kernel_rfl) (fun _ _ _ h => h) (Or.inl ⟨by kernel_rfl, ?_⟩) hHeld ?_
           rotate_left
           · (intro wS hSw; (try dsimp only at hSw); go_simp; all_goals (with_reducible rfl))
           try simp only [Act.put, List.setIfInBounds_toArray, List.set_cons_zero, List.set_cons_succ]
           refine wpAnyH_take (i := 2) (oi := Oper.mk _ _ _ _ _ _) (v := ?_) rfl (by kernel_rfl) (by kernel_rfl) (by kernel_rfl) (fun _ _ _ h => h) (Or.inl ⟨by kernel_rfl, ?_⟩) hHeld ?_
           rotate_left
           · (intro wS hSw; (try dsimp only at hSw); go_simp; all_goals (with_reducible rfl))
           try simp only [Act.put, List.setIfInBounds_toArray, List.set_cons_zero, List.set_cons_succ]
           refine wpAnyH_take (i := 6) (oi := Oper.mk _ _ _ _ _ _) (v := ?_) rfl (by kernel_rfl) (by kernel_rfl) (by kernel_rfl) (fun _ _ _ h => h) (Or.inl ⟨by kernel_rfl, ?_⟩) hHeld ?_
           rotate_left
           · (intro wS hSw; (try dsimp only at hSw); go_simp; all_goals (with_reducible rfl))
           try simp only [Act.put, List.setIfInBounds_toArray, List.set_cons_zero, List.set_cons_succ]
           refine wpAnyH_take (i := 7) (oi := Oper.mk _ _ _ _ _ _) (v := ?_) rfl (by kernel_rfl) (by kernel_rfl) (by kernel_rfl) (fun _ _ _ h => h) (Or.inl ⟨by kernel_rfl, ?_⟩) hHeld ?_
           rotate_left
           · (intro wS hSw; (try dsimp only at hSw); go_simp; all_goals (with_reducible rfl))
           try simp only [Act.put, List.setIfInBounds_toArray, List.set_cons_zero, List.set_cons_succ]
           refine wpAnyH_take (i := 9) (oi := Oper.mk _ _ _ _ _ _) (v := ?_) rfl (by kernel_rfl) (by kernel_rfl) (by kernel_rfl) (fun _ _ _ h => h) (Or.inl ⟨by kernel_rfl, ?_⟩) hHeld ?_
           rotate_left
           · (intro wS hSw; (try dsimp only at hSw); go_simp; all_goals (with_reducible rfl))
           try simp only [Act.put, List.setIfInBounds_toArray, List.set_cons_zero, List.set_cons_succ]
           refine wpAnyH_ready (rs := [3, 10]) (by kernel_rfl) (by simp) ?_
           refine AllReadyH.cons (o := Oper.mk _ _ _ _ _ _) rfl (fun KK hKK => ?_) (AllReadyH.cons (o := Oper.mk _ _ _ _ _ _) rfl (fun KK hKK => ?_) (AllReadyH.nil))
           · rw [if_pos (by kernel_rfl)]
             go_simp
             refine (pick_any c _ i _ hcur (by omega) (by omega) (by omega)).mono ?_
             rintro e w13 ⟨v13, rfl, ⟨x13, rfl, hx13⟩, hc13, hg13⟩
             replace hcur := hc13
             replace hgr := hgr.trans hg13
             (try replace hI := hI.off hO hg13)
             try dsimp only
             refine hKK.out _ _ (by (try dsimp only); (first | exact hcells'.out _ hgr | exact fun a ha => hMst.ptr ha)) (fun hHeld => ?_)
             clear hKK KK
             try simp only [Act.put, List.setIfInBounds_toArray, List.set_cons_zero, List.set_cons_succ]
             refine wpAnyH_take (i := 4) (oi := Oper.mk _ _ _ _ _ _) (v := ?_) rfl (by kernel_rfl) (by kernel_rfl) (by kernel_rfl) (fun _ _ _ h => h) (Or.inl ⟨by kernel_rfl, ?_⟩) hHeld ?_
             rotate_left
             · (intro wS hSw; (try dsimp only at hSw); go_simp; all_goals (with_reducible rfl))
             try simp only [Act.put, List.setIfInBounds_toArray, List.set_cons_zero, List.set_cons_succ]
             refine wpAnyH_take (i := 5) (oi := Oper.mk _ _ _ _ _ _) (v := ?_) rfl (by kernel_rfl) (by kernel_rfl) (by kernel_rfl) (fun _ _ _ h => h) (Or.inl ⟨by kernel_rfl, ?_⟩) hHeld ?_
             rotate_left
             · (intro wS hSw; (try dsimp only at hSw); go_simp; all_goals (with_reducible rfl))
             try simp only [Act.put, List.setIfInBounds_toArray, List.set_cons_zero, List.set_cons_succ]
             refine wpAnyH_ready (rs := [8, 10]) (by kernel_rfl) (by simp) ?_
             refine AllReadyH.cons (o := Oper.mk _ _ _ _ _ _) rfl (fun KK hKK => ?_) (AllReadyH.cons (o := Oper.mk _ _ _ _ _ _) rfl (fun KK hKK => ?_) (AllReadyH.nil))
             · rw [if_pos (by kernel_rfl)]
               go_simp
               refine (pick_any c _ i _ hcur (by omega) (by omega) (by omega)).mono ?_
               rintro e w14 ⟨v14, rfl, ⟨x14, rfl, hx14⟩, hc14, hg14⟩
               replace hcur := hc14
               replace hgr := hgr.trans hg14
               (try replace hI := hI.off hO hg14)
               try dsimp only
               refine hKK.out _ _ (by (try dsimp only); (first | exact hcells'.out _ hgr | exact fun a ha => hMst.ptr ha)) (fun hHeld => ?_)
               clear hKK KK
               try simp only [Act.put, List.setIfInBounds_toArray, List.set_cons_zero, List.set_cons_succ]
               refine wpAnyH_ready (rs := [10]) (by kernel_rfl) (by simp) ?_
               refine AllReadyH.cons (o := Oper.mk _ _ _ _ _ _) rfl (fun KK hKK => ?_) AllReadyH.nil
               rw [if_pos (by kernel_rfl)]
               go_simp
               have hc0 := hcur
               have hI := cur_built hc0 [3, 9] 2 rfl (by omega)
               have hO := off_new hc0 2
               replace hcur := hc0.kept (World.grownBy_alloc _ (.cells #[.int .i64 3, .int .i64 9] 3) none) (fun _ e => by cases e)
               replace hgr := hgr.trans (World.grownBy_alloc _ (.cells #[.int .i64 3, .int .i64 9] 3) _)
               try dsimp only
               refine hKK.out _ _ (by (try dsimp only); (first | exact hcells'.out _ hgr | exact fun a ha => hMst.ptr ha)) (fun hHeld => ?_)
               clear hKK KK
               try simp only [Act.put, List.setIfInBounds_toArray, List.set_cons_zero, List.set_cons_succ]
               refine wpAnyH_ready (rs := [11]) (by kernel_rfl) (by simp) ?_
               refine AllReadyH.cons (o := Oper.mk _ _ _ _ _ _) rfl (fun KK hKK => ?_) AllReadyH.nil
               rw [if_pos (by kernel_rfl)]
               go_simp
               refine (among_any c _ _ [3, 9] _ hcur (by omega) hI hO (by simp) (by simp)).mono ?_
               rintro e w15 ⟨v15, rfl, ⟨x15, rfl, hx15⟩, hc15, hg15⟩
               replace hcur := hc15
               replace hgr := hgr.trans hg15
               have hM15 := hM11.grown hgr hcw (Nat.le_refl _)
               have hcell := hM15.cell hx13 hx14
               have hfrz := hM15.frozen hx13 x14
               try dsimp only
               refine hKK.out _ _ (by (try dsimp only); (first | exact hcells'.out _ hgr | exact fun a ha => hMst.ptr ha)) (fun hHeld => ?_)
               clear hKK KK
               try simp only [Act.put, List.setIfInBounds_toArray, List.set_cons_zero, List.set_cons_succ]
               refine wpAnyH_take (i := 12) (oi := Oper.mk _ _ _ _ _ _) (v := ?_) rfl (by kernel_rfl) (by kernel_rfl) (by kernel_rfl) (fun _ _ _ h => h) (Or.inl ⟨by kernel_rfl, ?_⟩) hHeld ?_
               rotate_left
               · (intro wS hSw; (try dsimp only at hSw); go_simp; all_goals (with_reducible rfl))
               try simp only [Act.put, List.setIfInBounds_toArray, List.set_cons_zero, List.set_cons_succ]
               refine wpAnyH_ready (rs := [13]) (by kernel_rfl) (by simp) ?_
               refine AllReadyH.cons (o := Oper.mk _ _ _ _ _ _) rfl (fun KK hKK => ?_) AllReadyH.nil
               rw [if_pos (by kernel_rfl)]
               go_simp
               have hMst := hM15.stored hx13 x14 x15
               have hcst := cur_set hcur (hM11.block hx13).1 hcw x14 x15
               try dsimp only
               refine hKK.out _ _ (by (try dsimp only); (first | exact hcells'.out _ hgr | exact fun a ha => hMst.ptr ha)) (fun hHeld => ?_)
               clear hKK KK
               try simp only [Act.put, List.setIfInBounds_toArray, List.set_cons_zero, List.set_cons_succ]
               refine wpAnyH_done (by kernel_rfl) ?_ _
               have hsz15 := hgr.size
               have hgst := grown_set (hg12.trans hgr) (hM11.block hx13).1 x14 x15
               have hMst' := Lib.hid hMst
               have hcst' := Lib.hid hcst
               have hgst' := Lib.hid hgst
               clear hMst hcst hgst
               go_wp2_with fail
               go_meet
               exact ⟨_, hMst'.out.mono (Nat.le_refl _) (by simpa [World.setCell] using hsz15), hcst'.out.mono (by omega), hgst'.out⟩
             · rw [if_pos (by kernel_rfl)]
               go_simp
               have hc0 := hcur
               have hI := cur_built hc0 [3, 9] 2 rfl (by omega)
               have hO := off_new hc0 2
               replace hcur := hc0.kept (World.grownBy_alloc _ (.cells #[.int .i64 3, .int .i64 9] 3) none) (fun _ e => by cases e)
               replace hgr := hgr.trans (World.grownBy_alloc _ (.cells #[.int .i64 3, .int .i64 9] 3) _)
               try dsimp only
               refine hKK.out _ _ (by (try dsimp only); (first | exact hcells'.out _ hgr | exact fun a ha => hMst.ptr ha)) (fun hHeld => ?_)
               clear hKK KK
               try simp only [Act.put, List.setIfInBounds_toArray, List.set_cons_zero, List.set_cons_succ]
               refine wpAnyH_ready (rs := [8]) (by kernel_rfl) (by simp) ?_
               refine AllReadyH.cons (o := Oper.mk _ _ _ _ _ _) rfl (fun KK hKK => ?_) AllReadyH.nil
               rw [if_pos (by kernel_rfl)]
               go_simp
               refine (pick_any c _ i _ hcur (by omega) (by omega) (by omega)).mono ?_
               rintro e w14 ⟨v14, rfl, ⟨x14, rfl, hx14⟩, hc14, hg14⟩
               replace hcur := hc14
               replace hgr := hgr.trans hg14
               (try replace hI := hI.off hO hg14)
               try dsimp only
               refine hKK.out _ _ (by (try dsimp only); (first | exact hcells'.out _ hgr | exact fun a ha => hMst.ptr ha)) (fun hHeld => ?_)
               clear hKK KK
               try simp only [Act.put, List.setIfInBounds_toArray, List.set_cons_zero, List.set_cons_succ]
               refine wpAnyH_ready (rs := [11]) (by kernel_rfl) (by simp) ?_
               refine AllReadyH.cons (o := Oper.mk _ _ _ _ _ _) rfl (fun KK hKK => ?_) AllReadyH.nil
               rw [if_pos (by kernel_rfl)]
               go_simp
               refine (among_any c _ _ [3, 9] _ hcur (by omega) hI hO (by simp) (by simp)).mono ?_
               rintro e w15 ⟨v15, rfl, ⟨x15, rfl, hx15⟩, hc15, hg15⟩
               replace hcur := hc15
               replace hgr := hgr.trans hg15
               have hM15 := hM11.grown hgr hcw (Nat.le_refl _)
               have hcell := hM15.cell hx13 hx14
               have hfrz := hM15.frozen hx13 x14
               try dsimp only
               refine hKK.out _ _ (by (try dsimp only); (first | exact hcells'.out _ hgr | exact fun a ha => hMst.ptr ha)) (fun hHeld => ?_)
               clear hKK KK
               try simp only [Act.put, List.setIfInBounds_toArray, List.set_cons_zero, List.set_cons_succ]
               refine wpAnyH_take (i := 12) (oi := Oper.mk _ _ _ _ _ _) (v := ?_) rfl (by kernel_rfl) (by kernel_rfl) (by kernel_rfl) (fun _ _ _ h => h) (Or.inl ⟨by kernel_rfl, ?_⟩) hHeld ?_
               rotate_left
               · (intro wS hSw; (try dsimp only at hSw); go_simp; all_goals (with_reducible rfl))
               try simp only [Act.put, List.setIfInBounds_toArray, List.set_cons_zero, List.set_cons_succ]
               refine wpAnyH_ready (rs := [13]) (by kernel_rfl) (by simp) ?_
               refine AllReadyH.cons (o := Oper.mk _ _ _ _ _ _) rfl (fun KK hKK => ?_) AllReadyH.nil
               rw [if_pos (by kernel_rfl)]
               go_simp
               have hMst := hM15.stored hx13 x14 x15
               have hcst := cur_set hcur (hM11.block hx13).1 hcw x14 x15
               try dsimp only
               refine hKK.out _ _ (by (try dsimp only); (first | exact hcells'.out _ hgr | exact fun a ha => hMst.ptr ha)) (fun hHeld => ?_)
               clear hKK KK
               try simp only [Act.put, List.setIfInBounds_toArray, List.set_cons_zero, List.set_cons_succ]
               refine wpAnyH_done (by kernel_rfl) ?_ _
               have hsz15 := hgr.size
               have hgst := grown_set (hg12.trans hgr) (hM11.block hx13).1 x14 x15
               have hMst' := Lib.hid hMst
               have hcst' := Lib.hid hcst
               have hgst' := Lib.hid hgst
               clear hMst hcst hgst
               go_wp2_with fail
               go_meet
               exact ⟨_, hMst'.out.mono (Nat.le_refl _) (by simpa [World.setCell] using hsz15), hcst'.out.mono (by omega), hgst'.out⟩
           · rw [if_pos (by kernel_rfl)]
             go_simp
             have hc0 := hcur
             have hI := cur_built hc0 [3, 9] 2 rfl (by omega)
             have hO := off_new hc0 2
             replace hcur := hc0.kept (World.grownBy_alloc _ (.cells #[.int .i64 3, .int .i64 9] 3) none) (fun _ e => by cases e)
             replace hgr := hgr.trans (World.grownBy_alloc _ (.cells #[.int .i64 3, .int .i64 9] 3) _)
             try dsimp only
             refine hKK.out _ _ (by (try dsimp only); (first | exact hcells'.out _ hgr | exact fun a ha => hMst.ptr ha)) (fun hHeld => ?_)
             clear hKK KK
             try simp only [Act.put, List.setIfInBounds_toArray, List.set_cons_zero, List.set_cons_succ]
             refine wpAnyH_ready (rs := [3]) (by kernel_rfl) (by simp) ?_
             refine AllReadyH.cons (o := Oper.mk _ _ _ _ _ _) rfl (fun KK hKK => ?_) AllReadyH.nil
             rw [if_pos (by kernel_rfl)]
             go_simp
             refine (pick_any c _ i _ hcur (by omega) (by omega) (by omega)).mono ?_
             rintro e w13 ⟨v13, rfl, ⟨x13, rfl, hx13⟩, hc13, hg13⟩
             replace hcur := hc13
             replace hgr := hgr.trans hg13
             (try replace hI := hI.off hO hg13)
             try dsimp only
             refine hKK.out _ _ (by (try dsimp only); (first | exact hcells'.out _ hgr | exact fun a ha => hMst.ptr ha)) (fun hHeld => ?_)
             clear hKK KK
             try simp only [Act.put, List.setIfInBounds_toArray, List.set_cons_zero, List.set_cons_succ]
             refine wpAnyH_take (i := 4) (oi := Oper.mk _ _ _ _ _ _) (v := ?_) rfl (by kernel_rfl) (by kernel_rfl) (by kernel_rfl) (fun _ _ _ h => h) (Or.inl ⟨by kernel_rfl, ?_⟩) hHeld ?_
             rotate_left
             · (intro wS hSw; (try dsimp only at hSw); go_simp; all_goals (with_reducible rfl))
             try simp only [Act.put, List.setIfInBounds_toArray, List.set_cons_zero, List.set_cons_succ]
             refine wpAnyH_take (i := 5) (oi := Oper.mk _ _ _ _ _ _) (v := ?_) rfl (by kernel_rfl) (by kernel_rfl) (by kernel_rfl) (fun _ _ _ h => h) (Or.inl ⟨by kernel_rfl, ?_⟩) hHeld ?_
             rotate_left
             · (intro wS hSw; (try dsimp only at hSw); go_simp; all_goals (with_reducible rfl))
             try simp only [Act.put, List.setIfInBounds_toArray, List.set_cons_zero, List.set_cons_succ]
             refine wpAnyH_ready (rs := [8]) (by kernel_rfl) (by simp) ?_
             refine AllReadyH.cons (o := Oper.mk _ _ _ _ _ _) rfl (fun KK hKK => ?_) AllReadyH.nil
             rw [if_pos (by kernel_rfl)]
             go_simp
             refine (pick_any c _ i _ hcur (by omega) (by omega) (by omega)).mono ?_
             rintro e w14 ⟨v14, rfl, ⟨x14, rfl, hx14⟩, hc14, hg14⟩
             replace hcur := hc14
             replace hgr := hgr.trans hg14
             (try replace hI := hI.off hO hg14)
             try dsimp only
             refine hKK.out _ _ (by (try dsimp only); (first | exact hcells'.out _ hgr | exact fun a ha => hMst.ptr ha)) (fun hHeld => ?_)
             clear hKK KK
             try simp only [Act.put, List.setIfInBounds_toArray, List.set_cons_zero, List.set_cons_succ]
             refine wpAnyH_ready (rs := [11]) (by kernel_rfl) (by simp) ?_
             refine AllReadyH.cons (o := Oper.mk _ _ _ _ _ _) rfl (fun KK hKK => ?_) AllReadyH.nil
             rw [if_pos (by kernel_rfl)]
             go_simp
             refine (among_any c _ _ [3, 9] _ hcur (by omega) hI hO (by simp) (by simp)).mono ?_
             rintro e w15 ⟨v15, rfl, ⟨x15, rfl, hx15⟩, hc15, hg15⟩
             replace hcur := hc15
             replace hgr := hgr.trans hg15
             have hM15 := hM11.grown hgr hcw (Nat.le_refl _)
             have hcell := hM15.cell hx13 hx14
             have hfrz := hM15.frozen hx13 x14
             try dsimp only
             refine hKK.out _ _ (by (try dsimp only); (first | exact hcells'.out _ hgr | exact fun a ha => hMst.ptr ha)) (fun hHeld => ?_)
             clear hKK KK
             try simp only [Act.put, List.setIfInBounds_toArray, List.set_cons_zero, List.set_cons_succ]
             refine wpAnyH_take (i := 12) (oi := Oper.mk _ _ _ _ _ _) (v := ?_) rfl (by kernel_rfl) (by kernel_rfl) (by kernel_rfl) (fun _ _ _ h => h) (Or.inl ⟨by kernel_rfl, ?_⟩) hHeld ?_
             rotate_left
             · (intro wS hSw; (try dsimp only at hSw); go_simp; all_goals (with_reducible rfl))
             try simp only [Act.put, List.setIfInBounds_toArray, List.set_cons_zero, List.set_cons_succ]
             refine wpAnyH_ready (rs := [13]) (by kernel_rfl) (by simp) ?_
             refine AllReadyH.cons (o := Oper.mk _ _ _ _ _ _) rfl (fun KK hKK => ?_) AllReadyH.nil
             rw [if_pos (by kernel_rfl)]
             go_simp
             have hMst := hM15.stored hx13 x14 x15
             have hcst := cur_set hcur (hM11.block hx13).1 hcw x14 x15
             try dsimp only
             refine hKK.out _ _ (by (try dsimp only); (first | exact hcells'.out _ hgr | exact fun a ha => hMst.ptr ha)) (fun hHeld => ?_)
             clear hKK KK
             try simp only [Act.put, List.setIfInBounds_toArray, List.set_cons_zero, List.set_cons_succ]
             refine wpAnyH_done (by kernel_rfl) ?_ _
             have hsz15 := hgr.size
             have hgst := grown_set (hg12.trans hgr) (hM11.block hx13).1 x14 x15
             have hMst' := Lib.hid hMst
             have hcst' := Lib.hid hcst
             have hgst' := Lib.hid hgst
             clear hMst hcst hgst
             go_wp2_with fail
             go_meet
             exact ⟨_, hMst'.out.mono (Nat.le_refl _) (by simpa [World.setCell] using hsz15), hcst'.out.mono (by omega), hgst'.out⟩
       case rest =>
         obtain ⟨F2, hM, hc, hg⟩ := hcut
         obtain ⟨w20, rfl⟩ : ∃ wo : World, wo = wc := ⟨_, rfl⟩
         clear hM11 hc11 hg12
         go_wp2_with fail
         refine (one_any c _ 16 w20 hc (by omega) (by omega) (by omega)).mono ?_
         rintro e w21 ⟨v, rfl, ⟨b21, rfl⟩, hc21, hg21⟩
         have hM21 := (hM.grown hg21 hcw (Nat.le_refl _)).mono (Nat.le_refl _) hg21.size
         have hg22 := hg.trans hg21
         clear hM hg hg21 hc
         cases b21
         · go_wp2_with fail
           go_ret
           exact ⟨i, gg, cap, rb, rc, F2, rfl, ⟨hn1, hn8⟩, hM21, hc21.mono (by omega), hg22⟩
         · have hM21' := Lib.hid hM21
           have hc21' := Lib.hid hc21
           have hg22' := Lib.hid hg22
           clear hM21 hc21 hg22
           go_wp2_with fail
           go_loopw [78] (fun a wr => ∃ (j : Nat) (F : Nat → Nat → Int), j ≤ i ∧ a = .int .i64 j ∧ MatT wr w.heap.size wr.heap.size gg i cap i rb rc F ∧ CurAt wr c (N + 8 + 32 * i + 10 + 2) ∧ w.grownBy wr (some c)) (fun a _ => i - (intOf a).toNat)
           case atStart => exact ⟨0, F2, Nat.zero_le _, rfl, hM21'.out, hc21'.out, hg22'.out⟩
           case round =>
             obtain ⟨j, F3, hj, rfl, hM, hc, hg⟩ := hrel
             obtain ⟨w30, rfl⟩ : ∃ wo : World, wo = wr := ⟨_, rfl⟩
             by_cases hltj : j < i
             · have q1 := hM.ptr hltj
               have hM' := Lib.hid hM
               have hc' := Lib.hid hc
               have hg' := Lib.hid hg
               clear hM hc hg
               go_wp2_with fail
               go_loopw [86] (fun a wr => ∃ (k : Nat) (F : Nat → Nat → Int), k ≤ i ∧ a = .int .i64 k ∧ MatT wr w.heap.size wr.heap.size gg i cap i rb rc F ∧ CurAt wr c (N + 8 + 32 * i + 10 + 2) ∧ w.grownBy wr (some c)) (fun a _ => i - (intOf a).toNat)
               case atStart => exact ⟨0, F3, Nat.zero_le _, rfl, hM'.out, hc'.out, hg'.out⟩
               case round =>
                 obtain ⟨k, F4, hk, rfl, hM, hc, hg⟩ := hrel
                 obtain ⟨w31, rfl⟩ : ∃ wo : World, wo = wr := ⟨_, rfl⟩
                 by_cases hltk : k < i
                 · have q2 := hM.ptr hltj
                   have q3 := hM.cell hltj hltk
                   have q4 := hM.frozen hltj k
                   have hst := hM.stored hltj k 9
                   have hcs := cur_set hc (hM.block hltj).1 hcw k 9
                   have hgs := grown_set hg (hM.block hltj).1 k 9
                   have hst' := Lib.hid hst
                   have hcs' := Lib.hid hcs
                   have hgs' := Lib.hid hgs
                   clear hst hcs hgs
                   clear hM hc hg q1
                   go_wp2_with fail
                   go_roundw
                   case rel => exact ⟨k + 1, _, by omega, by go_num, by simpa [World.setCell] using hst'.out, hcs'.out, hgs'.out⟩
                   case measure => simp [intOf]; omega
                 · obtain rfl : k = i := by omega
                   have hM' := Lib.hid hM
                   have hc' := Lib.hid hc
                   have hg' := Lib.hid hg
                   clear hM hc hg
                   go_wp2_with fail
                   go_roundw
                   case rel => exact ⟨j + 1, _, by omega, by go_num, hM'.out, hc'.out, hg'.out⟩
                   case measure => simp [intOf]; omega
             · obtain rfl : j = i := by omega
               go_wp2_with fail
               go_ret
               exact ⟨j, gg, cap, rb, rc, F3, rfl, ⟨hn1, hn8⟩, hM, hc.mono (by omega), hg⟩

end Go.Proofs.Ytblippeklbhepaa

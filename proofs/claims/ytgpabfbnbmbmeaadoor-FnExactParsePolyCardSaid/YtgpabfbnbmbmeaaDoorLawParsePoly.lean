/- FnExactParsePoly: for every input the law returns true, and the arguments read as before; where the listed variables lie as the program's text lays them. -/
import Derived.Test.YtgpabfbnbmbmeaaDoorTextI
import Derived.Test.YtgpabfbnbmbmeaaDoorInts
import Derived.Test.YtgpabfbnbmbmeaaDoorLift
import Derived.Lib.LaidTab
import Derived.Stop.LaidErr
import Derived.HandedShaped
import Derived.OpenShut
import Derived.LaidMore
import Derived.Lay
import Derived.SevenTiedAt
import Derived.Stop.Joined
import Derived.Test.YtgpabfbnbmbmeaaDoorCards
import Derived.Test.YtgpabfbnbmbmeaaDoorTie
namespace Go.Proofs.YtgpabfbnbmbmeaaDoor
open Go.RowKit

theorem ParsePoly_len (s : Bytes) : (ParsePoly_v s).1.length ≤ 9 := by
  unfold ParsePoly_v readV
  split
  · simp
  · split
    · rename_i q
      exact polyB_le9 q.1
    · simp
theorem lawParsePoly_over (S : ByteArray) (w : World) (hl : ¬ S.size ≤ 1048576) :
    Calls Tryd.prog 4 #[.string S] w (Ret (.bool true) w) := by
  have h1 : (1048576 : Int) < (S.size : Int) := by omega
  go_enter Tryd.func4, Tryd.ntmps4
  go_wp2
  go_ret
  exact ⟨rfl, Below.refl _ _⟩
set_option maxHeartbeats 1600000 in
theorem lawParsePoly_main (S : ByteArray) (s : Bytes) (hs : S.data.toList = s) (w : World) (hv : TextVars w) (hl : S.size ≤ 1048576) :
    Calls Tryd.prog 4 #[.string S] w (Ret (.bool true) w) := by
  have hsl : s.length ≤ 1048576 := by rw [← hs, Array.length_toList]; exact hl
  have cS := fun w' => specParsePoly_any S s hs w' hsl
  have cI := fun w' (hB : Below w.heap.size w w') => implParsePoly_any S s hs w' hsl (hv.below hB)
  have hlen := ParsePoly_len s
  obtain ⟨r, hr⟩ : ∃ r, ParsePoly_v s = r := ⟨_, rfl⟩
  rw [hr] at hlen cS cI
  have hl_0 : szIntS (r.1) ≤ 1099511627776 := by show r.1.length ≤ _; omega
  have hkr0 := cntIntS_le (r.1)
  obtain ⟨n, hn⟩ : ∃ n, S.size = n := ⟨_, rfl⟩
  rw [hn] at hl
  have h1 : ¬ (1048576 : Int) < (n : Int) := by omega
  clear hr hs hsl hv
  have cS' := Lib.hid cS
  have cI' := Lib.hid cI
  clear cS cI
  go_enter Tryd.func4, Tryd.ntmps4
  go_wp2_with fail
  have hb1 := Below.refl w.heap.size w
  refine (cS'.out _).mono ?_
  rintro e w2 ⟨u0, rfl, hu0, hB2⟩
  have hs2 := hB2.size
  have hb2 := hb1.trans (hB2.mono hb1.size)
  clear hb1 hB2
  have cI2 := cI'.out w2 hb2
  have cI2' := Lib.hid cI2
  clear cI2
  go_wp2_with fail
  refine (cI2'.out).mono ?_
  rintro e w4 ⟨g0, rfl, hg0, hB4⟩
  have hs4 := hB4.size
  have hb4 := hb2.trans (hB4.mono hb2.size)
  clear hb2
  replace hu0 := hu0.below hB4 (by omega)
  clear hB4
  go_wp2_with fail
  refine (eqIntS_same _ _ (r.1) _ hg0.read hu0.read hl_0).mono ?_
  rintro e w5 ⟨rfl, hB5⟩
  have hs5 := hB5.size
  have hb5 := hb4.trans (hB5.mono hb4.size)
  clear hb4
  replace hu0 := hu0.below hB5 (by omega)
  replace hg0 := hg0.below hB5 (by omega)
  clear hB5
  go_wp2_with fail
  refine (markIntS_any _ (r.1) (1) _ _ w2.heap.size w4.heap.size hg0 hl_0 (by omega) (by omega)).mono ?_
  rintro e w10 ⟨rfl, hm_, hT10⟩
  have hs10 := Nat.le_of_eq hT10.size.symm
  have hb10 := hb5.trans (hT10.below.mono (by omega))
  clear hb5
  replace hu0 := hu0.turned hT10 (by omega)
  clear hT10 hg0
  have hg0 := hm_
  clear hm_
  go_wp2_with fail
  refine (heldIntS_any _ (r.1) (1) _ _ hg0.read hl_0 (by omega) (by omega)).mono ?_
  rintro e w11 ⟨rfl, hB11⟩
  have hs11 := hB11.size
  have hb11 := hb10.trans (hB11.mono hb10.size)
  clear hb10
  replace hu0 := hu0.below hB11 (by omega)
  replace hg0 := hg0.below hB11 (by omega)
  clear hB11
  have cI3 := cI'.out w11 hb11
  have cI3' := Lib.hid cI3
  clear cI3
  go_wp2_with fail
  refine (cI3'.out).mono ?_
  rintro e w13 ⟨h_0, rfl, hh_0, hB13⟩
  have hs13 := hB13.size
  have hb13 := hb11.trans (hB13.mono hb11.size)
  clear hb11
  replace hu0 := hu0.below hB13 (by omega)
  replace hg0 := hg0.below hB13 (by omega)
  clear hB13
  go_wp2_with fail
  refine (eqIntS_same _ _ (r.1) _ hh_0.read hu0.read hl_0).mono ?_
  rintro e w14 ⟨rfl, hB14⟩
  have hs14 := hB14.size
  have hb14 := hb13.trans (hB14.mono hb13.size)
  clear hb13
  replace hg0 := hg0.below hB14 (by omega)
  clear hB14 hu0 hh_0
  go_wp2_with fail
  refine (heldIntS_any _ (r.1) (1) _ _ hg0.read hl_0 (by omega) (by omega)).mono ?_
  rintro e w15 ⟨rfl, hB15⟩
  have hb15 := hb14.trans (hB15.mono hb14.size)
  clear hb14 hB15 hg0
  have hb15' := Lib.hid hb15
  clear hb15
  go_wp2
  go_ret
  exact ⟨rfl, hb15'.out⟩
theorem lawParsePoly_any (S : ByteArray) (w : World) (hv : TextVars w) :
    Calls Tryd.prog 4 #[.string S] w (Ret (.bool true) w) := by
  by_cases hl : S.size ≤ 1048576
  · exact lawParsePoly_main S _ rfl w hv hl
  · exact lawParsePoly_over S w hl

theorem star_err : "*" ++ "errors.errorString" = "*errors.errorString" := by decide
theorem row_err (u : TypeId) (h : Tryd.prog.typeName? 3 u = some "*errors.errorString") : u = 80 :=
  typeName_ptr_named (P := Tryd.prog) (nm := "errors.errorString") (by rw [star_err]; kernel_rfl) (by kernel_rfl) (by decide) u (by rw [star_err]; exact h)
theorem textVars_of {w : World} (hsh : w.ShapedOpen Tryd.prog) (h : laidMet Tryd.prog Rows.fnExactParsePolyRow.laid w) : TextVars w := by
  obtain ⟨a2, s2, hr, -⟩ := laid_sentinel h.tail.tail.tail.tail (g := 1) (ti := 38) (tp := 80) (te := 82) (ts := 9) (by kernel_rfl) (by kernel_rfl) Tryd.underlying38 row_err Tryd.underlying80 Tryd.underlying82 (by kernel_rfl) (by kernel_rfl) Tryd.underlying9 (by kernel_rfl) (by kernel_rfl)
  obtain ⟨a1, s1, hy, -⟩ := laid_sentinel h.tail.tail.tail.tail.tail (g := 0) (ti := 38) (tp := 80) (te := 82) (ts := 9) (by kernel_rfl) (by kernel_rfl) Tryd.underlying38 row_err Tryd.underlying80 Tryd.underlying82 (by kernel_rfl) (by kernel_rfl) Tryd.underlying9 (by kernel_rfl) (by kernel_rfl)
  refine ⟨?_, ⟨_, _, hy⟩, ⟨_, _, hr⟩, ?_⟩
  · exact Go.Proofs.cell_of_shapedOpen_int (zero := #[.int .i64 0]) (t := 3) hsh (of_decide_eq_true (by kernel_rfl)) (by kernel_rfl) rfl (by kernel_rfl) (by kernel_rfl) Tryd.underlying3
  · exact Lib.tabIs_of_head (g := 5) (t := 99) (e := 68) (n := 20) (by kernel_rfl) (by kernel_rfl) Tryd.underlying99 Tryd.underlying68 (by kernel_rfl) (by kernel_rfl) h.tail.tail

open Go.ChangeShapes Go.WideShapes Go.ChangeAt in
open Go.ChangeMaps (open_string shut_string) in
set_option maxRecDepth 100000 in
theorem lawParsePoly_lifted (os : Os) (started : os.Started) (H : Type) (enc : TypeId × Value → H) :
    ReturnsInHanded {} Tryd.checked os 4 .any (fun w args => (Rows.fnExactParsePolySpec.pre enc Tryd.prog Tryd.f4 Rows.fnExactParsePolyRow.domain false w args ∧ laidMet Tryd.prog Rows.fnExactParsePolyRow.laid w) ∧ sizedMet enc Tryd.prog Tryd.f4 (OpenSpec.ofChange Rows.fnExactParsePolySpec) false w args)
      (Rows.fnExactParsePolySpec.post enc Tryd.prog Tryd.f4 false true false false) := by
  refine returnsInHanded_of_calls (C := Tryd.checked) Tryd.own started (by kernel_rfl)
    (ChangeSpec.witness_shaped (enc := enc) (C := Tryd.checked) (os := os) (fn := Tryd.f4) (X := fun w _ => laidMet Tryd.prog Rows.fnExactParsePolyRow.laid w) false (World.laidAll Tryd.prog os Rows.fnExactParsePolyRow.laid) #[.string ⟨#[]⟩] 8 (World.laidAll_os _ _ _)
      (World.shaped_of_ZipB (by kernel_rfl) (by kernel_rfl)) (by kernel_rfl) (by kernel_rfl) (by kernel_rfl) (laidMet_laidAll _ (by kernel_rfl) (by kernel_rfl))) ?_
  intro w0 tape i _ hsh _ hok hpre hholds
  obtain ⟨_, _, _, fn', hfn', _, _, _, _, hval0⟩ := hok
  have e : fn' = Tryd.f4 := Option.some.inj (hfn'.symm.trans Tryd.func4)
  subst e
  obtain ⟨⟨⟨ds, gs, before, hw, _⟩, hx⟩, _⟩ := hpre
  have hW := DataW.Whole.of_heap (w' := w0.forCall tape i) (by rfl) hw
  have hL : laidMet Tryd.prog Rows.fnExactParsePolyRow.laid (w0.forCall tape i) := laidMet.of_heap (by rfl) hx
  generalize hWW : w0.forCall tape i = W at *
  have hval : ∀ (j : Nat) t v, Tryd.f4.params[j]? = some t → i.args[j]? = some v → Value.okWide Tryd.prog W .any w0.heap.size t v := hval0
  have hTV := textVars_of hsh hL
  generalize i.args = args at *
  have hW' := hW
  obtain ⟨p, q, hA0, hV, rfl, _, _⟩ := hW
  have hA : DataW.TrodAll enc Tryd.prog W 0 (fun _ => true) true Tryd.f4.params.toList args.toList ds p := hA0
  have hA' := hA
  rw [Tryd.params4] at hA hval
  obtain ⟨v0, d0, rfl, rfl, h0⟩ := trodAll_one hA
  obtain ⟨rfl, rfl⟩ := trodVars_none hV
  obtain ⟨S, rfl, rfl, rfl, _⟩ := open_string Tryd.underlying9 (hval 0 9 v0 rfl rfl) h0
  refine (lawParsePoly_any S W hTV).mono fun e W' ⟨he, hB⟩ => ?_
  subst he
  obtain ⟨v, hv, hp⟩ := law_post hW' rfl hA' (by rw [Tryd.params4]; decide +kernel) rfl rfl rfl rfl hB
  cases hv
  exact ChangeSpec.post_blind hp

theorem fnExactParsePoly_row : Rows.FnExactParsePolySaid :=
  OpenClaim.holds_of_wide 4 Tryd.f4 rfl rfl rfl rfl rfl rfl rfl ⟨rfl, rfl, rfl, rfl, rfl⟩ rfl rfl rfl rfl rfl (by kernel_rfl) Tryd.func4 (by kernel_rfl)
    (of_decide_eq_true (by kernel_rfl)) (by unfold Func.isWrapper; rw [if_neg (of_decide_eq_false (by kernel_rfl))]; exact ⟨rfl, rfl⟩)
    (fun os started H enc _ => lawParsePoly_lifted os started H enc)

theorem fnExactParsePoly_holds : Rows.FnExactParsePolyCardSaid :=
  Claim7.holds_tied_plain_at .later [] [.data, .data, .data, .data, .sentinel, .sentinel, .pinned] true (true, "261ec9b7c189dc0f754756cc675d198b49b91ad2fd53b4761a265ceaccd6b3c7") true
    fnExactParsePoly_row (fun _ h => by cases h) (by kernel_rfl) (fun _ h => by cases h) fnExactParsePoly_row_tie rfl ⟨rfl, rfl⟩ (by kernel_rfl) rfl
    (fun f fn hf hfn => by
      obtain rfl : f = 4 := Option.some.inj ((show Tryd.prog.funcNamed "loop.example/g01003/laws.FnExactParsePoly" = some 4 by kernel_rfl).symm.trans hf) |>.symm
      obtain rfl : fn = Tryd.f4 := (Option.some.inj (Tryd.func4.symm.trans hfn)).symm
      exact ⟨by kernel_rfl, fun j t ht => by
        rw [Tryd.params4] at ht
        have h3 : t = 9 := by
          rcases j with _ | j
          · simpa using ht.symm
          · simp at ht
        subst h3
        exact (show Tryd.prog.wantsStandIn 9 = false by kernel_rfl)⟩)
    (by kernel_rfl)
#print axioms fnExactParsePoly_holds
end Go.Proofs.YtgpabfbnbmbmeaaDoor

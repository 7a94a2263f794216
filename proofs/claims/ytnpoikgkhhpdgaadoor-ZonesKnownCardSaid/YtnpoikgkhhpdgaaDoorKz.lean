/-
  'ZonesKnown' answers true and leaves all that lay before as it lay. The conditions: the listed tables start as the program's text lays them (the card ties them to the text).
-/
import Derived.Test.YtnpoikgkhhpdgaaDoorTie
import Derived.Test.YtnpoikgkhhpdgaaDoorCards
import Derived.Test.YtnpoikgkhhpdgaaDoorRb
import Derived.WalkKit
import Derived.ProofKit
import Derived.LaidMore
import Derived.OpenShut
import Derived.Below
import Derived.ChangeSame
import Derived.Stop.Joined
import Derived.SevenTiedAt
namespace Go.Proofs.YtnpoikgkhhpdgaaDoor
open Go.ChangeShapes Go.WideShapes Go.ChangeAt Go.RowKit
set_option linter.unusedVariables false
namespace zonesKnown

theorem own : ownKnob Tryd.prog.godebug = none := by kernel_rfl
section
variable {H : Type} {enc : TypeId × Value → H} {P : Program}
/-- the row's last step, where of the world behind the call 'Below' is known -/
theorem post_of_below {f : Func} {s : ChangeSpec} {apart fresh handsOn again : Bool} {W W' : World} {args : Array Value} {v : Value} {ds gs : List (DataW H)} {before pa pv : List MemPlace}
    (hW : DataW.Whole enc P f.params.toList s.vars apart W args.toList ds gs before)
    (hres : ∀ (b : Nat) (sp : Nat → Bool) (hd : Bool), DataW.TrodAll enc P W' b sp hd f.resultTypes.toList (v.resultList f.resultTypes.size) (s.fn H (ds ++ gs)).results [])
    (hargs : ∀ sp : Nat → Bool, (∀ p ∈ before, sp p.block = true) → DataW.TrodAll enc P W' 0 sp true f.params.toList args.toList (s.fn H (ds ++ gs)).args pa)
    (hvars : ∀ sp : Nat → Bool, (∀ p ∈ before, sp p.block = true) → DataW.TrodVars enc P W' sp s.vars (s.fn H (ds ++ gs)).vars pv)
    (hps : before = pa ++ pv) (hb : Below W.heap.size W W')
    (hok : ∀ (j : Nat) (t : TypeId) (r : Value), f.resultTypes[j]? = some t → (v.resultList f.resultTypes.size)[j]? = some r → Value.okWide P W' .any 0 t r) :
    s.post enc P f apart fresh handsOn again W args v W' := by
  have hlt : ∀ p ∈ before, p.block < W.heap.size := fun p hp => hW.lt p hp
  have hold : ∀ p ∈ before, (fun b => decide (b < W.heap.size)) p.block = true := fun p hp => by simpa using hlt p hp
  refine ⟨ds, gs, before, [], pa, pv, hW, hres _ _ _, hargs _ hold, hvars _ hold, World.keptBut_mono (fun p hp => ⟨hp, ?_⟩) (hb.frame (· ∈ before)), fun _ => ?_⟩
  · rw [hps, List.mem_append] at hp
    exact Or.inr hp
  · obtain ⟨_, _, _, _, _, hz, hn⟩ := hW
    refine ⟨hok, _, _, ([] ++ pa) ++ pv, ⟨[] ++ pa, pv, trodAll_append (hargs _ (fun _ _ => rfl)) (hres _ _ _), hvars _ (fun _ _ => rfl), rfl, ?_, ?_⟩, ?_⟩
    · intro b off hp
      have hin : MemPlace.cell b off ∈ before := by rw [hps]; simpa using hp
      rw [hb.frozen (hlt _ hin)]
      exact hz b off hin
    · intro ha
      have := hn ha
      rw [hps] at this
      simpa using this
    · intro p hp _
      rw [hps]
      simpa using hp
end

theorem door_met (os : Os) (args : Array Value) : laidMetH Tryd.prog Rows.zonesKnownRow.laid ((World.doorLaid Tryd.prog 400 os).forCall (fun _ _ => 0) ⟨#[], args, []⟩).memory :=
  laidMetH_of_parts3 (fuel := 8) (laidMet_of_run' 8 (by kernel_rfl) (by kernel_rfl)) (by kernel_rfl) (by kernel_rfl)

theorem g0 : Tryd.prog.globalNamed "math/bits.deBruijn32tab" = some 0 := by kernel_rfl
theorem t0 : (Tryd.prog.globals[0]?).map (·.type) = some 171 := by kernel_rfl
theorem g1 : Tryd.prog.globalNamed "math/bits.deBruijn64tab" = some 1 := by kernel_rfl
theorem t1 : (Tryd.prog.globals[1]?).map (·.type) = some 172 := by kernel_rfl
theorem of_laid {W : World} (h : laidMetH Tryd.prog Rows.zonesKnownRow.laid W) : Go.YtnpoikgkhhpdgaaDoorH.TabAt W 0 (Go.YtnpoikgkhhpdgaaDoorH.tabV .u8 Go.YtnpoikgkhhpdgaaDoorH.tb0) ∧ Go.YtnpoikgkhhpdgaaDoorH.TabAt W 1 (Go.YtnpoikgkhhpdgaaDoorH.tabV .u8 Go.YtnpoikgkhhpdgaaDoorH.tb1) := by
  rw [MakeChecks.laidMetH_plain _ _ _ (by kernel_rfl)] at h
  obtain ⟨ps, ⟨a0, b0, cs0, f0, p0, q0, hg0, ht0, hv0, hd0, ⟨a1, b1, cs1, f1, p1, q1, hg1, ht1, hv1, hd1, _, _⟩, _⟩, _, _⟩ := h
  obtain rfl := Option.some.inj (g0.symm.trans hg0)
  obtain rfl := Option.some.inj (t0.symm.trans ht0)
  obtain rfl := Option.some.inj (g1.symm.trans hg1)
  obtain rfl := Option.some.inj (t1.symm.trans ht1)
  exact ⟨Go.YtnpoikgkhhpdgaaDoorH.laid_ints (e := 5) (len := 32) (ns := Go.YtnpoikgkhhpdgaaDoorH.tb0) hg0 hv0 (by kernel_rfl) (by kernel_rfl) (by kernel_rfl) hd0, Go.YtnpoikgkhhpdgaaDoorH.laid_ints (e := 5) (len := 64) (ns := Go.YtnpoikgkhhpdgaaDoorH.tb1) hg1 hv1 (by kernel_rfl) (by kernel_rfl) (by kernel_rfl) hd1⟩

theorem walk (w : World) (h0 : Go.YtnpoikgkhhpdgaaDoorH.TabAt w 0 (Go.YtnpoikgkhhpdgaaDoorH.tabV .u8 Go.YtnpoikgkhhpdgaaDoorH.tb0)) (h1 : Go.YtnpoikgkhhpdgaaDoorH.TabAt w 1 (Go.YtnpoikgkhhpdgaaDoorH.tabV .u8 Go.YtnpoikgkhhpdgaaDoorH.tb1)) : Calls Tryd.prog 16 #[] w fun e w' => e = .returned (.bool true) ∧ Below w.heap.size w w' := by
  obtain ⟨H', h⟩ := Go.YtnpoikgkhhpdgaaDoorH.bz.isT_some Go.YtnpoikgkhhpdgaaDoorH.bz.zones_run
  refine Go.YtnpoikgkhhpdgaaDoorH.closed_tabs (gl := [0, 1]) (tbs := [Go.YtnpoikgkhhpdgaaDoorH.tabV .u8 Go.YtnpoikgkhhpdgaaDoorH.tb0, Go.YtnpoikgkhhpdgaaDoorH.tabV .u8 Go.YtnpoikgkhhpdgaaDoorH.tb1]) (by kernel_rfl) Go.YtnpoikgkhhpdgaaDoorH.tab_ok h w rfl fun j g l hj hl => ?_
  match j with
  | 0 => cases hj; cases hl; exact h0
  | 1 => cases hj; cases hl; exact h1
  | n + 2 => simp at hj

set_option maxRecDepth 100000 in
theorem lifted (os : Os) (started : os.Started) (H : Type) (enc : TypeId × Value → H) :
    ReturnsInHanded {} Tryd.checked os 16 .any (fun w args => (Rows.zonesKnownSpec.pre enc Tryd.prog Tryd.f16 [] false w args ∧ laidMetH Tryd.prog Rows.zonesKnownRow.laid w) ∧ sizedMet enc Tryd.prog Tryd.f16 (OpenSpec.ofChange Rows.zonesKnownSpec) false w args)
      (Rows.zonesKnownSpec.post enc Tryd.prog Tryd.f16 false true false false) := by
  refine returnsInHanded_of_change_and (C := Tryd.checked) (X := fun w _ => laidMetH Tryd.prog Rows.zonesKnownRow.laid w) (fun _ _ _ hh h => h.of_heap hh) own started (by kernel_rfl) Tryd.func16
    (ChangeSpec.witness_shaped (enc := enc) (C := Tryd.checked) (os := os) (X := fun w _ => laidMetH Tryd.prog Rows.zonesKnownRow.laid w) false (World.doorLaid Tryd.prog 400 os) #[] 8 rfl (World.shaped_of_RefB (by kernel_rfl) (by kernel_rfl)) (by kernel_rfl) (by kernel_rfl) (by kernel_rfl) (door_met os _)) ?_
  intro W base args ds gs before hval0 hW _ _ hL _
  have hval : ∀ (j : Nat) t v, Tryd.f16.params[j]? = some t → args[j]? = some v → Value.okWide Tryd.prog W .any base t v := hval0
  have hW' := hW
  obtain ⟨p, q, hA0, hV, rfl, hfz, hnd⟩ := hW
  have hA : DataW.TrodAll enc Tryd.prog W 0 (fun _ => true) true Tryd.f16.params.toList args.toList ds p := hA0
  rw [Tryd.params16] at hA hval
  obtain ⟨rfl, rfl, rfl⟩ := trodAll_none hA
  obtain ⟨rfl, rfl⟩ := trodVars_none hV
  obtain ⟨h0, h1⟩ := of_laid hL
  clear hA0 hval0
  simp only [List.append_nil] at hW'
  refine (walk W h0 h1).mono fun e W' ⟨he, hg⟩ => ?_
  subst he
  exact ⟨_, rfl, post_of_below (pa := []) (pv := []) hW' (fun _ _ _ => (trodAll_cons_mk (shut_bool Tryd.underlying4 _) trodAll_mk0)) (fun sp _ => rfl) (fun _ _ => rfl) rfl
    hg (ok_one (by kernel_rfl) rfl (okWide_bool_mk Tryd.underlying4 _))⟩

theorem over : Rows.zonesKnownRow.holds Tryd.pinned (OpenSpec.ofChange Rows.zonesKnownSpec) :=
  OpenClaim.holds_of_wide 16 Tryd.f16 rfl rfl rfl rfl rfl rfl rfl ⟨rfl, rfl, rfl, rfl, rfl⟩ rfl rfl rfl rfl rfl (by kernel_rfl) Tryd.func16 (by kernel_rfl)
    (of_decide_eq_true (by kernel_rfl)) (by unfold Func.isWrapper; first | (rw [if_pos (by decide +kernel)]; kernel_rfl) | (rw [if_neg (by decide +kernel)]; exact ⟨rfl, rfl⟩))
    (fun os started H enc _ => lifted os started H enc)
end zonesKnown

theorem zonesKnown_holds : Rows.ZonesKnownCardSaid :=
  Claim7.holds_tied_plain_at .later [] [.data, .data] true (true, "d45f2420b8c4b25e5b9e438b946221844b8d4ceb59144b7c8e9af5257c35ea48") false
    zonesKnown.over (fun _ h => by cases h) (by kernel_rfl) (fun _ h => by cases h) zonesKnown_row_tie rfl ⟨rfl, rfl⟩ (by kernel_rfl) rfl
    (fun f fn hf hfn => by
      obtain rfl : f = 16 := Option.some.inj ((show Tryd.prog.funcNamed "headgate/headgatelaw11.ZonesKnown" = some 16 by kernel_rfl).symm.trans hf) |>.symm
      obtain rfl : fn = Tryd.f16 := (Option.some.inj (Tryd.func16.symm.trans hfn)).symm
      exact ⟨by kernel_rfl, fun j t ht => by
        rw [Tryd.params16] at ht
        simp at ht⟩)
    (by kernel_rfl)
end Go.Proofs.YtnpoikgkhhpdgaaDoor

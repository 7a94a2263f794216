/-
  'RowKnown' answers true and leaves all that lay before as it lay. The conditions: the listed tables start as the program's text lays them (the card ties them to the text).
-/
import Derived.Test.YtnpoikgkhhpdgaaDoorTie
import Derived.Test.YtnpoikgkhhpdgaaDoorCards
import Derived.Test.YtnpoikgkhhpdgaaDoorRr
import Derived.Test.YtnpoikgkhhpdgaaDoorHmY
import Derived.LaidMore
import Derived.Stop.Joined
import Derived.SevenTiedAt
namespace Go.Proofs.YtnpoikgkhhpdgaaDoor
open Go.ChangeShapes Go.WideShapes Go.ChangeAt Go.RowKit
set_option linter.unusedVariables false
namespace rowKnown

theorem own : ownKnob Tryd.prog.godebug = none := by kernel_rfl
theorem door_met (os : Os) (args : Array Value) : laidMetH Tryd.prog Rows.rowKnownRow.laid ((World.doorLaid Tryd.prog 400 os).forCall (fun _ _ => 0) ⟨#[], args, []⟩).memory :=
  laidMetH_of_parts3 (fuel := 8) (laidMet_of_run' 8 (by kernel_rfl) (by kernel_rfl)) (by kernel_rfl) (by kernel_rfl)

theorem g0 : Tryd.prog.globalNamed "math/bits.deBruijn32tab" = some 0 := by kernel_rfl
theorem t0 : (Tryd.prog.globals[0]?).map (·.type) = some 171 := by kernel_rfl
theorem g1 : Tryd.prog.globalNamed "math/bits.deBruijn64tab" = some 1 := by kernel_rfl
theorem t1 : (Tryd.prog.globals[1]?).map (·.type) = some 172 := by kernel_rfl
theorem g2 : Tryd.prog.globalNamed "internal/strconv.uint64pow10" = some 3 := by kernel_rfl
theorem t2 : (Tryd.prog.globals[3]?).map (·.type) = some 184 := by kernel_rfl
theorem of_laid {W : World} (h : laidMetH Tryd.prog Rows.rowKnownRow.laid W) : Go.YtnpoikgkhhpdgaaDoorH.TabAt W 0 (Go.YtnpoikgkhhpdgaaDoorH.tabV .u8 Go.YtnpoikgkhhpdgaaDoorH.tb0) ∧ Go.YtnpoikgkhhpdgaaDoorH.TabAt W 1 (Go.YtnpoikgkhhpdgaaDoorH.tabV .u8 Go.YtnpoikgkhhpdgaaDoorH.tb1) ∧ Go.YtnpoikgkhhpdgaaDoorH.TabAt W 3 (Go.YtnpoikgkhhpdgaaDoorH.tabV .u64 Go.YtnpoikgkhhpdgaaDoorH.tb2) := by
  rw [MakeChecks.laidMetH_plain _ _ _ (by kernel_rfl)] at h
  obtain ⟨ps, ⟨a0, b0, cs0, f0, p0, q0, hg0, ht0, hv0, hd0, ⟨a1, b1, cs1, f1, p1, q1, hg1, ht1, hv1, hd1, ⟨a2, b2, cs2, f2, p2, q2, hg2, ht2, hv2, hd2, _, _⟩, _⟩, _⟩, _, _⟩ := h
  obtain rfl := Option.some.inj (g0.symm.trans hg0)
  obtain rfl := Option.some.inj (t0.symm.trans ht0)
  obtain rfl := Option.some.inj (g1.symm.trans hg1)
  obtain rfl := Option.some.inj (t1.symm.trans ht1)
  obtain rfl := Option.some.inj (g2.symm.trans hg2)
  obtain rfl := Option.some.inj (t2.symm.trans ht2)
  exact ⟨Go.YtnpoikgkhhpdgaaDoorH.laid_ints (e := 5) (len := 32) (ns := Go.YtnpoikgkhhpdgaaDoorH.tb0) hg0 hv0 (by kernel_rfl) (by kernel_rfl) (by kernel_rfl) hd0, Go.YtnpoikgkhhpdgaaDoorH.laid_ints (e := 5) (len := 64) (ns := Go.YtnpoikgkhhpdgaaDoorH.tb1) hg1 hv1 (by kernel_rfl) (by kernel_rfl) (by kernel_rfl) hd1, Go.YtnpoikgkhhpdgaaDoorH.laid_ints (e := 86) (len := 20) (ns := Go.YtnpoikgkhhpdgaaDoorH.tb2) hg2 hv2 (by kernel_rfl) (by kernel_rfl) (by kernel_rfl) hd2⟩

theorem walk (w : World) (b : Bool) (h0 : Go.YtnpoikgkhhpdgaaDoorH.TabAt w 0 (Go.YtnpoikgkhhpdgaaDoorH.tabV .u8 Go.YtnpoikgkhhpdgaaDoorH.tb0)) (h1 : Go.YtnpoikgkhhpdgaaDoorH.TabAt w 1 (Go.YtnpoikgkhhpdgaaDoorH.tabV .u8 Go.YtnpoikgkhhpdgaaDoorH.tb1)) (h2 : Go.YtnpoikgkhhpdgaaDoorH.TabAt w 2 ([.rng .i64 b 2])) (h3 : Go.YtnpoikgkhhpdgaaDoorH.TabAt w 3 (Go.YtnpoikgkhhpdgaaDoorH.tabV .u64 Go.YtnpoikgkhhpdgaaDoorH.tb2)) : Calls Tryd.prog 11 #[] w fun e w' => e = .returned (.bool true) ∧ Below w.heap.size w w' := by
  obtain ⟨H', h⟩ := Go.YtnpoikgkhhpdgaaDoorH.isT_some (Go.YtnpoikgkhhpdgaaDoorH.row.known_run b)
  refine Go.YtnpoikgkhhpdgaaDoorH.closed_tabs (gl := [0, 1, 2, 3]) (tbs := [Go.YtnpoikgkhhpdgaaDoorH.tabV .u8 Go.YtnpoikgkhhpdgaaDoorH.tb0, Go.YtnpoikgkhhpdgaaDoorH.tabV .u8 Go.YtnpoikgkhhpdgaaDoorH.tb1, [.rng .i64 b 2], Go.YtnpoikgkhhpdgaaDoorH.tabV .u64 Go.YtnpoikgkhhpdgaaDoorH.tb2]) (by kernel_rfl) Go.YtnpoikgkhhpdgaaDoorH.tab_ok h w rfl fun j g l hj hl => ?_
  match j with
  | 0 => cases hj; cases hl; exact h0
  | 1 => cases hj; cases hl; exact h1
  | 2 => cases hj; cases hl; exact h2
  | 3 => cases hj; cases hl; exact h3
  | n + 4 => simp at hj

set_option maxRecDepth 100000 in
theorem lifted (os : Os) (started : os.Started) (H : Type) (enc : TypeId × Value → H) :
    ReturnsInHanded {} Tryd.checked os 11 .any (fun w args => (Rows.rowKnownSpec.pre enc Tryd.prog Tryd.f11 [] false w args ∧ laidMetH Tryd.prog Rows.rowKnownRow.laid w) ∧ sizedMet enc Tryd.prog Tryd.f11 (OpenSpec.ofChange Rows.rowKnownSpec) false w args)
      (Rows.rowKnownSpec.post enc Tryd.prog Tryd.f11 false true false false) := by
  refine Go.YtnpoikgkhhpdgaaDoorH.returns_shaped (C := Tryd.checked) (X := fun w _ => laidMetH Tryd.prog Rows.rowKnownRow.laid w) (fun _ _ _ hh h => h.of_heap hh) own started (by kernel_rfl) Tryd.func11
    (ChangeSpec.witness_shaped (enc := enc) (C := Tryd.checked) (os := os) (X := fun w _ => laidMetH Tryd.prog Rows.rowKnownRow.laid w) false (World.doorLaid Tryd.prog 400 os) #[] 8 rfl (World.shaped_of_RefB (by kernel_rfl) (by kernel_rfl)) (by kernel_rfl) (by kernel_rfl) (by kernel_rfl) (door_met os _)) ?_
  intro W base args ds gs before hval0 hW _ _ hL hsh
  have hval : ∀ (j : Nat) t v, Tryd.f11.params[j]? = some t → args[j]? = some v → Value.okWide Tryd.prog W .any base t v := hval0
  have hW' := hW
  obtain ⟨p, q, hA0, hV, rfl, hfz, hnd⟩ := hW
  have hA : DataW.TrodAll enc Tryd.prog W 0 (fun _ => true) true Tryd.f11.params.toList args.toList ds p := hA0
  rw [Tryd.params11] at hA hval
  obtain ⟨rfl, rfl, rfl⟩ := trodAll_none hA
  obtain ⟨rfl, rfl⟩ := trodVars_none hV
  obtain ⟨k0, k1, k2⟩ := of_laid hL
  obtain ⟨mc, mm, ml, mz, m1, m2⟩ := Go.YtnpoikgkhhpdgaaDoorH.int_of_shape (g := 2) (t := 3) (k := .i64) (zero := #[.int .i64 0]) hsh (of_decide_eq_true (by kernel_rfl)) (by kernel_rfl) rfl (by kernel_rfl) (by kernel_rfl) (by kernel_rfl)
  clear hA0 hval0
  simp only [List.append_nil] at hW'
  refine (walk W _ k0 k1 (Go.YtnpoikgkhhpdgaaDoorH.most_at (n := 2) m1 m2) k2).mono fun e W' ⟨he, hg⟩ => ?_
  subst he
  exact ⟨_, rfl, Go.YtnpoikgkhhpdgaaDoorH.post_of_below (pa := []) (pv := []) hW' (fun _ _ _ => (trodAll_cons_mk (shut_bool Tryd.underlying4 _) trodAll_mk0)) (fun sp _ => rfl) (fun _ _ => rfl) rfl
    hg (ok_one (by kernel_rfl) rfl (okWide_bool_mk Tryd.underlying4 _))⟩

theorem over : Rows.rowKnownRow.holds Tryd.pinned (OpenSpec.ofChange Rows.rowKnownSpec) :=
  OpenClaim.holds_of_wide 11 Tryd.f11 rfl rfl rfl rfl rfl rfl rfl ⟨rfl, rfl, rfl, rfl, rfl⟩ rfl rfl rfl rfl rfl (by kernel_rfl) Tryd.func11 (by kernel_rfl)
    (of_decide_eq_true (by kernel_rfl)) (by unfold Func.isWrapper; first | (rw [if_pos (by decide +kernel)]; kernel_rfl) | (rw [if_neg (by decide +kernel)]; exact ⟨rfl, rfl⟩))
    (fun os started H enc _ => lifted os started H enc)
end rowKnown

theorem rowKnown_holds : Rows.RowKnownCardSaid :=
  Claim7.holds_tied_plain_at .later [] [.data, .data, .data] true (true, "d45f2420b8c4b25e5b9e438b946221844b8d4ceb59144b7c8e9af5257c35ea48") false
    rowKnown.over (fun _ h => by cases h) (by kernel_rfl) (fun _ h => by cases h) rowKnown_row_tie rfl ⟨rfl, rfl⟩ (by kernel_rfl) rfl
    (fun f fn hf hfn => by
      obtain rfl : f = 11 := Option.some.inj ((show Tryd.prog.funcNamed "headgate/headgatelaw05.RowKnown" = some 11 by kernel_rfl).symm.trans hf) |>.symm
      obtain rfl : fn = Tryd.f11 := (Option.some.inj (Tryd.func11.symm.trans hfn)).symm
      exact ⟨by kernel_rfl, fun j t ht => by
        rw [Tryd.params11] at ht
        simp at ht⟩)
    (by kernel_rfl)
end Go.Proofs.YtnpoikgkhhpdgaaDoor

/-
  Tables of the program's that stand in memory when a call begins.
-/
import Derived.Test.YtnpoikgkhhpdgaaDoorHmT
import Derived.OpenShut
import Derived.FnData
import Derived.ChangeArms
import Derived.ShapedOpen
namespace Go.YtnpoikgkhhpdgaaDoorH
open Go.RowKit
variable {P : Program} {gl : List Nat} {w : World}

noncomputable def tabV (k : IntKind) (ns : List Nat) : List V := List.rec (motive := fun _ => List V) [] (fun n _ ih => .int k (.ofNat n) :: ih) ns
theorem tabV_eq (k : IntKind) (ns : List Nat) : tabV k ns = ns.map fun n => V.int k (.ofNat n) := by
  induction ns with
  | nil => rfl
  | cons n r ih => show V.int k (.ofNat n) :: tabV k r = _; rw [ih]; rfl
noncomputable def tabOb (l : List V) : Ob := .cells false (llen l) (cputs .nil 0 l)
noncomputable def startT (tbs : List (List V)) : Nat → Tr Ob := List.rec (motive := fun _ => Nat → Tr Ob) (fun _ => .nil) (fun l _ ih i => (ih (i + 1)).set i (tabOb l)) tbs
noncomputable def startH (tbs : List (List V)) : Heap := ⟨llen tbs, startT tbs 0⟩
theorem startT_get : ∀ (tbs : List (List V)) (i j : Nat), (startT tbs i).get j = if i ≤ j then (tbs[j - i]?).map tabOb else none
  | [], i, j => by
    show Tr.get .nil j = _
    simp
  | l :: r, i, j => by
    show (Tr.set (startT r (i + 1)) i (tabOb l)).get j = _
    rw [Tr.get_set, startT_get r (i + 1) j]
    by_cases e : j = i
    · subst e; simp
    · rw [if_neg e]
      by_cases h : i + 1 ≤ j
      · rw [if_pos h, if_pos (by omega), show j - i = (j - (i + 1)) + 1 by omega]; simp
      · rw [if_neg h, if_neg (by omega)]
/-- a table stands in a block -/
def TabAt (w : World) (g : Nat) (l : List V) : Prop := ∃ arr el fz, w.heap[g]? = some (.cells arr el fz) ∧ ∀ (j : Nat) (x : V), l[j]? = some x → ∃ v, arr[j]? = some v ∧ (∀ ι, VR ι x v) ∧ sing x = true
theorem start_hr {tbs : List (List V)} (hl : tbs.length = gl.length) (h : ∀ (j g : Nat) (l : List V), gl[j]? = some g → tbs[j]? = some l → TabAt w g l) : HR P gl w (fun j => (gl[j]?).map fun g => (g, 0)) (startH tbs) w := by
  have get : ∀ {j ob}, (startH tbs).get j = some ob → ∃ l, tbs[j]? = some l ∧ ob = tabOb l := fun {j ob} hg => by
    have hg2 : (startT tbs 0).get j = some ob := hg
    rw [startT_get, if_pos (Nat.zero_le _), Nat.sub_zero] at hg2
    cases ht : tbs[j]? with
    | none => rw [ht] at hg2; cases hg2
    | some l => rw [ht] at hg2; exact ⟨l, rfl, (Option.some.inj hg2).symm⟩
  have inv : ∀ {j : Nat} {x : Nat × Nat}, (gl[j]?).map (fun g => (g, 0)) = some x → ∃ g, gl[j]? = some g ∧ x = (g, 0) := fun {j x} hx => by
    cases hg : gl[j]? with
    | none => rw [hg] at hx; cases hx
    | some g => rw [hg] at hx; exact ⟨g, rfl, (Option.some.inj hx).symm⟩
  have lt : ∀ {j g : Nat}, gl[j]? = some g → ∃ l, tbs[j]? = some l ∧ TabAt w g l := fun {j g} hg => by
    have hj : j < tbs.length := by rw [hl]; exact (List.getElem?_eq_some_iff.1 hg).1
    exact ⟨tbs[j], by simp, h j g tbs[j] hg (by simp)⟩
  refine { below := Below.refl _ _, lt := fun j x hx => ?_, blk := fun j b sz hx => ?_, obs := fun j ob b sz hg hx => ?_, own := fun j ob b sz hg hx ho => ?_, apart := fun i j ob1 ob2 x x' _ h1 _ ho _ _ => ?_, glob := fun j g hj => ⟨0, by simp [hj]⟩, wf := fun j n cs hg => ?_ }
  · obtain ⟨g, hg, _⟩ := inv hx
    have := (List.getElem?_eq_some_iff.1 hg).1
    show j < llen tbs
    rw [llen_eq, hl]; exact this
  · obtain ⟨g, hg, e⟩ := inv hx
    cases e
    obtain ⟨l, _, arr, el, fz, h1, _⟩ := lt hg
    exact (Array.getElem?_eq_some_iff.1 h1).1
  · obtain ⟨g, hg', e⟩ := inv hx
    cases e
    obtain ⟨l, ht, e2⟩ := get hg
    obtain ⟨l', ht', arr, el, fz, h1, h2⟩ := lt hg'
    rw [ht] at ht'
    cases ht'
    rw [e2]
    refine ⟨arr, el, fz, h1, fun k x hk => ?_, fun hc => by cases hc⟩
    rw [cputs_get] at hk
    split at hk
    · rw [Nat.sub_zero] at hk
      obtain ⟨v, q1, q2, q3⟩ := h2 k x hk
      exact ⟨v, q1, q2 _, q3⟩
    · cases hk
  · obtain ⟨l, _, e2⟩ := get hg
    rw [e2] at ho; cases ho
  · obtain ⟨l, _, e2⟩ := get h1
    rw [e2] at ho; cases ho
  · obtain ⟨l, _, e2⟩ := get hg
    cases e2
/-- a closed call -/
theorem closed_tabs (hm : P.follows .mixedOrders = true) {Φ : Tab} (hT : TabOk P gl Φ) {tbs : List (List V)} {L d f : Nat} {H' : Heap} (h : runF Φ L d f [] (startH tbs) = some (.bool true, H')) (w : World)
    (hl : tbs.length = gl.length) (ht : ∀ (j g : Nat) (l : List V), gl[j]? = some g → tbs[j]? = some l → TabAt w g l) :
    Calls P f #[] w fun e w' => e = .returned (.bool true) ∧ Below w.heap.size w w' := by
  refine (runF_ok hm hT L d f [] _ _ H' _ w #[] h (start_hr hl ht) ⟨rfl, fun j c x hc => by simp at hc⟩).2.mono ?_
  rintro e w' ⟨v, ι', e1, _, h2, h3⟩
  subst e1
  exact ⟨by rw [h3.bool_inv], h2.below⟩

/-- a listed table of integers -/
theorem laid_ints {n : String} {g : Nat} {t e : TypeId} {len : Nat} {k : IntKind} {cs : Array Value} {fuel : Nat} {ns : List Nat} {p : List MemPlace} (hg : P.globalNamed n = some g) (hv : w.var? P n = some cs)
    (hu : P.underlying t = some (.array len e)) (he : P.underlying e = some (.int k)) (hc : P.cellsOf e = 1)
    (hd : DataW.trod (fun _ => ()) P w 0 (fun _ => true) false fuel t cs.toList = some (.agg (ns.map fun m => .lit (.int k (Int.ofNat m))), p)) : TabAt w g (tabV k ns) := by
  have hcell := World.var?_cell hg hv
  have hh : ∃ el fz, w.heap[g]? = some (.cells cs el fz) := by
    simp only [World.var?, hg, Option.bind_some] at hv
    split at hv
    · rename_i c el fz hh
      simp at hv
      subst hv
      exact ⟨el, fz, hh⟩
    · cases hv
  obtain ⟨el, fz, hh⟩ := hh
  obtain ⟨xs, m, _, hx, hlen, hn, hel⟩ := DataW.trod_array hu hd
  simp only [Prod.mk.injEq, DataW.agg.injEq] at hx
  refine ⟨cs, el, fz, hh, fun j x hj => ?_⟩
  rw [tabV_eq, List.getElem?_map] at hj
  cases hjn : ns[j]? with
  | none => rw [hjn] at hj; cases hj
  | some q =>
    rw [hjn] at hj
    simp only [Option.map_some, Option.some.injEq] at hj
    subst hj
    have hx1 : (xs.map (·.1))[j]? = some (.lit (.int k (Int.ofNat q))) := by rw [← hx.1, List.getElem?_map, hjn]; rfl
    rw [List.getElem?_map] at hx1
    cases hxj : xs[j]? with
    | none => rw [hxj] at hx1; cases hx1
    | some y =>
      rw [hxj] at hx1
      have hlt : j < len := by rw [← hn]; exact (List.getElem?_eq_some_iff.1 hxj).1
      have h1 := hel j hlt
      rw [hxj, hc, Nat.mul_one] at h1
      obtain ⟨z, e1, e2, _⟩ := DataW.trod_int he h1
      have hz : z = Int.ofNat q := by
        rw [e2] at hx1
        simpa using hx1
      subst hz
      refine ⟨.int k (Int.ofNat q), ?_, fun ι => .int _ _, rfl⟩
      have h2 : (cs.toList.drop j)[0]? = some (.int k (Int.ofNat q)) := by
        have := congrArg (fun l : List Value => l[0]?) e1
        simpa [List.getElem?_take] using this
      rw [List.getElem?_drop] at h2
      simpa using h2

/-- a variable of one cell that holds a whole number, whatever it is -/
theorem int_of_shape {g : Nat} {t : TypeId} {k : IntKind} {zero : Array Value} (h : w.ShapedOpen P) (hg : g < P.globals.size) (h0 : ((begin P (fun _ _ => 0) default).world.heap[g]?).bind Obj.row? = some (zero, t)) (hz : zero.size = 1)
    (hb : P.buildable t = true) (hc : P.cellTypes P.depth t = some [t]) (hu : P.underlying t = some (.int k)) : ∃ cs m el fz, w.heap[g]? = some (.cells cs el fz) ∧ cs[0]? = some (.int k m) := by
  obtain ⟨cs, hh, hs, hr⟩ := h.1 g zero t hg h0
  obtain ⟨ts, hts, _, hall⟩ := hr hb
  rw [hc] at hts
  cases hts
  have h1 : 0 < cs.size := by omega
  obtain ⟨u, hu', hok⟩ := hall 0 cs[0] (by simp [h1])
  have : u = t := by simpa using hu'.symm
  subst this
  have hc0 : cs[0]? = some cs[0] := by simp [h1]
  unfold Cell.ok at hok
  rw [hu] at hok
  cases hv : cs[0] <;> rw [hv] at hok <;> first | (simp at hok; done) | skip
  rename_i k' m
  have hk : k' = k := by simp at hok; first | exact hok.1.symm | exact hok.1 | exact hok.symm | exact hok
  subst hk
  exact ⟨cs, m, _, _, hh, by rw [hc0, hv]⟩
theorem most_at {g : Nat} {k : IntKind} {cs : Array Value} {m n : Int} {el : TypeId} {fz : Nat × Nat} (h1 : w.heap[g]? = some (.cells cs el fz)) (h2 : cs[0]? = some (.int k m)) : TabAt w g [.rng k (decide (n ≤ m)) n] :=
  ⟨cs, el, fz, h1, fun j x hj => by
    cases j with
    | succ j => simp at hj
    | zero =>
      simp at hj; subst hj
      refine ⟨.int k m, h2, fun ι => .rng ?_, rfl⟩
      by_cases h : n ≤ m
      · simp [h]
      · simp [h]; omega⟩

/-- does a run end in true -/
def isTV : V → Bool
  | .bool b => b
  | _ => false
noncomputable def isT (x : Option (V × Heap)) : Bool := Option.rec (motive := fun _ => Bool) false (fun p => isTV p.1) x
theorem isT_some {x : Option (V × Heap)} (h : isT x = true) : ∃ H', x = some (.bool true, H') := by
  cases x with
  | none => cases h
  | some p =>
    obtain ⟨v, H'⟩ := p
    have h : isTV v = true := h
    unfold isTV at h
    split at h
    · subst h; exact ⟨H', rfl⟩
    · cases h
end Go.YtnpoikgkhhpdgaaDoorH

/-
  One operation: what is asked of the model's operation and the abstract one that stands for it, and that the quiet ones do what they say.
-/
import Derived.Test.YtnpoikgkhhpdgaaDoorEvL
namespace Go.YtnpoikgkhhpdgaaDoorE
variable {P : Program} {N : Nat} {X : Nat → Nat → Prop} {w0 : World} {μ0 : Mem} {G G' : Gh} {Cn Cn' : List Nat} {T : List (Nat × D)} {M : List (Nat × Ob)} {a : Act} {w w' : World}

def sliceEl (P : Program) (t : TypeId) : Option TypeId := match P.underlying t with | some (.slice e) => some e | _ => none
def isStr (P : Program) (t : TypeId) : Bool := match P.underlying t with | some .string => true | _ => false
def isBoolT (P : Program) (t : TypeId) : Bool := match P.underlying t with | some .bool => true | _ => false
def isPtr (P : Program) (t : TypeId) : Bool := match P.underlying t with | some (.pointer _) => true | _ => false
def isInt (P : Program) (t : TypeId) (k : IntKind) : Bool := match P.underlying t with | some (.int k') => decide (k' = k) | _ => false
def okSz (P : Program) (t : TypeId) (ag : Bool) (n : Nat) : Bool := match tAgg P t, tSize P t with | some b, some m => (b == ag) && Nat.beq m n | _, _ => false
def okN (P : Program) (t : TypeId) (n : Nat) : Bool := match tSize P t with | some m => Nat.beq m n | _ => false
def okZ (P : Program) (e : TypeId) (z : D) : Bool := match P.info? e with
  | some i => match i.zero with | some zv => okV z zv && solid z | none => false
  | none => false
def okEl (P : Program) (e : TypeId) (es : Nat) (z : D) : Bool := match P.info? e with
  | some i => Nat.beq i.size es && (match i.zero with | some zv => okV z zv && solid z && Nat.beq (cellsOf z).length es | none => false)
  | none => false
def okBy (P : Program) (e : TypeId) (bytes : Nat) : Bool := match P.info? e with | some i => Nat.beq i.bytes bytes && Nat.blt 0 bytes | none => false
def okPl (place : Nat → Option (Nat × Nat)) : List (Nat × Operand) → List (Nat × Nat × Rd) → Bool
  | [], [] => true
  | p :: r, q :: s => okRd p.2 q.2.2 && (match place p.1 with | some x => Nat.beq x.1 q.1 && Nat.beq x.2 q.2.1 | none => false) && okPl place r s
  | _, _ => false
def okPS : List (Nat × Operand) → List (Nat × Rd) → Bool
  | [], [] => true
  | p :: r, q :: s => okRd p.2 q.2 && Nat.beq p.1 q.1 && okPS r s
  | _, _ => false
def placesOf (P : Program) (t : TypeId) : Option (Nat → Option (Nat × Nat)) :=
  match P.underlying t with
  | some (.array _ e) => match P.info? e with
    | some ie => some fun i => some (i * ie.size, ie.size)
    | none => none
  | some (.struct fields) => match fields.toList.mapM (fun f => (P.info? f.type).map fun i => (f.offset, i.size)) with
    | some places => some fun i => places.toArray[i]?
    | none => none
  | _ => none
def zeroOk (P : Program) (t : TypeId) (z : List D) : Bool := match P.info? t with
  | some i => match i.zero with | some (.agg vs) => okVL z vs.toList && singleL z | _ => false
  | none => false
def okFa (P : Program) (t : TypeId) (f off : Nat) : Bool := match P.underlying t with
  | some (.struct fs) => match fs[f]? with
    | some fd => Nat.beq fd.offset off && (match tSize P fd.type with | some n => Nat.blt 0 n | none => false)
    | none => false
  | _ => false
def okFd (P : Program) (t : TypeId) (f off : Nat) (ag : Bool) (n : Nat) : Bool := match P.underlying t with
  | some (.struct fs) => match fs[f]? with
    | some fd => Nat.beq fd.offset off && okSz P fd.type ag n
    | none => false
  | _ => false

def okOp (P : Program) (o : Go.Op) : Op → Bool
  | .mv x => match o with | .move y => okRd y x | .assign y => okRd y x | _ => false
  | .pick c x y => match o with | .pick c' x' y' => okRd c' c && okRd x' x && okRd y' y | _ => false
  | .build _ z ps => match o with
    | .build t parts => (match placesOf P t with | some pl => okPl pl parts.toList ps | none => false) && zeroOk P t z
    | _ => false
  | .bsl es z n ps => match o with
    | .buildSlice t n' parts => Nat.beq n' n && okPS parts.toList ps && Nat.ble (n * es) 16777216 && (match sliceEl P t with | some e => okEl P e es z | none => false)
    | _ => false
  | .load ag _ n x => match o with | .load t y => okRd y x && okSz P t ag n | _ => false
  | .nilc x => match o with | .nilCheck y => okRd y x | _ => false
  | .bin k op x y => match o with
    | .binOp op' t x' y' _ => decide (op' = op) && okRd x' x && okRd y' y && (match k with | 0 => true | 1 => isBoolT P t | 2 => isPtr P t | _ => false)
    | _ => false
  | .eqa neq ks x y => match o with
    | .binOp op' t x' y' _ => decide (op' = if neq then .neq else .eql) && okRd x' x && okRd y' y && (match eqTy P 9 t with | some ks' => decide (ks' = ks) | none => false)
        && (match tAgg P t with | some b => b | none => false) && !(P.eqGuardType P.depth t)
    | _ => false
  | .un op x => match o with | .unOp op' _ x' => decide (op' = op) && okRd x' x | _ => false
  | .cv k x => match o with | .convert s t x' => isInt P t k && (P.underlying s).isSome && okRd x' x | _ => false
  | .fld ag _ off n x => match o with | .field t x' f => okFd P t f off ag n && okRd x' x | _ => false
  | .fadr off x => match o with | .fieldAddr t x' f => okFa P t f off && okRd x' x | _ => false
  | .iadr es x i => match o with
    | .indexAddr t x' i' => okRd x' x && okRd i' i && (match sliceEl P t with | some e => okN P e es | none => false)
    | _ => false
  | .iada len es x i => match o with
    | .indexAddr t x' i' => okRd x' x && okRd i' i && (match P.underlying t with | some (.array n e) => Nat.beq n len && okN P e es | _ => false)
    | _ => false
  | .ida len es ag _ x i => match o with
    | .index t x' i' => okRd x' x && okRd i' i && (match P.underlying t with | some (.array n e) => Nat.beq n len && okSz P e ag es | _ => false)
    | _ => false
  | .ids x i => match o with | .index t x' i' => okRd x' x && okRd i' i && isStr P t | _ => false
  | .ext x i => match o with | .extract x' i' => okRd x' x && Nat.beq i' i | _ => false
  | .len str x => match o with
    | .call c => match c.callee, c.args.toList, c.argTypes.toList with
      | .builtin .len, [x'], [t] => okRd x' x && (match str with | true => isStr P t | false => (sliceEl P t).isSome)
      | _, _, _ => false
    | _ => false
  | .sl es x lo hi mx => match o with
    | .slice t x' lo' hi' mx' => okRd x' x && okRdO lo' lo && okRdO hi' hi && okRdO mx' mx && (match sliceEl P t with | some e => okN P e es | none => false)
    | _ => false
  | .sls x lo hi => match o with
    | .slice t x' lo' hi' none => okRd x' x && okRdO lo' lo && okRdO hi' hi && isStr P t
    | _ => false
  | .mm mx x y => match o with
    | .call c => match c.callee, c.args.toList with
      | .builtin b, [x', y'] => okRd x' x && okRd y' y && (match mx, b with | true, .max => true | false, .min => true | _, _ => false)
      | _, _ => false
    | _ => false
  | .mkfn f caps => match o with
    | .makeFunc (.func g) first cs => Nat.beq g f && first.toList.isEmpty && okRdL cs.toList caps
    | _ => false
  | .app es bytes _ z x y => match o with
    | .call c => match c.callee, c.args.toList, c.argTypes.toList with
      | .builtin .append, [x', y'], [t, t2] => okRd x' x && okRd y' y && (match sliceEl P t, sliceEl P t2 with | some e, some _ => okEl P e es z && okBy P e bytes | _, _ => false)
      | _, _, _ => false
    | _ => false
  | .call f args _ => match o with
    | .call c => match c.callee, c.argTypes.toList with
      | .value (.func g), _ => Nat.beq g f && okRdL c.args.toList args
      | _, _ => false
    | _ => false
  | .callv f args _ => match o with
    | .call c => match c.callee with
      | .value g => okRd g f && okRdL c.args.toList args
      | _ => false
    | _ => false
  | .alloc _ z => match o with | .alloc t => okZ P t z | _ => false
  | .box _ _ _ x => match o with | .box _ y => okRd y x | _ => false
  | .store ag n x y => match o with | .store t x' y' => okRd x' x && okRd y' y && okN P t n && (match ag with | true => true | false => Nat.beq n 1) | _ => false
  | .mks _ es bytes z n m => match o with
    | .makeSlice t n' m' => okRd n' n && okRd m' m && (match sliceEl P t with | some e => okEl P e es z && okBy P e bytes | none => false)
    | _ => false
  | .copy _ _ => false

theorem sliceEl_inv {t e : TypeId} (h : sliceEl P t = some e) : P.underlying t = some (.slice e) := by
  unfold sliceEl at h; split at h
  · rename_i hu; simp at h; subst h; exact hu
  · cases h
theorem isStr_inv {t : TypeId} (h : isStr P t = true) : P.underlying t = some .string := by
  unfold isStr at h; split at h
  · assumption
  · cases h
theorem isBoolT_inv {t : TypeId} (h : isBoolT P t = true) : P.underlying t = some .bool := by
  unfold isBoolT at h; split at h
  · assumption
  · cases h
theorem isPtr_inv {t : TypeId} (h : isPtr P t = true) : ∃ e, P.underlying t = some (.pointer e) := by
  unfold isPtr at h; split at h
  · rename_i e hu; exact ⟨e, hu⟩
  · cases h
theorem isInt_inv {t : TypeId} {k : IntKind} (h : isInt P t k = true) : P.underlying t = some (.int k) := by
  unfold isInt at h; split at h
  · rename_i hu; simp at h; subst h; exact hu
  · cases h
theorem okSz_inv {t : TypeId} {ag : Bool} {n : Nat} (h : okSz P t ag n = true) : tAgg P t = some ag ∧ tSize P t = some n := by
  unfold okSz at h; split at h
  · rename_i b m h1 h2
    simp at h; obtain ⟨rfl, rfl⟩ := h; exact ⟨h1, h2⟩
  · cases h
theorem okN_inv {t : TypeId} {n : Nat} (h : okN P t n = true) : tSize P t = some n := by
  unfold okN at h; split at h
  · rename_i m h1; simp at h; subst h; exact h1
  · cases h
theorem okEl_inv {e : TypeId} {es : Nat} {z : D} (h : okEl P e es z = true) : ∃ ie zv, P.info? e = some ie ∧ ie.size = es ∧ ie.zero = some zv ∧ okV z zv = true ∧ solid z = true ∧ (cellsOf z).length = es := by
  unfold okEl at h; split at h
  · rename_i i hi
    simp at h
    obtain ⟨h1, h2⟩ := h
    split at h2
    · rename_i zv hz
      simp at h2
      exact ⟨i, zv, hi, h1, hz, h2.1.1, h2.1.2, h2.2⟩
    · cases h2
  · cases h
theorem okZ_inv {e : TypeId} {z : D} (h : okZ P e z = true) : ∃ ie zv, P.info? e = some ie ∧ ie.zero = some zv ∧ okV z zv = true ∧ solid z = true := by
  unfold okZ at h; split at h
  · rename_i i hi
    split at h
    · rename_i zv hz
      simp at h
      exact ⟨i, zv, hi, hz, h.1, h.2⟩
    · cases h
  · cases h
theorem okBy_inv {e : TypeId} {bytes : Nat} (h : okBy P e bytes = true) : ∃ ie, P.info? e = some ie ∧ ie.bytes = bytes ∧ 0 < bytes := by
  unfold okBy at h; split at h
  · rename_i i hi
    simp at h
    exact ⟨i, hi, h.1, h.2⟩
  · cases h

/-- an operation has been done: its value, what is known behind it -/
def Did (N : Nat) (X : Nat → Nat → Prop) (w0 : World) (μ0 : Mem) (G : Gh) (Cn : List Nat) (T : List (Nat × D)) (M : List (Nat × Ob)) (a : Act) (ss rs : List Nat) (d : D) (r : Result Next) : Prop :=
  ∃ v w' G', r = .ok (.value v) w' ∧ Gh.le G G' ∧ (∀ s, s ∉ ss → G'.τ s = G.τ s) ∧ (∀ s, s ∉ rs → G'.ρ s = G.ρ s) ∧ Rep G' d v ∧ Rel N X w0 μ0 G' Cn T M a w'

theorem Did.pure {ss rs : List Nat} {d : D} {v : Value} (h : Rel N X w0 μ0 G Cn T M a w) (hr : Rep G d v) : Did N X w0 μ0 G Cn T M a ss rs d ((Pure.pure (Next.value v) : Sem Next).run P w) :=
  ⟨v, w, G, rfl, Gh.le_refl _, fun _ _ => rfl, fun _ _ => rfl, hr, h⟩
theorem Did.still {ss rs : List Nat} {d : D} {e : Sem Value} (h : Rel N X w0 μ0 G Cn T M a w) (hz : ∃ z, e.run P w = .ok z w ∧ Rep G d z) :
    Did N X w0 μ0 G Cn T M a ss rs d ((do Pure.pure (Next.value (← e)) : Sem Next).run P w) := by
  obtain ⟨z, h1, h2⟩ := hz
  exact ⟨z, w, G, by simp [h1], Gh.le_refl _, fun _ _ => rfl, fun _ _ => rfl, h2, h⟩

theorem okPl_parts {place : Nat → Option (Nat × Nat)} (h : Rel N X w0 μ0 G Cn T M a w) : ∀ (ps : List (Nat × Operand)) (qs : List (Nat × Nat × Rd)) (ds : List (Nat × Nat × D)), okPl place ps qs = true → rdvA T qs = some ds →
    Parts G place (ps.map fun p => (p.1, a.eval p.2)) ds
  | [], [], ds, _, hr => by simp [rdvA] at hr; subst hr; exact .nil
  | [], _ :: _, _, ok, _ => by simp [okPl] at ok
  | _ :: _, [], _, ok, _ => by simp [okPl] at ok
  | p :: ps, q :: qs, ds, ok, hr => by
    simp only [okPl, Bool.and_eq_true] at ok
    simp only [rdvA, Option.bind_eq_some_iff] at hr
    obtain ⟨d, h1, l, h2, h3⟩ := hr
    simp at h3; subst h3
    obtain ⟨⟨ok1, ok2⟩, ok3⟩ := ok
    split at ok2
    · rename_i x hx
      simp at ok2
      refine .cons (by rw [hx]; rw [← ok2.1, ← ok2.2]) (rd_sound h ok1 h1) (okPl_parts h ps qs l ok3 h2)
    · cases ok2
theorem okPS_parts (h : Rel N X w0 μ0 G Cn T M a w) : ∀ (ps : List (Nat × Operand)) (qs : List (Nat × Rd)) (ds : List (Nat × D)), okPS ps qs = true → rdvS T qs = some ds →
    PartsS G (ps.map fun p => (p.1, a.eval p.2)) ds
  | [], [], ds, _, hr => by simp [rdvS] at hr; subst hr; exact .nil
  | [], _ :: _, _, ok, _ => by simp [okPS] at ok
  | _ :: _, [], _, ok, _ => by simp [okPS] at ok
  | p :: ps, q :: qs, ds, ok, hr => by
    simp only [okPS, Bool.and_eq_true] at ok
    simp only [rdvS, Option.bind_eq_some_iff] at hr
    obtain ⟨d, h1, l, h2, h3⟩ := hr
    simp at h3; subst h3
    obtain ⟨⟨ok1, ok2⟩, ok3⟩ := ok
    have e : p.1 = q.1 := Nat.eq_of_beq_eq_true ok2
    rw [List.map_cons, e]
    exact .cons (rd_sound h ok1 h1) (okPS_parts h ps qs l ok3 h2)

theorem vwOk_inv (h : Rel N X w0 μ0 G Cn T M a w) {es : Nat} {x : D} (hv : vwOk M es x = true) : ∀ s off len, x = .view s off len → ∀ b base es' K, G.ρ s = some (b, base, es', K) → es' = es := by
  intro s off len e b base es' K hρ
  subst e
  simp only [vwOk] at hv
  split at hv
  · rename_i es2 l hg
    have : es = es2 := Nat.eq_of_beq_eq_true hv
    subst this
    exact ((h.obs s _ b base es' K hg hρ).1.1).symm
  · cases hv
end Go.YtnpoikgkhhpdgaaDoorE

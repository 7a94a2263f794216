/-
  What the machine's data stand for in the model's memory; which operation stands for which.
-/
import Derived.Test.YtnpoikgkhhpdgaaDoorHmB
import Derived.Test.YtnpoikgkhhpdgaaDoorEvW
import Derived.RangeFuncRecord
import Derived.Below
namespace Go.YtnpoikgkhhpdgaaDoorH
open Go.YtnpoikgkhhpdgaaDoorE (tAgg tSize)
noncomputable section

/-- objects by number: the block, and how many cells it has -/
abbrev Inj := Nat → Option (Nat × Nat)
def Inj.le (ι κ : Inj) : Prop := ∀ id x, ι id = some x → κ id = some x
theorem Inj.le_refl (ι : Inj) : Inj.le ι ι := fun _ _ h => h
theorem Inj.le_trans {a b c : Inj} (h : Inj.le a b) (k : Inj.le b c) : Inj.le a c := fun i x e => k i x (h i x e)

inductive VR (ι : Inj) : V → Value → Prop
  | undef (v : Value) : VR ι .undef v
  | bool (b : Bool) : VR ι (.bool b) (.bool b)
  | int (k : IntKind) (n : Int) : VR ι (.int k n) (.int k n)
  | str (s : ByteArray) : VR ι (.str (s.data.toList.map UInt8.toNat)) (.string s)
  | nilp : VR ι .nilp (.pointer none)
  | nilf : VR ι .nilf .nilFunc
  | nils : VR ι .nils (.slice none 0 0)
  | ptr {id off b sz : Nat} (h : ι id = some (b, sz)) : VR ι (.ptr id off) (.pointer (some ⟨b, off, none⟩))
  | sl {id off es len c b sz : Nat} (h : ι id = some (b, sz)) (hc : len ≤ c) : VR ι (.sl id off es len (some c)) (.slice (some ⟨b, off, none⟩) len c)
  | slu {id off es len cap b sz : Nat} (h : ι id = some (b, sz)) (hc : len ≤ cap) (ht : off + cap * es = sz) : VR ι (.sl id off es len none) (.slice (some ⟨b, off, none⟩) len cap)
  | sle (p : Addr) (cap : Nat) : VR ι .sle (.slice (some p) 0 cap)
  | fn {f : Nat} {caps : List V} {vs : Array Value} (hl : caps.length = vs.size) (hr : ∀ (j : Nat) (c : V) (x : Value), caps[j]? = some c → vs[j]? = some x → VR ι c x) : VR ι (.fn f caps) (.func (.func f) #[] vs)
  | yld {id b sz : Nat} (h : ι id = some (b, sz)) : VR ι (.yld id) (.func (.yield b) #[] #[])
  | agg {cs : List V} {vs : Array Value} (hl : cs.length = vs.size) (hr : ∀ (j : Nat) (c : V) (x : Value), cs[j]? = some c → vs[j]? = some x → VR ι c x) : VR ι (.agg cs) (.agg vs)
  | tup {cs : List V} {vs : Array Value} (hl : cs.length = vs.size) (hr : ∀ (j : Nat) (c : V) (x : Value), cs[j]? = some c → vs[j]? = some x → VR ι c x) : VR ι (.tup cs) (.tuple vs)
  | rng {k : IntKind} {ge : Bool} {n m : Int} (h : if ge then n ≤ m else m < n) : VR ι (.rng k ge n) (.int k m)

/-- what an operation leaves that is not wanted -/
theorem VR.skp (ι : Inj) : VR ι (.tup []) Go.undef := .tup rfl fun j c x hc => by simp at hc
theorem VR.mono {ι κ : Inj} (h : Inj.le ι κ) {d : V} {v : Value} (r : VR ι d v) : VR κ d v := by
  induction r with
  | undef v => exact .undef v
  | bool b => exact .bool b
  | int k n => exact .int k n
  | str s => exact .str s
  | nilp => exact .nilp
  | nilf => exact .nilf
  | nils => exact .nils
  | ptr e => exact .ptr (h _ _ e)
  | sl e hc => exact .sl (h _ _ e) hc
  | slu e hc ht => exact .slu (h _ _ e) hc ht
  | sle p c => exact .sle p c
  | fn hl hr ih => exact .fn hl ih
  | yld e => exact .yld (h _ _ e)
  | agg hl hr ih => exact .agg hl ih
  | tup hl hr ih => exact .tup hl ih
  | rng h => exact .rng h

theorem VR.int_inv {ι : Inj} {k : IntKind} {n : Int} {v : Value} (h : VR ι (.int k n) v) : v = .int k n := by cases h; rfl
theorem VR.bool_inv {ι : Inj} {b : Bool} {v : Value} (h : VR ι (.bool b) v) : v = .bool b := by cases h; rfl
theorem VR.oneCell {ι : Inj} {d : V} {v : Value} (r : VR ι d v) (h : sing d = true) : v.oneCell = true := by
  cases r <;> first | rfl | (simp [sing] at h)

/-- the cells of a value -/
theorem VR.cells {ι : Inj} {d : V} {v : Value} (r : VR ι d v) (hs : solidV d = true) : v.cells.size = (cellsV d).length ∧
    ∀ (j : Nat) (c : V), (cellsV d)[j]? = some c → ∃ x, v.cells[j]? = some x ∧ VR ι c x ∧ sing c = true := by
  have one : cellsV d = [d] → v.cells = #[v] → sing d = true → v.cells.size = (cellsV d).length ∧
    ∀ (j : Nat) (c : V), (cellsV d)[j]? = some c → ∃ x, v.cells[j]? = some x ∧ VR ι c x ∧ sing c = true := by
    intro e1 e2 e3
    rw [e1, e2]
    refine ⟨rfl, fun j c hj => ?_⟩
    cases j with
    | zero => simp at hj; subst hj; exact ⟨v, by simp, r, e3⟩
    | succ j => simp at hj
  cases r with
  | undef => simp [solidV] at hs
  | tup => simp [solidV] at hs
  | @agg cs vs hl hr =>
    refine ⟨hl.symm, fun j c hj => ?_⟩
    have hlt := (List.getElem?_eq_some_iff.1 hj).1
    have hlt' : j < vs.size := by rw [← hl]; exact hlt
    exact ⟨vs[j], by simp [Value.cells, hlt'], hr j c vs[j] hj (by simp [hlt']), singL_get.1 hs j c hj⟩
  | _ => exact one rfl rfl rfl

/-! ### constants and operands -/
mutual
def okV : V → Value → Bool
  | .bool b, v => match v with | .bool c => b == c | _ => false
  | .int k n, v => match v with | .int k' m => keq k k' && ieq n m | _ => false
  | .str l, v => match v with | .string t => beqS (t.data.toList.map UInt8.toNat) l | _ => false
  | .nilp, v => match v with | .pointer none => true | _ => false
  | .nilf, v => match v with | .nilFunc => true | _ => false
  | .nils, v => match v with | .slice none 0 0 => true | _ => false
  | .agg cs, v => match v with | .agg vs => okVL cs vs.toList | _ => false
  | _, _ => false
def okVL : List V → List Value → Bool
  | [], vs => match vs with | [] => true | _ => false
  | d :: r, vs => match vs with | [] => false | v :: vs => okV d v && okVL r vs
end
theorem okVL_get {cs : List V} {vs : List Value} (h : okVL cs vs = true) : cs.length = vs.length ∧ ∀ (j : Nat) (c : V) (x : Value), cs[j]? = some c → vs[j]? = some x → okV c x = true := by
  induction cs generalizing vs with
  | nil => cases vs with
    | nil => simp
    | cons v vs => simp [okVL] at h
  | cons d r ih => cases vs with
    | nil => simp [okVL] at h
    | cons v vs =>
      simp only [okVL, Bool.and_eq_true] at h
      obtain ⟨h1, h2⟩ := ih h.2
      refine ⟨by simp [h1], fun j c x hc hx => ?_⟩
      cases j with
      | zero => simp at hc hx; subst hc; subst hx; exact h.1
      | succ j => exact h2 j c x (by simpa using hc) (by simpa using hx)
theorem okV_rep (ι : Inj) : ∀ (n : Nat) (d : V) (v : Value), SizeOf.sizeOf d < n → okV d v = true → VR ι d v := by
  intro n
  induction n with
  | zero => intro d v h; omega
  | succ n ih =>
    intro d v hn h
    cases d with
    | bool b => cases v <;> simp [okV] at h; subst h; exact .bool _
    | int k m =>
      cases v <;> simp only [okV, Bool.and_eq_true] at h <;> first | (cases h; done) | skip
      obtain ⟨h1, h2⟩ := h
      rw [ieq_eq] at h2
      rw [keq_eq h1, show m = _ by simpa using h2]; exact .int _ _
    | str l =>
      cases v <;> simp only [okV] at h <;> first | (cases h; done) | skip
      rw [beqS_eq] at h; simp at h; subst h; exact .str _
    | nilp =>
      cases v <;> simp [okV] at h
      rename_i x
      cases x with
      | none => exact .nilp
      | some y => simp at h
    | nilf => cases v <;> simp [okV] at h; exact .nilf
    | nils =>
      simp only [okV] at h
      split at h
      · exact .nils
      · cases h
    | agg cs =>
      cases v <;> simp only [okV] at h <;> first | (cases h; done) | skip
      rename_i vs
      obtain ⟨h1, h2⟩ := okVL_get h
      refine .agg (by simpa using h1) fun j c x hc hx => ih c x ?_ (h2 j c x hc (by simpa using hx))
      have := List.sizeOf_lt_of_mem (List.mem_of_getElem? hc)
      simp at hn; omega
    | _ => simp [okV] at h
theorem okV_vr (ι : Inj) {d : V} {v : Value} (h : okV d v = true) : VR ι d v := okV_rep ι _ d v (Nat.lt_succ_self _) h

def okRd (gl : List Nat) : Operand → Rd → Bool
  | .tmp t, .t n => Nat.beq t n && Nat.blt n kD
  | .const v, .k d => okV d v
  | .func f, .k d => match d with | .fn g [] => Nat.beq f g | _ => false
  | .global g, .g id => match lget gl id with | some g' => Nat.beq g g' | none => false
  | _, _ => false
def okRdO (gl : List Nat) : Option Operand → Option Rd → Bool
  | none, none => true
  | some x, some y => okRd gl x y
  | _, _ => false
def okRdL (gl : List Nat) : List Operand → List Rd → Bool
  | [], [] => true
  | x :: r, y :: s => okRd gl x y && okRdL gl r s
  | _, _ => false

/-! ### operations -/
def sliceEl (P : Program) (t : TypeId) : Option TypeId := match P.underlying t with | some (.slice e) => some e | _ => none
def isStr (P : Program) (t : TypeId) : Bool := match P.underlying t with | some .string => true | _ => false
def isBoolT (P : Program) (t : TypeId) : Bool := match P.underlying t with | some .bool => true | _ => false
def isPtr (P : Program) (t : TypeId) : Bool := match P.underlying t with | some (.pointer _) => true | _ => false
def isInt (P : Program) (t : TypeId) (k : IntKind) : Bool := match P.underlying t with | some (.int k') => keq k' k | _ => false
def okSz (P : Program) (t : TypeId) (ag : Bool) (n : Nat) : Bool := match tAgg P t, tSize P t with | some b, some m => (b == ag) && Nat.beq m n && (ag || Nat.beq n 1) | _, _ => false
def okN (P : Program) (t : TypeId) (n : Nat) : Bool := match tSize P t with | some m => Nat.beq m n | _ => false
def okZ (P : Program) (e : TypeId) (z : List V) : Bool := match P.info? e with
  | some i => match i.zero with | some zv => okVL z zv.cells.toList && singL z | none => false
  | none => false
def okEl (P : Program) (e : TypeId) (es : Nat) (z : List V) : Bool := match P.info? e with
  | some i => Nat.beq i.size es && Nat.blt 0 es && (match i.zero with | some zv => okVL z zv.cells.toList && singL z && Nat.beq z.length es | none => false)
  | none => false
def okBy (P : Program) (e : TypeId) (bytes : Nat) : Bool := match P.info? e with | some i => Nat.beq i.bytes bytes && Nat.blt 0 bytes | none => false
def okPl (gl : List Nat) (place : Nat → Option (Nat × Nat)) : List (Nat × Operand) → List (Nat × Nat × Rd) → Bool
  | [], [] => true
  | p :: r, q :: s => okRd gl p.2 q.2.2 && (match place p.1 with | some x => Nat.beq x.1 q.1 && Nat.beq x.2 q.2.1 | none => false) && okPl gl place r s
  | _, _ => false
def okPS (gl : List Nat) : List (Nat × Operand) → List (Nat × Rd) → Bool
  | [], [] => true
  | p :: r, q :: s => okRd gl p.2 q.2 && Nat.beq p.1 q.1 && okPS gl r s
  | _, _ => false
def zeroOk (P : Program) (t : TypeId) (z : List V) : Bool := match P.info? t with
  | some i => match i.zero with | some (.agg vs) => okVL z vs.toList && singL z | _ => false
  | none => false
def okFa (P : Program) (t : TypeId) (f off : Nat) : Bool := match P.underlying t with
  | some (.struct fs) => match fs[f]? with
    | some fd => Nat.beq fd.offset off && (match tSize P fd.type with | some n => Nat.blt 0 n | none => false)
    | none => false
  | _ => false
def okFd (P : Program) (t : TypeId) (f off : Nat) (ag : Bool) (n : Nat) : Bool := match P.underlying t with
  | some (.struct fs) => match fs[f]? with
    | some fd => Nat.beq fd.offset off && okSz P fd.type ag n
    | none => false
  | _ => false

def okK (P : Program) (t : TypeId) : Nat → Bool
  | 0 => isBoolT P t
  | 1 => isPtr P t
  | _ => (sliceEl P t).isSome
def okNat (P : Program) (gl : List Nat) (k g : Nat) : Bool := match k, P.funcs[g]? with
  | 0, some fn => decide (fn.name = "internal/bytealg.IndexByteString") && decide (fn.origin = "") && fn.body.isNone
  | 1, some fn => !(fn.name == "runtime.NumGoroutine") && fn.body.isNone && (Extern.findNext fn).isNone && decide (fn.origin = "slices.overlaps") && (Extern.allGenericRows.lookup fn.name).isNone
      && (Extern.allTypedRows.lookup fn.name).isNone && (Extern.allRows.lookup fn.name).isNone && (match fn.params.toList, fn.resultTypes.toList with
        | [t, t'], [_] => Nat.beq t t' && (match sliceEl P t with | some e => (tSize P e).isSome | none => false)
        | _, _ => false)
  | k + 2, some fn => decide (fn.name = "internal/bytealg.IndexString") && decide (fn.origin = "") && fn.body.isNone && (match lget gl k with | some g' => decide (P.globals.findIdx? (·.name == "internal/bytealg.MaxLen") = some g') | none => false)
  | _, _ => false
def okOp (P : Program) (gl : List Nat) (o : Go.Op) : Op → Bool
  | .mv x => match o with | .move y => okRd gl y x | .assign y => okRd gl y x | _ => false
  | .pick c x y => match o with | .pick c' x' y' => okRd gl c' c && okRd gl x' x && okRd gl y' y | _ => false
  | .build z ps => match o with
    | .build t parts => (match YtnpoikgkhhpdgaaDoorE.placesOf P t with | some pl => okPl gl pl parts.toList ps | none => false) && zeroOk P t z
    | _ => false
  | .bsl es z n ps => match o with
    | .buildSlice t n' parts => Nat.beq n' n && okPS gl parts.toList ps && Nat.ble (n * es) 16777216 && (match sliceEl P t with | some e => okEl P e es z | none => false)
    | _ => false
  | .load ag n x => match o with | .load t y => okRd gl y x && okSz P t ag n | _ => false
  | .store ag n x y => match o with | .store t x' y' => okRd gl x' x && okRd gl y' y && okSz P t ag n | _ => false
  | .nilc x => match o with | .nilCheck y => okRd gl y x | _ => false
  | .bin op x y => match o with
    | .binOp op' _ x' y' _ => decide (op' = op) && okRd gl x' x && okRd gl y' y
    | _ => false
  | .eqb neq k x y => match o with
    | .binOp op' t x' y' _ => decide (op' = if neq then .neq else .eql) && okRd gl x' x && okRd gl y' y && okK P t k
    | _ => false
  | .eqa neq ks x y => match o with
    | .binOp op' t x' y' _ => decide (op' = if neq then .neq else .eql) && okRd gl x' x && okRd gl y' y && (match YtnpoikgkhhpdgaaDoorE.eqTy P 9 t with | some ks' => decide (ks' = ks) | none => false)
        && (match tAgg P t with | some b => b | none => false) && !(P.eqGuardType P.depth t)
    | _ => false
  | .un op x => match o with | .unOp op' _ x' => decide (op' = op) && okRd gl x' x | _ => false
  | .cv k x => match o with | .convert s t x' => isInt P t k && (P.underlying s).isSome && okRd gl x' x | _ => false
  | .fld ag off n x => match o with | .field t x' f => okFd P t f off ag n && okRd gl x' x | _ => false
  | .fadr off x => match o with | .fieldAddr t x' f => okFa P t f off && okRd gl x' x | _ => false
  | .iadr es x i => match o with
    | .indexAddr t x' i' => okRd gl x' x && okRd gl i' i && (match sliceEl P t with | some e => okN P e es | none => false)
    | _ => false
  | .iada len es x i => match o with
    | .indexAddr t x' i' => okRd gl x' x && okRd gl i' i && (match P.underlying t with | some (.array n e) => Nat.beq n len && okN P e es | _ => false)
    | _ => false
  | .ida len es ag x i => match o with
    | .index t x' i' => okRd gl x' x && okRd gl i' i && (match P.underlying t with | some (.array n e) => Nat.beq n len && okSz P e ag es | _ => false)
    | _ => false
  | .ids x i => match o with | .index t x' i' => okRd gl x' x && okRd gl i' i && isStr P t | _ => false
  | .ext x i => match o with | .extract x' i' => okRd gl x' x && Nat.beq i' i | _ => false
  | .len str x => match o with
    | .call c => match c.callee, c.args.toList, c.argTypes.toList with
      | .builtin .len, [x'], [t] => okRd gl x' x && (match str with | true => isStr P t | false => (sliceEl P t).isSome)
      | _, _, _ => false
    | _ => false
  | .cap x => match o with
    | .call c => match c.callee, c.args.toList, c.argTypes.toList with
      | .builtin .cap, [x'], [t] => okRd gl x' x && (sliceEl P t).isSome
      | _, _, _ => false
    | _ => false
  | .sl es x lo hi mx => match o with
    | .slice t x' lo' hi' mx' => okRd gl x' x && okRdO gl lo' lo && okRdO gl hi' hi && okRdO gl mx' mx && (match sliceEl P t with | some e => okN P e es | none => false)
    | _ => false
  | .slp len es x lo hi mx => match o with
    | .slice t x' lo' hi' mx' => okRd gl x' x && okRdO gl lo' lo && okRdO gl hi' hi && okRdO gl mx' mx && (match P.underlying t with
      | some (.pointer ar) => (match P.underlying ar with | some (.array n e) => Nat.beq n len && okN P e es | _ => false)
      | some (.array n e) => Nat.beq n len && okN P e es
      | _ => false)
    | _ => false
  | .sls x lo hi => match o with
    | .slice t x' lo' hi' none => okRd gl x' x && okRdO gl lo' lo && okRdO gl hi' hi && isStr P t
    | _ => false
  | .mm mx x y => match o with
    | .call c => match c.callee, c.args.toList with
      | .builtin b, [x', y'] => okRd gl x' x && okRd gl y' y && (match mx, b with | true, .max => true | false, .min => true | _, _ => false)
      | _, _ => false
    | _ => false
  | .mkfn f caps => match o with
    | .makeFunc (.func g) first cs => Nat.beq g f && first.toList.isEmpty && okRdL gl cs.toList caps
    | _ => false
  | .app es bytes z x y => match o with
    | .call c => match c.callee, c.args.toList, c.argTypes.toList with
      | .builtin .append, [x', y'], [t, t2] => okRd gl x' x && okRd gl y' y && (match sliceEl P t with | some e => okEl P e es z && okBy P e bytes && ((sliceEl P t2).isSome || isStr P t2) | _ => false)
      | _, _, _ => false
    | _ => false
  | .appz es bytes z x y => match o with
    | .call c => match c.callee, c.args.toList, c.argTypes.toList with
      | .builtin .append, [x', y'], [t, t2] => okRd gl x' x && okRd gl y' y && (match sliceEl P t with | some e => okEl P e es z && okBy P e bytes && isInt P t2 .i64 | _ => false)
      | _, _, _ => false
    | _ => false
  | .copy es x y => match o with
    | .call c => match c.callee, c.args.toList, c.argTypes.toList with
      | .builtin .copy, [x', y'], [t, _t2] => okRd gl x' x && okRd gl y' y && (match sliceEl P t with | some e => okN P e es | _ => false)
      | _, _, _ => false
    | _ => false
  | .clr es z x => match o with
    | .call c => match c.callee, c.args.toList, c.argTypes.toList with
      | .builtin .clear, [x'], [t] => okRd gl x' x && (match sliceEl P t with | some e => okEl P e es z | _ => false)
      | _, _, _ => false
    | _ => false
  | .call f args => match o with
    | .call c => match c.callee with
      | .value (.func g) => Nat.beq g f && okRdL gl c.args.toList args
      | _ => false
    | _ => false
  | .callv f args => match o with
    | .call c => match c.callee with
      | .value g => okRd gl g f && okRdL gl c.args.toList args
      | _ => false
    | _ => false
  | .nat k args => match o with
    | .call c => match c.callee with
      | .value (.func g) => okNat P gl k g && okRdL gl c.args.toList args
      | _ => false
    | _ => false
  | .b2s x => match o with
    | .convert s t x' => okRd gl x' x && isStr P t && (match sliceEl P s with | some e => isInt P e .u8 | none => false)
    | _ => false
  | .alloc z => match o with | .alloc t => okZ P t z | _ => false
  | .box ag n x => match o with | .box t y => okRd gl y x && okSz P t ag n | _ => false
  | .mks es bytes z n m => match o with
    | .makeSlice t n' m' => okRd gl n' n && okRd gl m' m && (match sliceEl P t with | some e => okEl P e es z && okBy P e bytes | none => false)
    | _ => false

/-! ### codes -/
def okDst (N : Nat) : Option Tmp → Option Nat → Bool
  | none, none => true
  | some x, some y => Nat.beq x y && Nat.blt y N && Nat.blt y kD
  | _, _ => false
def okGuard (ops : Array Oper) : Option (Nat × Bool) → Option (Nat × Bool) → Bool
  | none, none => true
  | some x, some y => (match (ops[x.1]?).bind (·.dst) with | some t => Nat.beq t y.1 && Nat.blt t kD | none => false) && (x.2 == y.2)
  | _, _ => false
def okIo (P : Program) (gl : List Nat) (N : Nat) (ops : Array Oper) (o : Oper) (io : Io) : Bool := okOp P gl o.op io.op && okDst N o.dst io.dst && okGuard ops o.guard io.guard
def okIos (P : Program) (gl : List Nat) (N : Nat) (ops : Array Oper) : List Oper → List Io → Bool
  | [], [] => true
  | o :: r, io :: s => okIo P gl N ops o io && okIos P gl N ops r s
  | _, _ => false

/-! reads of operations, for regions that draw their order -/
def rdT : Rd → List Nat
  | .t n => [n]
  | _ => []
def rdOT : Option Rd → List Nat
  | none => []
  | some x => rdT x
def rdLT : List Rd → List Nat
  | [] => []
  | x :: r => rdT x ++ rdLT r
def rdAT : List (Nat × Nat × Rd) → List Nat
  | [] => []
  | x :: r => rdT x.2.2 ++ rdAT r
def rdST : List (Nat × Rd) → List Nat
  | [] => []
  | x :: r => rdT x.2 ++ rdST r
def opReads : Op → List Nat
  | .mv x => rdT x
  | .pick c a b => rdT c ++ (rdT a ++ rdT b)
  | .build _ ps => rdAT ps
  | .bsl _ _ _ ps => rdST ps
  | .load _ _ a => rdT a
  | .store _ _ a x => rdT a ++ rdT x
  | .nilc x => rdT x
  | .bin _ x y => rdT x ++ rdT y
  | .eqb _ _ x y => rdT x ++ rdT y
  | .eqa _ _ x y => rdT x ++ rdT y
  | .un _ x => rdT x
  | .cv _ x => rdT x
  | .fld _ _ _ x => rdT x
  | .fadr _ x => rdT x
  | .iadr _ x i => rdT i ++ rdT x
  | .iada _ _ x i => rdT i ++ rdT x
  | .ida _ _ _ x i => rdT i ++ rdT x
  | .ids x i => rdT i ++ rdT x
  | .ext x _ => rdT x
  | .len _ x => rdT x
  | .cap x => rdT x
  | .sl _ x lo hi mx => rdT x ++ (rdOT lo ++ (rdOT hi ++ rdOT mx))
  | .slp _ _ x lo hi mx => rdT x ++ (rdOT lo ++ (rdOT hi ++ rdOT mx))
  | .sls x lo hi => rdT x ++ (rdOT lo ++ rdOT hi)
  | .mm _ x y => rdT x ++ rdT y
  | .mkfn _ caps => rdLT caps
  | .app _ _ _ x y => rdT x ++ rdT y
  | .copy _ x y => rdT x ++ rdT y
  | .appz _ _ _ x y => rdT x ++ rdT y
  | .clr _ _ x => rdT x
  | .call _ args => rdLT args
  | .callv f args => rdT f ++ rdLT args
  | .alloc _ => []
  | .box _ _ x => rdT x
  | .mks _ _ _ x y => rdT x ++ rdT y
  | .b2s x => rdT x
  | .nat _ args => rdLT args

def guardT : Option (Nat × Bool) → List Nat
  | none => []
  | some x => [x.1]
def ioReads (io : Io) : List Nat := guardT io.guard ++ opReads io.op
def dstL : List Io → Nat → List (Nat × Nat)
  | [], _ => []
  | io :: r, i => match io.dst with
    | some t => (t, i) :: dstL r (i + 1)
    | none => dstL r (i + 1)
def keysB : List (Nat × Nat) → Bool
  | [] => true
  | p :: r => (match gt r p.1 with | none => true | some _ => false) && keysB r
open Go.YtnpoikgkhhpdgaaDoorE (waitB beforeB backB)
def readsB (ops : Array Oper) (ds : List (Nat × Nat)) : List Io → Nat → Bool
  | [], _ => true
  | io :: r, i => ((ioReads io).all fun t => match gt ds t with
      | some j => (Nat.blt j i && waitB ops i j) || Nat.beq j i || (Nat.blt i j && beforeB ops 60 j i)
      | none => true) && readsB ops ds r (i + 1)
/-- the writers stand in order; each reader lies where its bounds say -/
def wList : List Io → Nat → List Nat
  | [], _ => []
  | io :: r, i => match isW io.op with | true => i :: wList r (i + 1) | false => wList r (i + 1)
def wOrd (ops : Array Oper) : List Nat → Bool
  | [] => true
  | i :: r => (r.all fun j => beforeB ops 60 j i) && wOrd ops r
def rOrd (ops : Array Oper) (ws : List Nat) : List Io → Nat → Bool
  | [], _ => true
  | io :: r, i => (match isW io.op with
      | true => true
      | false => (match io.lo with | 0 => true | k + 1 => match lget ws k with | some j => beforeB ops 60 i j | none => false) && (match lget ws io.hi with | some j => beforeB ops 60 j i | none => Nat.ble ws.length io.hi)) && rOrd ops ws r (i + 1)
def drawB (P : Program) (gl : List Nat) (N : Nat) (ops : Array Oper) (ios : List Io) : Bool :=
  okIos P gl N ops ops.toList ios && backB ops ops.toList 0 && keysB (dstL ios 0) && readsB ops (dstL ios 0) ios 0 && wOrd ops (wList ios 0) && rOrd ops (wList ios 0) ios 0

def inL : List Nat → Nat → Bool
  | [], _ => false
  | x :: r, n => Nat.beq x n || inL r n
/-- 'pl': no range over a function stands there -/
def mC (P : Program) (gl : List Nat) (N : Nat) (pl : Bool) : C → Code → Bool
  | .bad, _ => true
  | .skip, c => match c with | .skip => true | .label _ => true | _ => false
  | .ret, c => match c with | .ret => true | _ => false
  | .exit i, c => match c with | .exit j => Nat.beq i j && Nat.blt i kJ | _ => false
  | .gto l, c => match c with | .goto l' => Nat.beq l l' | _ => false
  | .scope l rest x, c => match c with | .scope a => mC P gl N pl x a && (match findLabel a l with | some r => mC P gl N pl rest r | none => false) | _ => false
  | .seq x y, c => match c with | .seq a b => mC P gl N pl x a && mC P gl N pl y b | _ => false
  | .cond z x y, c => match c with | .cond v a b => okRd gl v z && mC P gl N pl x a && mC P gl N pl y b | _ => false
  | .block i x, c => match c with | .block j a => (Nat.beq i j && Nat.blt i kJ) && mC P gl N pl x a | _ => false
  | .keep ks x, c => (pl || (inL ks kD && inL ks kR)) && mC P gl N pl x c
  | .loop x, c => match c with | .loop a => mC P gl N pl x a | _ => false
  | .reg ios, c => match c with | .region _ ops false => okIos P gl N ops ops.toList ios | _ => false
  | .drw ios, c => match c with | .region _ ops true => drawB P gl N ops ios | _ => false
  | .rf x ps asg body, c => match c with
    | .rangeFunc f params a b => !pl && okRd gl f x && decide (params.toList = ps) && (ps.all fun p => Nat.blt p N && Nat.blt p kD) && mC P gl N false asg a && mC P gl N false body b
    | _ => false
end
end Go.YtnpoikgkhhpdgaaDoorH

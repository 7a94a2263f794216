/-
  A heap machine: data with objects by number, codes and their runs: definitions alone. For runs of closed calls in the kernel: by recursors, in small pieces.
-/
import Derived.Test.YtnpoikgkhhpdgaaDoorEvA
set_option linter.unusedVariables false
namespace Go.YtnpoikgkhhpdgaaDoorH
open Go.YtnpoikgkhhpdgaaDoorE (D arith unD)
noncomputable section

inductive V where
  | undef
  | bool (b : Bool)
  | int (k : IntKind) (n : Int)
  | str (s : List Nat)
  | nilp
  | nilf
  | nils
  | ptr (id off : Nat)
  | sl (id off es len : Nat) (cap : Option Nat)
  /-- an empty slice, not nil, of which no more is known -/
  | sle
  | fn (f : Nat) (caps : List V)
  | yld (id : Nat)
  | agg (cs : List V)
  | tup (vs : List V)
  /-- a whole number of which no more is known than that it is 'n' or more, or below it -/
  | rng (k : IntKind) (ge : Bool) (n : Int)

inductive Rd where
  | t (n : Nat)
  | k (v : V)
  | g (id : Nat)

inductive Op where
  | mv (x : Rd)
  | pick (c a b : Rd)
  | build (z : List V) (parts : List (Nat × Nat × Rd))
  | bsl (es : Nat) (z : List V) (len : Nat) (parts : List (Nat × Rd))
  | load (ag : Bool) (n : Nat) (a : Rd)
  | store (ag : Bool) (n : Nat) (a x : Rd)
  | nilc (x : Rd)
  | bin (op : BinOp) (x y : Rd)
  | eqb (neq : Bool) (k : Nat) (x y : Rd)
  | eqa (neq : Bool) (ks : List Nat) (x y : Rd)
  | un (op : UnOp) (x : Rd)
  | cv (k : IntKind) (x : Rd)
  | fld (ag : Bool) (off n : Nat) (x : Rd)
  | fadr (off : Nat) (a : Rd)
  | iadr (es : Nat) (x i : Rd)
  | iada (len es : Nat) (a i : Rd)
  | ida (len es : Nat) (ag : Bool) (x i : Rd)
  | ids (x i : Rd)
  | ext (x : Rd) (i : Nat)
  | len (str : Bool) (x : Rd)
  | cap (x : Rd)
  | sl (es : Nat) (x : Rd) (lo hi mx : Option Rd)
  | slp (len es : Nat) (x : Rd) (lo hi mx : Option Rd)
  | sls (x : Rd) (lo hi : Option Rd)
  | mm (mx : Bool) (x y : Rd)
  | mkfn (f : Nat) (caps : List Rd)
  | app (es bytes : Nat) (z : List V) (a b : Rd)
  | copy (es : Nat) (a b : Rd)
  | clr (es : Nat) (z : List V) (a : Rd)
  | call (f : Nat) (args : List Rd)
  | callv (f : Rd) (args : List Rd)
  | alloc (z : List V)
  | box (ag : Bool) (n : Nat) (x : Rd)
  | mks (es bytes : Nat) (z : List V) (n m : Rd)
  | b2s (x : Rd)
  | nat (k : Nat) (args : List Rd)
  /-- zeros are appended, where there is no room -/
  | appz (es bytes : Nat) (z : List V) (a n : Rd)

/-- 'lo', 'hi': in a region that draws its order, how many of the writers stand ahead of a reader, at least and at most -/
structure Io where
  dst : Option Nat
  guard : Option (Nat × Bool)
  lo : Nat
  hi : Nat
  op : Op

inductive C where
  | skip
  /-- what is never reached -/
  | bad
  | ret
  | exit (id : Nat)
  | seq (a b : C)
  | cond (x : Rd) (a b : C)
  | block (id : Nat) (a : C)
  | keep (ks : List Nat) (c : C)
  | loop (a : C)
  | reg (ops : List Io)
  | drw (ops : List Io)
  | rf (x : Rd) (ps : List Nat) (asg body : C)
  | gto (l : Nat)
  /-- 'rest': what stands behind the label -/
  | scope (l : Nat) (rest a : C)

inductive Ex where
  | normal
  | ret
  | exit (id : Nat)

inductive LS where
  | ready
  | busy
  | done
  | exhausted

/-! ### by recursors -/
def ob {α β : Type} (x : Option α) (f : α → Option β) : Option β := Option.rec (motive := fun _ => Option β) none f x
def ite1 {α : Type} (b : Bool) (x y : α) : α := Bool.rec (motive := fun _ => α) y x b
def lget {α : Type} (l : List α) : Nat → Option α :=
  List.rec (motive := fun _ => Nat → Option α) (fun _ => none) (fun x _ ih n => Nat.rec (motive := fun _ => Option α) (some x) (fun m _ => ih m) n) l
def llen {α : Type} (l : List α) : Nat := List.rec (motive := fun _ => Nat) 0 (fun _ _ ih => Nat.succ ih) l
def ldrop {α : Type} : Nat → List α → List α :=
  Nat.rec (motive := fun _ => List α → List α) (fun l => l) (fun _ ih l => List.rec (motive := fun _ => List α) [] (fun _ r _ => ih r) l)
def ltake {α : Type} : Nat → List α → List α :=
  Nat.rec (motive := fun _ => List α → List α) (fun _ => []) (fun _ ih l => List.rec (motive := fun _ => List α) [] (fun x r _ => x :: ih r) l)
def lapp {α : Type} (l m : List α) : List α := List.rec (motive := fun _ => List α) m (fun x _ ih => x :: ih) l

/-! ### tries -/
inductive Tr (α : Type) where
  | nil
  | node (l : Tr α) (v : Option α) (r : Tr α)
def Tr.get {α : Type} (t : Tr α) : Nat → Option α :=
  Tr.rec (motive := fun _ => Nat → Option α) (fun _ => none) (fun _ v _ il ir n => Nat.rec (motive := fun _ => Option α) v (fun m _ => ite1 (Nat.beq (m % 2) 0) (il (m / 2)) (ir (m / 2))) n) t
def Tr.put {α : Type} : Nat → Tr α → Nat → Option α → Tr α :=
  Nat.rec (motive := fun _ => Tr α → Nat → Option α → Tr α) (fun t _ _ => t)
    (fun _ ih t n x => Tr.rec (motive := fun _ => Tr α)
      (Nat.rec (motive := fun _ => Tr α) (.node .nil x .nil) (fun m _ => ite1 (Nat.beq (m % 2) 0) (.node (ih .nil (m / 2) x) none .nil) (.node .nil none (ih .nil (m / 2) x))) n)
      (fun l v r _ _ => Nat.rec (motive := fun _ => Tr α) (.node l x r) (fun m _ => ite1 (Nat.beq (m % 2) 0) (.node (ih l (m / 2) x) v r) (.node l v (ih r (m / 2) x))) n) t)
def Tr.set {α : Type} (t : Tr α) (n : Nat) (x : α) : Tr α := Tr.put (n + 1) t n (some x)
def Tr.del {α : Type} (t : Tr α) (n : Nat) : Tr α := Tr.put (n + 1) t n none

/-! ### small maps: the newest entry counts -/
def gt {α : Type} (T : List (Nat × α)) (n : Nat) : Option α :=
  List.rec (motive := fun _ => Option α) none (fun p _ ih => Prod.rec (motive := fun _ => Option α) (fun k v => ite1 (Nat.beq k n) (some v) ih) p) T
abbrev Tm := List (Nat × V)
def pickT (T : Tm) (ks : List Nat) : Tm :=
  List.rec (motive := fun _ => Tm) [] (fun k _ ih => Option.rec (motive := fun _ => Tm) ih (fun v => (k, v) :: ih) (gt T k)) ks

inductive Ob where
  | cells (own : Bool) (n : Nat) (cs : Tr V)
  | loop (ps : List Nat) (asg body : C) (T : Tm) (s : LS) (pend : Option Ex)
  | dfr (b : Bool)
structure Heap where
  next : Nat
  t : Tr Ob

/-! ### cells -/
def cgets (cs : Tr V) (off n : Nat) : Option (List V) :=
  Nat.rec (motive := fun _ => Nat → Option (List V)) (fun _ => some []) (fun _ ih off => ob (cs.get off) fun v => ob (ih (off + 1)) fun l => some (v :: l)) n off
def cputs (cs : Tr V) (off : Nat) (l : List V) : Tr V :=
  List.rec (motive := fun _ => Nat → Tr V → Tr V) (fun _ cs => cs) (fun v _ ih off cs => ih (off + 1) (cs.set off v)) l off cs
/-- a value of one cell -/
def sing : V → Bool
  | .undef => false
  | .agg _ => false
  | .tup _ => false
  | _ => true
def singL (l : List V) : Bool := List.rec (motive := fun _ => Bool) true (fun d _ ih => ite1 (sing d) ih false) l
def Heap.get (H : Heap) (id : Nat) : Option Ob := H.t.get id
def Heap.set (H : Heap) (id : Nat) (o : Ob) : Heap := ⟨H.next, H.t.set id o⟩
def Heap.del (H : Heap) (id : Nat) : Heap := ⟨H.next, H.t.del id⟩
def Heap.push (H : Heap) (o : Ob) : Heap := ⟨H.next + 1, H.t.set H.next o⟩
def mkCells (l : List V) : Ob := .cells true (llen l) (cputs .nil 0 l)
/-- an object's cells, whose they are, and how many -/
def Heap.cells (H : Heap) (id : Nat) {β : Type} (f : Bool → Nat → Tr V → Option β) : Option β :=
  Option.rec (motive := fun _ => Option β) none (fun o => Ob.rec (motive := fun _ => Option β) f (fun _ _ _ _ _ _ => none) (fun _ => none) o) (H.get id)

/-! ### equality -/
def ieq : Int → Int → Bool
  | .ofNat a, .ofNat b => Nat.beq a b
  | .negSucc a, .negSucc b => Nat.beq a b
  | _, _ => false
def ilt : Int → Int → Bool
  | .ofNat a, .ofNat b => Nat.blt a b
  | .ofNat _, .negSucc _ => false
  | .negSucc _, .ofNat _ => true
  | .negSucc a, .negSucc b => Nat.blt b a
def ile (a b : Int) : Bool := !(ilt b a)
def kno : IntKind → Nat
  | .i8 => 0 | .i16 => 1 | .i32 => 2 | .i64 => 3 | .u8 => 4 | .u16 => 5 | .u32 => 6 | .u64 => 7
def keq (k l : IntKind) : Bool := Nat.beq (kno k) (kno l)
def beqS : List Nat → List Nat → Bool
  | [], [] => true
  | a :: r, b :: s => match Nat.beq a b with | true => beqS r s | false => false
  | _, _ => false
def beqO : Option Nat → Option Nat → Bool
  | none, none => true
  | some a, some b => Nat.beq a b
  | _, _ => false
mutual
def beqV : V → V → Bool
  | .undef, .undef => true
  | .bool a, .bool b => a == b
  | .int k a, .int l b => keq k l && ieq a b
  | .str a, .str b => beqS a b
  | .nilp, .nilp => true
  | .nilf, .nilf => true
  | .nils, .nils => true
  | .sle, .sle => true
  | .ptr a b, .ptr c d => Nat.beq a c && Nat.beq b d
  | .sl a b c d e, .sl a' b' c' d' e' => Nat.beq a a' && Nat.beq b b' && Nat.beq c c' && Nat.beq d d' && beqO e e'
  | .fn f a, .fn g b => Nat.beq f g && beqVL a b
  | .yld a, .yld b => Nat.beq a b
  | .agg a, .agg b => beqVL a b
  | .tup a, .tup b => beqVL a b
  | _, _ => false
def beqVL : List V → List V → Bool
  | [], [] => true
  | a :: r, b :: s => match beqV a b with | true => beqVL r s | false => false
  | _, _ => false
end

/-! ### one operation -/
def rdv (T : Tm) (x : Rd) : Option V := Rd.rec (motive := fun _ => Option V) (fun n => gt T n) (fun v => some v) (fun id => some (.ptr id 0)) x
def rdvL (T : Tm) (l : List Rd) : Option (List V) := List.rec (motive := fun _ => Option (List V)) (some []) (fun x _ ih => ob (rdv T x) fun d => ob ih fun l => some (d :: l)) l
def rdvO (T : Tm) (x : Option Rd) : Option (Option V) := Option.rec (motive := fun _ => Option (Option V)) (some none) (fun x => ob (rdv T x) fun d => some (some d)) x
def rdvA (T : Tm) : List (Nat × Nat × Rd) → Option (List (Nat × Nat × V))
  | [] => some []
  | p :: r => ob (rdv T p.2.2) fun d => ob (rdvA T r) fun l => some ((p.1, p.2.1, d) :: l)
def rdvS (T : Tm) : List (Nat × Rd) → Option (List (Nat × V))
  | [] => some []
  | p :: r => ob (rdv T p.2) fun d => ob (rdvS T r) fun l => some ((p.1, d) :: l)

def cellsV : V → List V
  | .agg cs => cs
  | v => [v]
def solidV : V → Bool
  | .undef => false
  | .tup _ => false
  | .agg cs => singL cs
  | _ => true
def fit3 (a b c : Bool) {α : Type} (x : Option α) : Option α := ite1 a (ite1 b (ite1 c x none) none) none
def bldV : List (Nat × Nat × V) → List V → Option (List V)
  | [], z => some z
  | p :: r, z => fit3 (Nat.ble (p.1 + p.2.1) (llen z)) (Nat.beq (llen (cellsV p.2.2)) p.2.1) (solidV p.2.2) (bldV r (lapp (ltake p.1 z) (lapp (cellsV p.2.2) (ldrop (p.1 + p.2.1) z))))
/-- elements: 'es' cells each -/
def bldE (es : Nat) : List (Nat × V) → List V → Option (List V)
  | [], z => some z
  | p :: r, z => fit3 (Nat.ble (p.1 * es + es) (llen z)) (Nat.beq (llen (cellsV p.2)) es) (solidV p.2) (bldE es r (lapp (ltake (p.1 * es) z) (lapp (cellsV p.2) (ldrop (p.1 * es + es) z))))
def rep (z : List V) (n : Nat) : List V := Nat.rec (motive := fun _ => List V) [] (fun _ ih => lapp z ih) n

def ofD : D → Option V
  | .bool b => some (.bool b)
  | .int k n => some (.int k n)
  | _ => none
def kmin : IntKind → Int
  | .i8 => -128 | .i16 => -32768 | .i32 => -2147483648 | .i64 => -9223372036854775808
  | _ => 0
def kmax : IntKind → Int
  | .i8 => 127 | .i16 => 32767 | .i32 => 2147483647 | .i64 => 9223372036854775807
  | .u8 => 255 | .u16 => 65535 | .u32 => 4294967295 | .u64 => 18446744073709551615
def wrapF (k : IntKind) (n : Int) : Int := ite1 (ile (kmin k) n && ile n (kmax k)) n (k.wrap n)
def slowA (op : BinOp) (k : IntKind) (x y : Int) : Option V := ob (arith op k x y) ofD
def onInts (f : IntKind → Int → Int → Option V) : V → V → Option V
  | .int k a, .int k' b => ite1 (keq k k') (f k a b) none
  | _, _ => none
def iAdd (k : IntKind) (x y : Int) : Option V := some (.int k (wrapF k (x + y)))
def iSub (k : IntKind) (x y : Int) : Option V := some (.int k (wrapF k (x - y)))
def iMul (k : IntKind) (x y : Int) : Option V := some (.int k (wrapF k (x * y)))
def iLss (_ : IntKind) (x y : Int) : Option V := some (.bool (ilt x y))
def iLeq (_ : IntKind) (x y : Int) : Option V := some (.bool (ile x y))
def iGtr (_ : IntKind) (x y : Int) : Option V := some (.bool (ilt y x))
def iGeq (_ : IntKind) (x y : Int) : Option V := some (.bool (ile y x))
def iEql (_ : IntKind) (x y : Int) : Option V := some (.bool (ieq x y))
def iNeq (_ : IntKind) (x y : Int) : Option V := some (.bool (!ieq x y))
def arithV (op : BinOp) : IntKind → Int → Int → Option V :=
  match op with
  | .add => iAdd
  | .sub => iSub
  | .mul => iMul
  | .eql => iEql
  | .neq => iNeq
  | .lss => iLss
  | .leq => iLeq
  | .gtr => iGtr
  | .geq => iGeq
  | op => slowA op
def bltS : List Nat → List Nat → Bool
  | [], [] => false
  | [], _ :: _ => true
  | _ :: _, [] => false
  | a :: r, b :: s => match Nat.blt a b with | true => true | false => match Nat.beq a b with | true => bltS r s | false => false
def strV (op : BinOp) (a b : List Nat) : Option V :=
  match op with
  | .eql => some (.bool (beqS a b))
  | .neq => some (.bool (!(beqS a b)))
  | .lss => some (.bool (bltS a b))
  | .gtr => some (.bool (bltS b a))
  | .leq => some (.bool (!(bltS b a)))
  | .geq => some (.bool (!(bltS a b)))
  | .add => ite1 (Nat.ble (llen a + llen b) 1000000) (some (.str (lapp a b))) none
  | _ => none
def shV (left : Bool) : V → V → Option V
  | .int k a, .int _ b => ite1 (ilt b 0) none (some (.int k (ite1 left (wrapF k (a * 2 ^ (min b.toNat k.bits))) (a.fdiv (2 ^ (min b.toNat k.bits))))))
  | _, _ => none
def leqR (ge : Bool) (a n : Int) : Option Bool := ite1 ge (ite1 (ile a n) (some true) none) (ite1 (ile n a) (some false) none)
def rngV (op : BinOp) (ge : Bool) (a n : Int) : Option V := match op with
  | .leq => ob (leqR ge a n) fun b => some (.bool b)
  | .gtr => ob (leqR ge a n) fun b => some (.bool (!b))
  | _ => none
def intStr (op : BinOp) : V → V → Option V
  | .int k a, .int k' b => ite1 (keq k k') (arithV op k a b) none
  | .str a, .str b => strV op a b
  | .int k a, .rng k' ge n => ite1 (keq k k') (rngV op ge a n) none
  | _, _ => none
def binV (op : BinOp) : V → V → Option V :=
  match op with
  | .shl => shV true
  | .shr => shV false
  | op => intStr op

/-- '==': 0: bools, 1: pointers, 2: slices and nil -/
def eqbV (k : Nat) (a b : V) : Option Bool :=
  match k with
  | 0 => match a, b with
    | .bool x, .bool y => some (x == y)
    | _, _ => none
  | 1 => match a, b with
    | .nilp, .nilp => some true
    | .ptr _ _, .nilp => some false
    | .nilp, .ptr _ _ => some false
    | _, _ => none
  | 2 => match a, b with
    | .nils, .nils => some true
    | .sl _ _ _ _ _, .nils => some false
    | .sle, .nils => some false
    | _, _ => none
  | _ => none

/-- '==' of two plain cells: 0: bool, 1: int, 2: string -/
def eq1 : Nat → V → V → Option Bool
  | 1, .int k a, .int k' b => ite1 (keq k k') (some (ieq a b)) none
  | 0, .bool a, .bool b => some (a == b)
  | 2, .str a, .str b => some (beqS a b)
  | _, _, _ => none
def eqL : List Nat → List V → List V → Option Bool
  | [], [], [] => some true
  | k :: ks, c :: x, d :: y => ob (eq1 k c d) fun b => ob (eqL ks x y) fun r => some (b && r)
  | _, _, _ => none
def eqaV (neq : Bool) (ks : List Nat) : V → V → Option V
  | .agg cs, .agg ds => ob (eqL ks cs ds) fun r => some (.bool (ite1 neq (!r) r))
  | _, _ => none

def unV (op : UnOp) : V → Option V
  | .int k n => ob (unD op (.int k n)) ofD
  | .bool b => match op with | .not => some (.bool (!b)) | _ => none
  | _ => none
def cvV (k : IntKind) : V → Option V
  | .int _ n => some (.int k (wrapF k n))
  | _ => none

/-- an index: from 0 to below 'n' -/
def idx (n : Nat) : V → Option Nat
  | .int _ (.ofNat i) => ite1 (Nat.blt i n) (some i) none
  | _ => none
/-- a bound of a slice expression: from 'a' to 'b' -/
def bnd (a b : Nat) : V → Option Nat
  | .int _ (.ofNat i) => ite1 (Nat.ble a i && Nat.ble i b) (some i) none
  | _ => none
def bndO (a b dflt : Nat) : Option V → Option Nat
  | none => some dflt
  | some v => bnd a b v

def loadH (H : Heap) (ag : Bool) (n : Nat) : V → Option V
  | .ptr id off => H.cells id fun _ _ cs => ite1 ag (ob (cgets cs off n) fun l => some (.agg l)) (cs.get off)
  | _ => none
def storeA (H : Heap) (n id off m : Nat) (cs : Tr V) : V → Option Heap
  | .agg l => fit3 (Nat.beq (llen l) n) (singL l) (Nat.ble (off + n) m) (some (H.set id (.cells true m (cputs cs off l))))
  | _ => none
def storeH (H : Heap) (ag : Bool) (n : Nat) (x : V) : V → Option Heap
  | .ptr id off => H.cells id fun own m cs => ite1 own (ite1 ag (storeA H n id off m cs x) (fit3 (sing x) (Nat.blt off m) true (some (H.set id (.cells true m (cs.set off x)))))) none
  | _ => none
def bytesV (s : List Nat) : List V := List.rec (motive := fun _ => List V) [] (fun b _ ih => .int .u8 (.ofNat b) :: ih) s
/-- the cells of a slice's elements; of a string's bytes -/
def slCells (H : Heap) (es : Nat) : V → Option (Nat × List V)
  | .str s => ite1 (Nat.beq es 1) (some (llen s, bytesV s)) none
  | .nils => some (0, [])
  | .sle => some (0, [])
  | .sl id off es' len _ => ite1 (Nat.beq es es') (H.cells id fun _ _ cs => ob (cgets cs off (len * es)) fun l => some (len, l)) none
  | _ => none

def partV (ag : Bool) (n off : Nat) (cs : List V) : Option V :=
  ite1 ag (ite1 (Nat.ble (off + n) (llen cs)) (some (.agg (ltake n (ldrop off cs)))) none) (lget cs off)
def fldV (ag : Bool) (n off : Nat) : V → Option V
  | .agg cs => partV ag n off cs
  | _ => none

def hiOf (dflt m : Nat) (hi mx : Option V) : Option Nat :=
  match hi with
  | some b => bnd 0 m b
  | none => match mx with
    | none => some dflt
    | some _ => none
def slEx (id off es len c : Nat) (lo hi mx : Option V) : Option V :=
  ob (bndO 0 c c mx) fun m => ob (hiOf len m hi mx) fun j => ob (bndO 0 j 0 lo) fun i =>
    some (.sl id (ite1 (Nat.beq m i) off (off + i * es)) es (j - i) (some (m - i)))
def slUn (id off es len kc : Nat) (lo hi mx : Option V) : Option V :=
  ob (hiOf len kc hi mx) fun j => ob (bndO 0 j 0 lo) fun i => match mx with
    | none => ite1 (Nat.blt i kc) (some (.sl id (off + i * es) es (j - i) none)) (some .sle)
    | some m => ob (bnd j kc m) fun m => ite1 (Nat.blt i m) (some (.sl id (off + i * es) es (j - i) (some (m - i)))) (some .sle)
def slNil (v : V) (lo hi mx : Option V) : Option V :=
  ob (bndO 0 0 0 hi) fun j => ob (bndO 0 j 0 lo) fun _ => match mx with
    | none => some v
    | some _ => none
/-- how many elements there is room for, at least, where no more is known of the capacity -/
def roomOf (H : Heap) (es : Nat) : V → Nat
  | .sl id off _ len none => Option.rec (motive := fun _ => Nat) len (fun k => ite1 (Nat.ble len k) k len) (H.cells id fun own n _ => ite1 own (some ((n - off) / es)) none)
  | _ => 0
def slV (es kc : Nat) (lo hi mx : Option V) : V → Option V
  | .nils => slNil .nils lo hi mx
  | .sle => slNil .sle lo hi mx
  | .sl id off es' len cap => ite1 (Nat.beq es es') (match cap with
    | some c => slEx id off es len c lo hi mx
    | none => slUn id off es len kc lo hi mx) none
  | _ => none
def slpV (len es : Nat) (lo hi mx : Option V) : V → Option V
  | .ptr id off => slEx id off es len len lo hi mx
  | _ => none
def slsV (lo hi : Option V) : V → Option V
  | .str x => ob (bndO 0 (llen x) (llen x) hi) fun j => ob (bndO 0 j 0 lo) fun i => some (.str (ltake (j - i) (ldrop i x)))
  | _ => none
def byteOf : V → Option Nat
  | .int .u8 (.ofNat n) => ite1 (Nat.blt n 256) (some n) none
  | _ => none
def bytesOf (l : List V) : Option (List Nat) := List.rec (motive := fun _ => Option (List Nat)) (some []) (fun v _ ih => ob (byteOf v) fun b => ob ih fun l => some (b :: l)) l
def b2sV (H : Heap) : V → Option V
  | .nils => some (.str [])
  | .sle => some (.str [])
  | .sl id off es len _ => ite1 (Nat.beq es 1) (H.cells id fun _ _ cs => ob (cgets cs off len) fun l => ob (bytesOf l) fun s => some (.str s)) none
  | _ => none
/-- functions without a body: 0: where a byte stands in a string -/
def idxB (c : Nat) (s : List Nat) : Nat → Option Nat := List.rec (motive := fun _ => Nat → Option Nat) (fun _ => none) (fun b _ ih i => ite1 (Nat.beq b c) (some i) (ih (i + 1))) s
def idxV (x : Option Nat) : V := Option.rec (motive := fun _ => V) (.int .i64 (-1)) (fun i => .int .i64 (.ofNat i)) x
/-- 1: do two slices share memory -/
def ovlV (H : Heap) : List V → Option V
  | [.sl a _ _ _ _, .sl b _ _ _ _] => ite1 (Nat.beq a b) none (H.cells a fun own _ _ => H.cells b fun own' n' _ => fit3 own own' (Nat.blt 0 n') (some (.bool false)))
  | _ => none
/-- 2 and more: where a string stands in another; the object that has the number of bytes that it may have at most -/
def pre1 (s l : List Nat) : Bool := List.rec (motive := fun _ => List Nat → Bool) (fun _ => true) (fun b _ ih l => List.rec (motive := fun _ => Bool) false (fun c r _ => ite1 (Nat.beq b c) (ih r) false) l) s l
def idxS (b s : List Nat) : Nat → Option Nat := List.rec (motive := fun _ => Nat → Option Nat) (fun _ => none) (fun c r ih i => ite1 (pre1 b (c :: r)) (some i) (ih (i + 1))) s
def mostC (n : Nat) : V → Option Bool
  | .rng .i64 true m => some (ile (.ofNat n) m)
  | .int .i64 m => some (ile (.ofNat n) m)
  | _ => none
def mostV (H : Heap) (id : Nat) (n : Nat) : Bool := Option.rec (motive := fun _ => Bool) false (fun b => b) (H.cells id fun _ _ cs => ob (cs.get 0) (mostC n))
def natV (H : Heap) (k : Nat) (args : List V) : Option V := match k, args with
  | 0, [.str s, .int .u8 (.ofNat c)] => ite1 (Nat.blt c 256) (some (idxV (idxB c s 0))) none
  | 1, args => ovlV H args
  | k + 2, [.str s, .str b] => fit3 (Nat.ble 2 (llen b)) (mostV H k (llen b)) (Nat.blt (llen s) 4294967281) (some (idxV (idxS b s 0)))
  | _, _ => none
def nilcV : V → Option V
  | .ptr s o => some (.ptr s o)
  | .fn f caps => some (.fn f caps)
  | .yld l => some (.yld l)
  | _ => none
def fadrV (off : Nat) : V → Option V
  | .ptr s o => some (.ptr s (o + off))
  | _ => none
def iadrV (es : Nat) (i : V) : V → Option V
  | .sl id off es' len _ => ite1 (Nat.beq es es') (ob (idx len i) fun j => some (.ptr id (off + j * es))) none
  | _ => none
def iadaV (len es : Nat) (i : V) : V → Option V
  | .ptr s o => ob (idx len i) fun j => some (.ptr s (o + j * es))
  | _ => none
def idaV (len es : Nat) (ag : Bool) (i : V) : V → Option V
  | .agg cs => ob (idx len i) fun j => partV ag es (j * es) cs
  | _ => none
def idsV (i : V) : V → Option V
  | .str s => ob (idx (llen s) i) fun j => ob (lget s j) fun b => some (.int .u8 (.ofNat b))
  | _ => none
def extV (i : Nat) : V → Option V
  | .tup vs => lget vs i
  | _ => none
def lenV (str : Bool) : V → Option V
  | .nils => ite1 str none (some (.int .i64 (.ofNat 0)))
  | .sle => ite1 str none (some (.int .i64 (.ofNat 0)))
  | .sl _ _ _ n _ => ite1 str none (some (.int .i64 (.ofNat n)))
  | .str s => ite1 str (some (.int .i64 (.ofNat (llen s)))) none
  | _ => none
def capV : V → Option V
  | .nils => some (.int .i64 (.ofNat 0))
  | .sl _ _ _ _ (some c) => some (.int .i64 (.ofNat c))
  | _ => none
def mmV (mx : Bool) : V → V → Option V
  | .int k a, .int k' b => ite1 (keq k k') (some (.int k (ite1 mx (ite1 (ilt a b) b a) (ite1 (ilt b a) b a)))) none
  | _, _ => none
def pickV (a b : Option V) : V → Option V
  | .bool c => ite1 c a b
  | _ => none

/-- what an operation comes to: nothing; a value; a value and another heap -/
inductive Rs where
  | no
  | va (v : V)
  | ef (v : V) (H : Heap)
def toVa (x : Option V) : Rs := Option.rec (motive := fun _ => Rs) .no .va x
def toEf (x : Option (V × Heap)) : Rs := Option.rec (motive := fun _ => Rs) .no (fun p => .ef p.1 p.2) x
def rd1 (T : Tm) (x : Rd) (f : V → Option V) : Option V := ob (rdv T x) f
def rd2 (T : Tm) (x y : Rd) (f : V → V → Option V) : Option V := ob (rdv T x) fun a => ob (rdv T y) fun b => f a b

/-! what makes a new object of cells: its cells, and its value, but for its number -/
def boxC (ag : Bool) (n : Nat) : V → Option (List V × V)
  | .agg cs => fit3 ag (Nat.beq (llen cs) n) (singL cs) (some (cs, .ptr 0 0))
  | d => fit3 (!ag) (Nat.beq 1 n) (sing d) (some ([d], .ptr 0 0))
def mksC (es bytes : Nat) (z : List V) : V → V → Option (List V × V)
  | .int _ (.ofNat i), .int _ (.ofNat j) => fit3 (Nat.beq i j) (Nat.ble (i * bytes) 281474976710656) (Nat.ble i 100000) (some (rep z i, .sl 0 0 es i (some i)))
  | _, _ => none
def fop (T : Tm) : Op → Option (List V × V)
  | .alloc z => some (z, .ptr 0 0)
  | .box ag n x => ob (rdv T x) fun d => boxC ag n d
  | .bsl es z n ps => ob (rdvS T ps) fun ps => ob (bldE es ps (rep z n)) fun l => some (l, .sl 0 0 es n (some n))
  | .mks es bytes z n m => ob (rdv T n) fun n => ob (rdv T m) fun m => mksC es bytes z n m
  | _ => none
def atId (id : Nat) : V → V
  | .ptr _ o => .ptr id o
  | .sl _ o es n c => .sl id o es n c
  | v => v
def isF : Op → Bool
  | .alloc _ => true
  | .box _ _ _ => true
  | .bsl _ _ _ _ => true
  | .mks _ _ _ _ _ => true
  | _ => false
def isW : Op → Bool
  | .store _ _ _ _ => true
  | .app _ _ _ _ _ => true
  | .copy _ _ _ => true
  | .clr _ _ _ => true
  | .call _ _ => true
  | .callv _ _ => true
  | .appz _ _ _ _ _ => true
  | _ => false
def doF (T : Tm) (H : Heap) (op : Op) : Rs := Option.rec (motive := fun _ => Rs) .no (fun q => .ef (atId H.next q.2) (H.push (mkCells q.1))) (fop T op)

def appNew (es bytes : Nat) (H : Heap) (len m : Nat) (l : List V) : Option (V × Heap) :=
  ite1 (Nat.ble ((len + m) * bytes) 1000000000) (some (.sl H.next 0 es (len + m) none, H.push (mkCells l))) none
def appIn (es : Nat) (H : Heap) (id off len c m n : Nat) (own : Bool) (cs : Tr V) (l : List V) : Option (V × Heap) :=
  fit3 own (Nat.ble (off + (len + m) * es) n) true (some (.sl id off es (len + m) (some c), H.set id (.cells true n (cputs cs (off + len * es) l))))
def appOn (es bytes : Nat) (H : Heap) (id off len m n : Nat) (own : Bool) (cs : Tr V) (l : List V) : Option (V × Heap) :=
  fit3 own (Nat.beq off 0) (Nat.beq n (len * es)) (ite1 (Nat.ble ((len + m) * bytes) 1000000000) (some (.sl H.next 0 es (len + m) none, (H.del id).push (.cells true (n + m * es) (cputs cs n l)))) none)
def app1 (es bytes : Nat) (H : Heap) (m : Nat) (l : List V) : V → Option (V × Heap)
  | .nils => appNew es bytes H 0 m l
  | .sl id off es' len cap => ite1 (Nat.beq es es') (H.cells id fun own n cs => match cap with
      | some c => ite1 (Nat.ble (len + m) c) (appIn es H id off len c m n own cs l) (ob (cgets cs off (len * es)) fun l0 => appNew es bytes H len m (lapp l0 l))
      | none => ite1 (own && Nat.ble (off + (len + m) * es) n) (some (.sl id off es (len + m) none, H.set id (.cells true n (cputs cs (off + len * es) l)))) (appOn es bytes H id off len m n own cs l)) none
  | _ => none
def app0 (es : Nat) (H : Heap) : V → Option (V × Heap)
  | .nils => some (.nils, H)
  | .sle => some (.sle, H)
  | .sl id off es' len cap => ite1 (Nat.beq es es') (some (.sl id off es len cap, H)) none
  | _ => none
def appz1 (es bytes : Nat) (z : List V) (H : Heap) (m : Nat) : V → Option (V × Heap)
  | .sl id off es' len (some c) => fit3 (Nat.beq es es') (Nat.blt c (len + m)) (Nat.blt 0 m) (H.cells id fun _ _ cs => ob (cgets cs off (len * es)) fun l0 => appNew es bytes H len m (lapp l0 (rep z m)))
  | _ => none
def appzH (es bytes : Nat) (z : List V) (H : Heap) (a : V) : V → Option (V × Heap)
  | .int _ (.ofNat m) => appz1 es bytes z H m a
  | _ => none
def appH (es bytes : Nat) (H : Heap) (a b : V) : Option (V × Heap) :=
  ob (slCells H es b) fun q => Nat.rec (motive := fun _ => Option (V × Heap)) (app0 es H a) (fun m _ => app1 es bytes H (m + 1) q.2 a) q.1

def copyTo (es : Nat) (H : Heap) (q : Nat × List V) : V → Option (V × Heap)
  | .nils => some (.int .i64 (.ofNat 0), H)
  | .sle => some (.int .i64 (.ofNat 0), H)
  | .sl id off es' len _ => ite1 (Nat.beq es es') (H.cells id fun own n cs => fit3 own (Nat.ble (off + len * es) n) true
      (ite1 (Nat.ble q.1 len) (some (.int .i64 (.ofNat q.1), H.set id (.cells true n (cputs cs off q.2)))) (some (.int .i64 (.ofNat len), H.set id (.cells true n (cputs cs off (ltake (len * es) q.2))))))) none
  | _ => none
def clrH (es : Nat) (z : List V) (H : Heap) : V → Option Heap
  | .nils => some H
  | .sle => some H
  | .sl id off es' len _ => ite1 (Nat.beq es es') (H.cells id fun own n cs => fit3 own (Nat.ble (off + len * es) n) true (some (H.set id (.cells true n (cputs cs off (rep z len)))))) none
  | _ => none

/-- no more is read than goes over -/
def lenS : V → Nat
  | .sl _ _ _ n _ => n
  | _ => 0
def cutV (k : Nat) : V → V
  | .sl id off es n c => .sl id off es (ite1 (Nat.ble n k) n k) c
  | v => v
abbrev Run := Nat → List V → Heap → Option (V × Heap)
abbrev Yld := Nat → List V → Heap → Option (V × Heap)

def callV (run : Run) (y : Yld) (args : List V) (H : Heap) : V → Option (V × Heap)
  | .fn f caps => run f (lapp args caps) H
  | .yld id => y id args H
  | _ => none

/-- any operation -/
def exec (run : Run) (y : Yld) (op : Op) : Tm → Heap → Rs :=
  Op.rec (motive := fun _ => Tm → Heap → Rs)
    (fun x T H => toVa (rdv T x))
    (fun c a b T H => toVa (rd1 T c fun c => pickV (rdv T a) (rdv T b) c))
    (fun z ps T H => toVa (ob (rdvA T ps) fun ps => ob (bldV ps z) fun cs => some (.agg cs)))
    (fun es z n ps T H => doF T H (.bsl es z n ps))
    (fun ag n a T H => toVa (rd1 T a (loadH H ag n)))
    (fun ag n a x T H => toEf (ob (rdv T a) fun a => ob (rdv T x) fun x => ob (storeH H ag n x a) fun H' => some (.undef, H')))
    (fun x T H => toVa (rd1 T x nilcV))
    (fun op x y T H => toVa (rd2 T x y (binV op)))
    (fun neq k x y T H => toVa (rd2 T x y fun a b => ob (eqbV k a b) fun r => some (.bool (ite1 neq (!r) r))))
    (fun neq ks x y T H => toVa (rd2 T x y (eqaV neq ks)))
    (fun op x T H => toVa (rd1 T x (unV op)))
    (fun k x T H => toVa (rd1 T x (cvV k)))
    (fun ag off n x T H => toVa (rd1 T x (fldV ag n off)))
    (fun off a T H => toVa (rd1 T a (fadrV off)))
    (fun es x i T H => toVa (rd2 T i x (iadrV es)))
    (fun len es a i T H => toVa (rd2 T i a (iadaV len es)))
    (fun len es ag x i T H => toVa (rd2 T i x (idaV len es ag)))
    (fun x i T H => toVa (rd2 T i x idsV))
    (fun x i T H => toVa (rd1 T x (extV i)))
    (fun str x T H => toVa (rd1 T x (lenV str)))
    (fun x T H => toVa (rd1 T x capV))
    (fun es x lo hi mx T H => toVa (ob (rdv T x) fun x => ob (rdvO T lo) fun lo => ob (rdvO T hi) fun hi => ob (rdvO T mx) fun mx => slV es (roomOf H es x) lo hi mx x))
    (fun len es x lo hi mx T H => toVa (ob (rdv T x) fun x => ob (rdvO T lo) fun lo => ob (rdvO T hi) fun hi => ob (rdvO T mx) fun mx => slpV len es lo hi mx x))
    (fun x lo hi T H => toVa (ob (rdv T x) fun x => ob (rdvO T lo) fun lo => ob (rdvO T hi) fun hi => slsV lo hi x))
    (fun mx x y T H => toVa (rd2 T x y (mmV mx)))
    (fun f caps T H => toVa (ob (rdvL T caps) fun l => some (.fn f l)))
    (fun es bytes z a b T H => toEf (ob (rdv T a) fun a => ob (rdv T b) fun b => appH es bytes H a b))
    (fun es a b T H => toEf (ob (rdv T a) fun a => ob (rdv T b) fun b => ob (slCells H es (cutV (lenS a) b)) fun q => copyTo es H q a))
    (fun es z a T H => toEf (ob (rdv T a) fun a => ob (clrH es z H a) fun H' => some (.undef, H')))
    (fun f args T H => toEf (ob (rdvL T args) fun args => run f args H))
    (fun f args T H => toEf (ob (rdv T f) fun f => ob (rdvL T args) fun args => callV run y args H f))
    (fun z T H => doF T H (.alloc z))
    (fun ag n x T H => doF T H (.box ag n x))
    (fun es bytes z n m T H => doF T H (.mks es bytes z n m))
    (fun x T H => toVa (rd1 T x (b2sV H)))
    (fun k args T H => toVa (ob (rdvL T args) (natV H k)))
    (fun es bytes z a n T H => toEf (ob (rdv T a) fun a => ob (rdv T n) fun n => appzH es bytes z H a n))
    op

def isTrue (b : Bool) : V → Option Bool
  | .bool x => some (x == b)
  | .tup _ => some false
  | _ => none
def wants (T : Tm) (g : Option (Nat × Bool)) : Option Bool := Option.rec (motive := fun _ => Option Bool) (some true) (fun p => ob (gt T p.1) (isTrue p.2)) g
def put (T : Tm) (t : Option Nat) (d : V) : Tm := Option.rec (motive := fun _ => Tm) T (fun t => (t, d) :: T) t

/-- how a code ends -/
inductive Out where
  | no
  | nrm (T : Tm) (H : Heap)
  | ret (T : Tm) (H : Heap)
  | ext (id : Nat) (T : Tm) (H : Heap)

/-! ### regions -/
def after1 (k : Tm → Heap → Out) (dst : Option Nat) (T : Tm) (H : Heap) (r : Rs) : Out :=
  Rs.rec (motive := fun _ => Out) .no (fun v => k (put T dst v) H) (fun v H' => k (put T dst v) H') r
def step1 (run : Run) (y : Yld) (k : Tm → Heap → Out) (T : Tm) (H : Heap) (dst : Option Nat) (guard : Option (Nat × Bool)) (op : Op) : Out :=
  Option.rec (motive := fun _ => Out) (after1 k dst T H (exec run y op T H))
    (fun g => Option.rec (motive := fun _ => Out) .no (fun b => ite1 b (after1 k dst T H (exec run y op T H)) (k (put T dst (.tup [])) H)) (wants T (some g))) guard
def lsteps (run : Run) (y : Yld) (ios : List Io) : Tm → Heap → Out :=
  List.rec (motive := fun _ => Tm → Heap → Out) Out.nrm (fun o _ ih T H => Io.rec (motive := fun _ => Out) (fun dst guard _ _ op => step1 run y ih T H dst guard op) o) ios

/-- where an operation of a region that draws its order stands still: what it reads, or the object that stands ready for it -/
def vaOf : Rs → Option V
  | .va v => some v
  | _ => none
def efOf : Rs → Option (V × Heap)
  | .ef v H => some (v, H)
  | _ => none
def drop (run : Run) (y : Yld) (id : Nat) (T : Tm) (H : Heap) (op : Op) : Option V :=
  ite1 (isF op) (ob (fop T op) fun q => H.cells id fun own n cs => ob (cgets cs 0 n) fun l => fit3 own (beqVL l q.1) true (some (atId id q.2))) (vaOf (exec run y op T H))
/-- first: what the new objects hold -/
def dpre (run : Run) (y : Yld) : List Io → Nat → Tm → Heap → List (Nat × Ob) → Option (List (Nat × Ob))
  | [], _, _, _, F => some F
  | o :: r, id, T, H, F => ob (wants T o.guard) fun b => match b with
    | true => match isF o.op with
      | true => ob (fop T o.op) fun q => dpre run y r (id + 1) (put T o.dst (atId id q.2)) (H.set id (mkCells q.1)) ((id, mkCells q.1) :: F)
      | false => match isW o.op with
        | true => ob (efOf (exec run y o.op T H)) fun q => dpre run y r (id + 1) (put T o.dst q.1) q.2 F
        | false => ob (vaOf (exec run y o.op T H)) fun v => dpre run y r (id + 1) (put T o.dst v) H F
    | false => dpre run y r (id + 1) (put T o.dst (.tup [])) H F
def setAll (H : Heap) : List (Nat × Ob) → Heap
  | [] => H
  | p :: r => (setAll H r).set p.1 p.2
def anyF : List Io → Bool
  | [] => false
  | o :: r => match isF o.op with | true => true | false => anyF r
/-- then: the values, and the heap behind each operation -/
def dseq (run : Run) (y : Yld) : List Io → Nat → Tm → Heap → Option (List (Bool × V × Heap))
  | [], _, _, _ => some []
  | o :: r, id, T, H => ob (wants T o.guard) fun b => match b with
    | true => match isW o.op with
      | true => ob (efOf (exec run y o.op T H)) fun q => ob (dseq run y r (id + 1) (put T o.dst q.1) q.2) fun l => some ((true, q.1, q.2) :: l)
      | false => ob (drop run y id T H o.op) fun v => ob (dseq run y r (id + 1) (put T o.dst v) H) fun l => some ((true, v, H) :: l)
    | false => ob (dseq run y r (id + 1) (put T o.dst (.tup [])) H) fun l => some ((false, .tup [], H) :: l)
def dT : List Io → List (Bool × V × Heap) → Tm → Tm
  | o :: r, q :: s, T => dT r s (put T o.dst q.2.1)
  | _, _, T => T
def dH : List (Bool × V × Heap) → Heap → Heap
  | [], H => H
  | q :: s, _ => dH s q.2.2
def dHs : List Io → List (Bool × V × Heap) → List Heap
  | o :: r, q :: s => match isW o.op with | true => q.2.2 :: dHs r s | false => dHs r s
  | _, _ => []
/-- a reader's value among the writers from 'lo' to 'hi' -/
def still (run : Run) (y : Yld) (id : Nat) (T : Tm) (op : Op) (v : V) (c lo hi : Nat) : List Heap → Nat → Bool
  | [], _ => true
  | H :: r, k => (match Nat.beq k c || Nat.blt k lo || Nat.blt hi k with
    | true => true
    | false => match drop run y id T H op with
      | some u => beqV u v
      | none => false) && still run y id T op v c lo hi r (k + 1)
def dchk (run : Run) (y : Yld) : List Io → List (Bool × V × Heap) → Nat → Nat → Tm → List Heap → Bool
  | o :: r, q :: s, id, c, T, Hs => (match isW o.op, q.1 with
    | false, true => match Nat.beq o.lo o.hi with
      | true => Nat.beq o.lo c
      | false => Nat.ble o.lo c && Nat.ble c o.hi && still run y id T o.op q.2.1 c o.lo o.hi Hs 0
    | _, _ => true) && dchk run y r s (id + 1) (match isW o.op with | true => c + 1 | false => c) (put T o.dst q.2.1) Hs
  | _, _, _, _, _, _ => true
def reserve (H : Heap) (n : Nat) : Heap := ⟨H.next + n, H.t⟩
def dgo (run : Run) (y : Yld) (ops : List Io) (T : Tm) (H : Heap) : Option (Tm × Heap) :=
  ob (match anyF ops with
    | true => ob (dpre run y ops H.next T (reserve H (llen ops)) []) fun F => some (setAll (reserve H (llen ops)) F)
    | false => some H) fun H0 =>
  ob (dseq run y ops H.next T H0) fun l => match dchk run y ops l H.next 0 T (H0 :: dHs ops l) with
    | true => some (dT ops l T, dH l H0)
    | false => none
def dOut (x : Option (Tm × Heap)) : Out := Option.rec (motive := fun _ => Out) .no (fun q => .nrm q.1 q.2) x

/-! ### functions -/
inductive Res where
  | t (n : Nat)
  | cell (n : Nat) (ag : Bool) (sz : Nat)
structure Fn where
  np : Nat
  res : List Res
  body : C
  /-- is it an instance of slices.Insert: the elements' size and bytes -/
  ins : Option (Nat × Nat) := none
abbrev Tab := Tr Fn

def resV (T : Tm) (H : Heap) : List Res → Option (List V)
  | [] => some []
  | .t n :: r => ob (gt T n) fun d => ob (resV T H r) fun l => some (d :: l)
  | .cell n ag sz :: r => ob (gt T n) fun a => ob (loadH H ag sz a) fun d => ob (resV T H r) fun l => some (d :: l)
def wrapR : List V → V
  | [d] => d
  | l => .tup l
def params (l : List V) (j : Nat) : Tm := List.rec (motive := fun _ => Nat → Tm) (fun _ => []) (fun d _ ih j => (j, d) :: ih (j + 1)) l j

/-- two temporaries of the machine's own: the blocks for deferred calls; the round -/
def kD : Nat := 1000000
def kR : Nat := 1000001
/-- the blocks for deferred calls are taken -/
def takeD : List V → Heap → Option Heap
  | [], H => some H
  | .yld d :: r, H => match H.get d with
    | some (.dfr true) => takeD r (H.set d (.dfr false))
    | _ => none
  | _ :: _, _ => none
def endD (T : Tm) (H : Heap) : Option Heap :=
  match gt T kD with
  | none => some H
  | some (.tup l) => takeD l H
  | some _ => none

abbrev Go1 := C → Tm → Heap → Out
def fin (res : List Res) (T : Tm) (H : Heap) : Option (V × Heap) := ob (endD T H) fun H' => ob (resV T H' res) fun l => some (wrapR l, H')
def finO (res : List Res) (o : Out) : Option (V × Heap) := Out.rec (motive := fun _ => Option (V × Heap)) none (fin res) (fin res) (fun _ _ _ => none) o
/-! slices.Insert where no more is known of the capacity: the old row is let go, a new one stands for it -/
def insNew (es bytes : Nat) (H : Heap) (id len m i : Nat) (l0 lv : List V) : Option (V × Heap) :=
  ite1 (Nat.ble ((len + m) * bytes) 1000000000) (some (.sl H.next 0 es (len + m) none, (H.del id).push (mkCells (lapp (ltake (i * es) l0) (lapp lv (ldrop (i * es) l0)))))) none
/-- what goes in stands apart from the row -/
def insApart (H : Heap) (id : Nat) : V → Bool
  | .sl id' _ _ _ _ => ite1 (Nat.beq id' id) false (Option.rec (motive := fun _ => Bool) false (fun b => b) (H.cells id' fun own n _ => some (ite1 own (Nat.blt 0 n) false)))
  | _ => false
def insRun (p : Nat × Nat) (H : Heap) : List V → Option (V × Heap)
  | [.sl id off es len none, .int .i64 (.ofNat i), v] => fit3 (Nat.beq p.1 es) (Nat.beq off 0) (Nat.ble i len) (ob (slCells H es v) fun q =>
      Nat.rec (motive := fun _ => Option (V × Heap)) none (fun m _ => H.cells id fun own n cs => fit3 own (Nat.beq n (len * es)) (insApart H id v) (ob (cgets cs 0 (len * es)) fun l0 => insNew es p.2 H id len (m + 1) i l0 q.2)) q.1)
  | _ => none
def insOn : List V → Bool
  | .sl _ _ _ _ none :: _ => true
  | _ => false
def runWith (Φ : Tab) (go : Go1) : Run := fun f args H =>
  ob (Φ.get f) fun fn => Fn.rec (motive := fun _ => Option (V × Heap)) (fun np res body ins => ite1 (Nat.beq (llen args) np)
    (Option.rec (motive := fun _ => Option (V × Heap)) (finO res (go body (params args 0) H)) (fun p => ite1 (insOn args) (insRun p H args) (finO res (go body (params args 0) H))) ins) none) fn

def setPs (T : Tm) : List Nat → List V → Option Tm
  | [], [] => some T
  | p :: ps, v :: vs => setPs ((p, v) :: T) ps vs
  | _, _ => none
def endY (id : Nat) (pe : Option Ex) (e : Option Ex) (H : Heap) : Option (V × Heap) :=
  match H.get id with
  | some (.loop ps a b T0 .busy _) => match e with
    | none => some (.bool true, H.set id (.loop ps a b T0 .ready none))
    | some e => some (.bool false, H.set id (.loop ps a b T0 .done (some e)))
  | _ => none
def bodyY (go : Go1) (b : C) (id : Nat) (T : Tm) (H : Heap) : Option (V × Heap) :=
  match H.get id with
  | some (.loop ps a b' T0 .ready pe) => match go b T (H.set id (.loop ps a b' T0 .busy pe)) with
    | .no => none
    | .nrm _ H' => endY id pe none H'
    | .ret _ H' => endY id pe (some .ret) H'
    | .ext i _ H' => ite1 (Nat.blt i 1000000) (endY id pe (some (.exit i)) H') none
  | _ => none
/-- a round of a range over a function -/
def yieldWith (go : Go1) : Yld := fun id args H =>
  match H.get id with
  | some (.loop ps a b T0 .ready _) => ob (setPs T0 ps args) fun T1 => match go a ((kR, .yld id) :: T1) H with
    | .nrm T2 H1 => bodyY go b id T2 H1
    | _ => none
  | _ => none

def addD (T : Tm) (d : Nat) : Option Tm :=
  match gt T kD with
  | none => some ((kD, .tup [.yld d]) :: T)
  | some (.tup l) => some ((kD, .tup (.yld d :: l)) :: T)
  | some _ => none
def rfPre (T : Tm) (H : Heap) : Option (Tm × Heap) :=
  match gt T kR with
  | some (.yld r) => match H.get r with
    | some (.loop _ _ _ _ _ _) => some (T, H)
    | _ => none
  | some _ => none
  | none => ob (addD T H.next) fun T' => some (T', H.push (.dfr true))
def rfEnd (T : Tm) (l : Nat) (H : Heap) : Out :=
  match H.get l with
  | some (.loop _ _ _ _ .busy _) => .no
  | some (.loop ps a b T0 _ pe) => match pe with
    | none => .nrm T (H.set l (.loop ps a b T0 .exhausted pe))
    | some .normal => .no
    | some .ret => .ret T (H.set l (.loop ps a b T0 .exhausted pe))
    | some (.exit i) => ite1 (Nat.blt i 1000000) (.ext i T (H.set l (.loop ps a b T0 .exhausted pe))) .no
  | _ => .no
def rangeV (run : Run) (ps : List Nat) (a b : C) (T : Tm) (H : Heap) : V → Out
  | .fn f caps => match rfPre T H with
    | none => .no
    | some q => match run f (.yld q.2.next :: caps) (q.2.push (.loop ps a b T .ready none)) with
      | none => .no
      | some r => rfEnd q.1 q.2.next r.2
  | _ => .no
def rangeO (run : Run) (x : Rd) (ps : List Nat) (a b : C) (T : Tm) (H : Heap) : Out := match rdv T x with
  | none => .no
  | some v => rangeV run ps a b T H v

/-! ### codes -/
def condV (a b : Out) : V → Out
  | .bool c => ite1 c a b
  | _ => .no
def condO (x : Option V) (a b : Out) : Out := Option.rec (motive := fun _ => Out) .no (condV a b) x
def thenO (k : Tm → Heap → Out) (o : Out) : Out := Out.rec (motive := fun _ => Out) .no k Out.ret Out.ext o
def blkO (id : Nat) (o : Out) : Out := Out.rec (motive := fun _ => Out) .no Out.nrm Out.ret (fun i T H => ite1 (Nat.beq i id) (.nrm T H) (.ext i T H)) o
/-- an exit's number from here on is a label's -/
def kJ : Nat := 1000000
def onG (l : Nat) (k : Tm → Heap → Out) (o : Out) : Out := Out.rec (motive := fun _ => Out) .no Out.nrm Out.ret (fun i T H => ite1 (Nat.beq i (kJ + l)) (k T H) (ite1 (Nat.blt i kJ) (.ext i T H) .no)) o
def scopeN (l : Nat) (rest : Tm → Heap → Out) (n : Nat) : Tm → Heap → Out :=
  Nat.rec (motive := fun _ => Tm → Heap → Out) (fun _ _ => .no) (fun _ ih T H => onG l ih (rest T H)) n
def iter (body : Tm → Heap → Out) (n : Nat) : Tm → Heap → Out :=
  Nat.rec (motive := fun _ => Tm → Heap → Out) (fun _ _ => .no) (fun _ ih T H => thenO ih (body T H)) n
def evC (run : Run) (y : Yld) (L : Nat) (c : C) : Tm → Heap → Out :=
  C.rec (motive := fun _ => Tm → Heap → Out)
    Out.nrm
    (fun _ _ => .no)
    Out.ret
    (fun i T H => .ext i T H)
    (fun _ _ ia ib T H => thenO ib (ia T H))
    (fun x _ _ ia ib T H => condO (rdv T x) (ia T H) (ib T H))
    (fun id _ ia T H => blkO id (ia T H))
    (fun ks _ ic T H => ic (pickT T ks) H)
    (fun _ ia T H => iter ia L T H)
    (fun ops T H => lsteps run y ops T H)
    (fun ops T H => dOut (dgo run y ops T H))
    (fun x ps a b _ _ T H => rangeO run x ps a b T H)
    (fun l T H => .ext (kJ + l) T H)
    (fun l _ _ ir ia T H => onG l (scopeN l ir L) (ia T H))
    c
/-- runs, by depth -/
def evD (Φ : Tab) (L : Nat) (d : Nat) : Go1 :=
  Nat.rec (motive := fun _ => Go1) (fun _ _ _ => .no) (fun _ ih c T H => evC (runWith Φ ih) (yieldWith ih) L c T H) d
def runF (Φ : Tab) (L d : Nat) : Run := runWith Φ (evD Φ L d)
end
end Go.YtnpoikgkhhpdgaaDoorH

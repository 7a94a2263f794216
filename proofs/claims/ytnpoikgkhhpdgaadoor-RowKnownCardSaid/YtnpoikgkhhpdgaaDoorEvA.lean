/-
  The abstract data, code and run of a Go function: definitions alone. What they are good for is proved in the texts behind this one.
-/
import Derived.StillTail
import Derived.RangeFuncIn
import Derived.OrdersIn
import Derived.KernelRfl
namespace Go.YtnpoikgkhhpdgaaDoorE

inductive Tok where
  | no
  | full
  | own (s : Nat)

inductive D where
  | undef
  | bool (b : Bool)
  | int (k : IntKind) (n : Int)
  | str (s : ByteArray)
  | nilp
  | ptr (s i o : Nat)
  | rptr (cs : List D)
  | slc (t : Tok) (es : Nat) (l : List D)
  | view (s off len : Nat)
  | agg (flat : Bool) (cs : List D)
  | tup (vs : List D)
  | fn (f : Nat) (caps : List D)
  | nilf

def cellsOf : D → List D
  | .agg _ cs => cs
  | d => [d]

inductive Ob where
  | box (d : D)
  | row (es : Nat) (l : List D)

inductive Rd where
  | t (n : Nat)
  | k (d : D)

inductive Op where
  | mv (x : Rd)
  | pick (c a b : Rd)
  | build (flat : Bool) (z : List D) (parts : List (Nat × Nat × Rd))
  | bsl (es : Nat) (z : D) (len : Nat) (parts : List (Nat × Rd))
  | load (ag fl : Bool) (n : Nat) (a : Rd)
  | nilc (x : Rd)
  | bin (k : Nat) (op : BinOp) (x y : Rd)
  | eqa (neq : Bool) (ks : List Nat) (x y : Rd)
  | un (op : UnOp) (x : Rd)
  | cv (k : IntKind) (x : Rd)
  | fld (ag fl : Bool) (off n : Nat) (x : Rd)
  | fadr (off : Nat) (a : Rd)
  | iadr (es : Nat) (x i : Rd)
  | iada (len es : Nat) (a i : Rd)
  | ida (len es : Nat) (ag fl : Bool) (x i : Rd)
  | ids (x i : Rd)
  | ext (x : Rd) (i : Nat)
  | len (str : Bool) (x : Rd)
  | sl (es : Nat) (x : Rd) (lo hi mx : Option Rd)
  | sls (x : Rd) (lo hi : Option Rd)
  | mm (mx : Bool) (x y : Rd)
  | mkfn (f : Nat) (caps : List Rd)
  | app (es bytes s : Nat) (z : D) (a b : Rd)
  | call (f : Nat) (args : List Rd) (s : Nat)
  | callv (f : Rd) (args : List Rd) (s : Nat)
  | alloc (s : Nat) (z : D)
  | box (s : Nat) (ag : Bool) (n : Nat) (x : Rd)
  | store (ag : Bool) (n : Nat) (a x : Rd)
  | mks (s es bytes : Nat) (z : D) (n m : Rd)
  | copy (a b : Rd)

structure Io where
  dst : Option Nat
  guard : Option (Nat × Bool)
  op : Op

inductive C where
  | skip
  /-- what is never reached -/
  | bad
  | ret
  | exit (id : Nat)
  | seq (a b : C)
  | cond (x : Rd) (a b : C)
  | block (id : Nat) (a : C)
  | loop (a : C)
  /-- a region: its operations; where it draws its order: which calls write boxes; the sites that it defines, the temporaries and boxes that are forgotten behind it -/
  | reg (ops : List Io) (wr : Option (List Nat)) (defs kills boxes : List Nat)
  /-- forget temporaries and boxes; give a temporary's slice another site -/
  | kill (kills boxes : List Nat) (c : C)
  | retok (t s : Nat) (c : C)
  /-- forget every slice's room, but for some temporaries -/
  | dull (ks : List Nat) (c : C)

inductive Ex where
  | normal
  | ret
  | exit (id : Nat)

/-! ### small maps -/
def gt {α : Type} : List (Nat × α) → Nat → Option α
  | [], _ => none
  | p :: r, n => match Nat.beq p.1 n with | true => some p.2 | false => gt r n
def st {α : Type} : List (Nat × α) → Nat → α → List (Nat × α)
  | [], n, d => [(n, d)]
  | p :: r, n, d => match Nat.beq p.1 n with | true => (n, d) :: r | false => p :: st r n d
def has : List Nat → Nat → Bool
  | [], _ => false
  | x :: r, n => match Nat.beq x n with | true => true | false => has r n
def rm {α : Type} : List (Nat × α) → List Nat → List (Nat × α)
  | [], _ => []
  | p :: r, ks => match has ks p.1 with | true => rm r ks | false => p :: rm r ks

/-! ### references to sites -/
mutual
def pg (ss : List Nat) : D → D
  | .ptr s i o => match has ss s with | true => .undef | false => .ptr s i o
  | .view s a b => match has ss s with | true => .undef | false => .view s a b
  | .slc (.own s) es l => match has ss s with | true => .slc .no es l | false => .slc (.own s) es l
  | .agg false cs => .agg false (pgL ss cs)
  | .tup vs => .tup (pgL ss vs)
  | .fn f caps => .fn f (pgL ss caps)
  | d => d
def pgL (ss : List Nat) : List D → List D
  | [] => []
  | d :: r => pg ss d :: pgL ss r
end
def pgO (ss : List Nat) : Ob → Ob
  | .box d => .box (pg ss d)
  | .row es l => .row es l
def pgT (ss : List Nat) : List (Nat × D) → List (Nat × D)
  | [] => []
  | p :: r => (p.1, pg ss p.2) :: pgT ss r
def pgM (ss : List Nat) : List (Nat × Ob) → List (Nat × Ob)
  | [] => []
  | p :: r => (p.1, pgO ss p.2) :: pgM ss r

/- no slice has room of its own -/
mutual
def dull : D → D
  | .slc _ es l => .slc .no es l
  | .agg f cs => match f with | true => .agg true cs | false => .agg false (dullL cs)
  | .tup vs => .tup (dullL vs)
  | d => d
def dullL : List D → List D
  | [] => []
  | d :: r => dull d :: dullL r
end
def dullT (ks : List Nat) : List (Nat × D) → List (Nat × D)
  | [] => []
  | p :: r => (match has ks p.1 with | true => p | false => (p.1, dull p.2)) :: dullT ks r
def dullO : Ob → Ob
  | .box d => .box (dull d)
  | .row es l => .row es l
def dullM : List (Nat × Ob) → List (Nat × Ob)
  | [] => []
  | p :: r => (p.1, dullO p.2) :: dullM r

/-- a value of one cell -/
def single : D → Bool
  | .undef => false
  | .agg _ _ => false
  | .tup _ => false
  | _ => true
def singleL : List D → Bool
  | [] => true
  | d :: r => match single d with | true => singleL r | false => false

/- a value as an element of a slice: without references; 'none' where it has any but a slice's site -/
mutual
def bare : D → Option D
  | .undef => none
  | .ptr _ _ _ => none
  | .view _ _ _ => none
  | .slc (.own _) es l => some (.slc .no es l)
  | .agg false cs => (bareL cs).bind fun l => match singleL l with | true => some (.agg false l) | false => none
  | .tup vs => (bareL vs).bind fun l => some (.tup l)
  | .fn f caps => match caps with | [] => some (.fn f []) | _ => none
  | d => some d
def bareL : List D → Option (List D)
  | [] => some []
  | d :: r => (bare d).bind fun x => (bareL r).bind fun l => some (x :: l)
end


/-! ### one operation -/
def rdv (T : List (Nat × D)) : Rd → Option D
  | .t n => gt T n
  | .k d => some d
def rdvL (T : List (Nat × D)) : List Rd → Option (List D)
  | [] => some []
  | x :: r => (rdv T x).bind fun d => (rdvL T r).bind fun l => some (d :: l)
def rdvO (T : List (Nat × D)) : Option Rd → Option (Option D)
  | none => some none
  | some x => (rdv T x).bind fun d => some (some d)

/-- a value of one cell that bears no reference -/
def plain : D → Bool
  | .bool _ => true
  | .int _ _ => true
  | .str _ => true
  | _ => false
def plainL : List D → Bool
  | [] => true
  | d :: r => match plain d with | true => plainL r | false => false

/-- 'n' cells from 'o' on, as a value; 'src': no cell bears a reference -/
def readAt (src ag fl : Bool) (n o : Nat) (cs : List D) : Option D :=
  match ag with
  | true => match Nat.ble (o + n) cs.length with
    | true => match fl with
      | true => match src with
        | true => some (.agg true ((cs.drop o).take n))
        | false => match plainL ((cs.drop o).take n) with
          | true => some (.agg true ((cs.drop o).take n))
          | false => none
      | false => some (.agg false ((cs.drop o).take n))
    | false => none
  | false => (cs[o]?).bind fun d => match single d with | true => some d | false => none

def flatOf : D → Bool
  | .agg f _ => f
  | d => plain d

def readD (ag fl : Bool) (n o : Nat) (d : D) : Option D := readAt (flatOf d) ag fl n o (cellsOf d)

def mayFlat (f : Bool) (d : D) : Bool := match f with | true => flatOf d | false => true
def aggCells (n : Nat) : D → Option (List D)
  | .agg fx xs => match Nat.beq xs.length n, (match fx with | true => true | false => singleL xs) with
    | true, true => some xs
    | _, _ => none
  | _ => none
def writeA (ag : Bool) (n o : Nat) (cs : List D) (d : D) : Option (List D) :=
  match ag with
  | true => (aggCells n d).bind fun xs => match Nat.ble (o + n) cs.length with
    | true => some (cs.take o ++ (xs ++ cs.drop (o + n)))
    | false => none
  | false => match single d, Nat.blt o cs.length with
    | true, true => some (cs.set o d)
    | _, _ => none
def write1 (ag : Bool) (o : Nat) (d0 d : D) : Option D :=
  match single d0, single d, ag, o with
  | true, true, false, 0 => some d
  | _, _, _, _ => none
def writeD (ag : Bool) (n o : Nat) (d0 d : D) : Option D :=
  match d0 with
  | .agg f cs => match mayFlat f d with
    | true => (writeA ag n o cs d).bind fun cs' => some (.agg f cs')
    | false => none
  | d0 => write1 ag o d0 d

def setL {α : Type} (l : List α) (i : Nat) (x : α) : List α := l.set i x

def loadD (M : List (Nat × Ob)) (ag fl : Bool) (n : Nat) : D → Option D
  | .rptr cs => readAt true ag fl n 0 cs
  | .ptr s i o => match gt M s with
    | some (.box d) => match i with | 0 => readD ag fl n o d | _ => none
    | some (.row _ l) => (l[i]?).bind fun d => readD ag fl n o d
    | none => none
  | _ => none

def arith (op : BinOp) (k : IntKind) (x y : Int) : Option D :=
  match op with
  | .add => some (.int k (k.wrap (x + y)))
  | .sub => some (.int k (k.wrap (x - y)))
  | .mul => some (.int k (k.wrap (x * y)))
  | .quo => match decide (y = 0) with | true => none | false => some (.int k (k.wrap (x.tdiv y)))
  | .rem => match decide (y = 0) with | true => none | false => some (.int k (x.tmod y))
  | .and => some (.int k (k.wrap (BitVec.ofInt k.bits x &&& BitVec.ofInt k.bits y).toNat))
  | .or => some (.int k (k.wrap (BitVec.ofInt k.bits x ||| BitVec.ofInt k.bits y).toNat))
  | .xor => some (.int k (k.wrap (BitVec.ofInt k.bits x ^^^ BitVec.ofInt k.bits y).toNat))
  | .andNot => some (.int k (k.wrap (BitVec.ofInt k.bits x &&& ~~~BitVec.ofInt k.bits y).toNat))
  | .eql => some (.bool (x == y))
  | .neq => some (.bool (x != y))
  | .lss => some (.bool (decide (x < y)))
  | .leq => some (.bool (decide (x ≤ y)))
  | .gtr => some (.bool (decide (x > y)))
  | .geq => some (.bool (decide (x ≥ y)))
  | _ => none

def binD (op : BinOp) : D → D → Option D
  | .int k a, .int k' b =>
    match op with
    | .shl => match decide (b < 0) with | true => none | false => some (.int k (k.wrap (a * 2 ^ (min b.toNat k.bits))))
    | .shr => match decide (b < 0) with | true => none | false => some (.int k (a.fdiv (2 ^ (min b.toNat k.bits))))
    | op => match decide (k = k') with | true => arith op k a b | false => none
  | .str a, .str b =>
    match op with
    | .eql => some (.bool (a.toList == b.toList))
    | .neq => some (.bool (!(a.toList == b.toList)))
    | .lss => some (.bool (Op.bytesLess a.toList b.toList))
    | .gtr => some (.bool (!(Op.bytesLess a.toList b.toList || a.toList == b.toList)))
    | .leq => some (.bool (Op.bytesLess a.toList b.toList || a.toList == b.toList))
    | .geq => some (.bool (!(Op.bytesLess a.toList b.toList)))
    | .add => match Nat.ble (a.size + b.size) 9223372036854775807 with | true => some (.str (a ++ b)) | false => none
    | _ => none
  | .bool a, .bool b =>
    match op with
    | .eql => some (.bool (a == b))
    | .neq => some (.bool (!(a == b)))
    | _ => none
  | .nilp, .nilp => match op with | .eql => some (.bool true) | .neq => some (.bool false) | _ => none
  | .ptr _ _ _, .nilp => match op with | .eql => some (.bool false) | .neq => some (.bool true) | _ => none
  | _, _ => none

/-- '==' of two plain cells: 0: bool, 1: int, 2: string -/
def eq1 : Nat → D → D → Option Bool
  | 1, .int k a, .int k' b => match decide (k = k') with | true => some (a == b) | false => none
  | 0, .bool a, .bool b => some (a == b)
  | 2, .str a, .str b => some (a.toList == b.toList)
  | _, _, _ => none
/-- '==' of two rows of plain cells -/
def eqL : List Nat → List D → List D → Option Bool
  | [], [], [] => some true
  | k :: ks, c :: x, d :: y => (eq1 k c d).bind fun b => (eqL ks x y).bind fun r => some (b && r)
  | _, _, _ => none

def unD (op : UnOp) : D → Option D
  | .int k n => match op with
    | .neg => some (.int k (k.wrap (0 - n)))
    | .xor => some (.int k (k.wrap (BitVec.ofInt k.bits (if k.signed then -1 else k.max) ^^^ BitVec.ofInt k.bits n).toNat))
    | _ => none
  | .bool b => match op with | .not => some (.bool (!b)) | _ => none
  | _ => none

/-- an index: from 0 to below 'n' -/
def idx (n : Nat) : D → Option Nat
  | .int _ i => match decide (0 ≤ i ∧ i < (n : Int)) with | true => some i.toNat | false => none
  | _ => none

def solid : D → Bool
  | .undef => false
  | .tup _ => false
  | _ => true
def bldA : List D → List (Nat × Nat × D) → Option (List D)
  | z, [] => some z
  | z, p :: r => match Nat.ble (p.1 + p.2.1) z.length, Nat.beq (cellsOf p.2.2).length p.2.1, solid p.2.2 with
    | true, true, true => bldA (z.take p.1 ++ (cellsOf p.2.2 ++ z.drop (p.1 + p.2.1))) r
    | _, _, _ => none
def bldS (es : Nat) : List D → List (Nat × D) → Option (List D)
  | z, [] => some z
  | z, p :: r => match Nat.blt p.1 z.length, solid p.2 with
    | true, true => (bare p.2).bind fun d => match Nat.beq (cellsOf d).length es with
      | true => bldS es (z.set p.1 d) r
      | false => none
    | _, _ => none
def rdvA (T : List (Nat × D)) : List (Nat × Nat × Rd) → Option (List (Nat × Nat × D))
  | [] => some []
  | p :: r => (rdv T p.2.2).bind fun d => (rdvA T r).bind fun l => some ((p.1, p.2.1, d) :: l)
def rdvS (T : List (Nat × D)) : List (Nat × Rd) → Option (List (Nat × D))
  | [] => some []
  | p :: r => (rdv T p.2).bind fun d => (rdvS T r).bind fun l => some ((p.1, d) :: l)

/-- a bound of a slice expression: from 'a' to 'b' -/
def bnd (a b : Nat) : D → Option Nat
  | .int _ i => match decide ((a : Int) ≤ i ∧ i ≤ (b : Int)) with | true => some i.toNat | false => none
  | _ => none

def cutTok (t : Tok) (hi mx : Option D) : Tok :=
  match hi, mx with
  | none, none => t
  | _, some _ => .full
  | some _, none => .no

def mxOk (j : Nat) : Option D → Bool
  | none => true
  | some m => match bnd j j m with | some _ => true | none => false
def slD (es : Nat) (lo hi mx : Option D) : D → Option D
  | .slc t es' l => match Nat.beq es es' with
    | false => none
    | true =>
      match hi with
      | none => match mx with
        | some _ => none
        | none => match lo with
          | none => some (.slc t es l)
          | some a => (bnd 0 l.length a).bind fun i => some (.slc t es (l.drop i))
      | some b => (bnd 0 l.length b).bind fun j =>
        match mxOk j mx with
        | false => none
        | true => match lo with
          | none => some (.slc (cutTok t hi mx) es (l.take j))
          | some a => (bnd 0 j a).bind fun i => some (.slc (cutTok t hi mx) es ((l.drop i).take (j - i)))
  | .view s off len => match hi, mx with
    | none, none => match lo with
      | none => some (.view s off len)
      | some a => (bnd 0 len a).bind fun i => some (.view s (off + i) (len - i))
    | some b, none => (bnd 0 len b).bind fun j => match lo with
      | none => some (.view s off j)
      | some a => (bnd 0 j a).bind fun i => some (.view s (off + i) (j - i))
    | _, _ => none
  | _ => none

def slsD (lo hi : Option D) : D → Option D
  | .str x =>
    (match hi with | none => some x.size | some b => bnd 0 x.size b).bind fun j =>
    (match lo with | none => some 0 | some a => bnd 0 j a).bind fun i => some (.str (x.extract i j))
  | _ => none

def appRoom (bytes n : Nat) : Bool := Nat.ble (n * bytes) 140737488355328

/-- 'append': the slice, and the site that it uses up -/
def appD (es bytes s : Nat) (Cn : List Nat) : D → D → Option (D × List Nat)
  | .slc t e1 la, .slc _ e2 lb =>
    match Nat.beq e1 es, Nat.beq e2 es, appRoom bytes (la.length + lb.length) with
    | true, true, true => match t with
      | .no => none
      | .full => some (.slc (.own s) es (la ++ lb), Cn)
      | .own s0 => match has Cn s0 with
        | true => none
        | false => some (.slc (.own s) es (la ++ lb), s0 :: Cn)
    | _, _, _ => none
  | _, _ => none

def fadrD (off : Nat) (Cn : List Nat) : D → Option (D × List Nat)
  | .ptr s i o => some (.ptr s i (o + off), Cn)
  | .rptr cs => some (.rptr (cs.drop off), Cn)
  | _ => none
def iadaD (es : Nat) (Cn : List Nat) (j : Nat) : D → Option (D × List Nat)
  | .ptr s i o => some (.ptr s i (o + j * es), Cn)
  | .rptr cs => some (.rptr (cs.drop (j * es)), Cn)
  | _ => none
def iadrD (es : Nat) (Cn : List Nat) (x i : D) : Option (D × List Nat) :=
  match x with
  | .slc _ es' l => match Nat.beq es es' with
    | true => (idx l.length i).bind fun j => (l[j]?).bind fun d => some (.rptr (cellsOf d), Cn)
    | false => none
  | .view s off len => (idx len i).bind fun j => some (.ptr s (off + j) 0, Cn)
  | _ => none
/-- the kind of an operator's first operand: 0: a number or a string, 1: a bool, 2: a pointer -/
def binK : Nat → D → Bool
  | 0, .int _ _ => true
  | 0, .str _ => true
  | 1, .bool _ => true
  | 2, .nilp => true
  | 2, .ptr _ _ _ => true
  | _, _ => false
/-- a view's elements have 'es' cells -/
def vwOk (M : List (Nat × Ob)) (es : Nat) : D → Bool
  | .view s _ _ => match gt M s with | some (.row es' _) => Nat.beq es es' | _ => false
  | _ => true

/-- a quiet operation: its value; the sites that have been used up -/
def qop (T : List (Nat × D)) (M : List (Nat × Ob)) (Cn : List Nat) : Op → Option (D × List Nat)
  | .mv x => (rdv T x).bind fun d => some (d, Cn)
  | .pick c a b => (rdv T c).bind fun c => match c with
    | .bool true => (rdv T a).bind fun d => some (d, Cn)
    | .bool false => (rdv T b).bind fun d => some (d, Cn)
    | _ => none
  | .build fl z ps => (rdvA T ps).bind fun ps => (bldA z ps).bind fun cs => match fl with
    | true => match plainL cs with | true => some (.agg true cs, Cn) | false => none
    | false => some (.agg false cs, Cn)
  | .bsl es z n ps => (rdvS T ps).bind fun ps => (bldS es (List.replicate n z) ps).bind fun l => some (.slc .full es l, Cn)
  | .load ag fl n a => (rdv T a).bind fun a => (loadD M ag fl n a).bind fun d => some (d, Cn)
  | .nilc x => (rdv T x).bind fun d => match d with
    | .ptr s i o => some (.ptr s i o, Cn)
    | .rptr cs => some (.rptr cs, Cn)
    | .fn f caps => some (.fn f caps, Cn)
    | _ => none
  | .bin k op x y => (rdv T x).bind fun a => (rdv T y).bind fun b => match binK k a with | true => (binD op a b).bind fun d => some (d, Cn) | false => none
  | .eqa neq ks x y => (rdv T x).bind fun a => (rdv T y).bind fun b => match a, b with
    | .agg _ cs, .agg _ ds => (eqL ks cs ds).bind fun r => some (.bool (match neq with | true => !r | false => r), Cn)
    | _, _ => none
  | .un op x => (rdv T x).bind fun a => (unD op a).bind fun d => some (d, Cn)
  | .cv k x => (rdv T x).bind fun a => match a with | .int _ n => some (.int k (k.wrap n), Cn) | _ => none
  | .fld ag fl off n x => (rdv T x).bind fun a => match a with
    | .agg f cs => (readAt f ag fl n off cs).bind fun d => some (d, Cn)
    | _ => none
  | .fadr off a => (rdv T a).bind fun a => fadrD off Cn a
  | .iadr es x i => (rdv T x).bind fun x => (rdv T i).bind fun i => match vwOk M es x with
    | false => none
    | true => iadrD es Cn x i
  | .iada len es a i => (rdv T a).bind fun a => (rdv T i).bind fun i => (idx len i).bind fun j => iadaD es Cn j a
  | .ida len es ag fl x i => (rdv T x).bind fun x => (rdv T i).bind fun i => (idx len i).bind fun j => match x with
    | .agg f cs => (readAt f ag fl es (j * es) cs).bind fun d => some (d, Cn)
    | _ => none
  | .ids x i => (rdv T x).bind fun x => (rdv T i).bind fun i => match x with
    | .str s => (idx s.size i).bind fun j => (s[j]?).bind fun b => some (.int .u8 b.toNat, Cn)
    | _ => none
  | .ext x i => (rdv T x).bind fun x => match x with
    | .tup vs => (vs[i]?).bind fun d => some (d, Cn)
    | _ => none
  | .len str x => (rdv T x).bind fun x => match str, x with
    | false, .slc _ _ l => some (.int .i64 l.length, Cn)
    | false, .view _ _ n => some (.int .i64 n, Cn)
    | true, .str s => some (.int .i64 s.size, Cn)
    | _, _ => none
  | .sl es x lo hi mx => (rdv T x).bind fun x => (rdvO T lo).bind fun lo => (rdvO T hi).bind fun hi => (rdvO T mx).bind fun mx => match vwOk M es x with | true => (slD es lo hi mx x).bind fun d => some (d, Cn) | false => none
  | .sls x lo hi => (rdv T x).bind fun x => (rdvO T lo).bind fun lo => (rdvO T hi).bind fun hi => (slsD lo hi x).bind fun d => some (d, Cn)
  | .mm mx x y => (rdv T x).bind fun a => (rdv T y).bind fun b => match a, b with
    | .int k a, .int k' b => match decide (k = k') with
      | true => match mx with
        | true => some (.int k (if b > a then b else a), Cn)
        | false => some (.int k (if b < a then b else a), Cn)
      | false => none
    | _, _ => none
  | .mkfn f caps => (rdvL T caps).bind fun l => some (.fn f l, Cn)
  | .app es bytes s _ a b => (rdv T a).bind fun a => (rdv T b).bind fun b => appD es bytes s Cn a b
  | _ => none

/-! ### calls -/
/-- where a result variable stands -/
inductive Res where
  | t (n : Nat)
  | cell (n : Nat) (ag fl : Bool) (sz : Nat)
structure Fn where
  np : Nat
  ps : List (Option (Bool × Bool × Nat))
  body : C
  res : List Res

/- a result, as its caller gets it: 'own j' for the j-th slice, where the slice's room is its own -/
mutual
def giv (M : List (Nat × Ob)) (j : Nat) : D → Option (D × Nat)
  | .undef => none
  | .ptr _ _ _ => none
  | .view s off len => match gt M s with
    | some (.row es l) => match Nat.beq (off + len) l.length with
      | true => some (.slc (.own j) es (l.drop off), j + 1)
      | false => some (.slc .no es ((l.drop off).take len), j + 1)
    | _ => none
  | .slc t es l => match t with
    | .no => some (.slc .no es l, j + 1)
    | _ => some (.slc (.own j) es l, j + 1)
  | .agg f cs => match f with
    | true => some (.agg true cs, j)
    | false => (givL M j cs).bind fun q => some (.agg false q.1, q.2)
  | .tup vs => (givL M j vs).bind fun q => some (.tup q.1, q.2)
  | .fn f caps => match caps with | [] => some (.fn f [], j) | _ => none
  | .rptr _ => none
  | .bool b => some (.bool b, j)
  | .int k n => some (.int k n, j)
  | .str s => some (.str s, j)
  | .nilp => some (.nilp, j)
  | .nilf => some (.nilf, j)
def givL (M : List (Nat × Ob)) (j : Nat) : List D → Option (List D × Nat)
  | [] => some ([], j)
  | d :: r => (giv M j d).bind fun x => (givL M x.2 r).bind fun q => some (x.1 :: q.1, q.2)
end
/- the sites that a result names -/
mutual
def sites : D → List Nat
  | .view s _ _ => [s]
  | .slc t _ _ => match t with | .own s => [s] | _ => []
  | .agg f cs => match f with | true => [] | false => sitesL cs
  | .tup vs => sitesL vs
  | _ => []
def sitesL : List D → List Nat
  | [] => []
  | d :: r => sites d ++ sitesL r
end
def apartB : List Nat → Bool
  | [] => true
  | x :: r => match has r x with | true => false | false => apartB r
/- a result, as the caller keeps it: the j-th slice's site is 's + j' -/
mutual
def tak (s : Nat) : D → D
  | .slc t es l => match t with | .own j => .slc (.own (s + j)) es l | t => .slc t es l
  | .agg f cs => match f with | true => .agg true cs | false => .agg false (takL s cs)
  | .tup vs => .tup (takL s vs)
  | .fn f caps => match caps with | [] => .fn f [] | _ => .undef
  | d => d
def takL (s : Nat) : List D → List D
  | [] => []
  | d :: r => tak s d :: takL s r
end
/- is there no slice in a result? -/
mutual
def dry : D → Bool
  | .slc _ _ l => match l with | [] => true | _ => false
  | .view _ _ _ => false
  | .ptr _ _ _ => false
  | .rptr _ => false
  | .fn _ caps => match caps with | [] => true | _ => false
  | .agg f cs => match f with | true => plainL cs | false => dryL cs
  | .tup vs => dryL vs
  | _ => true
def dryL : List D → Bool
  | [] => true
  | d :: r => match dry d with | true => dryL r | false => false
end

/- an argument, as the callee gets it; rows are lent -/
mutual
def lend (M : List (Nat × Ob)) : D → Option D
  | .view s off len => match gt M s with
    | some (.row es l) => some (.slc .no es ((l.drop off).take len))
    | _ => none
  | .slc _ es l => some (.slc .no es l)
  | .agg f cs => match f with
    | true => some (.agg true cs)
    | false => (lendL M cs).bind fun l => match singleL l with | true => some (.agg false l) | false => none
  | .fn f caps => match caps with | [] => some (.fn f []) | _ => none
  | .bool b => some (.bool b)
  | .int k n => some (.int k n)
  | .str s => some (.str s)
  | .nilp => some .nilp
  | .nilf => some .nilf
  | _ => none
def lendL (M : List (Nat × Ob)) : List D → Option (List D)
  | [] => some []
  | d :: r => (lend M d).bind fun x => (lendL M r).bind fun l => some (x :: l)
end

/- does a value hold a view? -/
mutual
def sees : D → Bool
  | .view _ _ _ => true
  | .agg f cs => match f with | true => false | false => seesL cs
  | .tup vs => seesL vs
  | _ => false
def seesL : List D → Bool
  | [] => false
  | d :: r => match sees d with | true => true | false => seesL r
end

/-- the arguments: those that go by a pointer (into a box: what it holds, and how to write it back) are borrowed -/
def prepL (M : List (Nat × Ob)) : List D → List (Option (Bool × Bool × Nat)) → Nat → Option (List D × List (D × Nat × Nat × Bool × Nat))
  | [], _, _ => some ([], [])
  | d :: r, ps, j => match ps with
    | [] => none
    | p :: ps => match p with
      | none => (lend M d).bind fun x => (prepL M r ps j).bind fun q => some (x :: q.1, q.2)
      | some (ag, fl, n) => match d with
        | .ptr s i o => match i with
          | 0 => match gt M s with
            | some (.box c) => (readD ag fl n o c).bind fun y => (bare y).bind fun x => (prepL M r ps (j + 1)).bind fun q => some (.ptr (1000 + j) 0 0 :: q.1, (x, s, o, ag, n) :: q.2)
            | _ => none
          | _ => none
        | _ => none

/-- no box is borrowed twice -/
def lentOnce : List (D × Nat × Nat × Bool × Nat) → List Nat → Bool
  | [], _ => true
  | q :: r, ss => match has ss q.2.1 with | true => false | false => lentOnce r (q.2.1 :: ss)

/-- what was borrowed goes back -/
def back (M : List (Nat × Ob)) : List (D × Nat × Nat × Bool × Nat) → List D → Option (List (Nat × Ob))
  | [], [] => some M
  | (_, s, o, ag, n) :: r, d :: ds => match gt M s with
    | some (.box c) => (writeD ag n o c d).bind fun c' => back (st M s (.box c')) r ds
    | _ => none
  | _, _ => none

def borrowed : List D → Nat → List (Nat × Ob)
  | [], _ => []
  | d :: r, j => (1000 + j, .box d) :: borrowed r (j + 1)
def params : List D → Nat → List (Nat × D)
  | [], _ => []
  | d :: r, j => (j, d) :: params r (j + 1)
/-- what the borrowed boxes hold behind the call -/
def lents (M : List (Nat × Ob)) : Nat → Nat → Option (List D)
  | 0, _ => some []
  | n + 1, j => match gt M (1000 + j) with
    | some (.box d) => (lend M d).bind fun y => (bare y).bind fun x => (lents M n (j + 1)).bind fun l => some (x :: l)
    | _ => none

def resD (T : List (Nat × D)) (M : List (Nat × Ob)) : List Res → Option (List D)
  | [] => some []
  | .t n :: r => (gt T n).bind fun d => (resD T M r).bind fun l => some (d :: l)
  | .cell n ag fl sz :: r => (gt T n).bind fun a => (loadD M ag fl sz a).bind fun d => (resD T M r).bind fun l => some (d :: l)
def wrapR : List D → D
  | [d] => d
  | l => .tup l

abbrev Run := Nat → List D → List D → Option (D × List D)
abbrev Tab := List (Nat × Fn)

/-- where rows were lent, no slice comes back -/
def dryB (args : List D) (r : D) (outs : List D) : Bool := match seesL args with | true => dry r && dryL outs | false => true

/-- a call: its value, and the boxes behind it -/
def callD (Φ : Tab) (run : Run) (M : List (Nat × Ob)) (f : Nat) (args : List D) (s : Nat) : Option (D × List (Nat × Ob)) :=
  (gt Φ f).bind fun fn => (prepL M args fn.ps 0).bind fun q => match lentOnce q.2 [] with
    | false => none
    | true => (run f q.1 (q.2.map (·.1))).bind fun r => match dryB args r.1 r.2 with
      | false => none
      | true => (back M q.2 r.2).bind fun M' => some (tak s r.1, M')

/-- a call in a region's quiet part: nothing is borrowed -/
def qcallD (Φ : Tab) (run : Run) (M : List (Nat × Ob)) (f : Nat) (args : List D) (s : Nat) : Option D :=
  (gt Φ f).bind fun fn => (prepL M args fn.ps 0).bind fun q => match q.2 with
    | _ :: _ => none
    | [] => (run f q.1 []).bind fun r => match r.2 with
      | _ :: _ => none
      | [] => match dryB args r.1 [] with
        | false => none
        | true => some (tak s r.1)

def qall (Φ : Tab) (run : Run) (T : List (Nat × D)) (M : List (Nat × Ob)) (Cn : List Nat) : Op → Option (D × List Nat)
  | .call f args s => (rdvL T args).bind fun args => (qcallD Φ run M f args s).bind fun d => some (d, Cn)
  | .callv f args s => (rdv T f).bind fun f => (rdvL T args).bind fun args => match f with
    | .fn f caps => (qcallD Φ run M f (args ++ caps) s).bind fun d => some (d, Cn)
    | _ => none
  | .alloc s _ => match gt M s with
    | some (.box _) => some (.ptr s 0 0, Cn)
    | _ => none
  | op => qop T M Cn op

def rowOf (z : D) : Nat → List D
  | 0 => []
  | n + 1 => z :: rowOf z n

/-- the elements that a slice shows -/
def shown (M : List (Nat × Ob)) : D → Option (Nat × List D)
  | .slc _ es l => some (es, l)
  | .view s off len => match gt M s with
    | some (.row es l) => some (es, (l.drop off).take len)
    | _ => none
  | _ => none

def copyD (M : List (Nat × Ob)) (a b : D) : Option (D × List (Nat × Ob)) :=
  match a with
  | .view s off len => match gt M s with
    | some (.row es l) => (shown M b).bind fun q => match Nat.beq es q.1 with
      | false => none
      | true => some (.int .i64 (min q.2.length len : Nat), st M s (.row es (l.take off ++ (q.2.take len ++ l.drop (off + min q.2.length len)))))
    | _ => none
  | _ => none

def boxOk (ag : Bool) (n : Nat) : D → Bool
  | .agg _ cs => match ag with | true => Nat.beq cs.length n | false => false
  | d => match ag with | true => false | false => single d
def storeD (M : List (Nat × Ob)) (Cn : List Nat) (ag : Bool) (n : Nat) (a d : D) : Option (D × List (Nat × Ob) × List Nat) :=
  match a with
  | .ptr s i o => match gt M s with
    | some (.box c) => match i with
      | 0 => (writeD ag n o c d).bind fun c' => some (.undef, st M s (.box c'), Cn)
      | _ => none
    | some (.row es l) => (l[i]?).bind fun c => (bare d).bind fun d => (writeD ag n o c d).bind fun c' => some (.undef, st M s (.row es (l.set i c')), Cn)
    | none => none
  | _ => none

/-- any operation -/
def lop (Φ : Tab) (run : Run) (T : List (Nat × D)) (M : List (Nat × Ob)) (Cn : List Nat) : Op → Option (D × List (Nat × Ob) × List Nat)
  | .alloc s z => match gt M s with
    | some _ => none
    | none => some (.ptr s 0 0, st M s (.box z), Cn)
  | .box s ag n x => (rdv T x).bind fun d => match gt M s with
    | some _ => none
    | none => match boxOk ag n d with
      | true => some (.ptr s 0 0, st M s (.box d), Cn)
      | false => none
  | .store ag n a x => (rdv T a).bind fun a => (rdv T x).bind fun d => storeD M Cn ag n a d
  | .mks s es bytes z n m => (rdv T n).bind fun n => (rdv T m).bind fun m => match n, m, gt M s with
    | .int _ i, .int _ j, none => match decide (i = j ∧ 0 ≤ i ∧ i * (bytes : Int) ≤ 281474976710656 ∧ i ≤ 9223372036854775807) with
      | true => some (.view s 0 i.toNat, st M s (.row es (rowOf z i.toNat)), Cn)
      | false => none
    | _, _, _ => none
  | .copy a b => (rdv T a).bind fun a => (rdv T b).bind fun b => (copyD M a b).bind fun q => some (q.1, q.2, Cn)
  | .call f args s => (rdvL T args).bind fun args => (callD Φ run M f args s).bind fun q => some (q.1, q.2, Cn)
  | .callv f args s => (rdv T f).bind fun f => (rdvL T args).bind fun args => match f with
    | .fn f caps => (callD Φ run M f (args ++ caps) s).bind fun q => some (q.1, q.2, Cn)
    | _ => none
  | op => (qop T M Cn op).bind fun q => some (q.1, M, q.2)

def wants (T : List (Nat × D)) : Option (Nat × Bool) → Option Bool
  | none => some true
  | some (g, b) => match gt T g with
    | some (.bool x) => some (x == b)
    | _ => none
def put (T : List (Nat × D)) : Option Nat → D → List (Nat × D)
  | none, _ => T
  | some t, d => st T t d

/-- does an operation write boxes? -/
def isW (wr : List Nat) (i : Nat) : Op → Bool
  | .store _ _ _ _ => true
  | .box _ _ _ _ => true
  | .mks _ _ _ _ _ _ => true
  | .copy _ _ => true
  | .call _ _ _ => has wr i
  | .callv _ _ _ => has wr i
  | _ => false
/-- an operation of a region that draws its order -/
def dop (Φ : Tab) (run : Run) (w : Bool) (T : List (Nat × D)) (M : List (Nat × Ob)) (Cn : List Nat) (c : Op) : Option (D × List (Nat × Ob) × List Nat) :=
  match w with
  | true => lop Φ run T M Cn c
  | false => (qall Φ run T M Cn c).bind fun q => some (q.1, M, q.2)
def dsteps (Φ : Tab) (run : Run) (wr : List Nat) : Nat → List Io → List (Nat × D) → List (Nat × Ob) → List Nat → Option (List (Nat × D) × List (Nat × Ob) × List Nat)
  | _, [], T, M, Cn => some (T, M, Cn)
  | i, o :: r, T, M, Cn => (wants T o.guard).bind fun b => match b with
    | true => (dop Φ run (isW wr i o.op) T M Cn o.op).bind fun q => dsteps Φ run wr (i + 1) r (put T o.dst q.1) q.2.1 q.2.2
    | false => dsteps Φ run wr (i + 1) r (put T o.dst .undef) M Cn
def lsteps (Φ : Tab) (run : Run) : List Io → List (Nat × D) → List (Nat × Ob) → List Nat → Option (List (Nat × D) × List (Nat × Ob) × List Nat)
  | [], T, M, Cn => some (T, M, Cn)
  | o :: r, T, M, Cn => (wants T o.guard).bind fun b => match b with
    | true => (lop Φ run T M Cn o.op).bind fun q => lsteps Φ run r (put T o.dst q.1) q.2.1 q.2.2
    | false => lsteps Φ run r (put T o.dst .undef) M Cn

def pT (ss : List Nat) (T : List (Nat × D)) : List (Nat × D) := match ss with | [] => T | _ :: _ => pgT ss T
def pM (ss : List Nat) (M : List (Nat × Ob)) : List (Nat × Ob) := match ss with | [] => M | _ :: _ => pgM ss M
def rmk {α : Type} (T : List (Nat × α)) (ks : List Nat) : List (Nat × α) := match ks with | [] => T | _ :: _ => rm T ks

/-- the boxes that a region's quiet part makes -/
def preM : List Io → List (Nat × Ob) → Option (List (Nat × Ob))
  | [], M => some M
  | o :: r, M => match o.op with
    | .alloc s z => match o.guard, gt M s with
      | none, none => preM r (st M s (.box z))
      | _, _ => none
    | _ => preM r M

def evReg (Φ : Tab) (run : Run) (ops : List Io) (wr : Option (List Nat)) (defs kills boxes : List Nat) (T : List (Nat × D)) (M : List (Nat × Ob)) : Option (List (Nat × D) × List (Nat × Ob)) :=
  (match wr with
    | none => lsteps Φ run ops (pT defs T) (pM defs M) []
    | some l => (preM ops (pM defs M)).bind fun M1 => dsteps Φ run l 0 ops (pT defs T) M1 []).bind fun q =>
    some (pT boxes (rmk (pT q.2.2 q.1) kills), pM boxes (rmk (pM q.2.2 q.2.1) boxes))

def runWith (Φ : Tab) (go : C → List (Nat × D) → List (Nat × Ob) → Option (Ex × List (Nat × D) × List (Nat × Ob))) : Run := fun f args bs =>
  (gt Φ f).bind fun fn => match Nat.beq args.length fn.np with
    | false => none
    | true => (go fn.body (params args 0) (borrowed bs 0)).bind fun q => match q.1 with
      | .exit _ => none
      | _ => (resD q.2.1 q.2.2 fn.res).bind fun l => match apartB (sitesL l) with
        | false => none
        | true => (giv q.2.2 0 (wrapR l)).bind fun x => match Nat.ble x.2 16 with
            | false => none
            | true => (lents q.2.2 bs.length 0).bind fun outs => some (x.1, outs)

def ev (Φ : Tab) : Nat → C → List (Nat × D) → List (Nat × Ob) → Option (Ex × List (Nat × D) × List (Nat × Ob))
  | 0, _, _, _ => none
  | n + 1, c, T, M => match c with
    | .skip => some (.normal, T, M)
    | .bad => none
    | .ret => some (.ret, T, M)
    | .exit id => some (.exit id, T, M)
    | .seq a b => (ev Φ n a T M).bind fun q => match q.1 with
      | .normal => ev Φ n b q.2.1 q.2.2
      | .ret => some (.ret, q.2)
      | .exit id => some (.exit id, q.2)
    | .cond x a b => (rdv T x).bind fun d => match d with
      | .bool true => ev Φ n a T M
      | .bool false => ev Φ n b T M
      | _ => none
    | .block id a => (ev Φ n a T M).bind fun q => match q.1 with
      | .exit id' => match Nat.beq id' id with
        | true => some (.normal, q.2)
        | false => some (.exit id', q.2)
      | .normal => some (.normal, q.2)
      | .ret => some (.ret, q.2)
    | .loop a => (ev Φ n a T M).bind fun q => match q.1 with
      | .normal => ev Φ n (.loop a) q.2.1 q.2.2
      | .ret => some (.ret, q.2)
      | .exit id => some (.exit id, q.2)
    | .reg ops wr defs kills boxes => (evReg Φ (runWith Φ (ev Φ n)) ops wr defs kills boxes T M).bind fun q => some (.normal, q)
    | .kill kills boxes c => ev Φ n c (pT boxes (rmk T kills)) (pM boxes (rmk M boxes))
    | .dull ks c => ev Φ n c (dullT ks T) (dullM M)
    | .retok t s c => match gt T t with
      | some (.slc k es l) => match k with
        | .no => none
        | .full => ev Φ n c (st (pT [s] T) t (.slc (.own s) es l)) (pM [s] M)
        | .own s0 => ev Φ n c (st (pT [s0, s] T) t (.slc (.own s) es l)) (pM [s0, s] M)
      | _ => none

def runF (Φ : Tab) (n : Nat) : Run := runWith Φ (ev Φ n)
end Go.YtnpoikgkhhpdgaaDoorE

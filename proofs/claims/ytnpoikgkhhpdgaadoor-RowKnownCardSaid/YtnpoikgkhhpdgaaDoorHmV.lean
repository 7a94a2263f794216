/-
  slices.Insert, as it is printed: the template; its runs where the capacity is known.
-/
import Derived.Test.YtnpoikgkhhpdgaaDoorHmS
set_option linter.unusedSimpArgs false
namespace Go.YtnpoikgkhhpdgaaDoorH
variable {run : Run} {y : Yld} {H : Heap} {T : Tm}

def insC (es by_ : Nat) (z : List V) : C :=
 (.seq (.reg [⟨some 6, none, 0, 0, .mv (.k (.nils))⟩])
 (.seq (.reg [⟨some 10, none, 0, 0, .mv (.t 0)⟩,
  ⟨some 11, none, 0, 0, .mv (.t 1)⟩,
  ⟨some 12, none, 0, 0, .sl es (.t 10) (some (.t 11)) none none⟩])
 (.seq (.reg [⟨some 13, none, 0, 0, .mv (.t 2)⟩,
  ⟨some 14, none, 0, 0, .len false (.t 13)⟩,
  ⟨some 7, none, 0, 0, .mv (.t 14)⟩])
 (.seq (.seq (.reg [⟨some 15, none, 0, 0, .mv (.t 7)⟩,
  ⟨some 16, none, 0, 0, .bin .eql (.t 15) (.k (.int .i64 0))⟩])
 (.cond (.t 16)
 (.seq (.reg [⟨some 17, none, 0, 0, .mv (.t 0)⟩,
  ⟨some 6, none, 0, 0, .mv (.t 17)⟩])
 .ret)
 .skip))
 (.seq (.reg [⟨some 18, none, 0, 0, .mv (.t 0)⟩,
  ⟨some 19, none, 0, 0, .len false (.t 18)⟩,
  ⟨some 8, none, 0, 0, .mv (.t 19)⟩])
 (.seq (.seq (.reg [⟨some 20, none, 0, 0, .mv (.t 1)⟩,
  ⟨some 21, none, 0, 0, .mv (.t 8)⟩,
  ⟨some 22, none, 0, 0, .bin .eql (.t 20) (.t 21)⟩])
 (.cond (.t 22)
 (.seq (.reg [⟨some 23, none, 0, 0, .mv (.t 0)⟩,
  ⟨some 24, none, 0, 0, .mv (.t 2)⟩,
  ⟨some 25, none, 0, 0, .app es by_ z (.t 23) (.t 24)⟩,
  ⟨some 6, none, 0, 0, .mv (.t 25)⟩])
 .ret)
 .skip))
 (.seq (.seq (.reg [⟨some 26, none, 0, 0, .mv (.t 8)⟩,
  ⟨some 27, none, 0, 0, .mv (.t 7)⟩,
  ⟨some 28, none, 0, 0, .bin .add (.t 26) (.t 27)⟩,
  ⟨some 29, none, 0, 0, .mv (.t 0)⟩,
  ⟨some 30, none, 0, 0, .cap (.t 29)⟩,
  ⟨some 31, none, 0, 0, .bin .gtr (.t 28) (.t 30)⟩])
 (.cond (.t 31)
 (.seq (.reg [⟨some 32, none, 0, 0, .mv (.t 0)⟩,
  ⟨some 33, none, 0, 0, .mv (.t 1)⟩,
  ⟨some 34, none, 0, 0, .sl es (.t 32) none (some (.t 33)) none⟩,
  ⟨some 35, none, 0, 0, .mv (.t 8)⟩,
  ⟨some 36, none, 0, 0, .mv (.t 7)⟩,
  ⟨some 37, none, 0, 0, .bin .add (.t 35) (.t 36)⟩,
  ⟨some 38, none, 0, 0, .mv (.t 1)⟩,
  ⟨some 39, none, 0, 0, .bin .sub (.t 37) (.t 38)⟩,
  ⟨some 40, none, 0, 0, .appz es by_ z (.t 34) (.t 39)⟩,
  ⟨some 9, none, 0, 0, .mv (.t 40)⟩])
 (.seq (.reg [⟨some 41, none, 0, 0, .mv (.t 9)⟩,
  ⟨some 42, none, 0, 0, .mv (.t 1)⟩,
  ⟨some 43, none, 0, 0, .sl es (.t 41) (some (.t 42)) none none⟩,
  ⟨some 44, none, 0, 0, .mv (.t 2)⟩,
  ⟨some 45, none, 0, 0, .copy es (.t 43) (.t 44)⟩])
 (.seq (.drw [⟨some 46, none, 0, 0, .mv (.t 9)⟩,
  ⟨some 47, none, 0, 0, .mv (.t 1)⟩,
  ⟨some 48, none, 0, 0, .mv (.t 7)⟩,
  ⟨some 49, none, 0, 0, .bin .add (.t 47) (.t 48)⟩,
  ⟨some 50, none, 0, 0, .sl es (.t 46) (some (.t 49)) none none⟩,
  ⟨some 51, none, 0, 0, .mv (.t 0)⟩,
  ⟨some 52, none, 0, 0, .mv (.t 1)⟩,
  ⟨some 53, none, 0, 0, .sl es (.t 51) (some (.t 52)) none none⟩,
  ⟨some 54, none, 0, 0, .copy es (.t 50) (.t 53)⟩])
 (.seq (.reg [⟨some 55, none, 0, 0, .mv (.t 9)⟩,
  ⟨some 6, none, 0, 0, .mv (.t 55)⟩])
 .ret))))
 .skip))
 (.seq (.reg [⟨some 56, none, 0, 0, .mv (.t 0)⟩,
  ⟨some 57, none, 0, 0, .mv (.t 8)⟩,
  ⟨some 58, none, 0, 0, .mv (.t 7)⟩,
  ⟨some 59, none, 0, 0, .bin .add (.t 57) (.t 58)⟩,
  ⟨some 60, none, 0, 0, .sl es (.t 56) none (some (.t 59)) none⟩,
  ⟨some 0, none, 0, 0, .mv (.t 60)⟩])
 (.seq (.seq (.reg [⟨some 61, none, 0, 0, .mv (.t 2)⟩,
  ⟨some 62, none, 0, 0, .mv (.t 0)⟩,
  ⟨some 63, none, 0, 0, .mv (.t 1)⟩,
  ⟨some 64, none, 0, 0, .mv (.t 7)⟩,
  ⟨some 65, none, 0, 0, .bin .add (.t 63) (.t 64)⟩,
  ⟨some 66, none, 0, 0, .sl es (.t 62) (some (.t 65)) none none⟩,
  ⟨some 67, none, 0, 0, .nat 1 [.t 61, .t 66]⟩,
  ⟨some 68, none, 0, 0, .un .not (.t 67)⟩])
 (.cond (.t 68)
 (.seq (.drw [⟨some 69, none, 0, 0, .mv (.t 0)⟩,
  ⟨some 70, none, 0, 0, .mv (.t 1)⟩,
  ⟨some 71, none, 0, 0, .mv (.t 7)⟩,
  ⟨some 72, none, 0, 0, .bin .add (.t 70) (.t 71)⟩,
  ⟨some 73, none, 0, 0, .sl es (.t 69) (some (.t 72)) none none⟩,
  ⟨some 74, none, 0, 0, .mv (.t 0)⟩,
  ⟨some 75, none, 0, 0, .mv (.t 1)⟩,
  ⟨some 76, none, 0, 0, .sl es (.t 74) (some (.t 75)) none none⟩,
  ⟨some 77, none, 0, 0, .copy es (.t 73) (.t 76)⟩])
 (.seq (.reg [⟨some 78, none, 0, 0, .mv (.t 0)⟩,
  ⟨some 79, none, 0, 0, .mv (.t 1)⟩,
  ⟨some 80, none, 0, 0, .sl es (.t 78) (some (.t 79)) none none⟩,
  ⟨some 81, none, 0, 0, .mv (.t 2)⟩,
  ⟨some 82, none, 0, 0, .copy es (.t 80) (.t 81)⟩])
 (.seq (.reg [⟨some 83, none, 0, 0, .mv (.t 0)⟩,
  ⟨some 6, none, 0, 0, .mv (.t 83)⟩])
 .ret)))
 .skip))
 .bad)))))))))

theorem x_mv (n : Nat) : exec run y (.mv (.t n)) T H = toVa (gt T n) := rfl
theorem x_mvk (v : V) : exec run y (.mv (.k v)) T H = .va v := rfl
theorem toVa_some (v : V) : toVa (some v) = .va v := rfl
theorem put_some (T : Tm) (t : Nat) (v : V) : put T (some t) v = (t, v) :: T := rfl
theorem x_bin (op : BinOp) (a b : Nat) : exec run y (.bin op (.t a) (.t b)) T H = toVa (ob (gt T a) fun x => ob (gt T b) fun z => binV op x z) := rfl
theorem x_bink (op : BinOp) (a : Nat) (v : V) : exec run y (.bin op (.t a) (.k v)) T H = toVa (ob (gt T a) fun x => binV op x v) := rfl
theorem ob_s {α β : Type} (x : α) (f : α → Option β) : ob (some x) f = f x := rfl
theorem x_len (n : Nat) : exec run y (.len false (.t n)) T H = toVa (ob (gt T n) (lenV false)) := rfl
theorem x_cap (n : Nat) : exec run y (.cap (.t n)) T H = toVa (ob (gt T n) capV) := rfl
theorem x_un (op : UnOp) (n : Nat) : exec run y (.un op (.t n)) T H = toVa (ob (gt T n) (unV op)) := rfl
theorem x_slL (es a l : Nat) : exec run y (.sl es (.t a) (some (.t l)) none none) T H = toVa (ob (gt T a) fun x => ob (gt T l) fun lo => slV es (roomOf H es x) (some lo) none none x) := by
  show toVa (ob (gt T a) fun x => ob (ob (gt T l) fun d => some (some d)) fun lo => slV es (roomOf H es x) lo none none x) = _
  cases gt T l <;> rfl
theorem x_slH (es a l : Nat) : exec run y (.sl es (.t a) none (some (.t l)) none) T H = toVa (ob (gt T a) fun x => ob (gt T l) fun hi => slV es (roomOf H es x) none (some hi) none x) := by
  show toVa (ob (gt T a) fun x => ob (ob (gt T l) fun d => some (some d)) fun hi => slV es (roomOf H es x) none hi none x) = _
  cases gt T l <;> rfl
theorem x_copy (es a b : Nat) : exec run y (.copy es (.t a) (.t b)) T H = toEf (ob (gt T a) fun a => ob (gt T b) fun b => ob (slCells H es (cutV (lenS a) b)) fun q => copyTo es H q a) := rfl
theorem x_app (es by_ : Nat) (z : List V) (a b : Nat) : exec run y (.app es by_ z (.t a) (.t b)) T H = toEf (ob (gt T a) fun a => ob (gt T b) fun b => appH es by_ H a b) := rfl
theorem x_appz (es by_ : Nat) (z : List V) (a b : Nat) : exec run y (.appz es by_ z (.t a) (.t b)) T H = toEf (ob (gt T a) fun a => ob (gt T b) fun b => appzH es by_ z H a b) := rfl
theorem x_nat (k a b : Nat) : exec run y (.nat k [.t a, .t b]) T H = toVa (ob (gt T a) fun a => ob (gt T b) fun b => natV H k [a, b]) := by
  show toVa (ob (ob (gt T a) fun d => ob (ob (gt T b) fun d => ob (some []) fun l => some (d :: l)) fun l => some (d :: l)) (natV H k)) = _
  cases gt T a with
  | none => rfl
  | some x => cases gt T b <;> rfl
theorem ev_seq (L : Nat) (a b : C) : evC run y L (.seq a b) T H = thenO (evC run y L b) (evC run y L a T H) := rfl
theorem ev_cond (L : Nat) (x : Rd) (a b : C) : evC run y L (.cond x a b) T H = condO (rdv T x) (evC run y L a T H) (evC run y L b T H) := rfl
theorem ev_reg (L : Nat) (ops : List Io) : evC run y L (.reg ops) T H = lsteps run y ops T H := rfl
theorem ev_drw (L : Nat) (ops : List Io) : evC run y L (.drw ops) T H = dOut (dgo run y ops T H) := rfl
theorem ev_skip (L : Nat) : evC run y L .skip T H = .nrm T H := rfl
theorem ev_ret (L : Nat) : evC run y L .ret T H = .ret T H := rfl
theorem then_nrm (k : Tm → Heap → Out) : thenO k (.nrm T H) = k T H := rfl
theorem then_ret (k : Tm → Heap → Out) : thenO k (.ret T H) = .ret T H := rfl
theorem cond_t (a b : Out) : condO (some (.bool true)) a b = a := rfl
theorem cond_f (a b : Out) : condO (some (.bool false)) a b = b := rfl
theorem add_small {a b : Nat} (h : a + b ≤ 9223372036854775807) : binV .add (.int .i64 (a : Nat)) (.int .i64 (b : Nat)) = some (.int .i64 ((a + b : Nat) : Int)) := by
  show ite1 (keq .i64 .i64) (iAdd .i64 a b) none = _
  rw [keq_refl, ite1_t]
  show some (V.int .i64 (wrapF .i64 ((a : Int) + (b : Int)))) = _
  rw [wrapF_eq, YtnpoikgkhhpdgaaDoorE.wrap_small (by omega) (by omega)]
  rfl
theorem sub_small {a b : Nat} (h : b ≤ a) (h2 : a ≤ 9223372036854775807) : binV .sub (.int .i64 (a : Nat)) (.int .i64 (b : Nat)) = some (.int .i64 ((a - b : Nat) : Int)) := by
  show ite1 (keq .i64 .i64) (iSub .i64 a b) none = _
  rw [keq_refl, ite1_t]
  show some (V.int .i64 (wrapF .i64 ((a : Int) - (b : Int)))) = _
  rw [wrapF_eq, YtnpoikgkhhpdgaaDoorE.wrap_small (by omega) (by omega)]
  congr 2; omega
theorem eql_nat (a b : Nat) : binV .eql (.int .i64 (a : Nat)) (.int .i64 (b : Nat)) = some (.bool (Nat.beq a b)) := rfl
theorem gtr_nat (a b : Nat) : binV .gtr (.int .i64 (a : Nat)) (.int .i64 (b : Nat)) = some (.bool (Nat.blt b a)) := rfl
theorem bnd_nat {a b i : Nat} (h1 : a ≤ i) (h2 : i ≤ b) : bnd a b (.int .i64 (i : Nat)) = some i := by
  show ite1 (Nat.ble a i && Nat.ble i b) (some i) none = _
  rw [Nat.ble_eq_true_of_le h1, Nat.ble_eq_true_of_le h2]; rfl
/-- s[i:], s[:i] where the capacity is known -/
theorem slV_lo {es kc id off n c i : Nat} (h : i ≤ n) : slV es kc (some (.int .i64 (i : Nat))) none none (.sl id off es n (some c)) = some (.sl id (ite1 (Nat.beq c i) off (off + i * es)) es (n - i) (some (c - i))) := by
  show ite1 (Nat.beq es es) (ob (some c) fun m => ob (some n) fun j => ob (bnd 0 j (.int .i64 (i : Nat))) fun i => some (V.sl id (ite1 (Nat.beq m i) off (off + i * es)) es (j - i) (some (m - i)))) none = _
  rw [Nat.beq_refl, ite1_t, ob_s, ob_s, bnd_nat (Nat.zero_le _) h, ob_s]
theorem slV_hi {es kc id off n c i : Nat} (h : i ≤ c) : slV es kc none (some (.int .i64 (i : Nat))) none (.sl id off es n (some c)) = some (.sl id (ite1 (Nat.beq c 0) off (off + 0 * es)) es (i - 0) (some (c - 0))) := by
  show ite1 (Nat.beq es es) (ob (some c) fun m => ob (bnd 0 m (.int .i64 (i : Nat))) fun j => ob (some 0) fun i => some (V.sl id (ite1 (Nat.beq m i) off (off + i * es)) es (j - i) (some (m - i)))) none = _
  rw [Nat.beq_refl, ite1_t, ob_s, bnd_nat (Nat.zero_le _) h, ob_s, ob_s]
/-- s[i:] where it is not, i below the length -/
theorem slV_loU {es kc id off n i : Nat} (h : i ≤ n) (hk : i < kc) : slV es kc (some (.int .i64 (i : Nat))) none none (.sl id off es n none) = some (.sl id (off + i * es) es (n - i) none) := by
  show ite1 (Nat.beq es es) (ob (some n) fun j => ob (bnd 0 j (.int .i64 (i : Nat))) fun i => ite1 (Nat.blt i kc) (some (V.sl id (off + i * es) es (j - i) none)) (some .sle)) none = _
  rw [Nat.beq_refl, ite1_t, ob_s, bnd_nat (Nat.zero_le _) h, ob_s]
  rw [show Nat.blt i kc = true from Nat.ble_eq_true_of_le hk, ite1_t]
theorem vaOf_va (v : V) : vaOf (.va v) = some v := rfl
theorem efOf_ef (v : V) : efOf (.ef v H) = some (v, H) := rfl
theorem toEf_some (v : V) : toEf (some (v, H)) = .ef v H := rfl
theorem wants_n (T : Tm) : wants T none = some true := rfl
theorem dOut_some : dOut (some (T, H)) = .nrm T H := rfl
theorem rdv_t' (T : Tm) (n : Nat) : rdv T (.t n) = gt T n := rfl
theorem lenV_sl (id off es n : Nat) (c : Option Nat) : lenV false (.sl id off es n c) = some (.int .i64 (n : Nat)) := rfl
theorem lenS_sl (id off es n : Nat) (c : Option Nat) : lenS (.sl id off es n c) = n := rfl
theorem capV_sl (id off es n c : Nat) : capV (.sl id off es n (some c)) = some (.int .i64 (c : Nat)) := rfl
set_option maxHeartbeats 4000000 in
theorem insC_grow {es by_ : Nat} {z : List V} {L id n c i m q m1 m2 : Nat} {v r1 r2 : V} {lv l2 : List V} {H1 H2 H3 : Heap} (hm : 0 < m) (hi : i < n) (hc : n ≤ c) (hg : c < n + m) (hb : n + m ≤ 9223372036854775807)
    (hlv : lenV false v = some (.int .i64 (m : Nat)))
    (hA : appzH es by_ z H (.sl id (ite1 (Nat.beq c 0) 0 0) es i (some c)) (.int .i64 ((n + m - i : Nat) : Int)) = some (.sl q 0 es (n + m) none, H1))
    (hr1 : i < roomOf H1 es (.sl q 0 es (n + m) none)) (hs1 : slCells H1 es (cutV (n + m - i) v) = some (m1, lv)) (hk1 : copyTo es H1 (m1, lv) (.sl q (i * es) es (n + m - i) none) = some (r1, H2))
    (hr2 : i + m < roomOf H2 es (.sl q 0 es (n + m) none)) (hs2 : slCells H2 es (cutV (n + m - (i + m)) (.sl id (ite1 (Nat.beq c i) 0 (i * es)) es (n - i) (some (c - i)))) = some (m2, l2))
    (hk2 : copyTo es H2 (m2, l2) (.sl q ((i + m) * es) es (n + m - (i + m)) none) = some (r2, H3)) :
    finO [.t 6] (evC run y L (insC es by_ z) [(0, .sl id 0 es n (some c)), (1, .int .i64 (i : Nat)), (2, v)] H) = some (.sl q 0 es (n + m) none, H3) := by
  have b1 : Nat.beq m 0 = false := by cases m with | zero => omega | succ k => rfl
  have b2 : Nat.beq i n = false := by
    cases h : Nat.beq i n with
    | false => rfl
    | true => have := Nat.eq_of_beq_eq_true h; omega
  have b3 : Nat.blt c (n + m) = true := Nat.ble_eq_true_of_le hg
  have e0 : binV .eql (.int .i64 (m : Nat)) (.int .i64 0) = some (.bool (Nat.beq m 0)) := rfl
  have a1 := add_small (a := n) (b := m) hb
  have a2 := add_small (a := i) (b := m) (by omega)
  have a3 := sub_small (a := n + m) (b := i) (by omega) hb
  have s1 := fun kc => slV_lo (es := es) (kc := kc) (id := id) (off := 0) (n := n) (c := c) (i := i) (by omega)
  have s2 := fun kc => slV_hi (es := es) (kc := kc) (id := id) (off := 0) (n := n) (c := c) (i := i) (by omega)
  have s3 := slV_loU (es := es) (id := q) (off := 0) (n := n + m) (i := i) (by omega) hr1
  have s4 := slV_loU (es := es) (id := q) (off := 0) (n := n + m) (i := i + m) (by omega) hr2
  have e1 := eql_nat i n
  rw [Nat.zero_add] at s3 s4
  simp only [Nat.zero_add, Nat.zero_mul, Nat.sub_zero] at s1 s2
  have e2 := gtr_nat (n + m) c
  have g1 : ∀ (p : Nat × V) (T : Tm) (n : Nat), gt (p :: T) n = if n = p.1 then some p.2 else gt T n := gt_cons
  simp [insC, ev_seq, ev_reg, ev_cond, ev_skip, ev_ret, lsteps_cons, lsteps_nil, step1_eq, wants_n, x_mv, x_mvk, x_len, x_cap, x_slL, x_slH, x_bin, x_bink, x_appz, x_copy, g1, toVa_some, toEf_some, after1_va, after1_ef, put_some, then_nrm, then_ret, rdv_t', rdv_k, ob_s, s1, s2, s3, hlv, lenV_sl, capV_sl, e0, e1, e2, b1, b2, b3, a1, a2, a3, cond_t, cond_f, hA, hs1, hk1, -Int.natCast_add, ev_drw, dgo, anyF, isF, dseq, isW, drop, vaOf_va, efOf_ef, dchk, dHs, dT, dH, dOut_some, s4, hs2, hk2, finO, fin, endD, resV, wrapR, kD, lenS_sl]
theorem unV_not (b : Bool) : unV .not (.bool b) = some (.bool (!b)) := rfl
theorem beq_ne {a b : Nat} (h : a ≠ b) : Nat.beq a b = false := by
  cases hb : Nat.beq a b with
  | false => rfl
  | true => exact absurd (Nat.eq_of_beq_eq_true hb) h
set_option maxHeartbeats 4000000 in
theorem insC_shift {es by_ : Nat} {z : List V} {L id n c i m m1 m2 : Nat} {v r1 r2 : V} {l1 l2 : List V} {H1 H2 : Heap} (hm : 0 < m) (hi : i < n) (hg : n + m ≤ c) (hb : n + m ≤ 9223372036854775807)
    (hlv : lenV false v = some (.int .i64 (m : Nat)))
    (hO : natV H 1 [v, .sl id ((i + m) * es) es (n + m - (i + m)) (some (c - (i + m)))] = some (.bool false))
    (hs1 : slCells H es (cutV (n + m - (i + m)) (.sl id (i * es) es (n + m - i) (some (c - i)))) = some (m1, l1)) (hk1 : copyTo es H (m1, l1) (.sl id ((i + m) * es) es (n + m - (i + m)) (some (c - (i + m)))) = some (r1, H1))
    (hs2 : slCells H1 es (cutV (n + m - i) v) = some (m2, l2)) (hk2 : copyTo es H1 (m2, l2) (.sl id (i * es) es (n + m - i) (some (c - i))) = some (r2, H2)) :
    finO [.t 6] (evC run y L (insC es by_ z) [(0, .sl id 0 es n (some c)), (1, .int .i64 (i : Nat)), (2, v)] H) = some (.sl id 0 es (n + m) (some c), H2) := by
  have b1 : Nat.beq m 0 = false := beq_ne (by omega)
  have b2 : Nat.beq i n = false := beq_ne (by omega)
  have b4 : Nat.beq c 0 = false := beq_ne (by omega)
  have b5 : Nat.beq c i = false := beq_ne (by omega)
  have b6 : Nat.beq c (i + m) = false := beq_ne (by omega)
  have b3 : Nat.blt c (n + m) = false := by
    cases h : Nat.blt c (n + m) with
    | false => rfl
    | true => have := blt_lt h; omega
  have e0 : binV .eql (.int .i64 (m : Nat)) (.int .i64 0) = some (.bool (Nat.beq m 0)) := rfl
  have a1 := add_small (a := n) (b := m) hb
  have a2 := add_small (a := i) (b := m) (by omega)
  have s1 := fun kc => slV_lo (es := es) (kc := kc) (id := id) (off := 0) (n := n) (c := c) (i := i) (by omega)
  have s2 := fun kc => slV_hi (es := es) (kc := kc) (id := id) (off := 0) (n := n) (c := c) (i := n + m) (by omega)
  have s3 := fun kc => slV_lo (es := es) (kc := kc) (id := id) (off := 0) (n := n + m) (c := c) (i := i + m) (by omega)
  have s4 := fun kc => slV_lo (es := es) (kc := kc) (id := id) (off := 0) (n := n + m) (c := c) (i := i) (by omega)
  have e1 := eql_nat i n
  have e2 := gtr_nat (n + m) c
  simp only [Nat.zero_add, Nat.zero_mul, Nat.sub_zero, b4, b5, b6, ite1_f] at s1 s2 s3 s4
  have g1 : ∀ (p : Nat × V) (T : Tm) (n : Nat), gt (p :: T) n = if n = p.1 then some p.2 else gt T n := gt_cons
  simp [insC, ev_seq, ev_reg, ev_cond, ev_skip, ev_ret, lsteps_cons, lsteps_nil, step1_eq, wants_n, x_mv, x_mvk, x_len, x_cap, x_slL, x_slH, x_bin, x_bink, x_appz, x_copy, g1, toVa_some, toEf_some, after1_va, after1_ef, put_some, then_nrm, then_ret, rdv_t', rdv_k, ob_s, s1, s2, s3, hlv, lenV_sl, capV_sl, e0, e1, e2, b1, b2, b3, a1, a2, cond_t, cond_f, hO, hs1, hk1, x_nat, x_un, unV_not, -Int.natCast_add, ev_drw, dgo, anyF, isF, dseq, isW, drop, vaOf_va, efOf_ef, dchk, dHs, dT, dH, dOut_some, s4, hs2, hk2, finO, fin, endD, resV, wrapR, kD, lenS_sl]
/-- at the end -/
theorem insC_end {es by_ : Nat} {z : List V} {L id n c m : Nat} {v r : V} {H1 : Heap} (hm : 0 < m)
    (hlv : lenV false v = some (.int .i64 (m : Nat))) (hA : appH es by_ H (.sl id 0 es n (some c)) v = some (r, H1)) :
    finO [.t 6] (evC run y L (insC es by_ z) [(0, .sl id 0 es n (some c)), (1, .int .i64 (n : Nat)), (2, v)] H) = some (r, H1) := by
  have b1 : Nat.beq m 0 = false := beq_ne (by omega)
  have e0 : binV .eql (.int .i64 (m : Nat)) (.int .i64 0) = some (.bool (Nat.beq m 0)) := rfl
  have s1 := fun kc => slV_lo (es := es) (kc := kc) (id := id) (off := 0) (n := n) (c := c) (i := n) (Nat.le_refl _)
  have e1 := eql_nat n n
  have g1 : ∀ (p : Nat × V) (T : Tm) (n : Nat), gt (p :: T) n = if n = p.1 then some p.2 else gt T n := gt_cons
  simp [insC, ev_seq, ev_reg, ev_cond, ev_skip, ev_ret, lsteps_cons, lsteps_nil, step1_eq, wants_n, b1, hA, x_mv, x_mvk, x_len, x_slL, x_bin, x_bink, x_app, g1, toVa_some, toEf_some, after1_va, after1_ef, put_some, then_nrm, then_ret, rdv_t', ob_s, s1, hlv, lenV_sl, e0, e1, cond_t, cond_f, -Int.natCast_add, finO, fin, endD, resV, wrapR, kD]
/-- nothing to insert -/
theorem insC_none {es by_ : Nat} {z : List V} {L id n c i : Nat} {v : V} (hi : i ≤ n)
    (hlv : lenV false v = some (.int .i64 0)) :
    finO [.t 6] (evC run y L (insC es by_ z) [(0, .sl id 0 es n (some c)), (1, .int .i64 (i : Nat)), (2, v)] H) = some (.sl id 0 es n (some c), H) := by
  have e0 : binV .eql (.int .i64 0) (.int .i64 0) = some (.bool true) := rfl
  have s1 := fun kc => slV_lo (es := es) (kc := kc) (id := id) (off := 0) (n := n) (c := c) (i := i) hi
  have g1 : ∀ (p : Nat × V) (T : Tm) (n : Nat), gt (p :: T) n = if n = p.1 then some p.2 else gt T n := gt_cons
  simp [insC, ev_seq, ev_reg, ev_cond, ev_skip, ev_ret, lsteps_cons, lsteps_nil, step1_eq, wants_n, x_mv, x_mvk, x_len, x_slL, x_bin, x_bink, g1, toVa_some, toEf_some, after1_va, after1_ef, put_some, then_nrm, then_ret, rdv_t', ob_s, s1, hlv, lenV_sl, e0, cond_t, cond_f, -Int.natCast_add, finO, fin, endD, resV, wrapR, kD]
end Go.YtnpoikgkhhpdgaaDoorH

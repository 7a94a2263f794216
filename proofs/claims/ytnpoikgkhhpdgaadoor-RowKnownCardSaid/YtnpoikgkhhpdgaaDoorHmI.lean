/-
  Every operation that reads does what its run says.
-/
import Derived.Test.YtnpoikgkhhpdgaaDoorHmG
import Derived.Laws.BytesString
import Derived.Lib.Overlaps
import Derived.Lib.IndexEntry
namespace Go.YtnpoikgkhhpdgaaDoorH
open Go.RowKit
open Go.YtnpoikgkhhpdgaaDoorE (tAgg tSize run_isAgg' run_sizeOf' add_off cell_of_heap args1 args2)
variable {P : Program} {gl : List Nat} {w0 : World} {ι κ : Inj} {H H' : Heap} {w w' : World} {T T' : Tm} {a : Act} {N : Nat} {run : Run} {y : Yld} {o : Oper}

section

theorem e_bin (hH : HR P gl w0 ι H w) (hT : TmOk ι T a.tmps) {op : BinOp} {x z : Rd} {v : V} (ok : okOp P gl o.op (.bin op x z) = true) (h : exec run y (.bin op x z) T H = .va v) : Did P ι w a o v := by
  obtain ⟨d, e, h1, h2, h3⟩ := rd2_inv (toVa_inv h)
  simp only [okOp] at ok
  split at ok <;> first | (cases ok; done) | skip
  rename_i op' t x' y' _ ho
  simp only [Bool.and_eq_true, decide_eq_true_eq] at ok
  obtain ⟨⟨rfl, ok1⟩, ok2⟩ := ok
  obtain ⟨r, h4, h5⟩ := binV_sound (P := P) (w := w) (rd_sound hH hT ok1 h1) (rd_sound hH hT ok2 h2) h3 t x' y'
  refine ⟨r, ?_, h5⟩
  simp only [execOp, ho, Sem.run_bind]
  simp only [Sem.run_bind] at h4
  cases hg : (eqGuard op' t x' y' (a.eval x') (a.eval y')).run P w with
  | ok u w1 => rw [hg] at h4; simp only [Result.andThen_ok] at h4 ⊢; rw [h4]; rfl
  | halt q w1 => rw [hg] at h4; cases h4
theorem guarded {op : BinOp} {t : TypeId} {x' y' : Operand} {ty2 : TypeId} {r : Value} (ho : o.op = .binOp op t x' y' ty2)
    (h4 : (do eqGuard op t x' y' (a.eval x') (a.eval y'); binOp op t (a.eval x') (a.eval y') : Sem Value).run P w = .ok r w) : (execOp a.eval o).run P w = .ok (.value r) w := by
  simp only [execOp, ho, Sem.run_bind]
  simp only [Sem.run_bind] at h4
  cases hg : (eqGuard op t x' y' (a.eval x') (a.eval y')).run P w with
  | ok u w1 => rw [hg] at h4; simp only [Result.andThen_ok] at h4 ⊢; rw [h4]; rfl
  | halt q w1 => rw [hg] at h4; cases h4
theorem e_eqb (hH : HR P gl w0 ι H w) (hT : TmOk ι T a.tmps) {neq : Bool} {k : Nat} {x z : Rd} {v : V} (ok : okOp P gl o.op (.eqb neq k x z) = true) (h : exec run y (.eqb neq k x z) T H = .va v) : Did P ι w a o v := by
  obtain ⟨d, e, h1, h2, h3⟩ := rd2_inv (toVa_inv h)
  obtain ⟨r, h4, h5⟩ := ob_some.1 h3
  cases h5
  simp only [okOp] at ok
  split at ok <;> first | (cases ok; done) | skip
  rename_i op' t x' y' _ ho
  simp only [Bool.and_eq_true, decide_eq_true_eq] at ok
  obtain ⟨⟨⟨rfl, ok1⟩, ok2⟩, ok3⟩ := ok
  exact ⟨_, guarded ho (eqbV_sound (rd_sound hH hT ok1 h1) (rd_sound hH hT ok2 h2) h4 ok3 x' y'), .bool _⟩
theorem e_eqa (hH : HR P gl w0 ι H w) (hT : TmOk ι T a.tmps) {neq : Bool} {ks : List Nat} {x z : Rd} {v : V} (ok : okOp P gl o.op (.eqa neq ks x z) = true) (h : exec run y (.eqa neq ks x z) T H = .va v) : Did P ι w a o v := by
  obtain ⟨d, e, h1, h2, h3⟩ := rd2_inv (toVa_inv h)
  unfold eqaV at h3
  split at h3 <;> first | (cases h3; done) | skip
  rename_i cs ds
  obtain ⟨r, h4, h5⟩ := ob_some.1 h3
  cases h5
  simp only [okOp] at ok
  split at ok <;> first | (cases ok; done) | skip
  rename_i op' t x' y' _ ho
  simp only [Bool.and_eq_true, decide_eq_true_eq] at ok
  obtain ⟨⟨⟨⟨⟨rfl, ok1⟩, ok2⟩, ok3⟩, ok4⟩, ok5⟩ := ok
  split at ok3 <;> first | (cases ok3; done) | skip
  rename_i ks' hks
  simp at ok3; subst ok3
  split at ok4 <;> first | (cases ok4; done) | skip
  rename_i b hb
  subst ok4
  have hu := rd_sound hH hT ok1 h1
  have hz := rd_sound hH hT ok2 h2
  refine ⟨.bool (ite1 neq (!r) r), ?_, .bool _⟩
  refine guarded ho ?_
  generalize a.eval x' = u at hu ⊢
  generalize a.eval y' = q at hz ⊢
  cases hu with
  | @agg _ us hl1 hr1 =>
    cases hz with
    | @agg _ vs hl2 hr2 =>
      obtain ⟨cs', ds', q1, q2, q3, q4, q5, q6, q7⟩ := eqL_toD ks' cs ds us.toList vs.toList r h4 (by simpa using hl1) (by simpa using hl2) (fun j c x hc hx => hr1 j c x hc (by simpa using hx)) (fun j c x hc hx => hr2 j c x hc (by simpa using hx))
      have G0 : YtnpoikgkhhpdgaaDoorE.Gh := ⟨fun _ _ => none, fun _ => none, fun _ => none⟩
      have := YtnpoikgkhhpdgaaDoorE.eqa_sound (P := P) (w := w) (G := G0) (neq := neq) (f := true) (g := true) (.pure (.agg (vs := us) (by simpa using q2) q4 fun j c x hc hx => q6 _ j c x hc (by simpa using hx)))
        (.pure (.agg (vs := vs) (by simpa using q3) q5 fun j c x hc hx => q7 _ j c x hc (by simpa using hx))) q1 hks (by omega) hb (by simpa using ok5) x' y'
      rw [this]
      cases neq <;> rfl
theorem e_un (hH : HR P gl w0 ι H w) (hT : TmOk ι T a.tmps) {op : UnOp} {x : Rd} {v : V} (ok : okOp P gl o.op (.un op x) = true) (h : exec run y (.un op x) T H = .va v) : Did P ι w a o v := by
  obtain ⟨d, h1, h2⟩ := rd1_inv (toVa_inv h)
  simp only [okOp] at ok
  split at ok <;> first | (cases ok; done) | skip
  rename_i op' t x' ho
  simp only [Bool.and_eq_true, decide_eq_true_eq] at ok
  obtain ⟨rfl, ok1⟩ := ok
  have hu := rd_sound hH hT ok1 h1
  have G0 : YtnpoikgkhhpdgaaDoorE.Gh := ⟨fun _ _ => none, fun _ => none, fun _ => none⟩
  unfold unV at h2
  split at h2 <;> first | (cases h2; done) | skip
  · obtain ⟨e, h3, h4⟩ := ob_some.1 h2
    obtain ⟨z, h5, h6⟩ := YtnpoikgkhhpdgaaDoorE.unD_sound (P := P) (w := w) (G := G0) (.pure (.int _ _)) h3
    exact ⟨z, by simp [execOp, ho, hu.int_inv, h5], ofD_inv h4 h6⟩
  · split at h2 <;> first | (cases h2; done) | skip
    cases h2
    exact ⟨_, by simp [execOp, ho, hu.bool_inv, Op.unary] <;> rfl, .bool _⟩
theorem e_cv (hH : HR P gl w0 ι H w) (hT : TmOk ι T a.tmps) {k : IntKind} {x : Rd} {v : V} (ok : okOp P gl o.op (.cv k x) = true) (h : exec run y (.cv k x) T H = .va v) : Did P ι w a o v := by
  obtain ⟨d, h1, h2⟩ := rd1_inv (toVa_inv h)
  simp only [okOp] at ok
  split at ok <;> first | (cases ok; done) | skip
  rename_i s t x' ho
  simp only [Bool.and_eq_true] at ok
  obtain ⟨⟨ok1, ok2⟩, ok3⟩ := ok
  have hu := rd_sound hH hT ok3 h1
  unfold cvV at h2
  split at h2 <;> first | (cases h2; done) | skip
  cases h2
  obtain ⟨ds, hds⟩ := Option.isSome_iff_exists.1 ok2
  refine ⟨_, ?_, .int _ _⟩
  rw [wrapF_eq]
  simp [execOp, ho, hu.int_inv, convert, run_underlying hds, run_underlying (isInt_inv ok1)] <;> rfl
theorem e_fld (hH : HR P gl w0 ι H w) (hT : TmOk ι T a.tmps) {ag : Bool} {off n : Nat} {x : Rd} {v : V} (ok : okOp P gl o.op (.fld ag off n x) = true) (h : exec run y (.fld ag off n x) T H = .va v) : Did P ι w a o v := by
  obtain ⟨d, h1, h2⟩ := rd1_inv (toVa_inv h)
  unfold fldV at h2
  split at h2 <;> first | (cases h2; done) | skip
  rename_i cs
  simp only [okOp] at ok
  split at ok <;> first | (cases ok; done) | skip
  rename_i t x' f ho
  simp only [Bool.and_eq_true] at ok
  obtain ⟨ok1, ok2⟩ := ok
  unfold okFd at ok1
  split at ok1 <;> first | (cases ok1; done) | skip
  rename_i fs hu
  split at ok1 <;> first | (cases ok1; done) | skip
  rename_i fd hf
  simp only [Bool.and_eq_true] at ok1
  have ho' := Nat.eq_of_beq_eq_true ok1.1
  obtain ⟨q1, q2, _⟩ := okSz_inv ok1.2
  have hx := rd_sound hH hT ok2 h1
  simp only [Did, execOp, ho]
  generalize a.eval x' = u at hx ⊢
  cases hx with
  | @agg _ vs hl hr =>
    obtain ⟨z, h3, h4⟩ := part_sound (P := P) (w := w) hl hr h2 q1 q2
    refine ⟨z, ?_, h4⟩
    subst ho'
    simp [Instr.field, asAgg, run_underlying hu, hf, h3]
theorem e_fadr (hH : HR P gl w0 ι H w) (hT : TmOk ι T a.tmps) {off : Nat} {x : Rd} {v : V} (ok : okOp P gl o.op (.fadr off x) = true) (h : exec run y (.fadr off x) T H = .va v) : Did P ι w a o v := by
  obtain ⟨d, h1, h2⟩ := rd1_inv (toVa_inv h)
  unfold fadrV at h2
  split at h2 <;> first | (cases h2; done) | skip
  cases h2
  simp only [okOp] at ok
  split at ok <;> first | (cases ok; done) | skip
  rename_i t x' f ho
  simp only [Bool.and_eq_true] at ok
  obtain ⟨ok1, ok2⟩ := ok
  unfold okFa at ok1
  split at ok1 <;> first | (cases ok1; done) | skip
  rename_i fs hu
  split at ok1 <;> first | (cases ok1; done) | skip
  rename_i fd hf
  simp only [Bool.and_eq_true] at ok1
  have ho' := Nat.eq_of_beq_eq_true ok1.1
  have hx := rd_sound hH hT ok2 h1
  simp only [Did, execOp, ho]
  generalize a.eval x' = u at hx ⊢
  cases hx with
  | ptr hι =>
    subst ho'
    have ok1 := ok1.2
    split at ok1 <;> first | (cases ok1; done) | skip
    rename_i n hn
    have h0 := blt_lt ok1
    have hp : ∀ off' b', (fieldPlace ⟨b', off', none⟩ fd).run P w = .ok ⟨b', off' + fd.offset, none⟩ w := fun off' b' => by
      have hne : ¬ n = 0 := by omega
      simp [fieldPlace, run_sizeOf' hn, add_off, hne]
    exact ⟨.pointer (some ⟨_, _, none⟩), by simp [Instr.fieldAt, run_underlying hu, hf, Instr.sureAddr, hp], .ptr hι⟩
theorem e_iadr (hH : HR P gl w0 ι H w) (hT : TmOk ι T a.tmps) {es : Nat} {x i : Rd} {v : V} (ok : okOp P gl o.op (.iadr es x i) = true) (h : exec run y (.iadr es x i) T H = .va v) : Did P ι w a o v := by
  obtain ⟨di, dx, h1, h2, h3⟩ := rd2_inv (toVa_inv h)
  unfold iadrV at h3
  split at h3 <;> first | (cases h3; done) | skip
  rename_i id off es' len cap
  obtain ⟨hb, hz⟩ := ite1_some.1 h3
  have := Nat.eq_of_beq_eq_true hb; subst this
  obtain ⟨j, hj, hq⟩ := ob_some.1 hz
  cases hq
  obtain ⟨k, rfl, hlt⟩ := idx_inv hj
  simp only [okOp] at ok
  split at ok <;> first | (cases ok; done) | skip
  rename_i t x' i' ho
  simp only [Bool.and_eq_true] at ok
  obtain ⟨⟨ok1, ok2⟩, ok3⟩ := ok
  split at ok3 <;> first | (cases ok3; done) | skip
  rename_i e he
  have hs := okN_inv ok3
  have ht := sliceEl_inv he
  have hx := rd_sound hH hT ok1 h2
  have hi := (rd_sound hH hT ok2 h1).int_inv
  simp only [Did, execOp, ho, hi]
  generalize a.eval x' = u at hx ⊢
  cases hx with
  | sl hι hc => exact ⟨_, by simp [Instr.indexAt, asIntOf, run_underlying ht, hlt, run_sizeOf' hs, add_off] <;> rfl, .ptr hι⟩
  | slu hι hc htp => exact ⟨_, by simp [Instr.indexAt, asIntOf, run_underlying ht, hlt, run_sizeOf' hs, add_off] <;> rfl, .ptr hι⟩
theorem e_iada (hH : HR P gl w0 ι H w) (hT : TmOk ι T a.tmps) {len es : Nat} {x i : Rd} {v : V} (ok : okOp P gl o.op (.iada len es x i) = true) (h : exec run y (.iada len es x i) T H = .va v) : Did P ι w a o v := by
  obtain ⟨di, dx, h1, h2, h3⟩ := rd2_inv (toVa_inv h)
  unfold iadaV at h3
  split at h3 <;> first | (cases h3; done) | skip
  obtain ⟨j, hj, hq⟩ := ob_some.1 h3
  cases hq
  obtain ⟨k, rfl, hlt⟩ := idx_inv hj
  simp only [okOp] at ok
  split at ok <;> first | (cases ok; done) | skip
  rename_i t x' i' ho
  simp only [Bool.and_eq_true] at ok
  obtain ⟨⟨ok1, ok2⟩, ok3⟩ := ok
  split at ok3 <;> first | (cases ok3; done) | skip
  rename_i n e hu
  simp only [Bool.and_eq_true] at ok3
  have := Nat.eq_of_beq_eq_true ok3.1; subst this
  have hs := okN_inv ok3.2
  have hx := rd_sound hH hT ok1 h2
  have hi := (rd_sound hH hT ok2 h1).int_inv
  simp only [Did, execOp, ho, hi]
  generalize a.eval x' = u at hx ⊢
  cases hx with
  | ptr hι => exact ⟨.pointer (some ⟨_, _, none⟩), by simp [Instr.indexAt, Instr.sureAddr, asIntOf, run_underlying hu, hlt, run_sizeOf' hs, add_off], .ptr hι⟩
theorem e_ida (hH : HR P gl w0 ι H w) (hT : TmOk ι T a.tmps) {len es : Nat} {ag : Bool} {x i : Rd} {v : V} (ok : okOp P gl o.op (.ida len es ag x i) = true) (h : exec run y (.ida len es ag x i) T H = .va v) : Did P ι w a o v := by
  obtain ⟨di, dx, h1, h2, h3⟩ := rd2_inv (toVa_inv h)
  unfold idaV at h3
  split at h3 <;> first | (cases h3; done) | skip
  rename_i cs
  obtain ⟨j, hj, hq⟩ := ob_some.1 h3
  obtain ⟨k, rfl, hlt⟩ := idx_inv hj
  simp only [okOp] at ok
  split at ok <;> first | (cases ok; done) | skip
  rename_i t x' i' ho
  simp only [Bool.and_eq_true] at ok
  obtain ⟨⟨ok1, ok2⟩, ok3⟩ := ok
  split at ok3 <;> first | (cases ok3; done) | skip
  rename_i n e hu
  simp only [Bool.and_eq_true] at ok3
  have := Nat.eq_of_beq_eq_true ok3.1; subst this
  obtain ⟨q1, q2, _⟩ := okSz_inv ok3.2
  have hx := rd_sound hH hT ok1 h2
  have hi := (rd_sound hH hT ok2 h1).int_inv
  simp only [Did, execOp, ho, hi]
  generalize a.eval x' = u at hx ⊢
  cases hx with
  | @agg _ vs hl hr =>
    obtain ⟨z, h4, h5⟩ := part_sound (P := P) (w := w) hl hr hq q1 q2
    exact ⟨z, by simp [Instr.index, asIntOf, run_underlying hu, hlt, run_sizeOf' q2, h4], h5⟩
theorem e_ids (hH : HR P gl w0 ι H w) (hT : TmOk ι T a.tmps) {x i : Rd} {v : V} (ok : okOp P gl o.op (.ids x i) = true) (h : exec run y (.ids x i) T H = .va v) : Did P ι w a o v := by
  obtain ⟨di, dx, h1, h2, h3⟩ := rd2_inv (toVa_inv h)
  unfold idsV at h3
  split at h3 <;> first | (cases h3; done) | skip
  obtain ⟨j, hj, hq⟩ := ob_some.1 h3
  obtain ⟨b, hb, hz⟩ := ob_some.1 hq
  cases hz
  obtain ⟨k, rfl, hlt⟩ := idx_inv hj
  simp only [okOp] at ok
  split at ok <;> first | (cases ok; done) | skip
  rename_i t x' i' ho
  simp only [Bool.and_eq_true] at ok
  obtain ⟨⟨ok1, ok2⟩, ok3⟩ := ok
  obtain ⟨s, rfl, hs⟩ := (rd_sound hH hT ok1 h2).str_inv
  have hi := (rd_sound hH hT ok2 h1).int_inv
  rw [lget_eq] at hb
  rw [bytes_len] at hlt
  have hlt' : j < s.data.size := hlt
  simp at hb
  obtain ⟨c, hc, rfl⟩ := hb
  simp only [Did, execOp, ho, hi, hs]
  refine ⟨.int .u8 c.toNat, ?_, .int _ _⟩
  have hg : s[j]? = some c := by
    rw [getElem?_pos s j hlt]
    have := (Array.getElem?_eq_some_iff.1 hc).2
    exact congrArg some this
  simp [Instr.index, asIntOf, run_underlying (isStr_inv ok3), hg]
/-! ### functions without a body -/
theorem idxB_cons (c b : Nat) (r : List Nat) (i : Nat) : idxB c (b :: r) i = ite1 (Nat.beq b c) (some i) (idxB c r (i + 1)) := rfl
theorem idxB_eq (c : Nat) : ∀ (s : List Nat) (k : Nat), idxB c s k = ((List.range s.length).find? fun i => Nat.beq (s.getD i 0) c).map (· + k)
  | [], k => rfl
  | b :: r, k => by
    rw [idxB_cons, List.length_cons, List.range_succ_eq_map, List.find?_cons]
    simp only [List.getD_cons_zero]
    cases hb : Nat.beq b c with
    | true => simp
    | false =>
      rw [ite1_f, idxB_eq c r (k + 1), List.find?_map]
      simp only [Function.comp_def, List.getD_cons_succ, Option.map_map]
      congr 1
      funext i
      show i + (k + 1) = (i + 1) + k
      omega
theorem findNext_none {fn : Func} (hn : fn.name = "internal/bytealg.IndexByteString") (ho : fn.origin = "") : Extern.findNext fn = none := by
  unfold Extern.findNext
  rw [hn, ho]
  have h1 : Extern.allNextRows.lookup "internal/bytealg.IndexByteString" = none := by kernel_rfl
  have h2 : Extern.allNextRows.lookup "" = none := by kernel_rfl
  simp [h1, h2]
theorem find_index {fn : Func} (hn : fn.name = "internal/bytealg.IndexByteString") : Extern.find fn = some Extern.BytealgIndexByte.indexByte := by
  unfold Extern.find
  rw [hn]
  have h1 : Extern.allGenericRows.lookup "internal/bytealg.IndexByteString" = none := by kernel_rfl
  have h2 : Extern.allTypedRows.lookup "internal/bytealg.IndexByteString" = none := by kernel_rfl
  have h3 : Extern.allRows.lookup "internal/bytealg.IndexByteString" = some Extern.BytealgIndexByte.indexByte := by kernel_rfl
  simp [h1, h2, h3]
theorem index_run {g : FuncId} {fn : Func} (hf : P.funcs[g]? = some fn) (hn : fn.name = "internal/bytealg.IndexByteString") (ho : fn.origin = "") (hb : fn.body.isNone = true) (s : ByteArray) {c : Nat} (hc : c < 256) :
    ∃ z, (callFunc g #[.string s, .int .u8 (c : Nat)]).run P w = .ok (.value (.int .i64 z)) w ∧ idxV (idxB c (s.data.toList.map UInt8.toNat) 0) = .int .i64 z := by
  have hne : ¬ fn.name = "runtime.NumGoroutine" := by rw [hn]; decide
  have hb : fn.body = none := by simpa using hb
  have hfind : ((List.range s.size).find? fun i => s[i]! == c.toUInt8) = ((List.range (s.data.toList.map UInt8.toNat).length).find? fun i => Nat.beq ((s.data.toList.map UInt8.toNat).getD i 0) c) := by
    have hl : (s.data.toList.map UInt8.toNat).length = s.size := by simp
    rw [hl]
    have hcong : ∀ (l : List Nat) (p q : Nat → Bool), (∀ i ∈ l, p i = q i) → l.find? p = l.find? q := by
      intro l p q h
      induction l with
      | nil => rfl
      | cons x r ih =>
        rw [List.find?_cons, List.find?_cons, h x (List.mem_cons_self ..), ih fun i hi => h i (List.mem_cons_of_mem _ hi)]
    refine hcong _ _ _ fun i hi => ?_
    have hlt : i < s.size := List.mem_range.1 hi
    have hlt' : i < s.data.size := hlt
    have e1 : s[i]! = s.data[i] := by
      rw [getElem!_pos s i hlt]; rfl
    have e2 : (s.data.toList.map UInt8.toNat).getD i 0 = s.data[i].toNat := by
      simp [List.getD]
      rw [Array.getElem?_eq_getElem hlt']; rfl
    rw [e1, e2]
    have e3 : (c.toUInt8).toNat = c := by simp [Nat.mod_eq_of_lt hc]
    rw [Bool.eq_iff_iff]
    constructor
    · intro h
      have h : s.data[i] = c.toUInt8 := by simpa using h
      rw [h, e3]; exact Nat.beq_refl c
    · intro h
      have h := Nat.eq_of_beq_eq_true h
      have : s.data[i] = c.toUInt8 := UInt8.toNat_inj.1 (h.trans e3.symm)
      simpa using this
  rw [idxB_eq, ← hfind]
  have hx : Extern.BytealgIndexByte.indexByte #[.string s, .int .u8 (c : Nat)] = (do
      let b ← Extern.Bytes.bytesOf (.string s)
      let c ← Extern.Bytes.asByte (.int .u8 (c : Nat))
      match (List.range b.size).find? fun i => b[i]! == c with
      | some i => pure (goInt i)
      | none => pure (goInt (-1))) := rfl
  cases hr : (List.range s.size).find? fun i => s[i]! == c.toUInt8 with
  | none =>
    refine ⟨-1, ?_, rfl⟩
    simp [callFunc, hf, hne, hb, findNext_none hn ho, find_index hn, hx, Extern.Bytes.bytesOf, Extern.Bytes.asByte, hr, goInt]
  | some i =>
    refine ⟨i, ?_, by simp [idxV]⟩
    simp [callFunc, hf, hne, hb, findNext_none hn ho, find_index hn, hx, Extern.Bytes.bytesOf, Extern.Bytes.asByte, hr, goInt]
theorem find_ovl {fn : Func} (ho : fn.origin = "slices.overlaps") (h1 : Extern.allGenericRows.lookup fn.name = none) (h2 : Extern.allTypedRows.lookup fn.name = none) (h3 : Extern.allRows.lookup fn.name = none) :
    Extern.find fn = some (Extern.SlicesOverlaps.overlaps fn.params fn.resultTypes) := by
  unfold Extern.find
  rw [ho]
  have g1 : Extern.allGenericRows.lookup "slices.overlaps" = none := by kernel_rfl
  have g2 : Extern.allTypedRows.lookup "slices.overlaps" = some Extern.SlicesOverlaps.overlaps := by kernel_rfl
  simp [h1, h2, h3, g1, g2]
theorem ovl_run (hH : HR P gl w0 ι H w) {g : FuncId} (ok : okNat P gl 1 g = true) {ds : List V} {v : V} (h : ovlV H ds = some v) {vals : Array Value} (hl : ds.length = vals.size) (hr : ∀ (j : Nat) (c : V) (x : Value), ds[j]? = some c → vals[j]? = some x → VR ι c x) :
    (callFunc g vals).run P w = .ok (.value (.bool false)) w ∧ v = .bool false := by
  unfold ovlV at h
  split at h <;> first | (cases h; done) | skip
  rename_i ia oa ea la ca ib ob' eb lb cb
  have hne : Nat.beq ia ib = false := by
    cases hb : Nat.beq ia ib with
    | false => rfl
    | true => rw [hb, ite1_t] at h; cases h
  rw [hne, ite1_f] at h
  obtain ⟨own, n, cs, hga, h1⟩ := Heap.cells_some h
  obtain ⟨own', n', cs', hgb, h2⟩ := Heap.cells_some h1
  obtain ⟨⟨q1, q2, q3⟩, q4⟩ := fit3_some.1 h2
  subst q1; subst q2
  refine ⟨?_, (Option.some.inj q4).symm⟩
  obtain ⟨va, vb, hvals⟩ : ∃ va vb, vals = #[va, vb] := by
    match hh : vals.toList, (by rw [Array.length_toList, ← hl]; rfl : vals.toList.length = 2) with
    | [x1, x2], _ => exact ⟨x1, x2, by rw [← Array.toList_inj, hh]⟩
  subst hvals
  have ra := hr 0 _ va rfl rfl
  have rb := hr 1 _ vb rfl rfl
  unfold okNat at ok
  split at ok <;> first | (cases ok; done) | skip
  all_goals try (rename_i hk _; cases hk; done)
  rename_i fn _ hf
  simp only [Bool.and_eq_true, Bool.not_eq_true', Option.isNone_iff_eq_none, decide_eq_true_eq] at ok
  obtain ⟨⟨⟨⟨⟨⟨⟨k1, k2⟩, k3⟩, k4⟩, k5⟩, k6⟩, k7⟩, k8⟩ := ok
  split at k8 <;> first | (cases k8; done) | skip
  rename_i t t' tR hp hres
  simp only [Bool.and_eq_true] at k8
  obtain ⟨k9, k10⟩ := k8
  have et := Nat.eq_of_beq_eq_true k9
  subst et
  split at k10 <;> first | (cases k10; done) | skip
  rename_i e he
  obtain ⟨es, hes⟩ := Option.isSome_iff_exists.1 k10
  have hps : fn.params = #[t, t] := by rw [← Array.toList_inj, hp]
  have hrs : fn.resultTypes = #[tR] := by rw [← Array.toList_inj, hres]
  have hfind := find_ovl k4 k5 k6 k7
  rw [hps, hrs] at hfind
  have key : ∀ a sa b sb, ι ia = some (a, sa) → ι ib = some (b, sb) → ∀ c c', (callFunc g #[.slice (some ⟨a, oa, none⟩) la c, .slice (some ⟨b, ob', none⟩) lb c']).run P w = .ok (.value (.bool false)) w := by
    intro a sa b sb hia hib c c'
    obtain ⟨arr, el, fz, p1, p2, p3⟩ := hH.obs ia _ a sa hga hia
    obtain ⟨p4, p5, _⟩ := p3 rfl
    subst p4
    obtain ⟨arr', el', fz', p1', p2', p3'⟩ := hH.obs ib _ b sb hgb hib
    obtain ⟨p4', p5', p6', _⟩ := p3' rfl
    subst p4'
    have hab : a ≠ b := hH.apart ia ib _ _ _ _ (fun he => by rw [he, Nat.beq_refl] at hne; cases hne) hga hgb rfl hia hib
    rw [run_callFunc_extern hf k1 (by simpa using k2) k3 (e := Extern.SlicesOverlaps.overlaps #[t, t] #[tR]) hfind,
      Lib.run_overlaps_apart w t tR e (sliceEl_inv he) es (run_sizeOf' hes) ⟨a, oa, none⟩ ⟨b, ob', none⟩ la c lb c' hab el el' arr.size arr'.size (by simp [World.shape?, p1]) (by simp [World.shape?, p1'])
        (by have := blt_lt q3; omega) (by simp [World.frozen?, p1]) (by simp [World.frozen?, p1])]
    rfl
  cases ra with
  | sl hia hca =>
    cases rb with
    | sl hib hcb => exact key _ _ _ _ hia hib _ _
    | slu hib hcb htb => exact key _ _ _ _ hia hib _ _
  | slu hia hca hta =>
    cases rb with
    | sl hib hcb => exact key _ _ _ _ hia hib _ _
    | slu hib hcb htb => exact key _ _ _ _ hia hib _ _
theorem pre1_eq : ∀ (b l : List UInt8), pre1 (b.map UInt8.toNat) (l.map UInt8.toNat) = b.isPrefixOf l
  | [], l => by cases l <;> rfl
  | _ :: _, [] => rfl
  | x :: b, z :: l => by
    show ite1 (Nat.beq x.toNat z.toNat) (pre1 (b.map UInt8.toNat) (l.map UInt8.toNat)) false = _
    rw [pre1_eq b l, List.isPrefixOf]
    by_cases e : x = z
    · subst e; rw [Nat.beq_refl]; simp
    · have : Nat.beq x.toNat z.toNat = false := by
        cases hb : Nat.beq x.toNat z.toNat with
        | false => rfl
        | true => exact absurd (UInt8.toNat_inj.1 (Nat.eq_of_beq_eq_true hb)) e
      rw [this]; simp [e]
theorem idxS_eq (b : List UInt8) (hb : b ≠ []) : ∀ (s : List UInt8) (i : Nat), idxS (b.map UInt8.toNat) (s.map UInt8.toNat) i = if Lib.index s b = -1 then none else some ((Lib.index s b).toNat + i)
  | [], i => by
    cases b with
    | nil => exact absurd rfl hb
    | cons x r => simp [Lib.index]; rfl
  | c :: l, i => by
    show ite1 (pre1 (b.map UInt8.toNat) ((c :: l).map UInt8.toNat)) (some i) (idxS (b.map UInt8.toNat) (l.map UInt8.toNat) (i + 1)) = _
    rw [pre1_eq, idxS_eq b hb l (i + 1), Lib.index]
    cases hp : b.isPrefixOf (c :: l) with
    | true => simp
    | false =>
      have hge := Lib.index_ge l b
      simp only [ite1_f, Bool.false_eq_true, if_false]
      by_cases h1 : Lib.index l b = -1
      · simp [h1]
      · have h2 : (Lib.index l b == -1) = false := by simpa using h1
        rw [if_neg h1, h2]
        simp only [Bool.false_eq_true, if_false]
        rw [if_neg (by omega)]
        congr 1; omega
theorem index_val (a b : ByteArray) (hb : 2 ≤ b.size) : idxV (idxS (b.data.toList.map UInt8.toNat) (a.data.toList.map UInt8.toNat) 0) = .int .i64 (Lib.index a.data.toList b.data.toList) := by
  rw [idxS_eq _ (fun e => by
    have : b.data.toList.length = b.size := by rw [Array.length_toList]; rfl
    rw [e] at this; simp at this; omega)]
  have hge := Lib.index_ge a.data.toList b.data.toList
  by_cases h1 : Lib.index a.data.toList b.data.toList = -1
  · rw [if_pos h1, h1]; rfl
  · rw [if_neg h1]
    show V.int .i64 (Int.ofNat _) = _
    congr 1
    rw [Nat.add_zero]
    exact Int.toNat_of_nonneg (by omega)
theorem findNext_none2 {fn : Func} (hn : fn.name = "internal/bytealg.IndexString") (ho : fn.origin = "") : Extern.findNext fn = none := by
  unfold Extern.findNext
  rw [hn, ho]
  have h1 : Extern.allNextRows.lookup "internal/bytealg.IndexString" = none := by kernel_rfl
  have h2 : Extern.allNextRows.lookup "" = none := by kernel_rfl
  simp [h1, h2]
theorem find_index2 {fn : Func} (hn : fn.name = "internal/bytealg.IndexString") : Extern.find fn = some Extern.BytealgIndex.index := by
  unfold Extern.find
  rw [hn]
  have h1 : Extern.allGenericRows.lookup "internal/bytealg.IndexString" = none := by kernel_rfl
  have h2 : Extern.allTypedRows.lookup "internal/bytealg.IndexString" = none := by kernel_rfl
  have h3 : Extern.allRows.lookup "internal/bytealg.IndexString" = some Extern.BytealgIndex.index := by kernel_rfl
  simp [h1, h2, h3]
theorem index2_run {g : FuncId} {fn : Func} (hf : P.funcs[g]? = some fn) (hn : fn.name = "internal/bytealg.IndexString") (ho : fn.origin = "") (hb : fn.body.isNone = true) (s b : ByteArray) {g' : Nat} {m : Int}
    (hg : P.globals.findIdx? (·.name == "internal/bytealg.MaxLen") = some g') (hm : w.cell? ⟨g', 0, none⟩ = some (.int .i64 m)) (h2 : 2 ≤ b.size) (hbm : (b.size : Int) ≤ m) (ha : s.size < 4294967281) :
    (callFunc g #[.string s, .string b]).run P w = .ok (.value (.int .i64 (Lib.index s.data.toList b.data.toList))) w := by
  have hne : ¬ fn.name = "runtime.NumGoroutine" := by rw [hn]; decide
  have hb : fn.body = none := by simpa using hb
  have := Lib.run_indexString (P := P) s b w g' m hg hm h2 hbm ha
  simp [callFunc, hf, hne, hb, findNext_none2 hn ho, find_index2 hn, this]
theorem most_inv (hH : HR P gl w0 ι H w) {k n g' : Nat} (h : mostV H k n = true) (hg : gl[k]? = some g') : ∃ m, w.cell? ⟨g', 0, none⟩ = some (.int .i64 m) ∧ (n : Int) ≤ m := by
  unfold mostV at h
  cases hc : (H.cells k fun _ _ cs => ob (cs.get 0) (mostC n)) with
  | none => rw [hc] at h; cases h
  | some b =>
    rw [hc] at h
    have h : b = true := h
    subst h
    obtain ⟨own, n', cs, h1, h2⟩ := Heap.cells_some hc
    obtain ⟨v, h3, h4⟩ := ob_some.1 h2
    obtain ⟨sz, he⟩ := hH.glob k g' hg
    obtain ⟨arr, el, fz, p1, p2, p3⟩ := hH.obs k _ g' sz h1 he
    obtain ⟨u, q1, q2, q3⟩ := p2 0 v h3
    have hu : w.cell? ⟨g', 0, none⟩ = some u := by simp [World.cell?, p1, q1]
    unfold mostC at h4
    split at h4 <;> first | (cases h4; done) | skip
    · rename_i m
      have h5 := Option.some.inj h4
      rw [ile_eq] at h5
      have h5 := of_decide_eq_true h5
      cases q2 with
      | @rng _ _ _ m' hr =>
        simp at hr
        exact ⟨m', hu, by have : ((n : Nat) : Int) ≤ m := h5; omega⟩
    · rename_i m
      have h5 := Option.some.inj h4
      rw [ile_eq] at h5
      have h5 := of_decide_eq_true h5
      rw [q2.int_inv] at hu
      exact ⟨m, hu, h5⟩
theorem rdvL2 {x z : Rd} {ds : List V} (h : rdvL T [x, z] = some ds) : ∃ d e, rdv T x = some d ∧ rdv T z = some e ∧ ds = [d, e] := by
  rw [rdvL_cons, rdvL_cons] at h
  obtain ⟨d, h1, h2⟩ := ob_some.1 h
  obtain ⟨l, h3, h4⟩ := ob_some.1 h2
  obtain ⟨e, h5, h6⟩ := ob_some.1 h3
  obtain ⟨l', h7, h8⟩ := ob_some.1 h6
  cases h7; cases h8; cases h4
  exact ⟨d, e, h1, h5, rfl⟩
theorem e_nat (hH : HR P gl w0 ι H w) (hT : TmOk ι T a.tmps) {k : Nat} {args : List Rd} {v : V} (ok : okOp P gl o.op (.nat k args) = true) (h : exec run y (.nat k args) T H = .va v) : Did P ι w a o v := by
  obtain ⟨ds, h1, h2⟩ := ob_some.1 (toVa_inv h)
  simp only [okOp] at ok
  split at ok <;> first | (cases ok; done) | skip
  rename_i cl ho
  split at ok <;> first | (cases ok; done) | skip
  rename_i g hcl
  simp only [Bool.and_eq_true] at ok
  obtain ⟨ok1, ok2⟩ := ok
  obtain ⟨hl, hv⟩ := rdL_sound hH hT ok2 h1
  unfold natV at h2
  split at h2
  · rename_i s c
    obtain ⟨hc, h3⟩ := ite1_some.1 h2
    cases h3
    unfold okNat at ok1
    split at ok1 <;> first | (cases ok1; done) | skip
    all_goals try (rename_i hk _; cases hk; done)
    rename_i fn _ hf
    simp only [Bool.and_eq_true, decide_eq_true_eq] at ok1
    obtain ⟨⟨hn, horg⟩, hb⟩ := ok1
    obtain ⟨x1, x2, hargs⟩ : ∃ x1 x2, cl.args.toList = [x1, x2] := by
      match hh : cl.args.toList, hl with
      | [x1, x2], _ => exact ⟨x1, x2, rfl⟩
    rw [hargs] at hv
    have r1 := hv 0 _ x1 rfl rfl
    have r2 := hv 1 _ x2 rfl rfl
    obtain ⟨t, e1, e2⟩ := r1.str_inv
    have e3 := r2.int_inv
    obtain ⟨z, z1, z2⟩ := index_run (P := P) (w := w) hf hn horg hb t (blt_lt hc)
    have ha : cl.args = #[x1, x2] := by rw [← Array.toList_inj, hargs]
    refine ⟨.int .i64 z, ?_, ?_⟩
    · have e3' : a.eval x2 = .int .u8 (c : Nat) := e3
      have hfun : a.eval (.func g) = .func (.func g) #[] #[] := rfl
      simp [execOp, ho, resolve, hcl, ha, hfun, Deferred.ofValue, invoke]
      rw [e2, e3']
      exact z1
    · rw [e1, z2]; exact .int _ _
  · have hv2 : ∀ (j : Nat) (c : V) (x : Value), ds[j]? = some c → (cl.args.map a.eval)[j]? = some x → VR ι c x := fun j c x hc hx => by
      rw [Array.getElem?_map] at hx
      cases hy : cl.args[j]? with
      | none => simp [hy] at hx
      | some z => simp [hy] at hx; subst hx; exact hv j c z hc (by rw [Array.getElem?_toList]; exact hy)
    obtain ⟨g1, g2⟩ := ovl_run hH ok1 h2 (vals := cl.args.map a.eval) (by simpa using hl) hv2
    refine ⟨.bool false, ?_, by rw [g2]; exact .bool _⟩
    have hfun : a.eval (.func g) = .func (.func g) #[] #[] := rfl
    simp [execOp, ho, resolve, hcl, hfun, Deferred.ofValue, invoke]
    exact g1
  · rename_i k' s c
    obtain ⟨⟨hc1, hc2, hc3⟩, h3⟩ := fit3_some.1 h2
    cases h3
    unfold okNat at ok1
    split at ok1 <;> first | (cases ok1; done) | skip
    all_goals try (rename_i hk _; cases hk; done)
    rename_i k2 fn hk hf
    have hk2 : k' = k2 := by omega
    subst hk2
    simp only [Bool.and_eq_true, decide_eq_true_eq] at ok1
    obtain ⟨⟨⟨hn, horg⟩, hb⟩, hgl⟩ := ok1
    split at hgl <;> first | (cases hgl; done) | skip
    rename_i g' hg'
    rw [lget_eq] at hg'
    have hgl := of_decide_eq_true hgl
    obtain ⟨x1, x2, hargs⟩ : ∃ x1 x2, cl.args.toList = [x1, x2] := by
      match hh : cl.args.toList, hl with
      | [x1, x2], _ => exact ⟨x1, x2, rfl⟩
    rw [hargs] at hv
    have r1 := hv 0 _ x1 rfl rfl
    have r2 := hv 1 _ x2 rfl rfl
    obtain ⟨t, e1, e2⟩ := r1.str_inv
    obtain ⟨t2, e3, e4⟩ := r2.str_inv
    subst e1; subst e3
    rw [bytes_len] at hc1 hc2 hc3
    obtain ⟨m, hm1, hm2⟩ := most_inv hH hc2 hg'
    have hrun := index2_run (P := P) (w := w) hf hn horg hb t t2 hgl hm1 (Nat.le_of_ble_eq_true hc1) hm2 (blt_lt hc3)
    have ha : cl.args = #[x1, x2] := by rw [← Array.toList_inj, hargs]
    refine ⟨_, ?_, by rw [index_val t t2 (Nat.le_of_ble_eq_true hc1)]; exact .int _ _⟩
    have hfun : a.eval (.func g) = .func (.func g) #[] #[] := rfl
    simp [execOp, ho, resolve, hcl, ha, hfun, Deferred.ofValue, invoke]
    rw [e2, e4]
    exact hrun
  · cases h2
theorem byteOf_inv {v : V} {n : Nat} (h : byteOf v = some n) : v = .int .u8 (n : Nat) ∧ n < 256 := by
  unfold byteOf at h
  split at h
  · obtain ⟨h1, h2⟩ := ite1_some.1 h
    cases h2
    exact ⟨rfl, blt_lt h1⟩
  · cases h
theorem bytesOf_cons (v : V) (r : List V) : bytesOf (v :: r) = ob (byteOf v) fun b => ob (bytesOf r) fun l => some (b :: l) := rfl
theorem bytesOf_inv : ∀ {l : List V} {s : List Nat}, bytesOf l = some s → l = s.map (fun n => V.int .u8 (n : Nat)) ∧ ∀ n ∈ s, n < 256
  | [], s, h => by cases h; simp
  | v :: r, s, h => by
    rw [bytesOf_cons] at h
    obtain ⟨b, h1, h2⟩ := ob_some.1 h
    obtain ⟨l, h3, h4⟩ := ob_some.1 h2
    cases h4
    obtain ⟨e1, e2⟩ := byteOf_inv h1
    obtain ⟨e3, e4⟩ := bytesOf_inv h3
    refine ⟨by rw [e1, e3]; rfl, fun n hn => ?_⟩
    rcases List.mem_cons.1 hn with e | hn
    · rw [e]; exact e2
    · exact e4 n hn
theorem pushes : ∀ (ns : List Nat) (r : ByteArray), (∀ n ∈ ns, n < 256) → ((ns.map fun (n : Nat) => (n : Int)).foldl (fun (r : ByteArray) (n : Int) => r.push (UInt8.ofNat n.toNat)) r).data.toList.map UInt8.toNat = r.data.toList.map UInt8.toNat ++ ns
  | [], r, _ => by simp
  | n :: ns, r, h => by
    simp only [List.map_cons, List.foldl_cons]
    rw [pushes ns _ fun m hm => h m (List.mem_cons_of_mem _ hm)]
    have := h n (List.mem_cons_self ..)
    simp [ByteArray.push, Nat.mod_eq_of_lt this]
theorem e_b2s (hH : HR P gl w0 ι H w) (hT : TmOk ι T a.tmps) {x : Rd} {v : V} (ok : okOp P gl o.op (.b2s x) = true) (h : exec run y (.b2s x) T H = .va v) : Did P ι w a o v := by
  obtain ⟨d, h1, h2⟩ := rd1_inv (toVa_inv h)
  simp only [okOp] at ok
  split at ok <;> first | (cases ok; done) | skip
  rename_i s t x' ho
  simp only [Bool.and_eq_true] at ok
  obtain ⟨⟨ok1, ok2⟩, ok3⟩ := ok
  split at ok3 <;> first | (cases ok3; done) | skip
  rename_i e he
  have hx := rd_sound hH hT ok1 h1
  have hs := sliceEl_inv he
  have ht := isStr_inv ok2
  have hu := isInt_inv ok3
  have hempty : VR ι (.str []) (.string ByteArray.empty) := .str ByteArray.empty
  simp only [Did, execOp, ho]
  generalize a.eval x' = u at hx ⊢
  have conv : ∀ (base : Option Addr) (len cap : Nat), (convert s t (.slice base len cap)).run P w = (Conv.bytesToString (.slice base len cap)).run P w := fun base len cap => by
    simp [convert, run_underlying hs, run_underlying ht, run_underlying hu]
  unfold b2sV at h2
  split at h2
  · cases h2; cases hx
    exact ⟨.string ByteArray.empty, by rw [Sem.run_bind, conv]; simp [Conv.bytesToString], hempty⟩
  · cases h2; cases hx
    rename_i p cap
    have hl := run_loadCells_list (P := P) w p [] (fun j v hj => by simp at hj)
    have hr := run_bytesToString (P := P) w p 0 cap [] (by simpa using hl)
    exact ⟨.string ByteArray.empty, by rw [Sem.run_bind, conv, hr]; simp, hempty⟩
  · rename_i id off es len cap
    obtain ⟨q1, q2⟩ := ite1_some.1 h2
    obtain ⟨own, n, cs, hg, q3⟩ := Heap.cells_some q2
    obtain ⟨l, q4, q5⟩ := ob_some.1 q3
    obtain ⟨ns, q6, q7⟩ := ob_some.1 q5
    cases q7
    obtain ⟨g1, g2⟩ := cgets_get q4
    obtain ⟨b1, b2⟩ := bytesOf_inv q6
    have key : ∀ b sz c, ι id = some (b, sz) → ∃ u, (do let r ← convert s t (.slice (some ⟨b, off, none⟩) len c); pure (Next.value r) : Sem Next).run P w = .ok (.value u) w ∧ VR ι (.str ns) u := by
      intro b sz c hi
      obtain ⟨arr, el, fz, p1, p2, p3⟩ := hH.obs id _ b sz hg hi
      have hlen : ns.length = len := by rw [← g1, b1]; simp
      have hl := run_loadCells_list (P := P) w ⟨b, off, none⟩ ((ns.map fun (n : Nat) => (n : Int)).map (Value.int .u8)) (fun j v hj => by
        rw [List.getElem?_map, List.getElem?_map] at hj
        cases hn : ns[j]? with
        | none => simp [hn] at hj
        | some m =>
          simp [hn] at hj
          subst hj
          have hlt := (List.getElem?_eq_some_iff.1 hn).1
          have hc := g2 j (by omega)
          rw [b1, List.getElem?_map, hn] at hc
          obtain ⟨z, z1, z2, _⟩ := p2 _ _ hc
          rw [add_off, cell_of_heap p1, z1, z2.int_inv])
      have hr := run_bytesToString (P := P) w ⟨b, off, none⟩ len c (ns.map fun (n : Nat) => (n : Int)) (by
        have e : ((ns.map fun (n : Nat) => (n : Int)).map (Value.int .u8)).length = len := by simp [hlen]
        rw [e] at hl; exact hl)
      refine ⟨_, by rw [Sem.run_bind, conv, hr]; rfl, ?_⟩
      have := pushes ns ByteArray.empty b2
      have h3 := VR.str (ι := ι) ((ns.map fun (n : Nat) => (n : Int)).foldl (fun (r : ByteArray) (n : Int) => r.push (UInt8.ofNat n.toNat)) ByteArray.empty)
      rw [this] at h3
      simpa using h3
    cases hx with
    | sl hi hc => exact key _ _ _ hi
    | slu hi hc ht => exact key _ _ _ hi
  · cases h2
theorem e_ext (hH : HR P gl w0 ι H w) (hT : TmOk ι T a.tmps) {x : Rd} {i : Nat} {v : V} (ok : okOp P gl o.op (.ext x i) = true) (h : exec run y (.ext x i) T H = .va v) : Did P ι w a o v := by
  obtain ⟨d, h1, h2⟩ := rd1_inv (toVa_inv h)
  unfold extV at h2
  split at h2 <;> first | (cases h2; done) | skip
  simp only [okOp] at ok
  split at ok <;> first | (cases ok; done) | skip
  rename_i x' i' ho
  simp only [Bool.and_eq_true] at ok
  have := Nat.eq_of_beq_eq_true ok.2; subst this
  have hx := rd_sound hH hT ok.1 h1
  rw [lget_eq] at h2
  have hlt := (List.getElem?_eq_some_iff.1 h2).1
  simp only [Did, execOp, ho]
  generalize a.eval x' = u at hx ⊢
  cases hx with
  | @tup _ us hl hr =>
    have hlt' : i' < us.size := by omega
    exact ⟨us[i'], by simp [Instr.extract, hlt'], hr i' v us[i'] h2 (by simp [hlt'])⟩
theorem e_len (hH : HR P gl w0 ι H w) (hT : TmOk ι T a.tmps) {str : Bool} {x : Rd} {v : V} (ok : okOp P gl o.op (.len str x) = true) (h : exec run y (.len str x) T H = .va v) : Did P ι w a o v := by
  obtain ⟨d, h1, h2⟩ := rd1_inv (toVa_inv h)
  simp only [okOp] at ok
  split at ok <;> first | (cases ok; done) | skip
  rename_i c ho
  split at ok <;> first | (cases ok; done) | skip
  rename_i x' t hc ha hat
  simp only [Bool.and_eq_true] at ok
  obtain ⟨ok1, ok2⟩ := ok
  have hx := rd_sound hH hT ok1 h1
  obtain ⟨bs, hex⟩ := args1 (P := P) (w := w) (ρ := a.eval) hc ha ho
  unfold Did
  rw [hex]
  have hat' : c.argTypes[0]? = some t := by rw [← Array.getElem?_toList, hat]; rfl
  simp only [builtin, Builtin.len_, hat']
  generalize a.eval x' = u at hx ⊢
  unfold lenV at h2
  split at h2 <;> first | (cases h2; done) | skip
  · cases str <;> first | (cases h2; done) | skip
    cases h2
    obtain ⟨e, he⟩ := Option.isSome_iff_exists.1 ok2
    cases hx
    exact ⟨.int .i64 0, by simp [run_underlying (sliceEl_inv he), goInt], .int _ _⟩
  · cases str <;> first | (cases h2; done) | skip
    cases h2
    obtain ⟨e, he⟩ := Option.isSome_iff_exists.1 ok2
    cases hx
    exact ⟨.int .i64 0, by simp [run_underlying (sliceEl_inv he), goInt], .int _ _⟩
  · rename_i n _
    cases str <;> first | (cases h2; done) | skip
    cases h2
    obtain ⟨e, he⟩ := Option.isSome_iff_exists.1 ok2
    cases hx
    all_goals exact ⟨_, by simp [run_underlying (sliceEl_inv he), goInt] <;> rfl, .int _ _⟩
  · cases str <;> first | (cases h2; done) | skip
    cases h2
    obtain ⟨s, rfl, rfl⟩ := hx.str_inv
    rw [bytes_len]
    exact ⟨.int .i64 s.size, by simp [run_underlying (isStr_inv ok2), goInt], .int _ _⟩
theorem e_cap (hH : HR P gl w0 ι H w) (hT : TmOk ι T a.tmps) {x : Rd} {v : V} (ok : okOp P gl o.op (.cap x) = true) (h : exec run y (.cap x) T H = .va v) : Did P ι w a o v := by
  obtain ⟨d, h1, h2⟩ := rd1_inv (toVa_inv h)
  simp only [okOp] at ok
  split at ok <;> first | (cases ok; done) | skip
  rename_i c ho
  split at ok <;> first | (cases ok; done) | skip
  rename_i x' t hc ha hat
  simp only [Bool.and_eq_true] at ok
  obtain ⟨ok1, ok2⟩ := ok
  have hx := rd_sound hH hT ok1 h1
  obtain ⟨bs, hex⟩ := args1 (P := P) (w := w) (ρ := a.eval) hc ha ho
  unfold Did
  rw [hex]
  have hat' : c.argTypes[0]? = some t := by rw [← Array.getElem?_toList, hat]; rfl
  obtain ⟨e, he⟩ := Option.isSome_iff_exists.1 ok2
  simp only [builtin, Builtin.cap_, hat']
  generalize a.eval x' = u at hx ⊢
  unfold capV at h2
  split at h2 <;> first | (cases h2; done) | skip
  · cases h2; cases hx
    exact ⟨.int .i64 0, by simp [run_underlying (sliceEl_inv he), goInt], .int _ _⟩
  · cases h2; cases hx
    exact ⟨_, by simp [run_underlying (sliceEl_inv he), goInt] <;> rfl, .int _ _⟩
theorem e_sl (hH : HR P gl w0 ι H w) (hT : TmOk ι T a.tmps) {es : Nat} {x : Rd} {lo hi mx : Option Rd} {v : V} (ok : okOp P gl o.op (.sl es x lo hi mx) = true) (h : exec run y (.sl es x lo hi mx) T H = .va v) : Did P ι w a o v := by
  obtain ⟨dx, h1, h⟩ := ob_some.1 (toVa_inv h)
  obtain ⟨dlo, h2, h⟩ := ob_some.1 h
  obtain ⟨dhi, h3, h⟩ := ob_some.1 h
  obtain ⟨dmx, h4, h5⟩ := ob_some.1 h
  simp only [okOp] at ok
  split at ok <;> first | (cases ok; done) | skip
  rename_i t x' lo' hi' mx' ho
  simp only [Bool.and_eq_true] at ok
  obtain ⟨⟨⟨⟨ok1, ok2⟩, ok3⟩, ok4⟩, ok5⟩ := ok
  split at ok5 <;> first | (cases ok5; done) | skip
  rename_i e he
  obtain ⟨z, h6, h7⟩ := slV_sound (P := P) (w := w) (rd_sound hH hT ok1 h1) (rdO_sound hH hT ok2 h2) (rdO_sound hH hT ok3 h3) (rdO_sound hH hT ok4 h4) (sliceEl_inv he) (okN_inv ok5) h5 (fun id off len cap b sz hx hi ht hc => by
    subst hx
    have hroom : roomOf H es (.sl id off es len none) = Option.rec (motive := fun _ => Nat) len (fun k => ite1 (Nat.ble len k) k len) (H.cells id fun own n _ => ite1 own (some ((n - off) / es)) none) := rfl
    rw [hroom]
    cases hk : (H.cells id fun own n _ => ite1 own (some ((n - off) / es)) none) with
    | none => exact ⟨Nat.le_refl _, hc⟩
    | some k =>
      obtain ⟨own, n, cs, hg, hf⟩ := Heap.cells_some hk
      obtain ⟨ho, hf2⟩ := ite1_some.1 hf
      subst ho
      have ek := Option.some.inj hf2
      obtain ⟨arr, el, fz, p1, p2, p3⟩ := hH.obs id _ b sz hg hi
      obtain ⟨_, _, p5, _⟩ := p3 rfl
      show len ≤ ite1 (Nat.ble len k) k len ∧ ite1 (Nat.ble len k) k len ≤ cap
      cases hb : Nat.ble len k with
      | false => exact ⟨Nat.le_refl _, hc⟩
      | true =>
        refine ⟨Nat.le_of_ble_eq_true hb, ?_⟩
        show k ≤ cap
        rcases Nat.eq_zero_or_pos es with h0 | h0
        · subst h0; simp at ek; omega
        · have h8 : k * es ≤ n - off := by rw [← ek]; exact Nat.div_mul_le_self _ _
          have h9 : k * es ≤ cap * es := by omega
          exact Nat.le_of_mul_le_mul_right h9 h0)
  exact ⟨z, by simp [execOp, ho, h6], h7⟩
theorem e_slp (hH : HR P gl w0 ι H w) (hT : TmOk ι T a.tmps) {len es : Nat} {x : Rd} {lo hi mx : Option Rd} {v : V} (ok : okOp P gl o.op (.slp len es x lo hi mx) = true) (h : exec run y (.slp len es x lo hi mx) T H = .va v) : Did P ι w a o v := by
  obtain ⟨dx, h1, h⟩ := ob_some.1 (toVa_inv h)
  obtain ⟨dlo, h2, h⟩ := ob_some.1 h
  obtain ⟨dhi, h3, h⟩ := ob_some.1 h
  obtain ⟨dmx, h4, h5⟩ := ob_some.1 h
  unfold slpV at h5
  split at h5 <;> first | (cases h5; done) | skip
  simp only [okOp] at ok
  split at ok <;> first | (cases ok; done) | skip
  rename_i t x' lo' hi' mx' ho
  simp only [Bool.and_eq_true] at ok
  obtain ⟨⟨⟨⟨ok1, ok2⟩, ok3⟩, ok4⟩, ok5⟩ := ok
  split at ok5 <;> first | (cases ok5; done) | skip
  · rename_i ar hp
    split at ok5 <;> first | (cases ok5; done) | skip
    rename_i n e hu
    simp only [Bool.and_eq_true] at ok5
    have := Nat.eq_of_beq_eq_true ok5.1; subst this
    have hs := okN_inv ok5.2
    have hx := rd_sound hH hT ok1 h1
    simp only [Did, execOp, ho]
    generalize a.eval x' = u at hx ⊢
    cases hx with
    | ptr hι =>
      obtain ⟨l, h', m, hbr, hv⟩ := slEx_sound (P := P) (w := w) hι (Nat.le_refl _) (rdO_sound hH hT ok2 h2) (rdO_sound hH hT ok3 h3) (rdO_sound hH hT ok4 h4) h5
      refine ⟨_, ?_, hv⟩
      have hb := hbr false
      simp [Instr.sliceAt, Instr.slice, Instr.sureAddr, asAddr, run_underlying hp, run_underlying hu, hb, run_sizeOf' hs, add_off]
  · rename_i n e hu
    simp only [Bool.and_eq_true] at ok5
    have := Nat.eq_of_beq_eq_true ok5.1; subst this
    have hs := okN_inv ok5.2
    have hx := rd_sound hH hT ok1 h1
    simp only [Did, execOp, ho]
    generalize a.eval x' = u at hx ⊢
    cases hx with
    | ptr hι =>
      obtain ⟨l, h', m, hbr, hv⟩ := slEx_sound (P := P) (w := w) hι (Nat.le_refl _) (rdO_sound hH hT ok2 h2) (rdO_sound hH hT ok3 h3) (rdO_sound hH hT ok4 h4) h5
      refine ⟨_, ?_, hv⟩
      have hb := hbr false
      simp [Instr.sliceAt, Instr.sureAddr, run_underlying hu, hb, run_sizeOf' hs, add_off]
theorem e_sls (hH : HR P gl w0 ι H w) (hT : TmOk ι T a.tmps) {x : Rd} {lo hi : Option Rd} {v : V} (ok : okOp P gl o.op (.sls x lo hi) = true) (h : exec run y (.sls x lo hi) T H = .va v) : Did P ι w a o v := by
  obtain ⟨dx, h1, h⟩ := ob_some.1 (toVa_inv h)
  obtain ⟨dlo, h2, h⟩ := ob_some.1 h
  obtain ⟨dhi, h3, h5⟩ := ob_some.1 h
  unfold slsV at h5
  split at h5 <;> first | (cases h5; done) | skip
  obtain ⟨j, hj, h6⟩ := ob_some.1 h5
  obtain ⟨i, hii, h7⟩ := ob_some.1 h6
  cases h7
  simp only [okOp] at ok
  split at ok <;> first | (cases ok; done) | skip
  rename_i t x' lo' hi' ho
  simp only [Bool.and_eq_true] at ok
  obtain ⟨⟨⟨ok1, ok2⟩, ok3⟩, ok4⟩ := ok
  obtain ⟨s, rfl, hs⟩ := (rd_sound hH hT ok1 h1).str_inv
  rw [bytes_len] at hj
  have eh := bndO_inv hj
  have el := bndO_inv hii
  have hjl : j ≤ s.size := by rcases eh with ⟨_, rfl⟩ | ⟨_, _, _, h⟩ <;> omega
  have hij : i ≤ j := by rcases el with ⟨_, rfl⟩ | ⟨_, _, _, h⟩ <;> omega
  have hb := bounds_run (P := P) (w := w) (isS := false) (len := s.size) (cap := s.size) (m := s.size) (mx := none) (mx' := none) (rdO_sound hH hT ok2 h2) (rdO_sound hH hT ok3 h3) trivial (.inl ⟨rfl, rfl⟩)
    (eh.imp (fun h => ⟨h.1, rfl, h.2⟩) fun ⟨k, h1, _, h2⟩ => ⟨k, h1, h2⟩) (el.imp _root_.id fun ⟨k, h1, _, h2⟩ => ⟨k, h1, h2⟩)
  refine ⟨.string (s.extract i j), ?_, ?_⟩
  · simp [execOp, ho, hs, Instr.sliceAt, Instr.slice, run_underlying (isStr_inv ok4), hb]
  · have : ltake (j - i) (ldrop i (s.data.toList.map UInt8.toNat)) = (s.extract i j).data.toList.map UInt8.toNat := by
      rw [ltake_eq, ldrop_eq, ← List.map_drop, ← List.map_take]
      congr 1
      simp [ByteArray.data_extract, Array.toList_extract]
    rw [this]; exact .str _
theorem e_mm (hH : HR P gl w0 ι H w) (hT : TmOk ι T a.tmps) {mx : Bool} {x z : Rd} {v : V} (ok : okOp P gl o.op (.mm mx x z) = true) (h : exec run y (.mm mx x z) T H = .va v) : Did P ι w a o v := by
  obtain ⟨d, e, h1, h2, h3⟩ := rd2_inv (toVa_inv h)
  unfold mmV at h3
  split at h3 <;> first | (cases h3; done) | skip
  rename_i k m k' n
  obtain ⟨hk, h4⟩ := ite1_some.1 h3
  cases h4
  have := keq_eq hk; subst this
  simp only [okOp] at ok
  split at ok <;> first | (cases ok; done) | skip
  rename_i c ho
  split at ok <;> first | (cases ok; done) | skip
  rename_i b x' y' hc ha
  simp only [Bool.and_eq_true] at ok
  obtain ⟨⟨ok1, ok2⟩, ok3⟩ := ok
  obtain ⟨bs, hex⟩ := args2 (P := P) (w := w) (ρ := a.eval) hc ha ho
  unfold Did
  rw [hex, (rd_sound hH hT ok1 h1).int_inv, (rd_sound hH hT ok2 h2).int_inv]
  cases mx with
  | true =>
    have hb : b = .max := by cases b <;> simp_all
    subst hb
    refine ⟨.int k (ite1 (ilt m n) n m), ?_, .int _ _⟩
    simp only [builtin, Builtin.max_]
    rw [ilt_eq]
    by_cases hmn : m < n
    · simp [Builtin.max2, hmn]
    · simp [Builtin.max2, hmn]
  | false =>
    have hb : b = .min := by cases b <;> simp_all
    subst hb
    refine ⟨.int k (ite1 (ilt n m) n m), ?_, .int _ _⟩
    simp only [builtin, Builtin.min_]
    rw [ilt_eq]
    by_cases hmn : n < m
    · simp [Builtin.min2, hmn]
    · simp [Builtin.min2, hmn]
theorem e_mkfn (hH : HR P gl w0 ι H w) (hT : TmOk ι T a.tmps) {f : Nat} {caps : List Rd} {v : V} (ok : okOp P gl o.op (.mkfn f caps) = true) (h : exec run y (.mkfn f caps) T H = .va v) : Did P ι w a o v := by
  obtain ⟨l, h1, h2⟩ := ob_some.1 (toVa_inv h)
  cases h2
  simp only [okOp] at ok
  split at ok <;> first | (cases ok; done) | skip
  rename_i g first cs ho
  simp only [Bool.and_eq_true] at ok
  obtain ⟨⟨ok1, ok2⟩, ok3⟩ := ok
  have e : g = f := Nat.eq_of_beq_eq_true ok1
  subst e
  have e2 : first = #[] := by
    have := List.isEmpty_iff.1 ok2
    rw [← Array.toList_inj]; simpa using this
  subst e2
  obtain ⟨hl, hr⟩ := rdL_sound hH hT ok3 h1
  refine ⟨.func (.func g) #[] (cs.map a.eval), by simp [execOp, ho, Instr.makeFunc], .fn (by simpa using hl) fun j c x hc hx => ?_⟩
  rw [Array.getElem?_map] at hx
  cases hcs : cs[j]? with
  | none => simp [hcs] at hx
  | some y => simp [hcs] at hx; subst hx; exact hr j c y hc (by rw [Array.getElem?_toList]; exact hcs)
end
end Go.YtnpoikgkhhpdgaaDoorH

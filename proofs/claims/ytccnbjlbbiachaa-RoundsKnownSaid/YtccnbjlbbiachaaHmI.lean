/-
  Every operation that reads does what its run says.
-/
import Derived.Test.YtccnbjlbbiachaaHmG
namespace Go.YtccnbjlbbiachaaH
open Go.RowKit
open Go.YtccnbjlbbiachaaE (tAgg tSize run_isAgg' run_sizeOf' add_off cell_of_heap args1 args2)
variable {P : Program} {gl : List Nat} {w0 : World} {ι κ : Inj} {H H' : Heap} {w w' : World} {T T' : Tm} {a : Act} {N : Nat} {run : Run} {y : Yld} {o : Oper}

section

theorem e_bin (hH : HR P gl w0 ι H w) (hT : TmOk ι T a.tmps) {op : BinOp} {x z : Rd} {v : V} (ok : okOp P gl o.op (.bin op x z) = true) (h : exec run y (.bin op x z) T H = .va v) : Did P ι w a o v := by
  obtain ⟨d, e, h1, h2, h3⟩ := rd2_inv (toVa_inv h)
  simp only [okOp] at ok
  split at ok <;> first | (cases ok; done) | skip
  rename_i op' t x' y' _ ho
  simp only [Bool.and_eq_true, decide_eq_true_eq] at ok
  obtain ⟨⟨rfl, ok1⟩, ok2⟩ := ok
  obtain ⟨r, h4, h5⟩ := binV_sound (P := P) (w := w) (rd_sound hH hT ok1 h1) (rd_sound hH hT ok2 h2) h3 t x' y'
  refine ⟨r, ?_, h5⟩
  simp only [execOp, ho, Sem.run_bind]
  simp only [Sem.run_bind] at h4
  cases hg : (eqGuard op' t x' y' (a.eval x') (a.eval y')).run P w with
  | ok u w1 => rw [hg] at h4; simp only [Result.andThen_ok] at h4 ⊢; rw [h4]; rfl
  | halt q w1 => rw [hg] at h4; cases h4
theorem guarded {op : BinOp} {t : TypeId} {x' y' : Operand} {ty2 : TypeId} {r : Value} (ho : o.op = .binOp op t x' y' ty2)
    (h4 : (do eqGuard op t x' y' (a.eval x') (a.eval y'); binOp op t (a.eval x') (a.eval y') : Sem Value).run P w = .ok r w) : (execOp a.eval o).run P w = .ok (.value r) w := by
  simp only [execOp, ho, Sem.run_bind]
  simp only [Sem.run_bind] at h4
  cases hg : (eqGuard op t x' y' (a.eval x') (a.eval y')).run P w with
  | ok u w1 => rw [hg] at h4; simp only [Result.andThen_ok] at h4 ⊢; rw [h4]; rfl
  | halt q w1 => rw [hg] at h4; cases h4
theorem e_eqb (hH : HR P gl w0 ι H w) (hT : TmOk ι T a.tmps) {neq : Bool} {k : Nat} {x z : Rd} {v : V} (ok : okOp P gl o.op (.eqb neq k x z) = true) (h : exec run y (.eqb neq k x z) T H = .va v) : Did P ι w a o v := by
  obtain ⟨d, e, h1, h2, h3⟩ := rd2_inv (toVa_inv h)
  obtain ⟨r, h4, h5⟩ := ob_some.1 h3
  cases h5
  simp only [okOp] at ok
  split at ok <;> first | (cases ok; done) | skip
  rename_i op' t x' y' _ ho
  simp only [Bool.and_eq_true, decide_eq_true_eq] at ok
  obtain ⟨⟨⟨rfl, ok1⟩, ok2⟩, ok3⟩ := ok
  exact ⟨_, guarded ho (eqbV_sound (rd_sound hH hT ok1 h1) (rd_sound hH hT ok2 h2) h4 ok3 x' y'), .bool _⟩
theorem e_eqa (hH : HR P gl w0 ι H w) (hT : TmOk ι T a.tmps) {neq : Bool} {ks : List Nat} {x z : Rd} {v : V} (ok : okOp P gl o.op (.eqa neq ks x z) = true) (h : exec run y (.eqa neq ks x z) T H = .va v) : Did P ι w a o v := by
  obtain ⟨d, e, h1, h2, h3⟩ := rd2_inv (toVa_inv h)
  unfold eqaV at h3
  split at h3 <;> first | (cases h3; done) | skip
  rename_i cs ds
  obtain ⟨r, h4, h5⟩ := ob_some.1 h3
  cases h5
  simp only [okOp] at ok
  split at ok <;> first | (cases ok; done) | skip
  rename_i op' t x' y' _ ho
  simp only [Bool.and_eq_true, decide_eq_true_eq] at ok
  obtain ⟨⟨⟨⟨⟨rfl, ok1⟩, ok2⟩, ok3⟩, ok4⟩, ok5⟩ := ok
  split at ok3 <;> first | (cases ok3; done) | skip
  rename_i ks' hks
  simp at ok3; subst ok3
  split at ok4 <;> first | (cases ok4; done) | skip
  rename_i b hb
  subst ok4
  have hu := rd_sound hH hT ok1 h1
  have hz := rd_sound hH hT ok2 h2
  refine ⟨.bool (ite1 neq (!r) r), ?_, .bool _⟩
  refine guarded ho ?_
  generalize a.eval x' = u at hu ⊢
  generalize a.eval y' = q at hz ⊢
  cases hu with
  | @agg _ us hl1 hr1 =>
    cases hz with
    | @agg _ vs hl2 hr2 =>
      obtain ⟨cs', ds', q1, q2, q3, q4, q5, q6, q7⟩ := eqL_toD ks' cs ds us.toList vs.toList r h4 (by simpa using hl1) (by simpa using hl2) (fun j c x hc hx => hr1 j c x hc (by simpa using hx)) (fun j c x hc hx => hr2 j c x hc (by simpa using hx))
      have G0 : YtccnbjlbbiachaaE.Gh := ⟨fun _ _ => none, fun _ => none, fun _ => none⟩
      have := YtccnbjlbbiachaaE.eqa_sound (P := P) (w := w) (G := G0) (neq := neq) (f := true) (g := true) (.pure (.agg (vs := us) (by simpa using q2) q4 fun j c x hc hx => q6 _ j c x hc (by simpa using hx)))
        (.pure (.agg (vs := vs) (by simpa using q3) q5 fun j c x hc hx => q7 _ j c x hc (by simpa using hx))) q1 hks (by omega) hb (by simpa using ok5) x' y'
      rw [this]
      cases neq <;> rfl
theorem e_un (hH : HR P gl w0 ι H w) (hT : TmOk ι T a.tmps) {op : UnOp} {x : Rd} {v : V} (ok : okOp P gl o.op (.un op x) = true) (h : exec run y (.un op x) T H = .va v) : Did P ι w a o v := by
  obtain ⟨d, h1, h2⟩ := rd1_inv (toVa_inv h)
  simp only [okOp] at ok
  split at ok <;> first | (cases ok; done) | skip
  rename_i op' t x' ho
  simp only [Bool.and_eq_true, decide_eq_true_eq] at ok
  obtain ⟨rfl, ok1⟩ := ok
  have hu := rd_sound hH hT ok1 h1
  have G0 : YtccnbjlbbiachaaE.Gh := ⟨fun _ _ => none, fun _ => none, fun _ => none⟩
  unfold unV at h2
  split at h2 <;> first | (cases h2; done) | skip
  · obtain ⟨e, h3, h4⟩ := ob_some.1 h2
    obtain ⟨z, h5, h6⟩ := YtccnbjlbbiachaaE.unD_sound (P := P) (w := w) (G := G0) (.pure (.int _ _)) h3
    exact ⟨z, by simp [execOp, ho, hu.int_inv, h5], ofD_inv h4 h6⟩
  · split at h2 <;> first | (cases h2; done) | skip
    cases h2
    exact ⟨_, by simp [execOp, ho, hu.bool_inv, Op.unary] <;> rfl, .bool _⟩
theorem e_cv (hH : HR P gl w0 ι H w) (hT : TmOk ι T a.tmps) {k : IntKind} {x : Rd} {v : V} (ok : okOp P gl o.op (.cv k x) = true) (h : exec run y (.cv k x) T H = .va v) : Did P ι w a o v := by
  obtain ⟨d, h1, h2⟩ := rd1_inv (toVa_inv h)
  simp only [okOp] at ok
  split at ok <;> first | (cases ok; done) | skip
  rename_i s t x' ho
  simp only [Bool.and_eq_true] at ok
  obtain ⟨⟨ok1, ok2⟩, ok3⟩ := ok
  have hu := rd_sound hH hT ok3 h1
  unfold cvV at h2
  split at h2 <;> first | (cases h2; done) | skip
  cases h2
  obtain ⟨ds, hds⟩ := Option.isSome_iff_exists.1 ok2
  refine ⟨_, ?_, .int _ _⟩
  rw [wrapF_eq]
  simp [execOp, ho, hu.int_inv, convert, run_underlying hds, run_underlying (isInt_inv ok1)] <;> rfl
theorem e_fld (hH : HR P gl w0 ι H w) (hT : TmOk ι T a.tmps) {ag : Bool} {off n : Nat} {x : Rd} {v : V} (ok : okOp P gl o.op (.fld ag off n x) = true) (h : exec run y (.fld ag off n x) T H = .va v) : Did P ι w a o v := by
  obtain ⟨d, h1, h2⟩ := rd1_inv (toVa_inv h)
  unfold fldV at h2
  split at h2 <;> first | (cases h2; done) | skip
  rename_i cs
  simp only [okOp] at ok
  split at ok <;> first | (cases ok; done) | skip
  rename_i t x' f ho
  simp only [Bool.and_eq_true] at ok
  obtain ⟨ok1, ok2⟩ := ok
  unfold okFd at ok1
  split at ok1 <;> first | (cases ok1; done) | skip
  rename_i fs hu
  split at ok1 <;> first | (cases ok1; done) | skip
  rename_i fd hf
  simp only [Bool.and_eq_true] at ok1
  have ho' := Nat.eq_of_beq_eq_true ok1.1
  obtain ⟨q1, q2, _⟩ := okSz_inv ok1.2
  have hx := rd_sound hH hT ok2 h1
  simp only [Did, execOp, ho]
  generalize a.eval x' = u at hx ⊢
  cases hx with
  | @agg _ vs hl hr =>
    obtain ⟨z, h3, h4⟩ := part_sound (P := P) (w := w) hl hr h2 q1 q2
    refine ⟨z, ?_, h4⟩
    subst ho'
    simp [Instr.field, asAgg, run_underlying hu, hf, h3]
theorem e_fadr (hH : HR P gl w0 ι H w) (hT : TmOk ι T a.tmps) {off : Nat} {x : Rd} {v : V} (ok : okOp P gl o.op (.fadr off x) = true) (h : exec run y (.fadr off x) T H = .va v) : Did P ι w a o v := by
  obtain ⟨d, h1, h2⟩ := rd1_inv (toVa_inv h)
  unfold fadrV at h2
  split at h2 <;> first | (cases h2; done) | skip
  cases h2
  simp only [okOp] at ok
  split at ok <;> first | (cases ok; done) | skip
  rename_i t x' f ho
  simp only [Bool.and_eq_true] at ok
  obtain ⟨ok1, ok2⟩ := ok
  unfold okFa at ok1
  split at ok1 <;> first | (cases ok1; done) | skip
  rename_i fs hu
  split at ok1 <;> first | (cases ok1; done) | skip
  rename_i fd hf
  simp only [Bool.and_eq_true] at ok1
  have ho' := Nat.eq_of_beq_eq_true ok1.1
  have hx := rd_sound hH hT ok2 h1
  simp only [Did, execOp, ho]
  generalize a.eval x' = u at hx ⊢
  cases hx with
  | ptr hι =>
    subst ho'
    have ok1 := ok1.2
    split at ok1 <;> first | (cases ok1; done) | skip
    rename_i n hn
    have h0 := blt_lt ok1
    have hp : ∀ off' b', (fieldPlace ⟨b', off', none⟩ fd).run P w = .ok ⟨b', off' + fd.offset, none⟩ w := fun off' b' => by
      have hne : ¬ n = 0 := by omega
      simp [fieldPlace, run_sizeOf' hn, add_off, hne]
    exact ⟨.pointer (some ⟨_, _, none⟩), by simp [Instr.fieldAt, run_underlying hu, hf, Instr.sureAddr, hp], .ptr hι⟩
theorem e_iadr (hH : HR P gl w0 ι H w) (hT : TmOk ι T a.tmps) {es : Nat} {x i : Rd} {v : V} (ok : okOp P gl o.op (.iadr es x i) = true) (h : exec run y (.iadr es x i) T H = .va v) : Did P ι w a o v := by
  obtain ⟨di, dx, h1, h2, h3⟩ := rd2_inv (toVa_inv h)
  unfold iadrV at h3
  split at h3 <;> first | (cases h3; done) | skip
  rename_i id off es' len cap
  obtain ⟨hb, hz⟩ := ite1_some.1 h3
  have := Nat.eq_of_beq_eq_true hb; subst this
  obtain ⟨j, hj, hq⟩ := ob_some.1 hz
  cases hq
  obtain ⟨k, rfl, hlt⟩ := idx_inv hj
  simp only [okOp] at ok
  split at ok <;> first | (cases ok; done) | skip
  rename_i t x' i' ho
  simp only [Bool.and_eq_true] at ok
  obtain ⟨⟨ok1, ok2⟩, ok3⟩ := ok
  split at ok3 <;> first | (cases ok3; done) | skip
  rename_i e he
  have hs := okN_inv ok3
  have ht := sliceEl_inv he
  have hx := rd_sound hH hT ok1 h2
  have hi := (rd_sound hH hT ok2 h1).int_inv
  simp only [Did, execOp, ho, hi]
  generalize a.eval x' = u at hx ⊢
  cases hx with
  | sl hι hc => exact ⟨_, by simp [Instr.indexAt, asIntOf, run_underlying ht, hlt, run_sizeOf' hs, add_off] <;> rfl, .ptr hι⟩
  | slu hι hc htp => exact ⟨_, by simp [Instr.indexAt, asIntOf, run_underlying ht, hlt, run_sizeOf' hs, add_off] <;> rfl, .ptr hι⟩
theorem e_iada (hH : HR P gl w0 ι H w) (hT : TmOk ι T a.tmps) {len es : Nat} {x i : Rd} {v : V} (ok : okOp P gl o.op (.iada len es x i) = true) (h : exec run y (.iada len es x i) T H = .va v) : Did P ι w a o v := by
  obtain ⟨di, dx, h1, h2, h3⟩ := rd2_inv (toVa_inv h)
  unfold iadaV at h3
  split at h3 <;> first | (cases h3; done) | skip
  obtain ⟨j, hj, hq⟩ := ob_some.1 h3
  cases hq
  obtain ⟨k, rfl, hlt⟩ := idx_inv hj
  simp only [okOp] at ok
  split at ok <;> first | (cases ok; done) | skip
  rename_i t x' i' ho
  simp only [Bool.and_eq_true] at ok
  obtain ⟨⟨ok1, ok2⟩, ok3⟩ := ok
  split at ok3 <;> first | (cases ok3; done) | skip
  rename_i n e hu
  simp only [Bool.and_eq_true] at ok3
  have := Nat.eq_of_beq_eq_true ok3.1; subst this
  have hs := okN_inv ok3.2
  have hx := rd_sound hH hT ok1 h2
  have hi := (rd_sound hH hT ok2 h1).int_inv
  simp only [Did, execOp, ho, hi]
  generalize a.eval x' = u at hx ⊢
  cases hx with
  | ptr hι => exact ⟨.pointer (some ⟨_, _, none⟩), by simp [Instr.indexAt, Instr.sureAddr, asIntOf, run_underlying hu, hlt, run_sizeOf' hs, add_off], .ptr hι⟩
theorem e_ida (hH : HR P gl w0 ι H w) (hT : TmOk ι T a.tmps) {len es : Nat} {ag : Bool} {x i : Rd} {v : V} (ok : okOp P gl o.op (.ida len es ag x i) = true) (h : exec run y (.ida len es ag x i) T H = .va v) : Did P ι w a o v := by
  obtain ⟨di, dx, h1, h2, h3⟩ := rd2_inv (toVa_inv h)
  unfold idaV at h3
  split at h3 <;> first | (cases h3; done) | skip
  rename_i cs
  obtain ⟨j, hj, hq⟩ := ob_some.1 h3
  obtain ⟨k, rfl, hlt⟩ := idx_inv hj
  simp only [okOp] at ok
  split at ok <;> first | (cases ok; done) | skip
  rename_i t x' i' ho
  simp only [Bool.and_eq_true] at ok
  obtain ⟨⟨ok1, ok2⟩, ok3⟩ := ok
  split at ok3 <;> first | (cases ok3; done) | skip
  rename_i n e hu
  simp only [Bool.and_eq_true] at ok3
  have := Nat.eq_of_beq_eq_true ok3.1; subst this
  obtain ⟨q1, q2, _⟩ := okSz_inv ok3.2
  have hx := rd_sound hH hT ok1 h2
  have hi := (rd_sound hH hT ok2 h1).int_inv
  simp only [Did, execOp, ho, hi]
  generalize a.eval x' = u at hx ⊢
  cases hx with
  | @agg _ vs hl hr =>
    obtain ⟨z, h4, h5⟩ := part_sound (P := P) (w := w) hl hr hq q1 q2
    exact ⟨z, by simp [Instr.index, asIntOf, run_underlying hu, hlt, run_sizeOf' q2, h4], h5⟩
theorem e_ids (hH : HR P gl w0 ι H w) (hT : TmOk ι T a.tmps) {x i : Rd} {v : V} (ok : okOp P gl o.op (.ids x i) = true) (h : exec run y (.ids x i) T H = .va v) : Did P ι w a o v := by
  obtain ⟨di, dx, h1, h2, h3⟩ := rd2_inv (toVa_inv h)
  unfold idsV at h3
  split at h3 <;> first | (cases h3; done) | skip
  obtain ⟨j, hj, hq⟩ := ob_some.1 h3
  obtain ⟨b, hb, hz⟩ := ob_some.1 hq
  cases hz
  obtain ⟨k, rfl, hlt⟩ := idx_inv hj
  simp only [okOp] at ok
  split at ok <;> first | (cases ok; done) | skip
  rename_i t x' i' ho
  simp only [Bool.and_eq_true] at ok
  obtain ⟨⟨ok1, ok2⟩, ok3⟩ := ok
  obtain ⟨s, rfl, hs⟩ := (rd_sound hH hT ok1 h2).str_inv
  have hi := (rd_sound hH hT ok2 h1).int_inv
  rw [lget_eq] at hb
  rw [bytes_len] at hlt
  have hlt' : j < s.data.size := hlt
  simp at hb
  obtain ⟨c, hc, rfl⟩ := hb
  simp only [Did, execOp, ho, hi, hs]
  refine ⟨.int .u8 c.toNat, ?_, .int _ _⟩
  have hg : s[j]? = some c := by
    rw [getElem?_pos s j hlt]
    have := (Array.getElem?_eq_some_iff.1 hc).2
    exact congrArg some this
  simp [Instr.index, asIntOf, run_underlying (isStr_inv ok3), hg]
theorem e_ext (hH : HR P gl w0 ι H w) (hT : TmOk ι T a.tmps) {x : Rd} {i : Nat} {v : V} (ok : okOp P gl o.op (.ext x i) = true) (h : exec run y (.ext x i) T H = .va v) : Did P ι w a o v := by
  obtain ⟨d, h1, h2⟩ := rd1_inv (toVa_inv h)
  unfold extV at h2
  split at h2 <;> first | (cases h2; done) | skip
  simp only [okOp] at ok
  split at ok <;> first | (cases ok; done) | skip
  rename_i x' i' ho
  simp only [Bool.and_eq_true] at ok
  have := Nat.eq_of_beq_eq_true ok.2; subst this
  have hx := rd_sound hH hT ok.1 h1
  rw [lget_eq] at h2
  have hlt := (List.getElem?_eq_some_iff.1 h2).1
  simp only [Did, execOp, ho]
  generalize a.eval x' = u at hx ⊢
  cases hx with
  | @tup _ us hl hr =>
    have hlt' : i' < us.size := by omega
    exact ⟨us[i'], by simp [Instr.extract, hlt'], hr i' v us[i'] h2 (by simp [hlt'])⟩
theorem e_len (hH : HR P gl w0 ι H w) (hT : TmOk ι T a.tmps) {str : Bool} {x : Rd} {v : V} (ok : okOp P gl o.op (.len str x) = true) (h : exec run y (.len str x) T H = .va v) : Did P ι w a o v := by
  obtain ⟨d, h1, h2⟩ := rd1_inv (toVa_inv h)
  simp only [okOp] at ok
  split at ok <;> first | (cases ok; done) | skip
  rename_i c ho
  split at ok <;> first | (cases ok; done) | skip
  rename_i x' t hc ha hat
  simp only [Bool.and_eq_true] at ok
  obtain ⟨ok1, ok2⟩ := ok
  have hx := rd_sound hH hT ok1 h1
  obtain ⟨bs, hex⟩ := args1 (P := P) (w := w) (ρ := a.eval) hc ha ho
  unfold Did
  rw [hex]
  have hat' : c.argTypes[0]? = some t := by rw [← Array.getElem?_toList, hat]; rfl
  simp only [builtin, Builtin.len_, hat']
  generalize a.eval x' = u at hx ⊢
  unfold lenV at h2
  split at h2 <;> first | (cases h2; done) | skip
  · cases str <;> first | (cases h2; done) | skip
    cases h2
    obtain ⟨e, he⟩ := Option.isSome_iff_exists.1 ok2
    cases hx
    exact ⟨.int .i64 0, by simp [run_underlying (sliceEl_inv he), goInt], .int _ _⟩
  · cases str <;> first | (cases h2; done) | skip
    cases h2
    obtain ⟨e, he⟩ := Option.isSome_iff_exists.1 ok2
    cases hx
    exact ⟨.int .i64 0, by simp [run_underlying (sliceEl_inv he), goInt], .int _ _⟩
  · rename_i n _
    cases str <;> first | (cases h2; done) | skip
    cases h2
    obtain ⟨e, he⟩ := Option.isSome_iff_exists.1 ok2
    cases hx
    all_goals exact ⟨_, by simp [run_underlying (sliceEl_inv he), goInt] <;> rfl, .int _ _⟩
  · cases str <;> first | (cases h2; done) | skip
    cases h2
    obtain ⟨s, rfl, rfl⟩ := hx.str_inv
    rw [bytes_len]
    exact ⟨.int .i64 s.size, by simp [run_underlying (isStr_inv ok2), goInt], .int _ _⟩
theorem e_cap (hH : HR P gl w0 ι H w) (hT : TmOk ι T a.tmps) {x : Rd} {v : V} (ok : okOp P gl o.op (.cap x) = true) (h : exec run y (.cap x) T H = .va v) : Did P ι w a o v := by
  obtain ⟨d, h1, h2⟩ := rd1_inv (toVa_inv h)
  simp only [okOp] at ok
  split at ok <;> first | (cases ok; done) | skip
  rename_i c ho
  split at ok <;> first | (cases ok; done) | skip
  rename_i x' t hc ha hat
  simp only [Bool.and_eq_true] at ok
  obtain ⟨ok1, ok2⟩ := ok
  have hx := rd_sound hH hT ok1 h1
  obtain ⟨bs, hex⟩ := args1 (P := P) (w := w) (ρ := a.eval) hc ha ho
  unfold Did
  rw [hex]
  have hat' : c.argTypes[0]? = some t := by rw [← Array.getElem?_toList, hat]; rfl
  obtain ⟨e, he⟩ := Option.isSome_iff_exists.1 ok2
  simp only [builtin, Builtin.cap_, hat']
  generalize a.eval x' = u at hx ⊢
  unfold capV at h2
  split at h2 <;> first | (cases h2; done) | skip
  · cases h2; cases hx
    exact ⟨.int .i64 0, by simp [run_underlying (sliceEl_inv he), goInt], .int _ _⟩
  · cases h2; cases hx
    exact ⟨_, by simp [run_underlying (sliceEl_inv he), goInt] <;> rfl, .int _ _⟩
theorem e_sl (hH : HR P gl w0 ι H w) (hT : TmOk ι T a.tmps) {es : Nat} {x : Rd} {lo hi mx : Option Rd} {v : V} (ok : okOp P gl o.op (.sl es x lo hi mx) = true) (h : exec run y (.sl es x lo hi mx) T H = .va v) : Did P ι w a o v := by
  obtain ⟨dx, h1, h⟩ := ob_some.1 (toVa_inv h)
  obtain ⟨dlo, h2, h⟩ := ob_some.1 h
  obtain ⟨dhi, h3, h⟩ := ob_some.1 h
  obtain ⟨dmx, h4, h5⟩ := ob_some.1 h
  simp only [okOp] at ok
  split at ok <;> first | (cases ok; done) | skip
  rename_i t x' lo' hi' mx' ho
  simp only [Bool.and_eq_true] at ok
  obtain ⟨⟨⟨⟨ok1, ok2⟩, ok3⟩, ok4⟩, ok5⟩ := ok
  split at ok5 <;> first | (cases ok5; done) | skip
  rename_i e he
  obtain ⟨z, h6, h7⟩ := slV_sound (P := P) (w := w) (rd_sound hH hT ok1 h1) (rdO_sound hH hT ok2 h2) (rdO_sound hH hT ok3 h3) (rdO_sound hH hT ok4 h4) (sliceEl_inv he) (okN_inv ok5) h5
  exact ⟨z, by simp [execOp, ho, h6], h7⟩
theorem e_slp (hH : HR P gl w0 ι H w) (hT : TmOk ι T a.tmps) {len es : Nat} {x : Rd} {lo hi mx : Option Rd} {v : V} (ok : okOp P gl o.op (.slp len es x lo hi mx) = true) (h : exec run y (.slp len es x lo hi mx) T H = .va v) : Did P ι w a o v := by
  obtain ⟨dx, h1, h⟩ := ob_some.1 (toVa_inv h)
  obtain ⟨dlo, h2, h⟩ := ob_some.1 h
  obtain ⟨dhi, h3, h⟩ := ob_some.1 h
  obtain ⟨dmx, h4, h5⟩ := ob_some.1 h
  unfold slpV at h5
  split at h5 <;> first | (cases h5; done) | skip
  simp only [okOp] at ok
  split at ok <;> first | (cases ok; done) | skip
  rename_i t x' lo' hi' mx' ho
  simp only [Bool.and_eq_true] at ok
  obtain ⟨⟨⟨⟨ok1, ok2⟩, ok3⟩, ok4⟩, ok5⟩ := ok
  split at ok5 <;> first | (cases ok5; done) | skip
  rename_i ar hp
  split at ok5 <;> first | (cases ok5; done) | skip
  rename_i n e hu
  simp only [Bool.and_eq_true] at ok5
  have := Nat.eq_of_beq_eq_true ok5.1; subst this
  have hs := okN_inv ok5.2
  have hx := rd_sound hH hT ok1 h1
  simp only [Did, execOp, ho]
  generalize a.eval x' = u at hx ⊢
  cases hx with
  | ptr hι =>
    obtain ⟨l, h', m, hbr, hv⟩ := slEx_sound (P := P) (w := w) hι (Nat.le_refl _) (rdO_sound hH hT ok2 h2) (rdO_sound hH hT ok3 h3) (rdO_sound hH hT ok4 h4) h5
    refine ⟨_, ?_, hv⟩
    have hb := hbr false
    simp [Instr.sliceAt, Instr.slice, Instr.sureAddr, asAddr, run_underlying hp, run_underlying hu, hb, run_sizeOf' hs, add_off]
theorem e_sls (hH : HR P gl w0 ι H w) (hT : TmOk ι T a.tmps) {x : Rd} {lo hi : Option Rd} {v : V} (ok : okOp P gl o.op (.sls x lo hi) = true) (h : exec run y (.sls x lo hi) T H = .va v) : Did P ι w a o v := by
  obtain ⟨dx, h1, h⟩ := ob_some.1 (toVa_inv h)
  obtain ⟨dlo, h2, h⟩ := ob_some.1 h
  obtain ⟨dhi, h3, h5⟩ := ob_some.1 h
  unfold slsV at h5
  split at h5 <;> first | (cases h5; done) | skip
  obtain ⟨j, hj, h6⟩ := ob_some.1 h5
  obtain ⟨i, hii, h7⟩ := ob_some.1 h6
  cases h7
  simp only [okOp] at ok
  split at ok <;> first | (cases ok; done) | skip
  rename_i t x' lo' hi' ho
  simp only [Bool.and_eq_true] at ok
  obtain ⟨⟨⟨ok1, ok2⟩, ok3⟩, ok4⟩ := ok
  obtain ⟨s, rfl, hs⟩ := (rd_sound hH hT ok1 h1).str_inv
  rw [bytes_len] at hj
  have eh := bndO_inv hj
  have el := bndO_inv hii
  have hjl : j ≤ s.size := by rcases eh with ⟨_, rfl⟩ | ⟨_, _, _, h⟩ <;> omega
  have hij : i ≤ j := by rcases el with ⟨_, rfl⟩ | ⟨_, _, _, h⟩ <;> omega
  have hb := bounds_run (P := P) (w := w) (isS := false) (len := s.size) (cap := s.size) (m := s.size) (mx := none) (mx' := none) (rdO_sound hH hT ok2 h2) (rdO_sound hH hT ok3 h3) trivial (.inl ⟨rfl, rfl⟩)
    (eh.imp (fun h => ⟨h.1, rfl, h.2⟩) fun ⟨k, h1, _, h2⟩ => ⟨k, h1, h2⟩) (el.imp _root_.id fun ⟨k, h1, _, h2⟩ => ⟨k, h1, h2⟩)
  refine ⟨.string (s.extract i j), ?_, ?_⟩
  · simp [execOp, ho, hs, Instr.sliceAt, Instr.slice, run_underlying (isStr_inv ok4), hb]
  · have : ltake (j - i) (ldrop i (s.data.toList.map UInt8.toNat)) = (s.extract i j).data.toList.map UInt8.toNat := by
      rw [ltake_eq, ldrop_eq, ← List.map_drop, ← List.map_take]
      congr 1
      simp [ByteArray.data_extract, Array.toList_extract]
    rw [this]; exact .str _
theorem e_mm (hH : HR P gl w0 ι H w) (hT : TmOk ι T a.tmps) {mx : Bool} {x z : Rd} {v : V} (ok : okOp P gl o.op (.mm mx x z) = true) (h : exec run y (.mm mx x z) T H = .va v) : Did P ι w a o v := by
  obtain ⟨d, e, h1, h2, h3⟩ := rd2_inv (toVa_inv h)
  unfold mmV at h3
  split at h3 <;> first | (cases h3; done) | skip
  rename_i k m k' n
  obtain ⟨hk, h4⟩ := ite1_some.1 h3
  cases h4
  have := keq_eq hk; subst this
  simp only [okOp] at ok
  split at ok <;> first | (cases ok; done) | skip
  rename_i c ho
  split at ok <;> first | (cases ok; done) | skip
  rename_i b x' y' hc ha
  simp only [Bool.and_eq_true] at ok
  obtain ⟨⟨ok1, ok2⟩, ok3⟩ := ok
  obtain ⟨bs, hex⟩ := args2 (P := P) (w := w) (ρ := a.eval) hc ha ho
  unfold Did
  rw [hex, (rd_sound hH hT ok1 h1).int_inv, (rd_sound hH hT ok2 h2).int_inv]
  cases mx with
  | true =>
    have hb : b = .max := by cases b <;> simp_all
    subst hb
    refine ⟨.int k (ite1 (ilt m n) n m), ?_, .int _ _⟩
    simp only [builtin, Builtin.max_]
    rw [ilt_eq]
    by_cases hmn : m < n
    · simp [Builtin.max2, hmn]
    · simp [Builtin.max2, hmn]
  | false =>
    have hb : b = .min := by cases b <;> simp_all
    subst hb
    refine ⟨.int k (ite1 (ilt n m) n m), ?_, .int _ _⟩
    simp only [builtin, Builtin.min_]
    rw [ilt_eq]
    by_cases hmn : n < m
    · simp [Builtin.min2, hmn]
    · simp [Builtin.min2, hmn]
theorem e_mkfn (hH : HR P gl w0 ι H w) (hT : TmOk ι T a.tmps) {f : Nat} {caps : List Rd} {v : V} (ok : okOp P gl o.op (.mkfn f caps) = true) (h : exec run y (.mkfn f caps) T H = .va v) : Did P ι w a o v := by
  obtain ⟨l, h1, h2⟩ := ob_some.1 (toVa_inv h)
  cases h2
  simp only [okOp] at ok
  split at ok <;> first | (cases ok; done) | skip
  rename_i g first cs ho
  simp only [Bool.and_eq_true] at ok
  obtain ⟨⟨ok1, ok2⟩, ok3⟩ := ok
  have e : g = f := Nat.eq_of_beq_eq_true ok1
  subst e
  have e2 : first = #[] := by
    have := List.isEmpty_iff.1 ok2
    rw [← Array.toList_inj]; simpa using this
  subst e2
  obtain ⟨hl, hr⟩ := rdL_sound hH hT ok3 h1
  refine ⟨.func (.func g) #[] (cs.map a.eval), by simp [execOp, ho, Instr.makeFunc], .fn (by simpa using hl) fun j c x hc hx => ?_⟩
  rw [Array.getElem?_map] at hx
  cases hcs : cs[j]? with
  | none => simp [hcs] at hx
  | some y => simp [hcs] at hx; subst hx; exact hr j c y hc (by rw [Array.getElem?_toList]; exact hcs)
end
end Go.YtccnbjlbbiachaaH

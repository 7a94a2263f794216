/-
  Regions that draw their order: any order.
-/
import Derived.Test.YtnpoikgkhhpdgaaDoorHmP
set_option linter.unusedVariables false
namespace Go.YtnpoikgkhhpdgaaDoorH
open Go.RowKit
open Go.YtnpoikgkhhpdgaaDoorE (FF about_FF wpIn_value waitB beforeB backB backB_get waitB_spec beforeB_listed beforeB_closed unl unl_set unl_zero unl_pos unl_replicate ready_or)
variable {P : Program} {gl : List Nat} {w0 : World} {ι κ : Inj} {H H' : Heap} {w w' : World} {T T' : Tm} {a : Act} {N n : Nat} {run : Run} {y : Yld} {o : Oper} {pl : Bool} {ro : Option Nat} {Q : Exit → Act → World → Prop}

theorem AR.congr (h : AR pl ro N ι T a) (hT : ∀ t, gt T' t = gt T t) : AR pl ro N ι T' a where
  sz := h.sz
  tmps t v ht hg := h.tmps t v ht (by rw [← hT]; exact hg)
  plain hp := by obtain ⟨q1, q2, q3, q4⟩ := h.plain hp; exact ⟨q1, by rw [hT]; exact q2, by rw [hT]; exact q3, q4⟩
  rnd0 hr := by obtain ⟨q1, q2⟩ := h.rnd0 hr; exact ⟨by rw [hT]; exact q1, by unfold DfrOk; rw [hT]; exact q2⟩
  rnd1 l hl := by obtain ⟨q1, q2⟩ := h.rnd1 l hl; exact ⟨by rw [hT]; exact q1, q2⟩

structure HInv (P : Program) (gl : List Nat) (w0 : World) (pl : Bool) (ro : Option Nat) (N : Nat) (ι0 : Inj) (Hs : Heap) (ios : List Io) (id0 : Nat) (Hl : List Heap) (T0 : Tm) (vs : Nat → V) (listed : Array Bool) (a : Act) (w : World) : Prop where
  ex : ∃ ι T m Hm, Hl[m]? = some Hm ∧ HR P gl w0 ι Hm w ∧ AR pl ro N ι T a ∧ Ext Hs Hm ι0 ι ∧
    (∀ (i : Nat) (io : Io) (t : Nat), ios[i]? = some io → io.dst = some t → listed.getD i false = true → gt T t = some (vs i)) ∧
    (∀ t, (∀ (i : Nat) (io : Io), ios[i]? = some io → io.dst = some t → listed.getD i false = false) → gt T t = gt T0 t) ∧
    (∀ (i : Nat) (io : Io), ios[i]? = some io → isW io.op = true → (listed.getD i false = true ↔ wc ios i < m)) ∧
    (∀ (i : Nat) (io : Io), ios[i]? = some io → isF io.op = true → listed.getD i false = false → ι (id0 + i) = none ∧ id0 + i < Hm.next)

theorem isF_notW {op : Op} (h : isF op = true) : isW op = false := by cases op <;> first | rfl | (cases h)
theorem gt_put (T : Tm) (dst : Option Nat) (v : V) (t : Nat) : gt (put T dst v) t = if dst = some t then some v else gt T t := by
  cases dst with
  | none => simp [put]
  | some t' =>
    show gt ((t', v) :: T) t = _
    rw [gt_cons]
    by_cases e : t = t'
    · rw [if_pos e, if_pos (by rw [e])]
    · rw [if_neg e, if_neg (fun h => e (by cases h; rfl))]

/-- one operation is taken -/
theorem head_step (hrun : RunOk P gl w0 run) (hy : YldOk P gl w0 y) {ops : Array Oper} {ios : List Io} (hq : ios.length = ops.size) {Ts : Nat → Tm} {Hl : List Heap} {vs : Nat → V} {ι0 : Inj} {Hs : Heap} {id0 : Nat} {K : Act → World → Prop}
    (hok : ∀ (j : Nat) (io : Io), ios[j]? = some io → ∃ o, ops[j]? = some o ∧ okIo P gl N ops o io = true) (hseq : DS run y ios id0 0 Hl Ts vs) (hlen : Hl.length = wc ios ios.length + 1)
    (hid0 : Hs.next ≤ id0) (hkeys : keysB (dstL ios 0) = true) (hreads : readsB ops (dstL ios 0) ios 0 = true) (hwo : wOrd ops (wList ios 0) = true) (hro : rOrd ops (wList ios 0) ios 0 = true)
    {listed : Array Bool} (inv : HeadInv .any ops ops.size listed) {i : Nat} (hi : i ∈ Region.ready .any ops listed) (I : HInv P gl w0 pl ro N ι0 Hs ios id0 Hl (Ts 0) vs listed a w)
    (hK : ∀ a' w', HInv P gl w0 pl ro N ι0 Hs ios id0 Hl (Ts 0) vs (listed.setIfInBounds i true) a' w' → K a' w') : wpOpIn (FF ro) n P ops Q i K a w := by
  obtain ⟨ι, T, m, Hm, hHm, hR, hA, hE, hv1, hv2, hW, hF⟩ := I.ex
  have hdst := keys_apart hkeys
  obtain ⟨hun, oi, hoi, hall⟩ := mem_ready.1 hi
  have hin : i < ios.length := by rw [hq]; exact (Array.getElem?_eq_some_iff.1 hoi).1
  have hio : ios[i]? = some ios[i] := by simp
  have hun' := getD_both hun
  have hlt : i < listed.size := by rw [inv.size]; exact (Array.getElem?_eq_some_iff.1 hoi).1
  have hset : (listed.setIfInBounds i true).getD i false = true := by simp [hlt]
  obtain ⟨o, ho, hokio⟩ := hok i _ hio
  obtain ⟨hs1, hs2⟩ := DS.at hseq hdst i (by omega)
  have hbefore : ∀ j, beforeB ops 60 i j = true → listed.getD j false = true := fun j hb => beforeB_listed inv 60 i j hb fun o' ho' => by rw [hoi] at ho'; cases ho'; exact hall
  have hafter : ∀ j, beforeB ops 60 j i = true → listed.getD j false = false := fun j hb => by
    cases hl : listed.getD j false with
    | false => rfl
    | true => have := beforeB_closed inv hb hl; rw [hun'] at this; cases this
  -- what it reads
  have hread : Same T (Ts i) (ioReads ios[i]) := by
    intro t ht
    by_cases hex : ∃ (j : Nat) (io : Io), ios[j]? = some io ∧ io.dst = some t
    · obtain ⟨j, io, hj, hd⟩ := hex
      have hlate : i ≤ j → listed.getD j false = false → gt T t = gt (Ts i) t := fun hij hl => by
        rw [hv2 t fun j' io' hj' hd' => by rw [hdst j' j io' io t hj' hj hd' hd]; exact hl, hs2 t fun j' io' hj' hjo' hd' => by have := hdst j' j io' io t hjo' hj hd' hd; omega]
      rcases readsB_get hreads i _ hio t ht (0 + j) (dstL_get ios 0 j io t hj hd hkeys) with ⟨h1, h2⟩ | h1 | ⟨h1, h2⟩
      · obtain ⟨o', ho', e, he, hb, hon⟩ := waitB_spec h2
        rw [show 0 + i = i by omega] at ho'
        rw [hoi] at ho'; cases ho'
        have hl : listed.getD j false = true := by have := hall e he hb; rw [hon] at this; simpa using this
        rw [hv1 j io t hj hd hl, hs1 j io t (by omega) hj hd]
      · have : j = i := by omega
        subst this
        exact hlate (Nat.le_refl _) hun'
      · rw [show 0 + i = i by omega, show 0 + j = j by omega] at h2
        exact hlate (by omega) (hafter j h2)
    · have hno : ∀ (j : Nat) (io : Io), ios[j]? = some io → io.dst ≠ some t := fun j io hj hd => hex ⟨j, io, hj, hd⟩
      rw [hv2 t fun j io hj hd => absurd hd (hno j io hj), hs2 t fun j io _ hj => hno j io hj]
  have hgr : wants T ios[i].guard = wants (Ts i) ios[i].guard := wants_congr fun t ht => hread t (List.mem_append_left _ ht)
  have hor : Same T (Ts i) (opReads ios[i].op) := fun t ht => hread t (List.mem_append_right _ ht)
  obtain ⟨b, hw, hTs, hbf, hbw, hbr⟩ := hseq.step i _ hio
  simp only [Nat.zero_add] at hbf hbw
  have hokd := hokio
  simp only [okIo, Bool.and_eq_true] at hokd
  obtain ⟨⟨ok1, ok2⟩, ok3⟩ := hokd
  obtain ⟨hd, hdN⟩ := okDst_inv ok2
  -- the temporaries behind it
  have hnext1 : ∀ (j : Nat) (io : Io) (t : Nat), ios[j]? = some io → io.dst = some t → (listed.setIfInBounds i true).getD j false = true → gt (put T ios[i].dst (vs i)) t = some (vs j) := by
    intro j io t hj hdj hl
    rw [gt_put]
    by_cases e : j = i
    · subst e
      rw [hio] at hj; cases hj
      rw [if_pos hdj]
    · rw [getD_set_ne false (Ne.symm e)] at hl
      rw [if_neg (fun hdi => e (hdst j i io ios[i] t hj hio hdj hdi))]
      exact hv1 j io t hj hdj hl
  have hold : ∀ (j : Nat), (listed.setIfInBounds i true).getD j false = false → j ≠ i ∧ listed.getD j false = false := fun j hj => by
    by_cases e : i = j
    · rw [← e, hset] at hj; cases hj
    · exact ⟨Ne.symm e, by rwa [getD_set_ne false e] at hj⟩
  have hnext2 : ∀ t, (∀ (j : Nat) (io : Io), ios[j]? = some io → io.dst = some t → (listed.setIfInBounds i true).getD j false = false) → gt (put T ios[i].dst (vs i)) t = gt (Ts 0) t := by
    intro t ht
    rw [gt_put, if_neg (fun hdi => by have := ht i _ hio hdi; rw [hset] at this; cases this)]
    exact hv2 t fun j io hj hdj => (hold j (ht j io hj hdj)).2
  -- where the writers are
  have hml : m ≤ wc ios ios.length := by have := (List.getElem?_eq_some_iff.1 hHm).1; omega
  have hWi : isW ios[i].op = true → wc ios i = m := fun hWi => by
    have h1 : m ≤ wc ios i := by
      rcases Nat.lt_or_ge (wc ios i) m with h | h
      · have := (hW i _ hio hWi).2 h; rw [hun'] at this; cases this
      · exact h
    rcases Nat.lt_or_ge m (wc ios i) with h | h
    · obtain ⟨j, io, q1, q2, q3, q4⟩ := wc_ex (i := i) (by omega) h
      have hb := wOrd_get hwo (p := wc ios j) (q := wc ios i) (by omega) (wList_get (k := 0) q2 q3) (wList_get (k := 0) hio hWi)
      rw [Nat.zero_add, Nat.zero_add] at hb
      have := (hW j io q2 q3).1 (hbefore j hb)
      omega
    · omega
  have hWn : isW ios[i].op = true → ∀ (j : Nat) (io : Io), ios[j]? = some io → isW io.op = true → ((listed.setIfInBounds i true).getD j false = true ↔ wc ios j < m + 1) := fun hWi' j io hj hjw => by
    have hmi := hWi hWi'
    by_cases e : j = i
    · subst e; exact ⟨fun _ => by omega, fun _ => hset⟩
    · rw [getD_set_ne false (Ne.symm e), hW j io hj hjw]
      have hjl : j < ios.length := (List.getElem?_eq_some_iff.1 hj).1
      have : wc ios j ≠ wc ios i := fun he => by
        rcases Nat.lt_or_ge j i with h | h
        · have := wc_lt hj hjw h (by omega); omega
        · have := wc_lt hio hWi' (show i < j by omega) (by omega); omega
      omega
  have hWs : isW ios[i].op = false → ∀ (j : Nat) (io : Io), ios[j]? = some io → isW io.op = true → ((listed.setIfInBounds i true).getD j false = true ↔ wc ios j < m) := fun hWi' j io hj hjw => by
    have e : j ≠ i := fun e => by subst e; rw [hio] at hj; cases hj; rw [hWi'] at hjw; cases hjw
    rw [getD_set_ne false (Ne.symm e)]; exact hW j io hj hjw
  have hbounds : isW ios[i].op = false → ios[i].lo ≤ m ∧ m ≤ ios[i].hi := fun hWi' => by
    obtain ⟨r1, r2⟩ := rOrd_get hro hio hWi'
    simp only [Nat.zero_add] at r1 r2
    constructor
    · cases hlo : ios[i].lo with
      | zero => omega
      | succ q =>
        obtain ⟨j, h1, h2⟩ := r1 q hlo
        obtain ⟨j', io, e1, h3, h4, h5⟩ := wList_inv h1
        rw [Nat.zero_add] at e1; subst e1
        have := (hW j io h3 h4).1 (hbefore j h2)
        omega
    · rcases r2 with ⟨j, h1, h2⟩ | h1
      · obtain ⟨j', io, e1, h3, h4, h5⟩ := wList_inv h1
        rw [Nat.zero_add] at e1; subst e1
        rcases Nat.lt_or_ge ios[i].hi m with h | h
        · have := (hW j io h3 h4).2 (by omega)
          rw [hafter j h2] at this; cases this
        · exact h
      · rw [wList_len] at h1; omega
  cases b with
  | false =>
    obtain ⟨hvu, hHu⟩ := hbf rfl
    refine io_wp hA.tmps ho ok3 (hgr.trans hw) (fun h => by cases h) (fun _ => ?_)
    rw [hd]
    cases hWi' : isW ios[i].op with
    | true =>
      obtain ⟨Hk, g1, g2⟩ := hHu hWi'
      rw [hWi hWi', hHm] at g1
      cases g1
      rw [hWi hWi'] at g2
      exact hK _ _ ⟨ι, put T ios[i].dst (vs i), m + 1, Hm, g2, hR, hA.puts hdN (by rw [hvu]; exact VR.skp _), hE, hnext1, hnext2, hWn hWi', fun j io hj hjf hl => hF j io hj hjf (hold j hl).2⟩
    | false =>
      exact hK _ _ ⟨ι, put T ios[i].dst (vs i), m, Hm, hHm, hR, hA.puts hdN (by rw [hvu]; exact VR.skp _), hE, hnext1, hnext2, hWs hWi', fun j io hj hjf hl => hF j io hj hjf (hold j hl).2⟩
  | true =>
    refine io_wp hA.tmps ho ok3 (hgr.trans hw) (fun _ => ?_) (fun h => by cases h)
    cases hWi' : isW ios[i].op with
    | true =>
      obtain ⟨Hk, Hk1, g1, g2, g3⟩ := hbw rfl hWi'
      rw [hWi hWi', hHm] at g1
      cases g1
      rw [hWi hWi'] at g2
      rw [← exec_congr hor] at g3
      refine ef_wp hrun hy hR hA.tmps ok1 g3 fun u w' ι' h1 h2 h3 => ?_
      rw [hd]
      refine hK _ _ ⟨ι', put T ios[i].dst (vs i), m + 1, Hk1, g2, h2, (hA.mono h1.le).puts hdN h3, hE.trans h1, hnext1, hnext2, hWn hWi', fun j io hj hjf hl => ?_⟩
      obtain ⟨q1, q2⟩ := hF j io hj hjf (hold j hl).2
      exact ⟨by rw [h1.low _ q2]; exact q1, Nat.lt_of_lt_of_le q2 h1.nx⟩
    | false =>
      obtain ⟨hlo, hhi⟩ := hbounds hWi'
      have hdrop := hbr rfl hWi' m Hm hlo hhi hHm
      rw [← drop_congr hor] at hdrop
      unfold drop at hdrop
      cases hFi : isF ios[i].op with
      | false =>
        rw [hFi, ite1_f] at hdrop
        cases hx : exec run y ios[i].op T Hm with
        | no => rw [hx] at hdrop; cases hdrop
        | ef v H' => rw [hx] at hdrop; cases hdrop
        | va v =>
          rw [hx] at hdrop
          cases hdrop
          refine va_wp hR hA.tmps ok1 hx fun u hu => ?_
          rw [hd]
          exact hK _ _ ⟨ι, put T ios[i].dst (vs i), m, Hm, hHm, hR, hA.puts hdN hu, hE, hnext1, hnext2, hWs hWi', fun j io hj hjf hl => hF j io hj hjf (hold j hl).2⟩
      | true =>
        rw [hFi, ite1_t] at hdrop
        obtain ⟨q, hq1, hq2⟩ := ob_some.1 hdrop
        obtain ⟨own, n', cs, hg, hq3⟩ := Heap.cells_some hq2
        obtain ⟨l, hl1, hl2⟩ := ob_some.1 hq3
        obtain ⟨⟨c1, c2, _⟩, c3⟩ := fit3_some.1 hl2
        subst c1
        have c4 := beqVL_eq c2
        subst c4
        obtain ⟨q1, q2⟩ := hF i _ hio hFi hun'
        obtain ⟨g1, g2⟩ := cgets_get hl1
        have hobj : IsObj Hm (id0 + i) q.1 := ⟨n', cs, hg, g1.symm, fun j => by
          rcases Nat.lt_or_ge j n' with h | h
          · have := g2 j h; rwa [Nat.zero_add] at this
          · cases hj : cs.get j with
            | none => rw [List.getElem?_eq_none (by omega)]
            | some x => have := hR.wf _ _ _ hg j x hj; omega⟩
        obtain ⟨u, arr, el, k1, k2, k3⟩ := fop_sound (l := q.1) (q := q.2) hR hA.tmps q1 q2 hobj ok1 hq1
        rw [Option.some.inj c3] at k2
        refine wpIn_value (okOp_nodefer ok1) k1 ?_
        rw [hd]
        have hle := Inj.le_add (b := w.heap.size) (sz := arr.size) q1
        have hext : Ext Hs Hm ι0 (ι.add (id0 + i) w.heap.size arr.size) := ⟨Inj.le_trans hE.le hle, hE.nx, fun id hid => by
          unfold Inj.add
          rw [if_neg (by omega)]; exact hE.low id hid⟩
        refine hK _ _ ⟨_, put T ios[i].dst (vs i), m, Hm, hHm, k3, (hA.mono hle).puts hdN k2, hext, hnext1, hnext2, hWs hWi', fun j io hj hjf hl => ?_⟩
        obtain ⟨hne, hl'⟩ := hold j hl
        obtain ⟨p1, p2⟩ := hF j io hj hjf hl'
        refine ⟨?_, p2⟩
        unfold Inj.add
        rw [if_neg (by omega)]; exact p1

theorem head_wp (hrun : RunOk P gl w0 run) (hy : YldOk P gl w0 y) {ops : Array Oper} {ios : List Io} (hq : ios.length = ops.size) {Ts : Nat → Tm} {Hl : List Heap} {vs : Nat → V} {ι0 : Inj} {Hs : Heap} {id0 : Nat}
    (hok : ∀ (j : Nat) (io : Io), ios[j]? = some io → ∃ o, ops[j]? = some o ∧ okIo P gl N ops o io = true) (hseq : DS run y ios id0 0 Hl Ts vs) (hlen : Hl.length = wc ios ios.length + 1)
    (hid0 : Hs.next ≤ id0) (hkeys : keysB (dstL ios 0) = true) (hreads : readsB ops (dstL ios 0) ios 0 = true) (hwo : wOrd ops (wList ios 0) = true) (hro : rOrd ops (wList ios 0) ios 0 = true) (hback : backB ops ops.toList 0 = true)
    {Hn : Heap} (hHn : Hl[wc ios ios.length]? = some Hn) (hQ : After P gl w0 pl ro N ι0 Hs (Ts ops.size) Hn (Q .normal)) :
    ∀ (k : Nat) (listed : Array Bool) (a : Act) (w : World), unl listed ops.size = k → HeadInv .any ops ops.size listed → HInv P gl w0 pl ro N ι0 Hs ios id0 Hl (Ts 0) vs listed a w → wpAnyIn (FF ro) n P .any ops Q k listed a w := by
  intro k
  induction k with
  | zero =>
    intro listed a w hk inv I
    have hall := unl_zero ops.size hk
    obtain ⟨ι, T, m, Hm, hHm, hR, hA, hE, hv1, hv2, hW, hF⟩ := I.ex
    have hdst := keys_apart hkeys
    obtain ⟨hs1, hs2⟩ := DS.at hseq hdst ops.size (by omega)
    have hT : ∀ t, gt (Ts ops.size) t = gt T t := by
      intro t
      by_cases hex : ∃ (j : Nat) (io : Io), ios[j]? = some io ∧ io.dst = some t
      · obtain ⟨j, io, hj, hd⟩ := hex
        have hjl : j < ops.size := by rw [← hq]; exact (List.getElem?_eq_some_iff.1 hj).1
        rw [hs1 j io t hjl hj hd, hv1 j io t hj hd (hall j hjl)]
      · have hno : ∀ (j : Nat) (io : Io), ios[j]? = some io → io.dst ≠ some t := fun j io hj hd => hex ⟨j, io, hj, hd⟩
        rw [hs2 t fun j io _ hj => hno j io hj, hv2 t fun j io hj hd => absurd hd (hno j io hj)]
    have hm : m = wc ios ios.length := by
      have h1 : m ≤ wc ios ios.length := by have := (List.getElem?_eq_some_iff.1 hHm).1; omega
      rcases Nat.lt_or_ge m (wc ios ios.length) with h | h
      · obtain ⟨j, io, q1, q2, q3, q4⟩ := wc_ex (i := ios.length) (Nat.le_refl _) h
        have := (hW j io q2 q3).1 (hall j (by omega))
        omega
      · omega
    rw [hm, hHn] at hHm
    cases hHm
    refine ⟨?_, hQ a w ι hE hR (hA.congr hT)⟩
    cases hr : Region.ready .any ops listed with
    | nil => rfl
    | cons i r =>
      have hi : i ∈ Region.ready .any ops listed := by rw [hr]; exact List.mem_cons_self ..
      obtain ⟨h1, o, h2, _⟩ := mem_ready.1 hi
      have h3 := hall i (Array.getElem?_eq_some_iff.1 h2).1
      rw [getD_both h1] at h3; cases h3
  | succ k ih =>
    intro listed a w hk inv I
    obtain ⟨i0, hi0, hu0⟩ := unl_pos (listed := listed) ops.size (by omega)
    refine ⟨fun hnil => ?_, fun i hi => ?_⟩
    · rcases ready_or hback inv.size (Nat.le_refl _) i0 hi0 with h | h
      · rw [h] at hu0; cases hu0
      · exact absurd hnil h
    · have hin : i < ops.size := by
        obtain ⟨_, o, ho, _⟩ := mem_ready.1 hi
        exact (Array.getElem?_eq_some_iff.1 ho).1
      refine head_step hrun hy hq hok hseq hlen hid0 hkeys hreads hwo hro inv hi I fun a' w' I' => ?_
      have hun := (mem_ready.1 hi).1
      have := unl_set hun ops.size hin
      exact ih _ a' w' (by omega) (inv.set hi hin) I'

/-! ### the start -/
theorem anyF_false : ∀ {ios : List Io}, anyF ios = false → ∀ (i : Nat) (io : Io), ios[i]? = some io → isF io.op = false
  | [], _, i, io, h => by simp at h
  | o :: r, h, i, io, hi => by
    simp only [anyF] at h
    split at h
    · cases h
    · rename_i ho
      cases i with
      | zero => simp at hi; subst hi; exact ho
      | succ i => exact anyF_false h i io (by simpa using hi)
def Floats (id0 n : Nat) (F : List (Nat × Ob)) : Prop := ∀ p ∈ F, id0 ≤ p.1 ∧ p.1 < id0 + n ∧ ∃ l, p.2 = mkCells l
theorem dpre_floats {id0 n : Nat} : ∀ {ios : List Io} {id : Nat} {T : Tm} {H : Heap} {F F' : List (Nat × Ob)}, dpre run y ios id T H F = some F' → Floats id0 n F → id0 ≤ id → id + ios.length ≤ id0 + n → Floats id0 n F'
  | [], id, T, H, F, F', h, hF, _, _ => by simp only [dpre, Option.some.injEq] at h; subst h; exact hF
  | o :: r, id, T, H, F, F', h, hF, h1, h2 => by
    simp only [List.length_cons] at h2
    simp only [dpre] at h
    obtain ⟨b, _, h⟩ := ob_some.1 h
    cases b with
    | false => exact dpre_floats h hF (by omega) (by omega)
    | true =>
      simp only at h
      cases hF' : isF o.op with
      | true =>
        rw [hF'] at h
        simp only at h
        obtain ⟨q, _, h⟩ := ob_some.1 h
        refine dpre_floats h (fun p hp => ?_) (by omega) (by omega)
        rcases List.mem_cons.1 hp with e | hp
        · subst e; exact ⟨h1, by simp only; omega, q.1, rfl⟩
        · exact hF p hp
      | false =>
        rw [hF'] at h
        simp only at h
        cases hW : isW o.op with
        | true =>
          rw [hW] at h
          simp only at h
          obtain ⟨q, _, h⟩ := ob_some.1 h
          exact dpre_floats h hF (by omega) (by omega)
        | false =>
          rw [hW] at h
          simp only at h
          obtain ⟨q, _, h⟩ := ob_some.1 h
          exact dpre_floats h hF (by omega) (by omega)
theorem setAll_next (H : Heap) : ∀ F, (setAll H F).next = H.next
  | [] => rfl
  | p :: r => by simp only [setAll, Heap.next_set]; exact setAll_next H r
theorem setAll_hr {n : Nat} (hR : HR P gl w0 ι H w) : ∀ {F : List (Nat × Ob)}, Floats H.next n F → HR P gl w0 ι (setAll (reserve H n) F) w
  | [], _ => hR.reserve n
  | p :: r, hF => by
    have h1 := setAll_hr hR (F := r) fun q hq => hF q (List.mem_cons_of_mem _ hq)
    obtain ⟨h2, h3, l, h4⟩ := hF p (List.mem_cons_self ..)
    refine h1.turn (Nat.le_refl _) (fun id x hx => ?_) fun id k cs hg => ?_
    · show ((setAll (reserve H n) r).set p.1 p.2).get id = _
      rw [Heap.get_set, if_neg (by have := hR.lt id x hx; omega)]
    · have hg2 : ((setAll (reserve H n) r).set p.1 p.2).get id = some (.cells true k cs) := hg
      rw [Heap.get_set] at hg2
      split at hg2
      · rw [h4] at hg2; exact mkCells_wf l k cs (Option.some.inj hg2)
      · exact h1.wf id k cs hg2

theorem draw_wp (hm : P.follows .mixedOrders = true) (hrun : RunOk P gl w0 run) (hy : YldOk P gl w0 y) {ops : Array Oper} {ios : List Io} {id : Nat} (hB : drawB P gl N ops ios = true) (hH : HR P gl w0 ι H w) (hA : AR pl ro N ι T a)
    (hQ : Post P gl w0 pl ro N ι H Q (dOut (dgo run y ios T H))) : (Code.region id ops true).wpIn (FF ro) n P Q a w := by
  simp only [drawB, Bool.and_eq_true] at hB
  obtain ⟨⟨⟨⟨⟨h1, h2⟩, h3⟩, h4⟩, h5⟩, h6⟩ := hB
  obtain ⟨hlen, hget⟩ := okIos_get h1
  have hsz : ios.length = ops.size := by rw [← hlen]; simp
  cases hd : dgo run y ios T H with
  | none => rw [hd] at hQ; exact hQ.elim
  | some r =>
    obtain ⟨T1, H1⟩ := r
    rw [hd] at hQ
    unfold dgo at hd
    obtain ⟨H0, hH0, hd2⟩ := ob_some.1 hd
    obtain ⟨l, hl, hd3⟩ := ob_some.1 hd2
    split at hd3 <;> first | (cases hd3; done) | skip
    rename_i hchk
    simp only [Option.some.injEq, Prod.mk.injEq] at hd3
    obtain ⟨e1, e2⟩ := hd3
    obtain ⟨Ts, vs, hds, t0, tn, hln, hfin⟩ := dseq_ok ios H.next T H0 l [] hl hchk
    have hstart : HR P gl w0 ι H0 { w with drawn := w.drawn + 1 } ∧ Ext H H0 ι ι ∧ ∀ (i : Nat) (io : Io), ios[i]? = some io → isF io.op = true → ι (H.next + i) = none ∧ H.next + i < H0.next := by
      split at hH0
      · obtain ⟨F, hF, e⟩ := ob_some.1 hH0
        cases e
        have hfl : Floats H.next (llen ios) F := dpre_floats hF (fun p hp => by simp at hp) (Nat.le_refl _) (by rw [llen_eq]; exact Nat.le_refl _)
        have hn : (setAll (reserve H (llen ios)) F).next = H.next + ios.length := by rw [setAll_next, llen_eq]; rfl
        exact ⟨setAll_hr (hH.drew _) hfl, ⟨Inj.le_refl _, by rw [hn]; omega, fun _ _ => rfl⟩, fun i io hi _ => ⟨hH.fresh (by omega), by rw [hn]; have := (List.getElem?_eq_some_iff.1 hi).1; omega⟩⟩
      · rename_i hF
        cases hH0
        exact ⟨hH.drew _, Ext.refl _ _, fun i io hi hf => by rw [anyF_false hF i io hi] at hf; cases hf⟩
    obtain ⟨s1, s2, s3⟩ := hstart
    refine wpIn_region_any hm ?_
    have hrepl : ∀ j, (Array.replicate ops.size false).getD j false = false := getD_replicate_false _
    refine head_wp (ro := ro) (n := n) (Q := Q) hrun hy hsz (Hs := H) (id0 := H.next) (Hl := H0 :: dHs ios l) (Ts := Ts) (vs := vs) (ι0 := ι) (Hn := dH l H0)
      (fun j io hj => by
        obtain ⟨o, ho, hio⟩ := hget j io hj
        exact ⟨o, by simpa using ho, hio⟩)
      hds (by rw [List.length_cons, hln]) (Nat.le_refl _) h3 h4 h5 h6 h2 hfin ?_
      ops.size (Array.replicate ops.size false) a { w with drawn := w.drawn + 1 } (unl_replicate _ _)
      ⟨by simp, (fun j oj _ hl => by rw [hrepl] at hl; cases hl), fun t h1 h2 => by omega⟩
      ⟨ι, Ts 0, 0, H0, rfl, s1, by rw [t0]; exact hA, s2, (fun i io t _ _ hl => by rw [hrepl] at hl; cases hl), fun t _ => rfl, fun i io _ _ => ⟨(fun hl => by rw [hrepl] at hl; cases hl), fun hl => by omega⟩,
        fun i io hi hf _ => s3 i io hi hf⟩
    rw [← hsz, tn, e1, e2]
    exact hQ
end Go.YtnpoikgkhhpdgaaDoorH

/-
  append, copy, clear.
-/
import Derived.Test.YtnpoikgkhhpdgaaDoorHmL
import Derived.Test.YtnpoikgkhhpdgaaDoorEvJ
import Derived.Lib.AppendZerosOnto
set_option linter.unusedVariables false
namespace Go.YtnpoikgkhhpdgaaDoorH
open Go.RowKit
open Go.YtnpoikgkhhpdgaaDoorE (tAgg tSize run_isAgg' run_sizeOf' add_off cell_of_heap args1 args2 foldl_set foldl_size seg_get run_storeVar' setCells_eq oneCell_iff)
variable {P : Program} {gl : List Nat} {w0 : World} {ι κ : Inj} {H H' : Heap} {w w' : World} {T T' : Tm} {a : Act} {N : Nat} {run : Run} {y : Yld} {o : Oper}

theorem SrcOk.src {es m : Nat} {l : List V} {v : Value} (h : SrcOk P ι w es m l v) {t2 : TypeId} (ht2 : (∃ e', P.underlying t2 = some (.slice e')) ∨ P.underlying t2 = some .string) : ∃ vs, CsR ι l vs ∧ Src P es t2 v m vs w := by
  obtain ⟨vs, h1, h2⟩ := h.cells
  have hl : vs.length = m * es := by rw [← h1.len, h.len]
  have ht : vs.take (m * es) = vs := List.take_of_length_le (by omega)
  refine ⟨vs, h1, ⟨ht2, h.lenOf, ?_, ?_, hl, h1.one⟩⟩
  · have := h2 m (Nat.le_refl _) w rfl; rwa [ht] at this
  · have := h2 m (Nat.le_refl _) w.drew rfl; rwa [ht] at this

/-- what append comes to -/
def AppRes (P : Program) (gl : List Nat) (w0 : World) (ι : Inj) (H H' : Heap) (w : World) (d : V) (s : Sem Value) : Prop := ∃ z w' ι', s.run P w = .ok z w' ∧ Ext H H' ι ι' ∧ HR P gl w0 ι' H' w' ∧ VR ι' d z

structure ElTy (P : Program) (t : TypeId) (e : TypeId) (ie : TypeInfo) (zv : Value) (es bytes : Nat) : Prop where
  ht : P.underlying t = some (.slice e)
  hi : P.info? e = some ie
  hsz : ie.size = es
  hby : ie.bytes = bytes
  hpos : 0 < bytes
  hz : ie.zero = some zv
  hzl : zv.cells.size = es
  hes : 0 < es

section
variable {t t2 tt e e2 : TypeId} {ie : TypeInfo} {zv : Value} {es bytes : Nat}
/-- a new row: what the model does -/
theorem grow_run (hH : HR P gl w0 ι H w) (ty : ElTy P t e ie zv es bytes) {base : Option Addr} {len cap m : Nat} {olds news : List Value} {v : Value} (hs : Src P es t2 v m news w) (hold : (Builtin.firstCells es len (.slice base len cap)).run P w.drew = .ok olds.toArray w.drew) (holl : olds.length = len * es)
    (hg : cap < len + m) (hb : (len + m) * bytes ≤ 1000000000) :
    ∃ nc arr, (Builtin.append_ #[t, t2] tt #[.slice base len cap, v]).run P w = .ok (.slice (some ⟨w.heap.size, 0, none⟩) (len + m) nc) { w.drew with heap := w.heap.push (.cells arr e) } ∧ len + m ≤ nc ∧ arr.size = nc * es ∧
      (∀ j, j < (olds ++ news).length → arr[j]? = (olds ++ news)[j]?) ∧ (olds ++ news).length ≤ arr.size := by
  have h63 : ((len + m : Nat) : Int) ≤ 9223372036854775807 := by
    have : len + m ≤ (len + m) * bytes := Nat.le_mul_of_pos_right _ ty.hpos
    omega
  have hr := run_append_grow_src (P := P) w t t2 tt e ie zv ty.ht ty.hi ty.hz base len cap olds (by rw [ty.hsz]; exact hold) v m news (by rw [ty.hsz]; exact hs) hg h63 (growslice_fits hg (by rw [ty.hby]; omega))
  have hcut : len + m ≤ grownCap w (len + m) cap e := by simp [grownCap, Question.cut]
  generalize grownCap w (len + m) cap e = nc at *
  have hlen : (olds ++ news).length = (len + m) * es := by rw [List.length_append, holl, hs.newsLen, Nat.add_mul]
  have hasz : ((olds ++ news).toArray ++ Builtin.zeroCells zv.cells (nc - (len + m))).size = nc * es := by
    rw [Array.size_append]
    simp only [List.size_toArray, hlen, Builtin.zeroCells, Array.size_map, Array.size_range, ty.hzl]
    rw [← Nat.add_mul]; congr 1; omega
  refine ⟨nc, _, hr, hcut, hasz, fun j hj => ?_, ?_⟩
  · rw [Array.getElem?_append_left (by simpa using hj)]; simp
  · rw [hasz, hlen]; exact Nat.mul_le_mul_right _ hcut

theorem new_of_run (hH : HR P gl w0 ι H w) {nc len m : Nat} {arr : Array Value} {all : List Value} {l : List V} {s : Sem Value} (h1 : s.run P w = .ok (.slice (some ⟨w.heap.size, 0, none⟩) (len + m) nc) { w.drew with heap := w.heap.push (.cells arr e) })
    (h2 : len + m ≤ nc) (h3 : arr.size = nc * es) (h4 : ∀ j, j < all.length → arr[j]? = all[j]?) (h5 : all.length ≤ arr.size) (hv : CsR ι l all) : AppRes P gl w0 ι H (H.push (mkCells l)) w (.sl H.next 0 es (len + m) none) s := by
  have hid := hH.fresh (Nat.le_refl H.next)
  have hd : HR P gl w0 ι (H.push (mkCells l)) w.drew := (hH.drew (w.drawn + 1)).pushed (mkCells_wf l)
  have hc : CellsR ι l all.toArray := ⟨by simpa using hv.len, fun j c hj => by simpa using hv.get j c hj⟩
  have hbd := hd.bind (id := H.next) (sz := arr.size) hid (by simp) (by rw [Heap.get_push, if_pos rfl]) (obj := .cells arr e) (mkCells_ok (w := w.drew) hc (fun j hj => by
    have hj : j < all.length := by simpa using hj
    rw [h4 j hj]; simp) (by simpa using h5) hid)
  exact ⟨_, _, _, h1, Ext.add hid (Nat.le_refl _) (by simp), hbd, .slu (Inj.add_same _ _ _ _) h2 (by rw [h3]; simp)⟩
theorem appz_sound (hH : HR P gl w0 ι H w) (ty : ElTy P t e ie zv es bytes) {z : List V} {da dn d : V} {u v : Value} (hes : 0 < es) (hzr : ∀ (ι : Inj) (j : Nat) (c : V), z[j]? = some c → ∃ x, zv.cells[j]? = some x ∧ VR ι c x ∧ sing c = true) (hzl : z.length = es)
    (ra : VR ι da u) (rn : VR ι dn v) (ht2 : P.underlying t2 = some (.int .i64)) (ha : appzH es bytes z H da dn = some (d, H')) : AppRes P gl w0 ι H H' w d (Builtin.append_ #[t, t2] tt #[u, v]) := by
  unfold appzH at ha
  split at ha <;> first | (cases ha; done) | skip
  rename_i kq m
  have hv := rn.int_inv
  subst hv
  unfold appz1 at ha
  split at ha <;> first | (cases ha; done) | skip
  rename_i id off es' len c
  obtain ⟨⟨q1, q2, q3⟩, q4⟩ := fit3_some.1 ha
  have e1 := Nat.eq_of_beq_eq_true q1
  subst e1
  obtain ⟨own, n, cs, hg, q5⟩ := Heap.cells_some q4
  obtain ⟨l0, q6, q7⟩ := ob_some.1 q5
  obtain ⟨hb, q8⟩ := ite1_some.1 q7
  have hb := Nat.le_of_ble_eq_true hb
  simp only [Option.some.injEq, Prod.mk.injEq] at q8
  obtain ⟨e2, e3⟩ := q8
  subst e2; subst e3
  cases ra with
  | @sl _ _ _ _ _ b sz hi hc =>
    have hsl : slCells H es (.sl id off es len (some c)) = some (len, l0) := by
      show ite1 (Nat.beq es es) (H.cells id fun _ _ cs => ob (cgets cs off (len * es)) fun l => some (len, l)) none = _
      rw [Nat.beq_refl, ite1_t]
      unfold Heap.cells
      rw [hg]
      show ob (cgets cs off (len * es)) (fun l => some (len, l)) = _
      rw [q6]; rfl
    have hso := src_sound (P := P) hH (.sl hi hc) hsl
    obtain ⟨olds, hv0, hcells⟩ := hso.cells
    have holl : olds.length = len * es := by rw [← hv0.len, hso.len]
    have h4 := hcells len (Nat.le_refl _) w.drew rfl
    rw [List.take_of_length_le (by omega)] at h4
    have hpos := blt_lt q3
    have hlt := blt_lt q2
    have h63 : ((len + m : Nat) : Int) ≤ 9223372036854775807 := by
      have : len + m ≤ (len + m) * bytes := Nat.le_mul_of_pos_right _ ty.hpos
      omega
    have hmb : m * bytes ≤ (len + m) * bytes := Nat.mul_le_mul_right _ (Nat.le_add_left _ _)
    have hr := Lib.run_append_grow_zeros (P := P) w t t2 tt e ie zv kq .i64 ty.ht ht2 ty.hi ty.hz (some ⟨b, off, none⟩) len c olds (by rw [ty.hsz]; exact h4) m hpos (by rw [ty.hsz]; exact hes) hlt h63 (by rw [ty.hby]; omega)
      (growslice_fits hlt (by rw [ty.hby]; omega))
    have hcut : len + m ≤ grownCap w (len + m) c e := by simp [grownCap, Question.cut]
    generalize grownCap w (len + m) c e = nc at *
    have hrc := CsR.ofCells (rep_cells (hzr ι) (by rw [ty.hzl, hzl]) m)
    have hzs : (Builtin.zeroCells zv.cells m).size = m * es := by simp [Builtin.zeroCells, ty.hzl]
    have hzc : (Builtin.zeroCells zv.cells m) = (Array.range (m * z.length)).map (zv.cells[· % zv.cells.size]!) := by simp [Builtin.zeroCells, ty.hzl, hzl]
    have hasz : (olds.toArray ++ Builtin.zeroCells zv.cells m ++ Builtin.zeroCells zv.cells (nc - (len + m))).size = nc * es := by
      rw [Array.size_append, Array.size_append, hzs]
      simp only [List.size_toArray, holl, Builtin.zeroCells, Array.size_map, Array.size_range, ty.hzl]
      rw [← Nat.add_mul, ← Nat.add_mul]; congr 1; omega
    rw [lapp_eq]
    refine new_of_run (all := olds ++ (Builtin.zeroCells zv.cells m).toList) hH hr hcut hasz (fun j hj => ?_) ?_ (hv0.append (by rw [hzc]; exact hrc))
    · rw [Array.getElem?_append_left (by simpa using hj)]
      rw [← Array.getElem?_toList]; simp
    · rw [hasz, List.length_append, holl]
      simp only [Array.length_toList, hzs]
      rw [← Nat.add_mul]; exact Nat.mul_le_mul_right _ hcut
theorem app_new (hH : HR P gl w0 ι H w) (ty : ElTy P t e ie zv es bytes) {base : Option Addr} {len cap m : Nat} {olds news : List Value} {v : Value} {l : List V} {d : V} (hs : Src P es t2 v m news w) (hold : (Builtin.firstCells es len (.slice base len cap)).run P w.drew = .ok olds.toArray w.drew) (holl : olds.length = len * es)
    (hv : CsR ι l (olds ++ news)) (hg : cap < len + m) (ha : appNew es bytes H len m l = some (d, H')) : AppRes P gl w0 ι H H' w d (Builtin.append_ #[t, t2] tt #[.slice base len cap, v]) := by
  obtain ⟨hb, he⟩ := ite1_some.1 ha
  simp only [Option.some.injEq, Prod.mk.injEq] at he
  obtain ⟨e1, e3⟩ := he
  subst e1; subst e3
  obtain ⟨nc, arr, h1, h2, h3, h4, h5⟩ := grow_run (tt := tt) hH ty hs hold holl hg (Nat.le_of_ble_eq_true hb)
  have hid := hH.fresh (Nat.le_refl H.next)
  have hd : HR P gl w0 ι (H.push (mkCells l)) w.drew := (hH.drew (w.drawn + 1)).pushed (mkCells_wf l)
  have hc : CellsR ι l (olds ++ news).toArray := ⟨by simpa using hv.len, fun j c hj => by simpa using hv.get j c hj⟩
  have hbd := hd.bind (id := H.next) (sz := arr.size) hid (by simp) (by rw [Heap.get_push, if_pos rfl]) (obj := .cells arr e) (mkCells_ok (w := w.drew) hc (fun j hj => by
    have hj : j < (olds ++ news).length := by simpa using hj
    rw [h4 j hj]; simp) (by simpa using h5) hid)
  exact ⟨_, _, _, h1, Ext.add hid (Nat.le_refl _) (by simp), hbd, .slu (Inj.add_same _ _ _ _) h2 (by rw [h3]; simp)⟩

theorem app_in (hH : HR P gl w0 ι H w) (ty : ElTy P t e ie zv es bytes) {id b sz off len c m n : Nat} {own : Bool} {cs : Tr V} {l : List V} {d : V} {v : Value} {news : List Value} (he : ι id = some (b, sz)) (hg : H.get id = some (.cells own n cs)) (hs : Src P es t2 v m news w) (hv : CsR ι l news)
    (hroom : len + m ≤ c) (ha : appIn es H id off len c m n own cs l = some (d, H')) : AppRes P gl w0 ι H H' w d (Builtin.append_ #[t, t2] tt #[.slice (some ⟨b, off, none⟩) len c, v]) := by
  obtain ⟨⟨q1, q2, _⟩, q3⟩ := fit3_some.1 ha
  subst q1
  simp only [Option.some.injEq, Prod.mk.injEq] at q3
  obtain ⟨e1, e3⟩ := q3
  subst e1; subst e3
  have q2 := Nat.le_of_ble_eq_true q2
  have hnl := hs.newsLen
  have hll := hv.len
  rw [Nat.add_mul] at q2
  obtain ⟨arr, el, h1, h2, h3⟩ := hH.cput hg he (off := off + len * es) hv (by omega)
  have hr := run_append_room_src (P := P) w t t2 tt e ie ty.ht ty.hi b off len c v m news (by rw [ty.hsz]; exact hs) hroom
    (fun j hj => by rw [ty.hsz, cell_of_heap h1]; simp; omega) (fun j hj => by simp [World.frozen?, h1])
  rw [ty.hsz, setCells_eq h1 h2 hs.one] at hr
  exact ⟨_, _, ι, hr, Ext.same rfl, h3, .sl he hroom⟩

theorem app_on (hH : HR P gl w0 ι H w) (ty : ElTy P t e ie zv es bytes) {id b sz off len cap m n : Nat} {own : Bool} {cs : Tr V} {l : List V} {d : V} {v : Value} {news : List Value} (he : ι id = some (b, sz)) (hcap : len ≤ cap) (ht : off + cap * es = sz) (hg : H.get id = some (.cells own n cs)) (hs : Src P es t2 v m news w) (hv : CsR ι l news)
    (ha : appOn es bytes H id off len m n own cs l = some (d, H')) : AppRes P gl w0 ι H H' w d (Builtin.append_ #[t, t2] tt #[.slice (some ⟨b, off, none⟩) len cap, v]) := by
  obtain ⟨⟨q1, q2, q3⟩, q4⟩ := fit3_some.1 ha
  subst q1
  obtain ⟨hb, q5⟩ := ite1_some.1 q4
  simp only [Option.some.injEq, Prod.mk.injEq] at q5
  obtain ⟨e1, e3⟩ := q5
  subst e1; subst e3
  have e0 := Nat.eq_of_beq_eq_true q2
  have en := Nat.eq_of_beq_eq_true q3
  subst e0; subst en
  have hnl := hs.newsLen
  have hll := hv.len
  obtain ⟨arr, el, fz, h1, h2, h3⟩ := hH.obs id _ b sz hg he
  obtain ⟨h4, h5, h6, h7⟩ := h3 rfl
  subst h4
  have hid := hH.fresh (Nat.le_refl H.next)
  have hblk := hH.blk id b sz he
  by_cases hroom : len + m ≤ cap
  · have hmul : (len + m) * es ≤ cap * es := Nat.mul_le_mul_right _ hroom
    rw [Nat.add_mul] at hmul
    have hfit : 0 + len * es + news.length ≤ arr.size := by omega
    have hr := run_append_room_src (P := P) w t t2 tt e ie ty.ht ty.hi b 0 len cap v m news (by rw [ty.hsz]; exact hs) hroom
      (fun j hj => by rw [ty.hsz, cell_of_heap h1]; simp; omega) (fun j hj => by simp [World.frozen?, h1])
    rw [ty.hsz, setCells_eq h1 hfit hs.one, Nat.zero_add] at hr
    have hle := Inj.le_add (b := b) (sz := sz) hid
    have hd := (hH.wdel hg he (splc arr (len * es) news)).reserve 1
    have hp := hd.put (id := H.next) (b := b) (sz := sz) (κ := ι.add H.next b sz) (ob := .cells true (len * es + m * es) (cputs cs (len * es) l)) (Nat.lt_succ_self _) (Inj.add_same _ _ _ _) hle
      (fun i hi => by unfold Inj.add; rw [if_neg hi]) (by simpa [World.setRow] using hblk) (fun _ => hH.own id _ b sz hg he rfl)
      (fun i ob' x hne hg' hx => by
        have hg2 : (H.del id).get i = some ob' := hg'
        rw [Heap.get_del] at hg2
        split at hg2
        · cases hg2
        · rename_i hne2
          exact (hH.apart id i _ ob' _ x (Ne.symm hne2) hg hg2 rfl he hx).symm)
      (ob_splc h2 h1 h5 (by omega) (fun j x hj => by have := h7 j x hj; omega) hv (by omega) hle)
    exact ⟨_, _, _, hr, Ext.add hid (Nat.le_refl _) (by simp), hp, .slu (Inj.add_same _ _ _ _) hroom ht⟩
  · have hold := run_loadCells_list (P := P) w.drew ⟨b, 0, none⟩ (arr.toList.take (len * es)) (fun j u hu => by
      rw [add_off]
      rw [List.getElem?_take] at hu
      split at hu
      · have hc : w.drew.cell? ⟨b, 0 + j, none⟩ = arr[0 + j]? := cell_of_heap (w := w.drew) h1
        rw [hc, Nat.zero_add]; simpa using hu
      · cases hu)
    have holl : (arr.toList.take (len * es)).length = len * es := by simp; omega
    rw [holl] at hold
    obtain ⟨nc, arr', g1, g2, g3, g4, g5⟩ := grow_run (tt := tt) (base := some ⟨b, 0, none⟩) (cap := cap) hH ty hs (by simp only [Builtin.firstCells]; exact hold) holl (by omega) (Nat.le_of_ble_eq_true hb)
    have hle := Inj.le_add (ι := ι) (b := w.heap.size) (sz := arr'.size) hid
    have hd0 := hH.wdel hg he arr
    rw [setRow_self w b arr el (0, 0) h1] at hd0
    have hd : HR P gl w0 ι ((H.del id).push (.cells true (len * es + m * es) (cputs cs (len * es) l))) w.drew := (hd0.drew (w.drawn + 1)).pushed fun n' cs' he' j x hj => by
      simp only [Ob.cells.injEq] at he'
      obtain ⟨_, e1, e2⟩ := he'
      subst e1; subst e2
      rw [cputs_get] at hj
      split at hj
      · omega
      · have := h7 j x hj; omega
    have holds : ∀ j, j < len * es → arr'[j]? = arr[j]? := fun j hj => by
      rw [g4 j (by rw [List.length_append, holl]; omega), List.getElem?_append_left (by omega), List.getElem?_take, if_pos hj]; simp
    have hnews : ∀ j, j < news.length → arr'[len * es + j]? = news[j]? := fun j hj => by
      rw [g4 _ (by rw [List.length_append, holl]; omega), List.getElem?_append_right (by omega), holl]
      congr 1; omega
    rw [List.length_append, holl] at g5
    have hbd := hd.bind (id := H.next) (sz := arr'.size) hid (by simp) (by rw [Heap.get_push, Heap.next_del, if_pos rfl]) (obj := .cells arr' e) (by
      refine ⟨arr', e, (0, 0), (by show (w.heap.push (.cells arr' e))[w.heap.size]? = _; simp), fun j x hj => ?_, fun _ => ⟨rfl, rfl, by omega, fun j x hj => ?_⟩⟩
      · rw [cputs_get] at hj
        split at hj
        · rename_i hlt
          obtain ⟨u, p1, p2, p3⟩ := hv.get _ x hj
          have := hnews (j - len * es) (by omega)
          rw [show len * es + (j - len * es) = j by omega] at this
          exact ⟨u, by rw [this]; exact p1, p2.mono hle, p3⟩
        · obtain ⟨u, p1, p2, p3⟩ := h2 j x hj
          exact ⟨u, by rw [holds j (h7 j x hj)]; exact p1, p2.mono hle, p3⟩
      · rw [cputs_get] at hj
        split at hj
        · omega
        · have := h7 j x hj; omega)
    exact ⟨_, _, _, g1, Ext.add hid (Nat.le_refl _) (by simp), hbd, .slu (Inj.add_same _ _ _ _) g2 (by rw [g3]; simp)⟩

theorem app_sound (hH : HR P gl w0 ι H w) (ty : ElTy P t e ie zv es bytes) {da db d : V} {u v : Value} (ra : VR ι da u) (rb : VR ι db v) (ht2 : (∃ e', P.underlying t2 = some (.slice e')) ∨ P.underlying t2 = some .string) (ha : appH es bytes H da db = some (d, H')) : AppRes P gl w0 ι H H' w d (Builtin.append_ #[t, t2] tt #[u, v]) := by
  obtain ⟨⟨m, l⟩, h1, h2⟩ := ob_some.1 ha
  obtain ⟨news, hv, hs⟩ := (src_sound hH rb h1).src ht2
  have hll := (src_sound hH rb h1).len
  cases m with
  | zero =>
    have h3 : app0 es H da = some (d, H') := h2
    have hnews : news = [] := by
      have := hs.newsLen
      simp at this; exact this
    subst hnews
    have key : ∀ base len cap, u = .slice base len cap → len ≤ cap → d = da → H' = H → AppRes P gl w0 ι H H' w d (Builtin.append_ #[t, t2] tt #[u, v]) := by
      intro base len cap hu hc hd hh
      subst hu; subst hd; subst hh
      exact ⟨_, _, ι, run_append_nothing (P := P) w t t2 tt e ie ty.ht ty.hi base len cap hc v (by rw [ty.hsz]; exact hs), Ext.refl _ _, hH, ra⟩
    unfold app0 at h3
    split at h3
    · simp only [Option.some.injEq, Prod.mk.injEq] at h3
      cases ra
      exact key none 0 0 rfl (Nat.le_refl _) h3.1.symm h3.2.symm
    · simp only [Option.some.injEq, Prod.mk.injEq] at h3
      cases ra
      exact key _ 0 _ rfl (Nat.zero_le _) h3.1.symm h3.2.symm
    · obtain ⟨q1, q2⟩ := ite1_some.1 h3
      simp only [Option.some.injEq, Prod.mk.injEq] at q2
      have q3 := Nat.eq_of_beq_eq_true q1
      subst q3
      cases ra with
      | sl he hc => exact key _ _ _ rfl hc q2.1.symm q2.2.symm
      | slu he hc ht => exact key _ _ _ rfl hc q2.1.symm q2.2.symm
    · cases h3
  | succ m =>
    have h3 : app1 es bytes H (m + 1) l da = some (d, H') := h2
    unfold app1 at h3
    split at h3
    · cases ra
      exact app_new (base := none) (len := 0) (cap := 0) (olds := []) (news := news) (l := l) hH ty hs (by simp [Builtin.firstCells]) (by simp) (by simpa using hv) (by omega) h3
    · rename_i id off es' len cap
      obtain ⟨he, q1⟩ := ite1_some.1 h3
      have he2 := Nat.eq_of_beq_eq_true he
      subst he2
      obtain ⟨own, n, cs, hg, q2⟩ := Heap.cells_some q1
      cases ra with
      | @sl _ _ _ _ c b sz hi hc =>
        have q3 : ite1 (Nat.ble (len + (m + 1)) c) (appIn es H id off len c (m + 1) n own cs l) (ob (cgets cs off (len * es)) fun l0 => appNew es bytes H len (m + 1) (lapp l0 l)) = some (d, H') := q2
        cases hb : Nat.ble (len + (m + 1)) c with
        | true =>
          rw [hb, ite1_t] at q3
          exact app_in hH ty hi hg hs hv (Nat.le_of_ble_eq_true hb) q3
        | false =>
          rw [hb, ite1_f] at q3
          obtain ⟨l0, q4, q5⟩ := ob_some.1 q3
          have hlt : c < len + (m + 1) := by
            apply Nat.lt_of_not_le
            intro hle
            rw [Nat.ble_eq_true_of_le hle] at hb; cases hb
          have hsl : slCells H es (.sl id off es len (some c)) = some (len, l0) := by
            show ite1 (Nat.beq es es) (H.cells id fun _ _ cs => ob (cgets cs off (len * es)) fun l => some (len, l)) none = _
            rw [Nat.beq_refl, ite1_t]
            unfold Heap.cells
            rw [hg]
            show ob (cgets cs off (len * es)) (fun l => some (len, l)) = _
            rw [q4]; rfl
          have hso := src_sound (P := P) hH (.sl hi hc) hsl
          obtain ⟨olds, hv0, hcells⟩ := hso.cells
          have holl : olds.length = len * es := by rw [← hv0.len, hso.len]
          have h4 := hcells len (Nat.le_refl _) w.drew rfl
          rw [List.take_of_length_le (by omega)] at h4
          rw [lapp_eq] at q5
          exact app_new (l := l0 ++ l) hH ty hs h4 holl (hv0.append hv) hlt q5
      | @slu _ _ _ _ cap' b sz hi hc ht =>
        have q3 : ite1 (own && Nat.ble (off + (len + (m + 1)) * es) n) (some (V.sl id off es (len + (m + 1)) none, H.set id (.cells true n (cputs cs (off + len * es) l)))) (appOn es bytes H id off len (m + 1) n own cs l) = some (d, H') := q2
        cases hb : (own && Nat.ble (off + (len + (m + 1)) * es) n) with
        | false =>
          rw [hb, ite1_f] at q3
          exact app_on hH ty hi hc ht hg hs hv q3
        | true =>
          rw [hb, ite1_t] at q3
          simp only [Option.some.injEq, Prod.mk.injEq] at q3
          obtain ⟨e1, e3⟩ := q3
          subst e1; subst e3
          simp only [Bool.and_eq_true] at hb
          obtain ⟨ho, hle⟩ := hb
          subst ho
          have hle := Nat.le_of_ble_eq_true hle
          have hnl := hs.newsLen
          have hll' := hv.len
          obtain ⟨arr0, el0, fz0, g1, g2, g3⟩ := hH.obs id _ b sz hg hi
          obtain ⟨_, _, g5, _⟩ := g3 rfl
          have hle2 := hle
          rw [Nat.add_mul] at hle2
          obtain ⟨arr, el, h1, h2, h3'⟩ := hH.cput hg hi (off := off + len * es) hv (by omega)
          have hroom : len + (m + 1) ≤ cap' := Nat.le_of_mul_le_mul_right (show (len + (m + 1)) * es ≤ cap' * es by omega) ty.hes
          have hr := run_append_room_src (P := P) w t t2 tt e ie ty.ht ty.hi b off len cap' v (m + 1) news (by rw [ty.hsz]; exact hs) hroom
            (fun j hj => by rw [ty.hsz, cell_of_heap h1]; simp; omega) (fun j hj => by simp [World.frozen?, h1])
          rw [ty.hsz, setCells_eq h1 h2 hs.one] at hr
          exact ⟨_, _, ι, hr, Ext.same rfl, h3', .slu hi hroom ht⟩
    · cases h3
end

/-! ### copy, clear -/
structure SrcCut (P : Program) (ι : Inj) (w : World) (es k m : Nat) (l : List V) (v : Value) : Prop where
  len : l.length = m * es
  lenOf : ∃ M, (∀ w', (Builtin.lenOf v).run P w' = .ok M w') ∧ Nat.min M k = Nat.min m k
  cells : ∃ vs, CsR ι l vs ∧ ∀ j, j ≤ m → ∀ w' : World, w'.heap = w.heap → (Builtin.firstCells es j v).run P w' = .ok (vs.take (j * es)).toArray w'
theorem cut_src (hH : HR P gl w0 ι H w) {es k m : Nat} {l : List V} {d : V} {v : Value} (r : VR ι d v) (h : slCells H es (cutV k d) = some (m, l)) : SrcCut P ι w es k m l v := by
  have same : slCells H es d = some (m, l) → SrcCut P ι w es k m l v := fun h => by
    have hs := src_sound hH r h
    exact ⟨hs.len, ⟨m, hs.lenOf, rfl⟩, hs.cells⟩
  cases d with
  | sl id off es' n c =>
    have hcut : ∀ (u : Value) (cc b : Nat), VR ι (.sl id off es' (ite1 (Nat.ble n k) n k) c) (.slice (some ⟨b, off, none⟩) (ite1 (Nat.ble n k) n k) cc) → v = .slice (some ⟨b, off, none⟩) n cc → SrcCut P ι w es k m l v := by
      intro u cc b hr hv
      subst hv
      have hs := src_sound hH hr h
      have hm : m = ite1 (Nat.ble n k) n k := by
        have h1 := hs.lenOf w
        have h2 : (Builtin.lenOf (.slice (some ⟨b, off, none⟩) (ite1 (Nat.ble n k) n k) cc)).run P w = .ok (ite1 (Nat.ble n k) n k) w := rfl
        rw [h2] at h1
        simp only [Result.ok.injEq] at h1
        exact h1.1.symm
      refine ⟨hs.len, ⟨n, fun _ => rfl, ?_⟩, hs.cells⟩
      rw [hm]
      cases hb : Nat.ble n k with
      | true => rfl
      | false =>
        have hlt : ¬ n ≤ k := fun hle => by rw [Nat.ble_eq_true_of_le hle] at hb; cases hb
        rw [ite1_f]
        simp only [Nat.min_def]
        rw [if_neg hlt, if_pos (Nat.le_refl _)]
    have hle : ite1 (Nat.ble n k) n k ≤ n := by
      cases hb : Nat.ble n k with
      | true => exact Nat.le_refl _
      | false =>
        rw [ite1_f]
        rcases Nat.lt_or_ge n k with h1 | h1
        · rw [Nat.ble_eq_true_of_le (Nat.le_of_lt h1)] at hb; cases hb
        · exact h1
    cases r with
    | sl hi hc => exact hcut default _ _ (.sl hi (Nat.le_trans hle hc)) rfl
    | slu hi hc ht => exact hcut default _ _ (.slu hi (Nat.le_trans hle hc) ht) rfl
  | _ => exact same h
theorem copy_sound (hH : HR P gl w0 ι H w) {t t2 tt e : TypeId} {es m : Nat} {l : List V} {da d : V} {u v : Value} (ra : VR ι da u) (hs : SrcCut P ι w es (lenS da) m l v) (ht : P.underlying t = some (.slice e)) (hes : tSize P e = some es)
    (hc : copyTo es H (m, l) da = some (d, H')) : ∃ z w', (Builtin.copy_ #[t, t2] tt #[u, v]).run P w = .ok z w' ∧ HR P gl w0 ι H' w' ∧ H'.next = H.next ∧ VR ι d z := by
  obtain ⟨vs, hv, hcells⟩ := hs.cells
  have hvl : vs.length = m * es := by rw [← hv.len, hs.len]
  obtain ⟨M, hM, hmin⟩ := hs.lenOf
  have zero : ∀ base cap, u = .slice base 0 cap → d = .int .i64 (.ofNat 0) → H' = H → ∃ z w', (Builtin.copy_ #[t, t2] tt #[u, v]).run P w = .ok z w' ∧ HR P gl w0 ι H' w' ∧ H'.next = H.next ∧ VR ι d z := by
    intro base cap hu hd hh
    subst hu; subst hd; subst hh
    have h0 := hcells 0 (Nat.zero_le _) w rfl
    simp only [Nat.zero_mul, List.take_zero] at h0
    refine ⟨goInt 0, w, ?_, hH, rfl, by simp only [goInt]; exact .int _ _⟩
    cases base with
    | none => simp [Builtin.copy_, run_underlying ht, hM, run_sizeOf' hes, h0]
    | some p => simp [Builtin.copy_, run_underlying ht, hM, run_sizeOf' hes, h0, storeCells]
  unfold copyTo at hc
  split at hc
  · simp only [Option.some.injEq, Prod.mk.injEq] at hc
    cases ra
    exact zero none 0 rfl hc.1.symm hc.2.symm
  · simp only [Option.some.injEq, Prod.mk.injEq] at hc
    cases ra
    exact zero _ _ rfl hc.1.symm hc.2.symm
  · rename_i id off es' len cap
    obtain ⟨he, q1⟩ := ite1_some.1 hc
    have he2 := Nat.eq_of_beq_eq_true he
    subst he2
    obtain ⟨own, n, cs, hg, q2⟩ := Heap.cells_some q1
    obtain ⟨⟨q3, q4, _⟩, q5⟩ := fit3_some.1 q2
    subst q3
    have q4 := Nat.le_of_ble_eq_true q4
    have key : ∀ b sz c k, ι id = some (b, sz) → u = .slice (some ⟨b, off, none⟩) len c → k = Nat.min m len → d = .int .i64 (.ofNat k) → H' = H.set id (.cells true n (cputs cs off (l.take (k * es)))) →
        ∃ z w', (Builtin.copy_ #[t, t2] tt #[u, v]).run P w = .ok z w' ∧ HR P gl w0 ι H' w' ∧ H'.next = H.next ∧ VR ι d z := by
      intro b sz c k hi hu hk hd hh
      subst hu; subst hd; subst hh
      have hkm : k ≤ m := by rw [hk]; exact Nat.min_le_left _ _
      have hkl : k ≤ len := by rw [hk]; exact Nat.min_le_right _ _
      have hmul : k * es ≤ len * es := Nat.mul_le_mul_right _ hkl
      have h0 := hcells k hkm w rfl
      obtain ⟨arr, el, g1, g2, g3⟩ := hH.cput hg hi (off := off) (hv.take (k * es)) (by rw [List.length_take]; omega)
      have hst := run_storeCells_at P b off el (vs.take (k * es)) 0 arr w g1 (by simpa using g2) (hv.take _).one
      simp only [Nat.add_zero] at hst
      refine ⟨goInt k, _, ?_, g3, rfl, by simp only [goInt]; exact .int _ _⟩
      have hk' : Nat.min M len = k := by rw [hk]; exact hmin
      simp [Builtin.copy_, run_underlying ht, hM, run_sizeOf' hes, hk', h0, hst, splc]
    have key2 : ∀ b sz c, ι id = some (b, sz) → u = .slice (some ⟨b, off, none⟩) len c → ∃ z w', (Builtin.copy_ #[t, t2] tt #[u, v]).run P w = .ok z w' ∧ HR P gl w0 ι H' w' ∧ H'.next = H.next ∧ VR ι d z := by
      intro b sz c hi hu
      cases hb : Nat.ble m len with
      | true =>
        have q6 : ite1 (Nat.ble m len) (some (V.int .i64 (.ofNat m), H.set id (.cells true n (cputs cs off l)))) (some (.int .i64 (.ofNat len), H.set id (.cells true n (cputs cs off (ltake (len * es) l))))) = some (d, H') := q5
        rw [hb, ite1_t] at q6
        simp only [Option.some.injEq, Prod.mk.injEq] at q6
        refine key b sz c m hi hu (Nat.min_eq_left (Nat.le_of_ble_eq_true hb)).symm q6.1.symm ?_
        rw [List.take_of_length_le (by rw [hs.len]; exact Nat.le_refl _)]; exact q6.2.symm
      | false =>
        have q6 : ite1 (Nat.ble m len) (some (V.int .i64 (.ofNat m), H.set id (.cells true n (cputs cs off l)))) (some (.int .i64 (.ofNat len), H.set id (.cells true n (cputs cs off (ltake (len * es) l))))) = some (d, H') := q5
        rw [hb, ite1_f] at q6
        simp only [Option.some.injEq, Prod.mk.injEq] at q6
        have hlt : len ≤ m := by
          apply Nat.le_of_lt
          apply Nat.lt_of_not_le
          intro hle
          rw [Nat.ble_eq_true_of_le hle] at hb; cases hb
        refine key b sz c len hi hu (Nat.min_eq_right hlt).symm q6.1.symm ?_
        rw [← ltake_eq]; exact q6.2.symm
    cases ra with
    | sl hi hc' => exact key2 _ _ _ hi rfl
    | slu hi hc' ht' => exact key2 _ _ _ hi rfl
  · cases hc

theorem clr_sound (hH : HR P gl w0 ι H w) {t tt e : TypeId} {es : Nat} {z : List V} {da : V} {u : Value} (ra : VR ι da u) (ht : P.underlying t = some (.slice e)) (ok : okEl P e es z = true)
    (hc : clrH es z H da = some H') : ∃ w', (Builtin.clear_ #[t] tt #[u]).run P w = .ok (.tuple #[]) w' ∧ HR P gl w0 ι H' w' ∧ H'.next = H.next := by
  obtain ⟨i, zv, hi, hs, hpos, hz, hzs, hzl, hzr⟩ := okEl_inv ok
  unfold clrH at hc
  split at hc
  · cases hc; cases ra
    exact ⟨w, by simp [Builtin.clear_, run_underlying ht], hH, rfl⟩
  · cases hc; cases ra
    exact ⟨w, by simp [Builtin.clear_, run_underlying ht], hH, rfl⟩
  · rename_i id off es' len cap
    obtain ⟨he, q1⟩ := ite1_some.1 hc
    have he2 := Nat.eq_of_beq_eq_true he
    subst he2
    obtain ⟨own, n, cs, hg, q2⟩ := Heap.cells_some q1
    obtain ⟨⟨q3, q4, _⟩, q5⟩ := fit3_some.1 q2
    subst q3
    cases q5
    have q4 := Nat.le_of_ble_eq_true q4
    have key : ∀ b sz c, ι id = some (b, sz) → ∃ w', (Builtin.clear_ #[t] tt #[.slice (some ⟨b, off, none⟩) len c]).run P w = .ok (.tuple #[]) w' ∧ HR P gl w0 ι (H.set id (.cells true n (cputs cs off (rep z len)))) w' ∧ (H.set id (.cells true n (cputs cs off (rep z len)))).next = H.next := by
      intro b sz c hi'
      have hrc := CsR.ofCells (rep_cells (hzr ι) (by rw [hzs, hzl]) len)
      have hlen : (rep z len).length = len * es := by rw [rep_len, hzl]
      obtain ⟨arr, el, g1, g2, g3⟩ := hH.cput hg hi' (off := off) hrc (by omega)
      have hst := run_storeCells_at P b off el _ 0 arr w g1 (by simpa using g2) hrc.one
      simp only [Nat.add_zero] at hst
      cases len with
      | zero =>
        refine ⟨w, by simp [Builtin.clear_, run_underlying ht], ?_, rfl⟩
        have : (splc arr off ((Array.range (0 * z.length)).map (zv.cells[· % zv.cells.size]!)).toList) = arr := by simp [splc]
        rw [this, setRow_self w b arr el (0, 0) g1] at g3
        exact g3
      | succ k =>
        refine ⟨_, ?_, g3, rfl⟩
        rw [hzl] at hst ⊢
        rw [← hzs] at hst ⊢
        simp only [Builtin.clear_, Builtin.zeroCells]
        simp [run_underlying ht, zeroValue, typeInfo, hi, hz]
        simp at hst
        simp [hst, splc]
    cases ra with
    | sl hi' hc' => exact key _ _ _ hi'
    | slu hi' hc' ht' => exact key _ _ _ hi'
  · cases hc
end Go.YtnpoikgkhhpdgaaDoorH

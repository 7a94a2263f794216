/-
  append.
-/
import Derived.Test.YtnpoikgkhhpdgaaDoorEvI
import Derived.Deep.Upon
namespace Go.YtnpoikgkhhpdgaaDoorE
variable {P : Program} {N : Nat} {X : Nat → Nat → Prop} {w0 : World} {μ0 : Mem} {G G' : Gh} {Cn : List Nat} {T : List (Nat × D)} {M : List (Nat × Ob)} {a : Act} {w w' : World}

/-- a slice's elements, as 'append' and 'copy' read them -/
structure Flat (μ : Mem) (es : Nat) (l : List D) (cells : List Value) : Prop where
  len : cells.length = l.length * es
  one : ∀ x ∈ cells, x.oneCell' = true
  hs : ∀ (i : Nat) (d : D), l[i]? = some d → (cellsOf d).length = es ∧ singleL (cellsOf d) = true
  get : ∀ (i : Nat) (d : D) (j : Nat) (c : D), l[i]? = some d → (cellsOf d)[j]? = some c → ∃ x, cells[i * es + j]? = some x ∧ Rep0 μ c x

theorem Flat.of_get {μ : Mem} {es : Nat} {l : List D} {cells : List Value} (len : cells.length = l.length * es)
    (hs : ∀ (i : Nat) (d : D), l[i]? = some d → (cellsOf d).length = es ∧ singleL (cellsOf d) = true)
    (get : ∀ (i : Nat) (d : D) (j : Nat) (c : D), l[i]? = some d → (cellsOf d)[j]? = some c → ∃ x, cells[i * es + j]? = some x ∧ Rep0 μ c x) : Flat μ es l cells := by
  refine ⟨len, fun x hx => ?_, hs, get⟩
  obtain ⟨k, hk⟩ := List.getElem?_of_mem hx
  have hlt := (List.getElem?_eq_some_iff.1 hk).1
  have hes : 0 < es := by
    rcases Nat.eq_zero_or_pos es with h0 | h0
    · subst h0; omega
    · exact h0
  obtain ⟨h1, h2⟩ := elem_of hes k
  have hi : k / es < l.length := by
    rw [Nat.div_lt_iff_lt_mul hes]; omega
  have hd := hs (k / es) l[k / es] (by rw [List.getElem?_eq_getElem])
  have hj : k % es < (cellsOf l[k / es]).length := by omega
  obtain ⟨y, h3, h4⟩ := get (k / es) l[k / es] (k % es) (cellsOf l[k / es])[k % es] (by rw [List.getElem?_eq_getElem]) (by rw [List.getElem?_eq_getElem])
  rw [← h1, hk] at h3
  cases h3
  rw [oneCell_iff]
  exact h4.oneCell (singleL_get.1 hd.2 _ _ (by rw [List.getElem?_eq_getElem hj]))

theorem Shows.flat {μ : Mem} {es : Nat} {l : List D} {b off : Nat} {Y : Nat → Value} (h : Shows μ es l b off Y) : Flat μ es l ((List.range (l.length * es)).map Y) := by
  refine .of_get (by simp) h.hs fun i d j c hi hj => ⟨Y (i * es + j), ?_, h.hr i d j c hi hj⟩
  have hil := (List.getElem?_eq_some_iff.1 hi).1
  have hjl : j < es := by rw [← (h.hs i d hi).1]; exact (List.getElem?_eq_some_iff.1 hj).1
  simp [mul_lt_of hil hjl]

theorem Flat.nil (μ : Mem) (es : Nat) : Flat μ es [] [] := ⟨by simp, by simp, by simp, by simp⟩
theorem Flat.mono {μ μ' : Mem} {es : Nat} {l : List D} {cells : List Value} (h : Flat μ es l cells) (hle : Mem.le μ μ') : Flat μ' es l cells :=
  ⟨h.len, h.one, h.hs, fun i d j c hi hj => let ⟨x, h1, h2⟩ := h.get i d j c hi hj; ⟨x, h1, h2.mono hle⟩⟩
theorem Flat.append {μ : Mem} {es : Nat} {l m : List D} {cs ds : List Value} (h : Flat μ es l cs) (k : Flat μ es m ds) : Flat μ es (l ++ m) (cs ++ ds) := by
  refine ⟨by simp [h.len, k.len, Nat.add_mul], fun x hx => ?_, fun i d hi => ?_, fun i d j c hi hj => ?_⟩
  · rcases List.mem_append.1 hx with hx | hx
    · exact h.one x hx
    · exact k.one x hx
  · rw [List.getElem?_append] at hi
    split at hi
    · exact h.hs i d hi
    · exact k.hs _ d hi
  · rw [List.getElem?_append] at hi
    split at hi
    · rename_i hlt
      obtain ⟨x, h1, h2⟩ := h.get i d j c hi hj
      refine ⟨x, ?_, h2⟩
      rw [List.getElem?_append_left (List.getElem?_eq_some_iff.1 h1).1]; exact h1
    · rename_i hge
      obtain ⟨x, h1, h2⟩ := k.get _ d j c hi hj
      refine ⟨x, ?_, h2⟩
      have hle : l.length * es ≤ i * es := Nat.mul_le_mul_right _ (by omega)
      have he : (i - l.length) * es = i * es - l.length * es := Nat.sub_mul _ _ _
      rw [List.getElem?_append_right (by rw [h.len]; omega), h.len]
      rw [show i * es + j - l.length * es = (i - l.length) * es + j by omega]
      exact h1

/-- where a slice's cells lie for good, its elements show -/
theorem Flat.shows {μ : Mem} {es : Nat} {l : List D} {cells : List Value} (h : Flat μ es l cells) {b off : Nat} (hm : ∀ k x, cells[k]? = some x → μ b (off + k) = some x) :
    Shows μ es l b off (fun k => cells.getD k undef) where
  hs := h.hs
  hm k hk := by
    have hlt : k < cells.length := by rw [h.len]; exact hk
    rw [hm k cells[k] (by rw [List.getElem?_eq_getElem])]
    simp [List.getD, hlt]
  hr i d j c hi hj := by
    obtain ⟨x, h1, h2⟩ := h.get i d j c hi hj
    simp [List.getD, h1]; exact h2

/-- a memory that stands in a world -/
def Stands (μ : Mem) (w : World) : Prop := ∀ b o x, μ b o = some x → w.cell? ⟨b, o, none⟩ = some x
theorem firstCells_run {t : Tok} {es : Nat} {l : List D} {u : Value} (hx : Rep G (.slc t es l) u) :
    ∃ cells, Flat G.μ es l cells ∧ ∀ w, Stands G.μ w → (Builtin.firstCells es l.length u).run P w = .ok cells.toArray w := by
  rcases slc_shows hx with ⟨rfl, rfl⟩ | ⟨b, off, cap, Y, rfl, hc, hsh, htk⟩
  · exact ⟨[], .nil _ _, fun _ _ => rfl⟩
  · refine ⟨_, hsh.flat, fun w h => ?_⟩
    have := run_loadCells (P := P) w ⟨b, off, none⟩ (l.length * es) Y (fun j hj => by rw [add_off]; exact h _ _ _ (hsh.hm j hj))
    simpa [Builtin.firstCells] using this

/-- a site that stands for nothing yet may stand for a slice's room -/
theorem Rel.addτ (h : Rel N X w0 μ0 G Cn T M a w) {s b e top : Nat} (hs : G.τ s = none) (hok : TkOk w0.heap.size G w b e top)
    (h1 : ∀ s' x, s' ∉ Cn → G.τ s' = some x → x.1 ≠ b) (h2 : ∀ s' x, G.ρ s' = some x → x.1 ≠ b) :
    Rel N X w0 μ0 { G with τ := fun s' => if s' = s then some (b, e, top) else G.τ s' } Cn T M a w ∧ Gh.le G { G with τ := fun s' => if s' = s then some (b, e, top) else G.τ s' } := by
  have hle : Gh.le G { G with τ := fun s' => if s' = s then some (b, e, top) else G.τ s' } :=
    ⟨fun _ _ _ h => h, fun _ _ h => h, fun s' x hx => by
      show (if s' = s then _ else G.τ s') = some x
      rw [if_neg (fun e => by rw [e, hs] at hx; cases hx)]; exact hx⟩
  refine ⟨?_, hle⟩
  exact
  { keeps := h.keeps, dfr := h.dfr, old := h.old, sz := h.sz, mem := h.mem
    tmps := fun t d hd => let ⟨v, h1, h2⟩ := h.tmps t d hd; ⟨v, h1, h2.mono hle⟩
    obs := fun s' ob b' base es K hd hr => let ⟨h1, h2, h3⟩ := h.obs s' ob b' base es K hd hr; ⟨h1.same rfl hle, h2, h3⟩
    dead := h.dead, apart := h.apart
    toks := fun s' b' e' top' hn hτ => by
      simp only at hτ
      split at hτ
      · simp at hτ; obtain ⟨rfl, rfl, rfl⟩ := hτ; exact ⟨hok.own, hok.heap, hok.free⟩
      · obtain ⟨h3, h4, h5⟩ := h.toks s' b' e' top' hn hτ; exact ⟨h3, h4, h5⟩
    tapart := fun s1 s2 x y hn1 hn2 hne hx hy => by
      simp only at hx hy
      split at hx <;> split at hy
      · rename_i e1 e2; exact absurd (e1.trans e2.symm) hne
      · cases hx; exact (h1 s2 y hn2 hy).symm
      · cases hy; exact h1 s1 x hn1 hx
      · exact h.tapart s1 s2 x y hn1 hn2 hne hx hy
    trapart := fun s1 s2 x y hn hx hy => by
      simp only at hx
      split at hx
      · cases hx; exact (h2 s2 y hy).symm
      · exact h.trapart s1 s2 x y hn hx hy }

/-- a used site may be left out of the account -/
theorem Rel.use (h : Rel N X w0 μ0 G Cn T M a w) (s : Nat) : Rel N X w0 μ0 G (s :: Cn) T M a w :=
  { keeps := h.keeps, dfr := h.dfr, old := h.old, sz := h.sz, mem := h.mem, tmps := h.tmps, obs := h.obs, dead := h.dead, apart := h.apart
    toks := fun s' b e top hn hτ => h.toks s' b e top (fun hc => hn (List.mem_cons_of_mem _ hc)) hτ
    tapart := fun s1 s2 x y hn1 hn2 hne hx hy => h.tapart s1 s2 x y (fun hc => hn1 (List.mem_cons_of_mem _ hc)) (fun hc => hn2 (List.mem_cons_of_mem _ hc)) hne hx hy
    trapart := fun s1 s2 x y hn hx hy => h.trapart s1 s2 x y (fun hc => hn (List.mem_cons_of_mem _ hc)) hx hy }

/-- the room of a used site is written -/
theorem Rel.fill (h : Rel N X w0 μ0 G Cn T M a w) {b e top : Nat} (hok : TkOk w0.heap.size G w b e top) {arr : Array Value} {el : TypeId} (hh : w.heap[b]? = some (.cells arr el (0, 0)))
    (h1 : ∀ s' x, s' ∉ Cn → G.τ s' = some x → x.1 ≠ b) (h2 : ∀ s' x, G.ρ s' = some x → x.1 ≠ b)
    {cells : List Value} (hfit : e + cells.length ≤ arr.size) :
    Rel N X w0 μ0 { G with μ := fun b' o => if b' = b ∧ e ≤ o ∧ o < e + cells.length then cells[o - e]? else G.μ b' o } Cn T M a (w.setRow b (arr.toList.take e ++ cells ++ arr.toList.drop (e + cells.length)).toArray) ∧
    Mem.le G.μ (fun b' o => if b' = b ∧ e ≤ o ∧ o < e + cells.length then cells[o - e]? else G.μ b' o) ∧
    TkOk w0.heap.size { G with μ := fun b' o => if b' = b ∧ e ≤ o ∧ o < e + cells.length then cells[o - e]? else G.μ b' o } (w.setRow b (arr.toList.take e ++ cells ++ arr.toList.drop (e + cells.length)).toArray) b (e + cells.length) top := by
  obtain ⟨hown, ⟨arr0, el0, hh0, htop⟩, hfree⟩ := hok
  rw [hh] at hh0; cases hh0
  have hle : Mem.le G.μ (fun b' o => if b' = b ∧ e ≤ o ∧ o < e + cells.length then cells[o - e]? else G.μ b' o) := by
    intro b' o x hx
    show (if b' = b ∧ e ≤ o ∧ o < e + cells.length then cells[o - e]? else G.μ b' o) = some x
    rw [if_neg]
    · exact hx
    · rintro ⟨rfl, h3, _⟩; rw [hfree o h3] at hx; cases hx
  have hseg : ∀ j, (arr.toList.take e ++ cells ++ arr.toList.drop (e + cells.length)).toArray[j]? = if j < e then arr[j]? else if j < e + cells.length then cells[j - e]? else arr[j]? := by
    intro j
    have := seg_get arr.toList cells e (by simpa using hfit) j
    rw [List.getElem?_toArray, this]; simp
  refine ⟨?_, hle, ⟨hown, ⟨_, _, setRow_heap w b arr _ _ _ hh, by simp; omega⟩, fun o ho => ?_⟩⟩
  · exact
    { keeps := by
        have k := h.keeps
        refine ⟨k.os, k.tape, k.output, by simpa [World.setRow] using k.size, fun i hi => ?_⟩
        rw [setRow_other w b i _ (by omega)]; exact k.block i hi
      dfr := h.dfr, sz := h.sz
      old := fun b' o hb => by
        show (if b' = b ∧ _ then _ else G.μ b' o) = μ0 b' o
        rw [if_neg (fun hc => by omega)]; exact h.old b' o hb
      mem := fun b' o x hx => by
        simp only at hx
        split at hx
        · rename_i hc
          obtain ⟨rfl, hc2, hc3⟩ := hc
          rw [cell_of_heap (setRow_heap w b' arr _ _ _ hh), hseg, if_neg (by omega), if_pos hc3]; exact hx
        · rename_i hc
          have h3 := h.mem b' o x hx
          by_cases e1 : b' = b
          · subst e1
            rw [cell_of_heap (setRow_heap w b' arr _ _ _ hh), hseg]
            rw [cell_of_heap hh] at h3
            split
            · exact h3
            · rw [if_neg (by omega)]; exact h3
          · rw [cell_same (setRow_other w b b' _ e1)]; exact h3
      tmps := fun t d hd => let ⟨v, h3, h4⟩ := h.tmps t d hd; ⟨v, h3, h4.mono (Gh.le_μ hle)⟩
      obs := fun s' ob b' base es K hd hr => by
        obtain ⟨h3, h4, h5⟩ := h.obs s' ob b' base es K hd hr
        have hne : b' ≠ b := h2 s' _ hr
        refine ⟨h3.same (setRow_other w b b' _ hne) (Gh.le_μ hle), h4, fun o => ?_⟩
        show (if b' = b ∧ _ then _ else G.μ b' o) = none
        rw [if_neg (fun hc => hne hc.1)]; exact h5 o
      dead := h.dead, apart := h.apart
      toks := fun s' b' e' top' hn hτ => by
        obtain ⟨h3, ⟨arr2, el2, h4, h5⟩, h6⟩ := h.toks s' b' e' top' hn hτ
        have hne : b' ≠ b := h1 s' _ hn hτ
        refine ⟨h3, ⟨arr2, el2, (setRow_other w b b' _ hne).trans h4, h5⟩, fun o ho => ?_⟩
        show (if b' = b ∧ _ then _ else G.μ b' o) = none
        rw [if_neg (fun hc => hne hc.1)]; exact h6 o ho
      tapart := h.tapart, trapart := h.trapart }
  · show (if b = b ∧ e ≤ o ∧ o < e + cells.length then cells[o - e]? else G.μ b o) = none
    rw [if_neg (by omega)]; exact hfree o (by omega)

theorem setCells_eq {b o : Nat} {arr : Array Value} {el : TypeId} {vs : List Value} (hh : w.heap[b]? = some (.cells arr el (0, 0))) (hfit : o + vs.length ≤ arr.size) (h1 : ∀ v ∈ vs, v.oneCell' = true) :
    w.setCells b o vs = w.setRow b (arr.toList.take o ++ vs ++ arr.toList.drop (o + vs.length)).toArray := by
  have e1 := run_storeCells_at default b o el vs 0 arr w hh (by simpa using hfit) h1
  have e2 := run_storeCells_cells (P := default) b o vs 0 w (fun j hj => by rw [Nat.add_zero, cell_of_heap hh]; simp; omega) (fun j hj => by simp [World.frozen?, hh]) h1
  rw [e1] at e2
  simp only [Nat.add_zero, Result.ok.injEq, true_and] at e2
  exact e2.symm

set_option maxHeartbeats 1000000 in
theorem app_sound (h : Rel N X w0 μ0 G Cn T M a w) {es bytes s : Nat} {da db d : D} {u v : Value} {Cn' : List Nat} (ra : Rep G da u) (rb : Rep G db v) (ha : appD es bytes s Cn da db = some (d, Cn')) (hs : G.τ s = none)
    {t t2 e e2 tt : TypeId} {ie : TypeInfo} {zv : Value} (ht : P.underlying t = some (.slice e)) (ht2 : P.underlying t2 = some (.slice e2)) (hi : P.info? e = some ie) (hsz : ie.size = es)
    (hby : ie.bytes = bytes) (hpos : 0 < bytes) (hz : ie.zero = some zv) (hzl : zv.cells.size = es) :
    ∃ z w' G', (Builtin.append_ #[t, t2] tt #[u, v]).run P w = .ok z w' ∧ Gh.le G G' ∧ (∀ s', s' ≠ s → G'.τ s' = G.τ s') ∧ G'.ρ = G.ρ ∧ Rep G' d z ∧ Rel N X w0 μ0 G' Cn' T M a w' := by
  cases da with
  | slc ta e1 la =>
    cases db with
    | slc tb e2' lb =>
      simp only [appD] at ha
      cases hb1 : Nat.beq e1 es with
      | false => rw [hb1] at ha; simp at ha
      | true =>
      cases hb2 : Nat.beq e2' es with
      | false => rw [hb1, hb2] at ha; simp at ha
      | true =>
      cases hb3 : appRoom bytes (la.length + lb.length) with
      | false => rw [hb1, hb2, hb3] at ha; simp at ha
      | true =>
      rw [hb1, hb2, hb3] at ha
      have := Nat.eq_of_beq_eq_true hb1; subst this
      have := Nat.eq_of_beq_eq_true hb2; subst this
      have hroom : (la.length + lb.length) * bytes ≤ 140737488355328 := Nat.le_of_ble_eq_true hb3
      simp only at ha
      -- the result, and the account
      have hres : d = .slc (.own s) e2' (la ++ lb) ∧ ((ta = .full ∧ Cn' = Cn) ∨ ∃ s0, ta = .own s0 ∧ s0 ∉ Cn ∧ Cn' = s0 :: Cn) := by
        cases ta with
        | no => simp at ha
        | full => simp at ha; exact ⟨ha.1.symm, .inl ⟨rfl, ha.2.symm⟩⟩
        | own s0 =>
          simp only at ha
          cases hh : has Cn s0 with
          | true => rw [hh] at ha; cases ha
          | false => rw [hh] at ha; simp at ha; exact ⟨ha.1.symm, .inr ⟨s0, rfl, has_not.1 hh, ha.2.symm⟩⟩
      obtain ⟨rfl, hCn⟩ := hres
      have hrel' : Rel N X w0 μ0 G Cn' T M a w := by
        rcases hCn with ⟨_, rfl⟩ | ⟨s0, _, _, rfl⟩
        · exact h
        · exact h.use s0
      obtain ⟨cb, hfb, hcb⟩ := firstCells_run (P := P) rb
      obtain ⟨ca, hfa, hca⟩ := firstCells_run (P := P) ra
      obtain ⟨av, capv, hv⟩ := rb.slc_len
      have st1 : Stands G.μ w.drew := h.mem
      have hsrc : Src P ie.size t2 v lb.length cb w := by
        rw [hsz]
        exact ⟨.inl ⟨_, ht2⟩, fun w => by rw [hv]; rfl, hcb w h.mem, hcb _ st1, hfb.len, hfb.one⟩
      have h63 : ((la.length + lb.length : Nat) : Int) ≤ 9223372036854775807 := by
        have : la.length + lb.length ≤ (la.length + lb.length) * bytes := Nat.le_mul_of_pos_right _ hpos
        omega
      -- a new row
      have hgrow : ∀ (base : Option Addr) (cap : Nat), u = .slice base la.length cap → cap < la.length + lb.length →
          ∃ z w' G', (Builtin.append_ #[t, t2] tt #[u, v]).run P w = .ok z w' ∧ Gh.le G G' ∧ (∀ s', s' ≠ s → G'.τ s' = G.τ s') ∧ G'.ρ = G.ρ ∧ Rep G' (.slc (.own s) e2' (la ++ lb)) z ∧ Rel N X w0 μ0 G' Cn' T M a w' := by
        intro base cap hu hlt
        have hr := run_append_grow_src (P := P) w t t2 tt e ie zv ht hi hz base la.length cap ca (by rw [hsz, ← hu]; exact hca _ st1) v lb.length cb hsrc hlt h63 (growslice_fits hlt (by rw [hby]; exact hroom))
        have hcut : la.length + lb.length ≤ grownCap w (la.length + lb.length) cap e := by simp [grownCap, Question.cut]
        generalize grownCap w (la.length + lb.length) cap e = nc at *
        have hfl := hfa.append hfb
        have hlen : (ca ++ cb).length = (la.length + lb.length) * e2' := by rw [hfl.len]; simp
        have h1 := (hrel'.grow (Grows.drawn w (w.drawn + 1))).pushμ ((ca ++ cb).toArray ++ Builtin.zeroCells zv.cells (nc - (la.length + lb.length))) e (ca ++ cb).length
        obtain ⟨h1, hle1⟩ := h1
        have hsize : w.drew.heap.size = w.heap.size := rfl
        have hasz : ((ca ++ cb).toArray ++ Builtin.zeroCells zv.cells (nc - (la.length + lb.length))).size = nc * e2' := by
          rw [Array.size_append]
          simp only [List.size_toArray, hlen, Builtin.zeroCells, Array.size_map, Array.size_range, hzl]
          rw [← Nat.add_mul]; congr 1; omega
        have hnew : ∀ o, (ca ++ cb).length ≤ o → (G.μ.add w.heap.size (ca ++ cb).length ((ca ++ cb).toArray ++ Builtin.zeroCells zv.cells (nc - (la.length + lb.length)))) w.heap.size o = none := by
          intro o ho; unfold Mem.add; rw [if_pos rfl, if_neg (by omega)]
        obtain ⟨h2, hle2⟩ := h1.addτ (s := s) (b := w.heap.size) (e := (ca ++ cb).length) (top := nc * e2') hs
          ⟨h.keeps.size, ⟨_, e, by simp; rfl, by rw [hasz]; exact Nat.le_refl _⟩, hnew⟩
          (fun s' x hn hx => by have := hrel'.τ_lt hn hx; omega) (fun s' x hx => by have := hrel'.ρ_lt hx; omega)
        refine ⟨_, _, _, by rw [hu]; exact hr, Gh.le_trans (Gh.le_μ hle1) hle2, fun s' hne => by simp [hne], rfl, ?_, h2⟩
        have hsh := (hfl.mono hle1).shows (b := w.heap.size) (off := 0) (fun k x hk => by
          have hlt := (List.getElem?_eq_some_iff.1 hk).1
          simp only [Nat.zero_add]
          show Mem.add G.μ w.heap.size _ _ w.heap.size k = some x
          unfold Mem.add
          rw [if_pos rfl, if_pos hlt, Array.getElem?_append_left (by simpa using hlt)]
          simpa using hk)
        have := Rep.own (G := { { G with μ := G.μ.add w.heap.size (ca ++ cb).length ((ca ++ cb).toArray ++ Builtin.zeroCells zv.cells (nc - (la.length + lb.length))) } with τ := fun s' => if s' = s then some (w.heap.size, (ca ++ cb).length, nc * e2') else G.τ s' })
          (s := s) (es := e2') (l := la ++ lb) (b := w.heap.size) (off := 0) (cap := nc) _ (by simp; omega) hsh.hs hsh.hm hsh.hr
          (.inr (by simp [hfl.len]))
        simpa using this
      -- nothing to append
      have hnone : ∀ (base : Option Addr) (cap : Nat), u = .slice base la.length cap → la.length ≤ cap → lb = [] →
          Rep G (.slc (.own s) e2' la) u → ∃ z w' G', (Builtin.append_ #[t, t2] tt #[u, v]).run P w = .ok z w' ∧ Gh.le G G' ∧ (∀ s', s' ≠ s → G'.τ s' = G.τ s') ∧ G'.ρ = G.ρ ∧
            Rep G' (.slc (.own s) e2' (la ++ lb)) z ∧ Rel N X w0 μ0 G' Cn' T M a w' := by
        intro base cap hu hcap hlb hrep
        subst hlb
        have hcb0 : cb = [] := by have := hfb.len; simpa using this
        subst hcb0
        have hr := run_append_nothing (P := P) w t t2 tt e ie ht hi base la.length cap hcap v hsrc
        exact ⟨_, _, G, by rw [hu]; exact hr, Gh.le_refl _, fun _ _ => rfl, rfl, by rw [List.append_nil, ← hu]; exact hrep, hrel'⟩
      rcases slc_shows ra with ⟨rfl, rfl⟩ | ⟨b, off, cap, Y, rfl, hc, hsh, htk⟩
      · cases lb with
        | nil => exact hnone none 0 rfl (Nat.le_refl _) rfl .ownNil
        | cons x r => exact hgrow none 0 rfl (by simp)
      · by_cases hfits : la.length + lb.length ≤ cap
        · have hfull : cap = la.length → ∃ z w' G', (Builtin.append_ #[t, t2] tt #[.slice (some ⟨b, off, none⟩) la.length cap, v]).run P w = .ok z w' ∧ Gh.le G G' ∧ (∀ s', s' ≠ s → G'.τ s' = G.τ s') ∧ G'.ρ = G.ρ ∧
              Rep G' (.slc (.own s) e2' (la ++ lb)) z ∧ Rel N X w0 μ0 G' Cn' T M a w' := by
            intro hcl
            have hlb : lb = [] := List.length_eq_zero_iff.1 (by omega)
            exact hnone _ cap rfl hc hlb (.own Y hc hsh.hs hsh.hm hsh.hr (.inl hcl))
          rcases hCn with ⟨rfl, rfl⟩ | ⟨s0, rfl, hs0, rfl⟩
          · rcases htk with h0 | ⟨_, h0⟩ | ⟨s', h0, _⟩
            · cases h0
            · exact hfull h0
            · cases h0
          · rcases htk with h0 | ⟨h0, _⟩ | ⟨s', h0, hτ⟩
            · cases h0
            · cases h0
            · cases h0
              rcases hτ with hτ | hτ
              · exact hfull hτ
              · -- in place
                have htok := h.toks s0 _ _ _ hs0 hτ
                obtain ⟨hown, ⟨arr, el, hh, htop⟩, hfree⟩ := htok
                have hmul : (la.length + lb.length) * e2' ≤ cap * e2' := Nat.mul_le_mul_right _ hfits
                rw [Nat.add_mul] at hmul
                have hcblen : cb.length = lb.length * e2' := hfb.len
                have hfit : off + la.length * e2' + cb.length ≤ arr.size := by omega
                have hr := run_append_room_src (P := P) w t t2 tt e ie ht hi b off la.length cap v lb.length cb hsrc hfits
                  (fun j hj => by rw [hsz, cell_of_heap hh]; simp; omega) (fun j hj => by simp [World.frozen?, hh])
                rw [hsz, setCells_eq hh hfit hfb.one] at hr
                have hne1 : ∀ s' x, s' ∉ s0 :: Cn → G.τ s' = some x → x.1 ≠ b := fun s' x hn hx =>
                  h.tapart s' s0 x _ (fun hc => hn (List.mem_cons_of_mem _ hc)) hs0 (fun e => hn (by rw [e]; simp)) hx hτ
                have hne2 : ∀ s' x, G.ρ s' = some x → x.1 ≠ b := fun s' x hx => (h.trapart s0 s' _ x hs0 hτ hx).symm
                obtain ⟨h1, hle1, hok1⟩ := hrel'.fill (top := off + cap * e2') ⟨hown, ⟨arr, el, hh, htop⟩, hfree⟩ hh hne1 hne2 hfit
                obtain ⟨h2, hle2⟩ := h1.addτ (s := s) hs hok1 hne1 hne2
                refine ⟨_, _, _, hr, Gh.le_trans (Gh.le_μ hle1) hle2, fun s' hne => by simp [hne], rfl, ?_, h2⟩
                have hcell : ∀ k x, ca[k]? = some x → G.μ b (off + k) = some x := by
                  intro k x hk
                  have hlt := (List.getElem?_eq_some_iff.1 hk).1
                  have hm := hsh.hm k (by rw [← hfa.len]; exact hlt)
                  have h3 := hca w h.mem
                  have h4 := run_loadCells (P := P) w ⟨b, off, none⟩ (la.length * e2') Y (fun j hj => by rw [add_off]; exact h.mem _ _ _ (hsh.hm j hj))
                  simp only [Builtin.firstCells] at h3
                  rw [h4] at h3
                  simp at h3
                  rw [← h3] at hk
                  have hlt' : k < la.length * e2' := by rw [← hfa.len]; exact hlt
                  simp [hlt'] at hk
                  rw [hm, hk]
                have hfl := hfa.append hfb
                have hsh' := (hfl.mono hle1).shows (b := b) (off := off) (fun k x hk => by
                  show (if b = b ∧ off + la.length * e2' ≤ off + k ∧ off + k < off + la.length * e2' + cb.length then cb[off + k - (off + la.length * e2')]? else G.μ b (off + k)) = some x
                  rw [List.getElem?_append] at hk
                  split at hk
                  · rename_i hlt
                    rw [hfa.len] at hlt
                    rw [if_neg (by omega)]
                    exact hcell k x hk
                  · rename_i hge
                    rw [hfa.len] at hge hk
                    have hlt := (List.getElem?_eq_some_iff.1 hk).1
                    rw [if_pos ⟨rfl, by omega, by omega⟩, show off + k - (off + la.length * e2') = k - la.length * e2' by omega]
                    exact hk)
                have := Rep.own (G := { { G with μ := fun b' o => if b' = b ∧ off + la.length * e2' ≤ o ∧ o < off + la.length * e2' + cb.length then cb[o - (off + la.length * e2')]? else G.μ b' o } with τ := fun s' => if s' = s then some (b, off + la.length * e2' + cb.length, off + cap * e2') else G.τ s' })
                  (s := s) (es := e2') (l := la ++ lb) (b := b) (off := off) (cap := cap) _ (by simp; omega) hsh'.hs hsh'.hm hsh'.hr
                  (.inr (by simp [hcblen, Nat.add_mul, Nat.add_assoc]))
                simpa using this
        · exact hgrow _ cap rfl (by omega)
    | _ => simp [appD] at ha
  | _ => simp [appD] at ha
end Go.YtnpoikgkhhpdgaaDoorE

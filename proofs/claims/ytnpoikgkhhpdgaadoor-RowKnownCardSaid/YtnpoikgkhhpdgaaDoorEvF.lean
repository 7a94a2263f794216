/-
  Slice expressions, structs, arrays and slices that are built.
-/
import Derived.Test.YtnpoikgkhhpdgaaDoorEvE
import Derived.Laws.Tables
namespace Go.YtnpoikgkhhpdgaaDoorE
variable {P : Program} {N : Nat} {X : Nat → Nat → Prop} {w0 : World} {μ0 : Mem} {G G' : Gh} {Cn : List Nat} {T : List (Nat × D)} {M : List (Nat × Ob)} {a : Act} {w w' : World}

/-! ### slice expressions -/
def RepO (G : Gh) : Option D → Option Value → Prop
  | none, none => True
  | some d, some v => Rep G d v
  | _, _ => False

/-- the cells of a slice's elements -/
structure Shows (μ : Mem) (es : Nat) (l : List D) (b off : Nat) (Y : Nat → Value) : Prop where
  hs : ∀ (i : Nat) (d : D), l[i]? = some d → (cellsOf d).length = es ∧ singleL (cellsOf d) = true
  hm : ∀ k, k < l.length * es → μ b (off + k) = some (Y k)
  hr : ∀ (i : Nat) (d : D) (j : Nat) (c : D), l[i]? = some d → (cellsOf d)[j]? = some c → Rep0 μ c (Y (i * es + j))

theorem Shows.cut {μ : Mem} {es : Nat} {l : List D} {b off : Nat} {Y : Nat → Value} (h : Shows μ es l b off Y) (i n : Nat) :
    Shows μ es ((l.drop i).take n) b (off + i * es) (fun k => Y (i * es + k)) where
  hs k d hk := by
    rw [List.getElem?_take] at hk
    split at hk
    · rw [List.getElem?_drop] at hk; exact h.hs _ _ hk
    · cases hk
  hm k hk := by
    have : i * es + k < l.length * es := by
      simp only [List.length_take, List.length_drop] at hk
      have h1 : min n (l.length - i) * es ≤ (l.length - i) * es := Nat.mul_le_mul_right _ (Nat.min_le_right _ _)
      have h2 : (l.length - i) * es = l.length * es - i * es := Nat.sub_mul _ _ _
      omega
    rw [Nat.add_assoc]; exact h.hm _ this
  hr k d j c hk hj := by
    rw [List.getElem?_take] at hk
    split at hk
    · rw [List.getElem?_drop] at hk
      have := h.hr _ _ _ _ hk hj
      rw [Nat.add_mul, Nat.add_assoc] at this; exact this
    · cases hk

theorem Shows.nil (μ : Mem) (es b off : Nat) (Y : Nat → Value) : Shows μ es [] b off Y := ⟨fun i d h => by simp at h, fun k h => by simp at h, fun i d j c h => by simp at h⟩

theorem addMap (b off m i es : Nat) : (if m = i then (some ⟨b, off, none⟩ : Option Addr) else (some (⟨b, off, none⟩ : Addr)).map (·.add (i * es))) = some (if m = i then ⟨b, off, none⟩ else ⟨b, off + i * es, none⟩) := by
  split <;> simp [add_off]

/-- a part of a slice, its room forgotten or shut -/
theorem cut_pure {es : Nat} {l : List D} {b off : Nat} {Y : Nat → Value} (h : Shows G.μ es l b off Y) {i j m : Nat} {t : Tok} (hij : i ≤ j) (hj : j ≤ l.length) (hm : j ≤ m)
    (ht : t = .no ∨ (t = .full ∧ m = j)) :
    Rep G (.slc t es ((l.drop i).take (j - i))) (.slice (some (if m = i then ⟨b, off, none⟩ else ⟨b, off + i * es, none⟩)) (j - i) (m - i)) := by
  have hl : ((l.drop i).take (j - i)).length = j - i := by simp; omega
  by_cases e : m = i
  · have hji : j = i := by omega
    subst hji; subst e
    have : (l.drop m).take (m - m) = [] := by simp
    rw [this, if_pos rfl, Nat.sub_self]
    exact .pure (.slc (l := []) (cap := 0) Y (ht.imp id fun h => ⟨h.1, rfl⟩) (Nat.le_refl _) (fun i d h => by simp at h) (fun k h => by simp at h) (fun i d j c h => by simp at h))
  · rw [if_neg e]
    have hc := h.cut i (j - i)
    have := Rep0.slc (μ := G.μ) (t := t) (es := es) (l := (l.drop i).take (j - i)) (b := b) (off := off + i * es) (cap := m - i) _
      (ht.imp id fun h => ⟨h.1, by rw [hl]; omega⟩) (by rw [hl]; omega) hc.hs hc.hm hc.hr
    rw [hl] at this
    exact .pure this

/-- a slice's tail, its room kept -/
theorem cut_own {es s : Nat} {l : List D} {b off cap : Nat} {Y : Nat → Value} (h : Shows G.μ es l b off Y) (hc : l.length ≤ cap) {i : Nat} (hi : i ≤ l.length)
    (ht : cap = l.length ∨ G.τ s = some (b, off + l.length * es, off + cap * es)) :
    Rep G (.slc (.own s) es (l.drop i)) (.slice (some (if cap = i then ⟨b, off, none⟩ else ⟨b, off + i * es, none⟩)) (l.length - i) (cap - i)) := by
  have hl : (l.drop i).length = l.length - i := by simp
  by_cases e : cap = i
  · have hli : l.length = i := by omega
    have : l.drop i = [] := by simp [hli]
    rw [this, if_pos e, hli, e, Nat.sub_self]
    exact .own (l := []) (cap := 0) Y (Nat.le_refl _) (fun i d h => by simp at h) (fun k h => by simp at h) (fun i d j c h => by simp at h) (.inl rfl)
  · rw [if_neg e]
    have hcut := h.cut i (l.length - i)
    have htk : (l.drop i).take (l.length - i) = l.drop i := by rw [List.take_of_length_le (by simp)]
    rw [htk] at hcut
    have := Rep.own (G := G) (s := s) (es := es) (l := l.drop i) (b := b) (off := off + i * es) (cap := cap - i) _ (by rw [hl]; omega) hcut.hs hcut.hm hcut.hr
      (ht.imp (fun h => by rw [hl]; omega) fun h => by
        rw [hl, h]
        have h1 : (l.length - i) * es = l.length * es - i * es := Nat.sub_mul _ _ _
        have h2 : (cap - i) * es = cap * es - i * es := Nat.sub_mul _ _ _
        have h3 : i * es ≤ l.length * es := Nat.mul_le_mul_right _ hi
        have h4 : l.length * es ≤ cap * es := Nat.mul_le_mul_right _ hc
        congr 3 <;> omega)
    rw [hl] at this
    exact this

theorem cut_tok {t : Tok} {es : Nat} {l : List D} {b off cap : Nat} {Y : Nat → Value} (h : Shows G.μ es l b off Y) (hc : l.length ≤ cap) {i : Nat} (hi : i ≤ l.length)
    (ht : t = .no ∨ (t = .full ∧ cap = l.length) ∨ ∃ s, t = .own s ∧ (cap = l.length ∨ G.τ s = some (b, off + l.length * es, off + cap * es))) :
    Rep G (.slc t es (l.drop i)) (.slice (some (if cap = i then ⟨b, off, none⟩ else ⟨b, off + i * es, none⟩)) (l.length - i) (cap - i)) := by
  rcases ht with rfl | ⟨rfl, h1⟩ | ⟨s, rfl, h1⟩
  · have := cut_pure (t := .no) h (i := i) (j := l.length) (m := cap) hi (Nat.le_refl _) hc (.inl rfl)
    rwa [List.take_of_length_le (by simp)] at this
  · have := cut_pure (t := .full) h (i := i) (j := l.length) (m := cap) hi (Nat.le_refl _) hc (.inr ⟨rfl, h1⟩)
    rwa [List.take_of_length_le (by simp)] at this
  · exact cut_own h hc hi h1

theorem slc_shows {t : Tok} {es : Nat} {l : List D} {u : Value} (hx : Rep G (.slc t es l) u) :
    (l = [] ∧ u = .slice none 0 0) ∨ ∃ b off cap Y, u = .slice (some ⟨b, off, none⟩) l.length cap ∧ l.length ≤ cap ∧ Shows G.μ es l b off Y ∧
      (t = .no ∨ (t = .full ∧ cap = l.length) ∨ ∃ s, t = .own s ∧ (cap = l.length ∨ G.τ s = some (b, off + l.length * es, off + cap * es))) := by
  cases hx with
  | pure hx =>
    cases hx with
    | slcNil => exact .inl ⟨rfl, rfl⟩
    | slc Y ht hc hs hm hr => exact .inr ⟨_, _, _, Y, rfl, hc, ⟨hs, hm, hr⟩, by rcases ht with h | h <;> simp [h]⟩
  | ownNil => exact .inl ⟨rfl, rfl⟩
  | own Y hc hs hm hr ht => exact .inr ⟨_, _, _, Y, rfl, hc, ⟨hs, hm, hr⟩, .inr (.inr ⟨_, rfl, ht⟩)⟩

theorem run_sliceBound {k : IntKind} {i : Int} {y : Nat} {c : BoundsCode} (h0 : 0 ≤ i) (h1 : i ≤ (y : Int)) : (Instr.sliceBound (.int k i) y c).run P w = .ok i.toNat w := by
  simp [Instr.sliceBound, asIntOf, h0, h1]

theorem RepO.none_inv {v : Option Value} (h : RepO G none v) : v = none := by cases v <;> simp_all [RepO]
theorem RepO.some_inv {d : D} {v : Option Value} (h : RepO G (some d) v) : ∃ u, v = some u ∧ Rep G d u := by cases v <;> simp_all [RepO]

theorem sliceAt_eq {t e : TypeId} (ht : P.underlying t = some (.slice e)) (u : Value) (lo hi mx : Option Value) : (Instr.sliceAt t u lo hi mx).run P w = (Instr.slice t u lo hi mx).run P w := by
  simp [Instr.sliceAt, run_underlying ht]

theorem slD_sound {es : Nat} {x d : D} {u : Value} (hx : Rep G x u) {lo hi mx : Option D} {lo' hi' mx' : Option Value} (hlo : RepO G lo lo') (hhi : RepO G hi hi') (hmx : RepO G mx mx')
    {t e : TypeId} (ht : P.underlying t = some (.slice e)) (hs : tSize P e = some es) (h : slD es lo hi mx x = some d)
    (hv : ∀ s off len, x = .view s off len → ∀ b base es' K, G.ρ s = some (b, base, es', K) → es' = es) :
    ∃ z, (Instr.sliceAt t u lo' hi' mx').run P w = .ok z w ∧ Rep G d z := by
  rw [sliceAt_eq ht]
  unfold slD at h
  cases x with
  | slc tk es' l =>
    simp only at h
    cases hb : Nat.beq es es' with
    | false => rw [hb] at h; cases h
    | true =>
      rw [hb] at h
      have : es = es' := Nat.eq_of_beq_eq_true hb
      subst this
      simp only at h
      -- the slice itself: nil, or a row
      have hnil : l = [] → ∀ t' : Tok, (t' = tk ∨ t' = .no ∨ t' = .full) → Rep G (.slc t' es []) (.slice none 0 0) := by
        intro hl t' ht'
        subst hl
        rcases ht' with rfl | rfl | rfl
        · cases t' with
          | no => exact .pure (.slcNil (.inl rfl))
          | full => exact .pure (.slcNil (.inr rfl))
          | own s => exact .ownNil
        · exact .pure (.slcNil (.inl rfl))
        · exact .pure (.slcNil (.inr rfl))
      cases hi with
      | none =>
        have := hhi.none_inv; subst this
        cases mx with
        | some m => cases h
        | none =>
          have := hmx.none_inv; subst this
          simp only at h
          cases lo with
          | none =>
            have := hlo.none_inv; subst this
            simp at h; subst h
            rcases slc_shows hx with ⟨hl, rfl⟩ | ⟨b, off, cap, Y, rfl, hc, hsh, htk⟩
            · exact ⟨.slice none 0 0, by simp [Instr.slice, run_underlying ht, Instr.sliceBounds, run_sizeOf' hs], hx⟩
            · refine ⟨_, ?_, hx⟩
              simp [Instr.slice, run_underlying ht, Instr.sliceBounds, run_sizeOf' hs, add_off]
          | some dl =>
            obtain ⟨ul, rfl, hul⟩ := hlo.some_inv
            simp only [Option.bind_eq_some_iff] at h
            obtain ⟨i, hi, he⟩ := h
            simp at he; subst he
            obtain ⟨k, n, rfl, h0, h1, rfl⟩ := bnd_inv hi
            have := hul.int_inv; subst this
            rcases slc_shows hx with ⟨hl, rfl⟩ | ⟨b, off, cap, Y, rfl, hc, hsh, htk⟩
            · subst hl
              have hn : n = 0 := by simp at h0 h1; omega
              subst hn
              refine ⟨.slice none 0 0, ?_, by simpa using hx⟩
              simp [Instr.slice, run_underlying ht, Instr.sliceBounds, run_sliceBound (P := P) (w := w) (k := k) (i := 0) (y := 0) (c := .sliceB) (by omega) (by simp), run_sizeOf' hs]
            · refine ⟨_, ?_, cut_tok hsh hc (i := n.toNat) (by omega) htk⟩
              simp only [Instr.slice, Sem.run_bind, run_underlying ht, Result.andThen_ok, Instr.sliceBounds, Sem.run_pure, Option.isSome_none, Bool.false_eq_true, if_false,
                run_sliceBound (P := P) (w := w) (k := k) (i := n) (y := l.length) (c := .sliceB) (by simpa using h0) h1, run_sizeOf' hs, addMap]
      | some dh =>
        obtain ⟨uh, rfl, huh⟩ := hhi.some_inv
        simp only [Option.bind_eq_some_iff] at h
        obtain ⟨j, hj, h⟩ := h
        obtain ⟨kh, nh, rfl, hh0, hh1, rfl⟩ := bnd_inv hj
        have := huh.int_inv; subst this
        cases hq : mxOk nh.toNat mx with
        | false => rw [hq] at h; cases h
        | true =>
          rw [hq] at h
          simp only at h
          -- the upper bound and the room
          have hroom : ∃ (tk' : Tok), tk' = cutTok tk (some (.int kh nh)) mx ∧ (tk' = .no ∨ tk' = .full) ∧
              ∀ (cap : Nat), nh ≤ (cap : Int) → ∃ m : Nat, nh.toNat ≤ m ∧ m ≤ cap ∧ (tk' = .full → m = nh.toNat) ∧
                (∀ (len : Nat) (lo'' : Option Value), (Instr.sliceBounds true len cap lo'' (some (.int kh nh)) mx').run P w =
                  ((match lo'' with | some v => Instr.sliceBound v nh.toNat (if mx'.isSome then .slice3C else .sliceB) | none => Pure.pure 0 : Sem Nat).run P w).andThen fun l w => .ok (l, nh.toNat, m) w) := by
            cases mx with
            | none =>
              have := hmx.none_inv; subst this
              refine ⟨.no, rfl, .inl rfl, fun cap hcap => ⟨cap, by omega, Nat.le_refl _, (fun h => by cases h), fun len lo'' => ?_⟩⟩
              cases lo'' <;> simp [Instr.sliceBounds, run_sliceBound (P := P) (w := w) (k := kh) (i := nh) (y := cap) (c := .sliceAcap) (by simpa using hh0) hcap]
            | some dm =>
              obtain ⟨um, rfl, hum⟩ := hmx.some_inv
              simp only [mxOk] at hq
              cases hbm : bnd nh.toNat nh.toNat dm with
              | none => rw [hbm] at hq; cases hq
              | some q =>
                obtain ⟨km, nm, rfl, hm0, hm1, rfl⟩ := bnd_inv hbm
                have := hum.int_inv; subst this
                have hnm : nm = nh := by omega
                subst hnm
                refine ⟨.full, rfl, .inr rfl, fun cap hcap => ⟨nm.toNat, Nat.le_refl _, by omega, fun _ => rfl, fun len lo'' => ?_⟩⟩
                cases lo'' <;> simp [Instr.sliceBounds, run_sliceBound (P := P) (w := w) (k := km) (i := nm) (y := cap) (c := .slice3Acap) (by simpa using hh0) hcap,
                  run_sliceBound (P := P) (w := w) (k := kh) (i := nm) (y := nm.toNat) (c := .slice3B) (by simpa using hh0) (by omega)]
          obtain ⟨tk', htk', htk2, hroom⟩ := hroom
          rw [← htk'] at h
          have hnil' : l = [] → Rep G (.slc tk' es []) (.slice none 0 0) := fun hl => hnil hl tk' (.inr htk2)
          cases lo with
          | none =>
            have := hlo.none_inv; subst this
            simp at h; subst h
            rcases slc_shows hx with ⟨hl, rfl⟩ | ⟨b, off, cap, Y, rfl, hc, hsh, htk⟩
            · subst hl
              have hn : nh = 0 := by simp at hh0 hh1; omega
              subst hn
              obtain ⟨m, hm1, hm0, hm2, hm3⟩ := hroom 0 (by simp)
              have hr := hm3 0 none
              simp only [Sem.run_pure, Result.andThen_ok] at hr
              have : m = 0 := by omega
              subst this
              refine ⟨.slice none 0 0, ?_, by simpa using hnil' rfl⟩
              simp [Instr.slice, run_underlying ht, hr, run_sizeOf' hs]
            · obtain ⟨m, hm1, hm0, hm2, hm3⟩ := hroom cap (by omega)
              have hr := hm3 l.length none
              simp only [Sem.run_pure, Result.andThen_ok] at hr
              have := cut_pure (t := tk') hsh (i := 0) (j := nh.toNat) (m := m) (Nat.zero_le _) (by omega) hm1 (htk2.imp id fun h => ⟨h, hm2 h⟩)
              simp only [List.drop_zero, Nat.sub_zero] at this
              refine ⟨_, ?_, this⟩
              simp only [Instr.slice, Sem.run_bind, run_underlying ht, Result.andThen_ok, hr, Sem.run_pure, run_sizeOf' hs, addMap, Nat.sub_zero]
          | some dl =>
            obtain ⟨ul, rfl, hul⟩ := hlo.some_inv
            simp only [Option.bind_eq_some_iff] at h
            obtain ⟨i, hi, he⟩ := h
            simp at he; subst he
            obtain ⟨k, n, rfl, h0, h1, rfl⟩ := bnd_inv hi
            have := hul.int_inv; subst this
            rcases slc_shows hx with ⟨hl, rfl⟩ | ⟨b, off, cap, Y, rfl, hc, hsh, htk⟩
            · subst hl
              have hn : nh = 0 := by simp at hh0 hh1; omega
              subst hn
              have hn : n = 0 := by simp at h0 h1; omega
              subst hn
              obtain ⟨m, hm1, hm0, hm2, hm3⟩ := hroom 0 (by simp)
              have hr := hm3 0 (some (.int k 0))
              simp only [run_sliceBound (P := P) (w := w) (k := k) (i := 0) (y := (0 : Int).toNat) (Int.le_refl 0) (by simp), Result.andThen_ok] at hr
              have : m = 0 := by omega
              subst this
              refine ⟨.slice none 0 0, ?_, by simpa using hnil' rfl⟩
              simp [Instr.slice, run_underlying ht, hr, run_sizeOf' hs]
            · obtain ⟨m, hm1, hm0, hm2, hm3⟩ := hroom cap (by omega)
              have hr := hm3 l.length (some (.int k n))
              simp only [run_sliceBound (P := P) (w := w) (k := k) (i := n) (y := nh.toNat) (by simpa using h0) h1, Result.andThen_ok] at hr
              refine ⟨_, ?_, cut_pure (t := tk') hsh (i := n.toNat) (j := nh.toNat) (m := m) (by omega) (by omega) hm1 (htk2.imp id fun h => ⟨h, hm2 h⟩)⟩
              simp only [Instr.slice, Sem.run_bind, run_underlying ht, Result.andThen_ok, hr, Sem.run_pure, run_sizeOf' hs, addMap]
  | view s off len =>
    simp only at h
    cases mx with
    | some m => cases hi <;> simp at h
    | none =>
      have := hmx.none_inv; subst this
      cases hx with
      | pure hx => cases hx
      | @view _ _ _ b base es' K cap ad hρ hk hc ha =>
        have := hv _ _ _ rfl _ _ _ _ hρ
        subst this
        have hcap : len ≤ cap := by omega
        -- the result of a cut from i to j
        have key : ∀ (i j : Nat), i ≤ j → j ≤ cap → j + off ≤ K → Rep G (.view s (off + i) (j - i)) (.slice (some ⟨b, if cap = i then ad else ad + i * es', none⟩) (j - i) (cap - i)) := by
          intro i j hij hj hK
          refine .view hρ (by omega) (by omega) ?_
          by_cases e : cap = i
          · left; omega
          · right
            rw [if_neg e, (ha.resolve_left (by omega)), Nat.add_mul, Nat.add_assoc]
        have hmap : ∀ i : Nat, (if cap = i then (some ⟨b, ad, none⟩ : Option Addr) else (some (⟨b, ad, none⟩ : Addr)).map (·.add (i * es'))) = some ⟨b, if cap = i then ad else ad + i * es', none⟩ := by
          intro i; split <;> simp [add_off]
        cases hi with
        | none =>
          have := hhi.none_inv; subst this
          simp only at h
          cases lo with
          | none =>
            have := hlo.none_inv; subst this
            simp at h; subst h
            have := key 0 len (Nat.zero_le _) hcap (by omega)
            simp only [Nat.add_zero, Nat.sub_zero] at this
            refine ⟨_, ?_, this⟩
            simp only [Instr.slice, Sem.run_bind, run_underlying ht, Result.andThen_ok, Instr.sliceBounds, Sem.run_pure, run_sizeOf' hs, hmap, Nat.sub_zero]
          | some dl =>
            obtain ⟨ul, rfl, hul⟩ := hlo.some_inv
            simp only [Option.bind_eq_some_iff] at h
            obtain ⟨i, hi, he⟩ := h
            simp at he; subst he
            obtain ⟨k, n, rfl, h0, h1, rfl⟩ := bnd_inv hi
            have := hul.int_inv; subst this
            refine ⟨_, ?_, key n.toNat len (by omega) hcap (by omega)⟩
            simp only [Instr.slice, Sem.run_bind, run_underlying ht, Result.andThen_ok, Instr.sliceBounds, Sem.run_pure, Option.isSome_none, Bool.false_eq_true, if_false,
              run_sliceBound (P := P) (w := w) (k := k) (i := n) (y := len) (c := .sliceB) (by simpa using h0) h1, run_sizeOf' hs, hmap]
        | some dh =>
          obtain ⟨uh, rfl, huh⟩ := hhi.some_inv
          simp only [Option.bind_eq_some_iff] at h
          obtain ⟨j, hj, h⟩ := h
          obtain ⟨kh, nh, rfl, hh0, hh1, rfl⟩ := bnd_inv hj
          have := huh.int_inv; subst this
          have hb1 := run_sliceBound (P := P) (w := w) (k := kh) (i := nh) (y := cap) (c := .sliceAcap) (by simpa using hh0) (by omega)
          cases lo with
          | none =>
            have := hlo.none_inv; subst this
            simp at h; subst h
            have := key 0 nh.toNat (Nat.zero_le _) (by omega) (by omega)
            simp only [Nat.add_zero, Nat.sub_zero] at this
            refine ⟨_, ?_, this⟩
            simp only [Instr.slice, Sem.run_bind, run_underlying ht, Result.andThen_ok, Instr.sliceBounds, Sem.run_pure, if_true, hb1, run_sizeOf' hs, hmap, Nat.sub_zero]
          | some dl =>
            obtain ⟨ul, rfl, hul⟩ := hlo.some_inv
            simp only [Option.bind_eq_some_iff] at h
            obtain ⟨i, hi, he⟩ := h
            simp at he; subst he
            obtain ⟨k, n, rfl, h0, h1, rfl⟩ := bnd_inv hi
            have := hul.int_inv; subst this
            refine ⟨_, ?_, key n.toNat nh.toNat (by omega) (by omega) (by omega)⟩
            simp only [Instr.slice, Sem.run_bind, run_underlying ht, Result.andThen_ok, Instr.sliceBounds, Sem.run_pure, if_true, Option.isSome_none, Bool.false_eq_true, if_false, hb1,
              run_sliceBound (P := P) (w := w) (k := k) (i := n) (y := nh.toNat) (c := .sliceB) (by simpa using h0) h1, run_sizeOf' hs, hmap]
  | _ => simp at h
end Go.YtnpoikgkhhpdgaaDoorE

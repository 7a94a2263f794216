/-
  What a quiet operation depends on; the quiet part of a region, as a sequence.
-/
import Derived.Test.YtnpoikgkhhpdgaaDoorEvS
namespace Go.YtnpoikgkhhpdgaaDoorE
variable {P : Program} {N : Nat} {X : Nat → Nat → Prop} {w0 : World} {μ0 : Mem} {G G' : Gh} {Cn Cn' : List Nat} {T T' : List (Nat × D)} {M M' : List (Nat × Ob)} {a : Act} {w w' : World}

def rdT : Rd → List Nat
  | .t n => [n]
  | .k _ => []
def rdOT : Option Rd → List Nat
  | none => []
  | some x => rdT x
def rdLT : List Rd → List Nat
  | [] => []
  | x :: r => rdT x ++ rdLT r
def rdAT : List (Nat × Nat × Rd) → List Nat
  | [] => []
  | x :: r => rdT x.2.2 ++ rdAT r
def rdST : List (Nat × Rd) → List Nat
  | [] => []
  | x :: r => rdT x.2 ++ rdST r
def opReads : Op → List Nat
  | .mv x => rdT x
  | .pick c a b => rdT c ++ (rdT a ++ rdT b)
  | .build _ _ ps => rdAT ps
  | .bsl _ _ _ ps => rdST ps
  | .load _ _ _ a => rdT a
  | .nilc x => rdT x
  | .bin _ _ x y => rdT x ++ rdT y
  | .eqa _ _ x y => rdT x ++ rdT y
  | .un _ x => rdT x
  | .cv _ x => rdT x
  | .fld _ _ _ _ x => rdT x
  | .fadr _ x => rdT x
  | .iadr _ x i => rdT x ++ rdT i
  | .iada _ _ x i => rdT x ++ rdT i
  | .ida _ _ _ _ x i => rdT x ++ rdT i
  | .ids x i => rdT x ++ rdT i
  | .ext x _ => rdT x
  | .len _ x => rdT x
  | .sl _ x lo hi mx => rdT x ++ (rdOT lo ++ (rdOT hi ++ rdOT mx))
  | .sls x lo hi => rdT x ++ (rdOT lo ++ rdOT hi)
  | .mm _ x y => rdT x ++ rdT y
  | .mkfn _ caps => rdLT caps
  | .app _ _ _ _ x y => rdT x ++ rdT y
  | .call _ args _ => rdLT args
  | .callv f args _ => rdT f ++ rdLT args
  | .alloc _ _ => []
  | .box _ _ _ x => rdT x
  | .store _ _ x y => rdT x ++ rdT y
  | .mks _ _ _ _ x y => rdT x ++ rdT y
  | .copy x y => rdT x ++ rdT y

theorem rdv_congr {x : Rd} (h : ∀ t ∈ rdT x, gt T t = gt T' t) : rdv T x = rdv T' x := by
  cases x with
  | t n => exact h n (by simp [rdT])
  | k d => rfl
theorem rdvO_congr {x : Option Rd} (h : ∀ t ∈ rdOT x, gt T t = gt T' t) : rdvO T x = rdvO T' x := by
  cases x with
  | none => rfl
  | some x => simp only [rdvO]; rw [rdv_congr h]
theorem rdvL_congr : ∀ {l : List Rd}, (∀ t ∈ rdLT l, gt T t = gt T' t) → rdvL T l = rdvL T' l
  | [], _ => rfl
  | x :: r, h => by
    simp only [rdvL]
    rw [rdv_congr fun t ht => h t (List.mem_append_left _ ht), rdvL_congr fun t ht => h t (List.mem_append_right _ ht)]
theorem rdvA_congr : ∀ {l : List (Nat × Nat × Rd)}, (∀ t ∈ rdAT l, gt T t = gt T' t) → rdvA T l = rdvA T' l
  | [], _ => rfl
  | x :: r, h => by
    simp only [rdvA]
    rw [rdv_congr fun t ht => h t (List.mem_append_left _ ht), rdvA_congr fun t ht => h t (List.mem_append_right _ ht)]
theorem rdvS_congr : ∀ {l : List (Nat × Rd)}, (∀ t ∈ rdST l, gt T t = gt T' t) → rdvS T l = rdvS T' l
  | [], _ => rfl
  | x :: r, h => by
    simp only [rdvS]
    rw [rdv_congr fun t ht => h t (List.mem_append_left _ ht), rdvS_congr fun t ht => h t (List.mem_append_right _ ht)]

theorem pair_congr {A B : List Nat} (h : ∀ t ∈ A ++ B, gt T t = gt T' t) : (∀ t ∈ A, gt T t = gt T' t) ∧ ∀ t ∈ B, gt T t = gt T' t :=
  ⟨fun t ht => h t (List.mem_append_left _ ht), fun t ht => h t (List.mem_append_right _ ht)⟩

theorem qop_congr {c : Op} (h : ∀ t ∈ opReads c, gt T t = gt T' t) : qop T M Cn c = qop T' M Cn c := by
  cases c with
  | mv x => simp only [qop]; rw [rdv_congr h]
  | pick c x y =>
    obtain ⟨h1, h2⟩ := pair_congr h
    obtain ⟨h2, h3⟩ := pair_congr h2
    simp only [qop]; rw [rdv_congr h1, rdv_congr h2, rdv_congr h3]
  | build fl z ps => simp only [qop]; rw [rdvA_congr h]
  | bsl es z n ps => simp only [qop]; rw [rdvS_congr h]
  | load ag fl n x => simp only [qop]; rw [rdv_congr h]
  | nilc x => simp only [qop]; rw [rdv_congr h]
  | bin k op x y =>
    obtain ⟨h1, h2⟩ := pair_congr h
    simp only [qop]; rw [rdv_congr h1, rdv_congr h2]
  | eqa neq ks x y =>
    obtain ⟨h1, h2⟩ := pair_congr h
    simp only [qop]; rw [rdv_congr h1, rdv_congr h2]
  | un op x => simp only [qop]; rw [rdv_congr h]
  | cv k x => simp only [qop]; rw [rdv_congr h]
  | fld ag fl off n x => simp only [qop]; rw [rdv_congr h]
  | fadr off x => simp only [qop]; rw [rdv_congr h]
  | iadr es x i =>
    obtain ⟨h1, h2⟩ := pair_congr h
    simp only [qop]; rw [rdv_congr h1, rdv_congr h2]
  | iada len es x i =>
    obtain ⟨h1, h2⟩ := pair_congr h
    simp only [qop]; rw [rdv_congr h1, rdv_congr h2]
  | ida len es ag fl x i =>
    obtain ⟨h1, h2⟩ := pair_congr h
    simp only [qop]; rw [rdv_congr h1, rdv_congr h2]
  | ids x i =>
    obtain ⟨h1, h2⟩ := pair_congr h
    simp only [qop]; rw [rdv_congr h1, rdv_congr h2]
  | ext x i => simp only [qop]; rw [rdv_congr h]
  | len str x => simp only [qop]; rw [rdv_congr h]
  | sl es x lo hi mx =>
    obtain ⟨h1, h2⟩ := pair_congr h
    obtain ⟨h2, h3⟩ := pair_congr h2
    obtain ⟨h3, h4⟩ := pair_congr h3
    simp only [qop]; rw [rdv_congr h1, rdvO_congr h2, rdvO_congr h3, rdvO_congr h4]
  | sls x lo hi =>
    obtain ⟨h1, h2⟩ := pair_congr h
    obtain ⟨h2, h3⟩ := pair_congr h2
    simp only [qop]; rw [rdv_congr h1, rdvO_congr h2, rdvO_congr h3]
  | mm mx x y =>
    obtain ⟨h1, h2⟩ := pair_congr h
    simp only [qop]; rw [rdv_congr h1, rdv_congr h2]
  | mkfn f caps => simp only [qop]; rw [rdvL_congr h]
  | app es bytes s z x y =>
    obtain ⟨h1, h2⟩ := pair_congr h
    simp only [qop]; rw [rdv_congr h1, rdv_congr h2]
  | _ => rfl
theorem qall_congr {Φ : Tab} {run : Run} {c : Op} (h : ∀ t ∈ opReads c, gt T t = gt T' t) : qall Φ run T M Cn c = qall Φ run T' M Cn c := by
  cases c with
  | call f args s => simp only [qall]; rw [rdvL_congr h]
  | callv f args s =>
    obtain ⟨h1, h2⟩ := pair_congr h
    simp only [qall]; rw [rdv_congr h1, rdvL_congr h2]
  | alloc s z => rfl
  | _ => simp only [qall]; exact qop_congr h
theorem wants_congr {g : Option (Nat × Bool)} (h : ∀ t b, g = some (t, b) → gt T t = gt T' t) : wants T g = wants T' g := by
  cases g with
  | none => rfl
  | some x => obtain ⟨t, b⟩ := x; simp only [wants]; rw [h t b rfl]

def isApp : Op → Bool
  | .app _ _ _ _ _ _ => true
  | _ => false
/-- does an operation read boxes? -/
def isR : Op → Bool
  | .load _ _ _ _ => true
  | .iadr _ _ _ => true
  | .sl _ _ _ _ _ => true
  | .call _ _ _ => true
  | .callv _ _ _ => true
  | .alloc _ _ => true
  | _ => false
theorem bind_map_congr {α β γ : Type} {o : Option α} {f : α → Option γ} {g : α → Option β} {k : β → γ} (h : ∀ x, f x = (g x).map k) : o.bind f = (o.bind g).map k := by
  cases o with
  | none => rfl
  | some x => exact h x
theorem qop_Cn {c : Op} (h : isApp c = false) : qop T M Cn c = (qop T M [] c).map fun q => (q.1, Cn) := by
  cases c with
  | app es bytes s z x y => cases h
  | _ =>
    simp only [qop, iadrD, fadrD, iadaD]
    repeat' (first | rfl | (apply bind_map_congr; intro) | split)
theorem qall_key {Φ : Tab} {run : Run} {c : Op} (h : isApp c = false) (C : List Nat) : qall Φ run T M C c = (qall Φ run T M [] c).map fun q => (q.1, C) := by
  cases c with
  | call f args s =>
    simp only [qall]
    repeat' (first | rfl | (apply bind_map_congr; intro) | split)
  | callv f args s =>
    simp only [qall]
    repeat' (first | rfl | (apply bind_map_congr; intro) | split)
  | alloc s z =>
    simp only [qall]
    split <;> rfl
  | app es bytes s z x y => cases h
  | _ => simp only [qall]; exact qop_Cn h
theorem qall_Cn {Φ : Tab} {run : Run} {c : Op} (h : isApp c = false) {d : D} {C1 : List Nat} (hq : qall Φ run T M Cn c = some (d, C1)) (C : List Nat) : C1 = Cn ∧ qall Φ run T M C c = some (d, C) := by
  rw [qall_key h] at hq
  cases h0 : qall Φ run T M [] c with
  | none => simp [h0] at hq
  | some q =>
    simp [h0] at hq
    refine ⟨hq.2.symm, ?_⟩
    rw [qall_key h, h0]; simp [hq.1]
/-- what reads no box -/
theorem qall_M {Φ : Tab} {run : Run} {c : Op} (h : isR c = false) : qall Φ run T M Cn c = qall Φ run T M' Cn c := by
  cases c <;> first | (cases h; done) | rfl
theorem lop_key {Φ : Tab} {run : Run} {wr : List Nat} {i : Nat} {c : Op} (h : isW wr i c = true) (C : List Nat) : lop Φ run T M C c = (lop Φ run T M [] c).map fun q => (q.1, q.2.1, C) := by
  cases c with
  | store ag n x y =>
    simp only [lop, storeD]
    repeat' (first | rfl | (apply bind_map_congr; intro) | split)
  | box s ag n x =>
    simp only [lop]
    repeat' (first | rfl | (apply bind_map_congr; intro) | split)
  | mks s es bytes z n m =>
    simp only [lop]
    repeat' (first | rfl | (apply bind_map_congr; intro) | split)
  | copy x y =>
    simp only [lop]
    repeat' (first | rfl | (apply bind_map_congr; intro) | split)
  | call f args s =>
    simp only [lop]
    repeat' (first | rfl | (apply bind_map_congr; intro) | split)
  | callv f args s =>
    simp only [lop]
    repeat' (first | rfl | (apply bind_map_congr; intro) | split)
  | _ => cases h
theorem lop_Cn {Φ : Tab} {run : Run} {wr : List Nat} {i : Nat} {c : Op} (h : isW wr i c = true) {d : D} {M1 : List (Nat × Ob)} {C1 : List Nat} (hq : lop Φ run T M Cn c = some (d, M1, C1)) (C : List Nat) : C1 = Cn ∧ lop Φ run T M C c = some (d, M1, C) := by
  rw [lop_key h] at hq
  cases h0 : lop Φ run T M [] c with
  | none => simp [h0] at hq
  | some q =>
    simp [h0] at hq
    refine ⟨hq.2.2.symm, ?_⟩
    rw [lop_key h, h0]; simp [hq.1, hq.2.1]
theorem lop_congr {Φ : Tab} {run : Run} {c : Op} (h : ∀ t ∈ opReads c, gt T t = gt T' t) : lop Φ run T M Cn c = lop Φ run T' M Cn c := by
  cases c with
  | call f args s => simp only [lop]; rw [rdvL_congr h]
  | callv f args s =>
    obtain ⟨h1, h2⟩ := pair_congr h
    simp only [lop]; rw [rdv_congr h1, rdvL_congr h2]
  | alloc s z => rfl
  | box s ag n x => simp only [lop]; rw [rdv_congr h]
  | store ag n x y =>
    obtain ⟨h1, h2⟩ := pair_congr h
    simp only [lop]; rw [rdv_congr h1, rdv_congr h2]
  | mks s es bytes z x y =>
    obtain ⟨h1, h2⟩ := pair_congr h
    simp only [lop]; rw [rdv_congr h1, rdv_congr h2]
  | copy x y =>
    obtain ⟨h1, h2⟩ := pair_congr h
    simp only [lop]; rw [rdv_congr h1, rdv_congr h2]
  | _ => simp only [lop]; rw [qop_congr h]

/-! ### the sequence -/
structure QSeq (Φ : Tab) (run : Run) (wr : List Nat) (k : Nat) (ios : List Io) (Ts : Nat → List (Nat × D)) (Ms : Nat → List (Nat × Ob)) (Cs : Nat → List Nat) (vs : Nat → D) : Prop where
  step : ∀ (i : Nat) (io : Io), ios[i]? = some io → ∃ b, wants (Ts i) io.guard = some b ∧ (b = true → dop Φ run (isW wr (k + i) io.op) (Ts i) (Ms i) (Cs i) io.op = some (vs i, Ms (i + 1), Cs (i + 1))) ∧
    (b = false → vs i = .undef ∧ Ms (i + 1) = Ms i ∧ Cs (i + 1) = Cs i) ∧ Ts (i + 1) = put (Ts i) io.dst (vs i)

theorem dsteps_seq {Φ : Tab} {run : Run} {wr : List Nat} : ∀ (ios : List Io) (k : Nat) (T : List (Nat × D)) (M : List (Nat × Ob)) (Cn : List Nat) (T' : List (Nat × D)) (M' : List (Nat × Ob)) (Cn' : List Nat), dsteps Φ run wr k ios T M Cn = some (T', M', Cn') →
    ∃ Ts Ms Cs vs, QSeq Φ run wr k ios Ts Ms Cs vs ∧ Ts 0 = T ∧ Ms 0 = M ∧ Cs 0 = Cn ∧ Ts ios.length = T' ∧ Ms ios.length = M' ∧ Cs ios.length = Cn'
  | [], k, T, M, Cn, T', M', Cn', h => by
    simp [dsteps] at h
    exact ⟨fun _ => T, fun _ => M, fun _ => Cn, fun _ => .undef, ⟨fun i io hi => by simp at hi⟩, rfl, rfl, rfl, h.1, h.2.1, h.2.2⟩
  | io :: r, k, T, M, Cn, T', M', Cn', h => by
    simp only [dsteps, Option.bind_eq_some_iff] at h
    obtain ⟨b, hw, h⟩ := h
    obtain ⟨d, M1, C1, hq, hqs⟩ : ∃ d M1 C1, ((b = true → dop Φ run (isW wr k io.op) T M Cn io.op = some (d, M1, C1)) ∧ (b = false → d = .undef ∧ M1 = M ∧ C1 = Cn)) ∧ dsteps Φ run wr (k + 1) r (put T io.dst d) M1 C1 = some (T', M', Cn') := by
      cases b with
      | true =>
        simp only [Option.bind_eq_some_iff] at h
        obtain ⟨⟨d, M1, C1⟩, h1, h2⟩ := h
        exact ⟨d, M1, C1, ⟨fun _ => h1, fun h => by cases h⟩, h2⟩
      | false => exact ⟨.undef, M, Cn, ⟨(fun h => by cases h), fun _ => ⟨rfl, rfl, rfl⟩⟩, h⟩
    obtain ⟨Ts, Ms, Cs, vs, ⟨hs⟩, h0, h1, h2, h3, h4, h5⟩ := dsteps_seq r _ _ _ _ _ _ _ hqs
    refine ⟨fun i => match i with | 0 => T | i + 1 => Ts i, fun i => match i with | 0 => M | i + 1 => Ms i, fun i => match i with | 0 => Cn | i + 1 => Cs i, fun i => match i with | 0 => d | i + 1 => vs i, ⟨fun i io' hi => ?_⟩, rfl, rfl, rfl, h3, h4, h5⟩
    cases i with
    | zero =>
      simp at hi; subst hi
      simp only [h0, h1, h2]
      exact ⟨b, hw, hq.1, hq.2, trivial⟩
    | succ i =>
      have := hs i io' (by simpa using hi)
      rw [show k + 1 + i = k + (i + 1) by omega] at this
      exact this

/-- no two operations write one temporary -/
def dstsApart (ios : List Io) : Prop := ∀ (i j : Nat) (x y : Io) (t : Nat), ios[i]? = some x → ios[j]? = some y → x.dst = some t → y.dst = some t → i = j

theorem QSeq.at {Φ : Tab} {run : Run} {wr : List Nat} {k : Nat} {ios : List Io} {Ts : Nat → List (Nat × D)} {Ms : Nat → List (Nat × Ob)} {Cs : Nat → List Nat} {vs : Nat → D} (h : QSeq Φ run wr k ios Ts Ms Cs vs) (hd : dstsApart ios) : ∀ (i : Nat), i ≤ ios.length →
    (∀ (j : Nat) (io : Io) (t : Nat), j < i → ios[j]? = some io → io.dst = some t → gt (Ts i) t = some (vs j)) ∧ (∀ t, (∀ (j : Nat) (io : Io), j < i → ios[j]? = some io → io.dst ≠ some t) → gt (Ts i) t = gt (Ts 0) t)
  | 0, _ => ⟨fun j io t hj => by omega, fun t _ => rfl⟩
  | i + 1, hi => by
    obtain ⟨h1, h2⟩ := QSeq.at h hd i (by omega)
    have hio : ios[i]? = some ios[i] := by simp
    obtain ⟨b, _, _, _, hT⟩ := h.step i _ hio
    rw [hT]
    refine ⟨fun j io t hj hjo hdt => ?_, fun t ht => ?_⟩
    · by_cases e : j = i
      · subst e
        rw [hio] at hjo; cases hjo
        rw [hdt]; exact gt_st_same _ _ _
      · cases hdi : ios[i].dst with
        | none => exact h1 j io t (by omega) hjo hdt
        | some t' =>
          have hne : t ≠ t' := fun he => e (hd j i io ios[i] t hjo hio hdt (by rw [hdi, he]))
          simp only [put]
          rw [gt_st_other _ _ hne]
          exact h1 j io t (by omega) hjo hdt
    · have := ht i ios[i] (by omega) hio
      cases hdi : ios[i].dst with
      | none => exact h2 t fun j io hj hjo => ht j io (by omega) hjo
      | some t' =>
        have hne : t ≠ t' := fun he => this (by rw [hdi, he])
        simp only [put]
        rw [gt_st_other _ _ hne]
        exact h2 t fun j io hj hjo => ht j io (by omega) hjo
theorem QSeq.cs {Φ : Tab} {run : Run} {wr : List Nat} {k0 : Nat} {ios : List Io} {Ts : Nat → List (Nat × D)} {Ms : Nat → List (Nat × Ob)} {Cs : Nat → List Nat} {vs : Nat → D} (h : QSeq Φ run wr k0 ios Ts Ms Cs vs) (m : Nat) : ∀ (k : Nat), m + k ≤ ios.length →
    (∀ (j : Nat) (io : Io), m ≤ j → j < m + k → ios[j]? = some io → isApp io.op = false) → Cs (m + k) = Cs m
  | 0, _, _ => rfl
  | k + 1, hk, hn => by
    have ih := QSeq.cs h m k (by omega) fun j io h1 h2 h3 => hn j io h1 (by omega) h3
    have hlt : m + k < ios.length := by omega
    have hio : ios[m + k]? = some ios[m + k] := by simp
    obtain ⟨b, _, hq, hf, _⟩ := h.step _ _ hio
    rw [← ih]
    cases b with
    | true =>
      have hq := hq rfl
      have ha := hn (m + k) _ (by omega) (by omega) hio
      cases hw : isW wr (k0 + (m + k)) ios[m + k].op with
      | true => rw [hw] at hq; exact (lop_Cn hw hq []).1
      | false =>
        rw [hw] at hq
        simp only [dop, Option.bind_eq_some_iff] at hq
        obtain ⟨⟨d, C1⟩, h1, h2⟩ := hq
        simp at h2
        exact h2.2.2.symm.trans (qall_Cn ha h1 []).1
    | false => exact (hf rfl).2.2
theorem QSeq.ms {Φ : Tab} {run : Run} {wr : List Nat} {k0 : Nat} {ios : List Io} {Ts : Nat → List (Nat × D)} {Ms : Nat → List (Nat × Ob)} {Cs : Nat → List Nat} {vs : Nat → D} (h : QSeq Φ run wr k0 ios Ts Ms Cs vs) (m : Nat) : ∀ (k : Nat), m + k ≤ ios.length →
    (∀ (j : Nat) (io : Io), m ≤ j → j < m + k → ios[j]? = some io → isW wr (k0 + j) io.op = false) → Ms (m + k) = Ms m
  | 0, _, _ => rfl
  | k + 1, hk, hn => by
    have ih := QSeq.ms h m k (by omega) fun j io h1 h2 h3 => hn j io h1 (by omega) h3
    have hlt : m + k < ios.length := by omega
    have hio : ios[m + k]? = some ios[m + k] := by simp
    obtain ⟨b, _, hq, hf, _⟩ := h.step _ _ hio
    rw [← ih]
    cases b with
    | true =>
      have hq := hq rfl
      rw [hn (m + k) _ (by omega) (by omega) hio] at hq
      simp only [dop, Option.bind_eq_some_iff] at hq
      obtain ⟨⟨d, C1⟩, h1, h2⟩ := hq
      simp at h2
      exact h2.2.1.symm
    | false => exact (hf rfl).2.1

/-! ### boxes that stand ready -/
theorem preM_get : ∀ (ios : List Io) (M M' : List (Nat × Ob)), preM ios M = some M' → (∀ s ob, gt M s = some ob → gt M' s = some ob) ∧
    (∀ (i : Nat) (io : Io) (s : Nat) (z : D), ios[i]? = some io → io.op = .alloc s z → gt M s = none ∧ gt M' s = some (.box z)) ∧
    (∀ (i j : Nat) (x y : Io) (s : Nat) (z z' : D), ios[i]? = some x → ios[j]? = some y → x.op = .alloc s z → y.op = .alloc s z' → i = j)
  | [], M, M', h => by simp [preM] at h; subst h; exact ⟨fun _ _ h => h, fun i io s z hi => by simp at hi, fun i j x y s z z' hi => by simp at hi⟩
  | o :: r, M, M', h => by
    by_cases hal : ∃ s z, o.op = .alloc s z
    · obtain ⟨s0, z0, ho⟩ := hal
      simp only [preM, ho] at h
      split at h
      · rename_i hg hM
        obtain ⟨h1, h2, h3⟩ := preM_get r _ _ h
        refine ⟨fun s ob hs => h1 s ob ?_, fun i io s z hi hz => ?_, fun i j x y s z z' hi hj hx hy => ?_⟩
        · have hne : s ≠ s0 := fun he => by rw [he, hM] at hs; cases hs
          rw [gt_st_other _ _ hne]; exact hs
        · cases i with
          | zero =>
            simp at hi; subst hi
            rw [ho] at hz; cases hz
            exact ⟨hM, h1 _ _ (gt_st_same _ _ _)⟩
          | succ i =>
            obtain ⟨h4, h5⟩ := h2 i io s z (by simpa using hi) hz
            have hne : s ≠ s0 := fun he => by rw [he, gt_st_same] at h4; cases h4
            rw [gt_st_other _ _ hne] at h4
            exact ⟨h4, h5⟩
        · have hno : ∀ (k : Nat) (io : Io) (z1 : D), r[k]? = some io → io.op ≠ .alloc s0 z1 := fun k io z1 hk hz => by
            have := (h2 k io s0 z1 hk hz).1
            rw [gt_st_same] at this; cases this
          cases i with
          | zero =>
            simp at hi; subst hi
            rw [ho] at hx; cases hx
            cases j with
            | zero => rfl
            | succ j => exact absurd hy (hno j y z' (by simpa using hj))
          | succ i =>
            cases j with
            | zero =>
              simp at hj; subst hj
              rw [ho] at hy; cases hy
              exact absurd hx (hno i x z (by simpa using hi))
            | succ j => rw [h3 i j x y s z z' (by simpa using hi) (by simpa using hj) hx hy]
      · cases h
    · have hp : preM (o :: r) M = preM r M := by
        simp only [preM]
        split
        · rename_i s z ho; exact absurd ⟨s, z, ho⟩ hal
        · rfl
      rw [hp] at h
      obtain ⟨h1, h2, h3⟩ := preM_get r _ _ h
      refine ⟨h1, fun i io s z hi hz => ?_, fun i j x y s z z' hi hj hx hy => ?_⟩
      · cases i with
        | zero => simp at hi; subst hi; exact absurd ⟨s, z, hz⟩ hal
        | succ i => exact h2 i io s z (by simpa using hi) hz
      · cases i with
        | zero => simp at hi; subst hi; exact absurd ⟨s, z, hx⟩ hal
        | succ i =>
          cases j with
          | zero => simp at hj; subst hj; exact absurd ⟨s, z', hy⟩ hal
          | succ j => rw [h3 i j x y s z z' (by simpa using hi) (by simpa using hj) hx hy]
theorem Rel.pre (h : Rel N X w0 μ0 G Cn T M a w) (hM : ∀ s ob, gt M s = some ob → gt M' s = some ob) : Rel N X w0 μ0 G Cn T M' a w :=
  { h with
    obs := fun s ob b base es K hg hρ => by
      cases hMs : gt M s with
      | none => rw [h.dead s hMs] at hρ; cases hρ
      | some ob' =>
        have := hM s ob' hMs
        rw [hg] at this; cases this
        exact h.obs s ob b base es K hMs hρ
    dead := fun s hg => h.dead s (by
      cases hMs : gt M s with
      | none => rfl
      | some ob => rw [hM s ob hMs] at hg; cases hg) }
theorem Rel.congrT (h : Rel N X w0 μ0 G Cn T M a w) (hT : ∀ t, gt T' t = gt T t) : Rel N X w0 μ0 G Cn T' M a w :=
  { h with tmps := fun t d hg => h.tmps t d (by rw [← hT]; exact hg) }
end Go.YtnpoikgkhhpdgaaDoorE

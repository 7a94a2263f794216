/-
  A region's operations one after the other; regions that draw no order.
-/
import Derived.Test.YtnpoikgkhhpdgaaDoorEvR
namespace Go.YtnpoikgkhhpdgaaDoorE
variable {P : Program} {N : Nat} {X : Nat → Nat → Prop} {w0 : World} {μ0 : Mem} {G G' : Gh} {Cn Cn' : List Nat} {T T' : List (Nat × D)} {M M' : List (Nat × Ob)} {a : Act} {w w' : World}

def okDst (N : Nat) : Option Tmp → Option Nat → Bool
  | none, none => true
  | some x, some y => Nat.beq x y && Nat.blt y N
  | _, _ => false
def okGuard (ops : Array Oper) : Option (Nat × Bool) → Option (Nat × Bool) → Bool
  | none, none => true
  | some x, some y => (match (ops[x.1]?).bind (·.dst) with | some t => Nat.beq t y.1 | none => false) && (x.2 == y.2)
  | _, _ => false
def okIo (P : Program) (N : Nat) (ops : Array Oper) (o : Oper) (io : Io) : Bool := okOp P o.op io.op && okDst N o.dst io.dst && okGuard ops o.guard io.guard
def okIos (P : Program) (N : Nat) (ops : Array Oper) : List Oper → List Io → Bool
  | [], [] => true
  | o :: r, io :: s => okIo P N ops o io && okIos P N ops r s
  | _, _ => false

theorem okIos_get {ops : Array Oper} : ∀ {os : List Oper} {ios : List Io}, okIos P N ops os ios = true → os.length = ios.length ∧ ∀ (i : Nat) (io : Io), ios[i]? = some io → ∃ o, os[i]? = some o ∧ okIo P N ops o io = true
  | [], [], _ => ⟨rfl, fun i io h => by simp at h⟩
  | [], _ :: _, h => by simp [okIos] at h
  | _ :: _, [], h => by simp [okIos] at h
  | o :: r, io :: s, h => by
    simp only [okIos, Bool.and_eq_true] at h
    obtain ⟨h1, h2⟩ := okIos_get h.2
    refine ⟨by simp [h1], fun i io' hi => ?_⟩
    cases i with
    | zero => simp at hi; subst hi; exact ⟨o, rfl, h.1⟩
    | succ i => exact h2 i io' (by simpa using hi)

theorem okDst_inv {x : Option Tmp} {y : Option Nat} (h : okDst N x y = true) : x = y ∧ ∀ t, y = some t → t < N := by
  cases x <;> cases y <;> simp only [okDst] at h
  · exact ⟨rfl, fun t h => by cases h⟩
  · cases h
  · cases h
  · simp at h
    obtain ⟨h1, h2⟩ := h
    subst h1
    exact ⟨rfl, fun t ht => by cases ht; exact h2⟩

theorem wanted_sound (h : Rel N X w0 μ0 G Cn T M a w) {ops : Array Oper} {o : Oper} {io : Io} {b : Bool} (ok : okGuard ops o.guard io.guard = true) (hw : wants T io.guard = some b) : Region.wanted o (yielded ops a.tmps) = b := by
  unfold Region.wanted
  cases hg : o.guard with
  | none =>
    rw [hg] at ok
    cases hi : io.guard with
    | none => rw [hi] at hw; simp [wants] at hw; subst hw; rfl
    | some y => rw [hi] at ok; simp [okGuard] at ok
  | some x =>
    rw [hg] at ok
    cases hi : io.guard with
    | none => rw [hi] at ok; simp [okGuard] at ok
    | some y =>
      rw [hi] at ok hw
      obtain ⟨j, want⟩ := x
      obtain ⟨g, b'⟩ := y
      simp only [okGuard, Bool.and_eq_true] at ok
      obtain ⟨ok1, ok2⟩ := ok
      have e2 : want = b' := by simpa using ok2
      subst e2
      split at ok1
      · rename_i t ht
        have e1 : t = g := Nat.eq_of_beq_eq_true ok1
        subst e1
        simp only [wants] at hw
        split at hw
        · rename_i x hT
          simp at hw
          obtain ⟨v, h1, h2⟩ := h.tmps t _ hT
          have := h2.bool_inv; subst this
          simp only [yielded, ht, Option.bind_some, h1]
          rw [← hw]
          cases x <;> cases want <;> rfl
        · cases hw
      · cases ok1

section
variable {ro : Option Nat} {n : Nat} {Q : Exit → Act → World → Prop}

theorem io_wp (h : Rel N X w0 μ0 G Cn T M a w) {ops : Array Oper} {i : Nat} {o : Oper} {io : Io} {b : Bool} {K : Act → World → Prop} (ho : ops[i]? = some o) (ok : okIo P N ops o io = true) (hw : wants T io.guard = some b)
    (h1 : b = true → o.wpIn (FF ro) n P a w K Q) (h2 : b = false → K (a.put o.dst undef) w) : wpOpIn (FF ro) n P ops Q i K a w := by
  simp only [okIo, Bool.and_eq_true] at ok
  unfold wpOpIn
  simp only [ho]
  rw [wanted_sound h ok.2 hw]
  cases b with
  | true => exact h1 rfl
  | false => exact ⟨about_FF o, h2 rfl⟩

def siteL : List Io → List Nat
  | [] => []
  | io :: r => opSites io.op ++ siteL r
theorem siteL_append (a b : List Io) : siteL (a ++ b) = siteL a ++ siteL b := by
  induction a with
  | nil => rfl
  | cons x r ih => simp [siteL, ih]
def subB (ss : List Nat) : List Nat → Bool
  | [] => true
  | s :: r => has ss s && subB ss r
theorem subB_mem {ss : List Nat} : ∀ {l : List Nat}, subB ss l = true → ∀ s ∈ l, s ∈ ss
  | [], _, s, hs => by simp at hs
  | x :: r, h, s, hs => by
    simp only [subB, Bool.and_eq_true] at h
    rcases List.mem_cons.1 hs with rfl | hs
    · exact has_mem.1 h.1
    · exact subB_mem h.2 s hs

/-- what is kept: sites of boxes stand for what they stood for -/
structure Le (G G' : Gh) : Prop where
  ρ : ∀ s x, G.ρ s = some x → G'.ρ s = some x
theorem Le.refl (G : Gh) : Le G G := ⟨fun _ _ h => h⟩
theorem Le.trans {A B C : Gh} (h : Le A B) (k : Le B C) : Le A C := ⟨fun s x hx => k.ρ s x (h.ρ s x hx)⟩
theorem Gh.le.Le {G G' : Gh} (h : Gh.le G G') : Le G G' := ⟨h.ρ⟩

/-- one operation of a sequence -/
theorem step_wp (h : Rel N X w0 μ0 G Cn T M a w) {Φ : Tab} {run : Run} (hrun : RunOk P run) (hΦ : TabOk P Φ) {ops : Array Oper} {i : Nat} {o : Oper} {io : Io} {K : Act → World → Prop} (ho : ops[i]? = some o) (ok : okIo P N ops o io = true)
    {r : List Io} {T2 : List (Nat × D)} {M2 : List (Nat × Ob)} {Cn2 : List Nat} (hl : lsteps Φ run (io :: r) T M Cn = some (T2, M2, Cn2)) (hap : apartB (siteL (io :: r)) = true) (hf : ∀ s ∈ siteL (io :: r), G.τ s = none)
    (hK : ∀ T1 M1 Cn1 a1 w1 G1, lsteps Φ run r T1 M1 Cn1 = some (T2, M2, Cn2) → Rel N X w0 μ0 G1 Cn1 T1 M1 a1 w1 → Le G G1 → (∀ s ∈ siteL r, G1.τ s = none) → K a1 w1) : wpOpIn (FF ro) n P ops Q i K a w := by
  simp only [lsteps, Option.bind_eq_some_iff] at hl
  obtain ⟨b, hw, hl⟩ := hl
  have ok0 := ok
  simp only [okIo, Bool.and_eq_true] at ok
  obtain ⟨hd, hdN⟩ := okDst_inv ok.1.2
  simp only [siteL] at hap hf
  obtain ⟨_, _, hdis⟩ := apartB_append hap
  cases b with
  | true =>
    simp only [Option.bind_eq_some_iff] at hl
    obtain ⟨⟨d, M1, Cn1⟩, hop, hl⟩ := hl
    refine io_wp h ho ok0 hw (fun _ => ?_) (fun h => by cases h)
    refine lop_wp h hrun hΦ ok.1.1 hop (fun s hs => hf s (List.mem_append_left _ hs)) fun v w' G' h1 h2 h3 h4 => ?_
    rw [hd]
    exact hK _ _ _ _ _ G' hl (h4.put io.dst hdN h3) h1.Le fun s hs => (h2 s fun hs' => hdis s hs' hs).trans (hf s (List.mem_append_right _ hs))
  | false =>
    refine io_wp h ho ok0 hw (fun h => by cases h) (fun _ => ?_)
    rw [hd]
    exact hK _ _ _ _ _ G hl (h.put io.dst hdN (.undef _)) (Le.refl _) fun s hs => hf s (List.mem_append_right _ hs)

theorem lsteps_wp {Φ : Tab} {run : Run} (hrun : RunOk P run) (hΦ : TabOk P Φ) {ops : Array Oper} {T2 : List (Nat × D)} {M2 : List (Nat × Ob)} {Cn2 : List Nat} {G0 : Gh} :
    ∀ (ios : List Io) (k : Nat) (T : List (Nat × D)) (M : List (Nat × Ob)) (Cn : List Nat) (a : Act) (w : World) (G : Gh), (∀ (j : Nat) (io : Io), ios[j]? = some io → ∃ o, ops[k + j]? = some o ∧ okIo P N ops o io = true) →
    Rel N X w0 μ0 G Cn T M a w → Le G0 G → lsteps Φ run ios T M Cn = some (T2, M2, Cn2) → apartB (siteL ios) = true → (∀ s ∈ siteL ios, G.τ s = none) →
    (∀ a' w' G', Rel N X w0 μ0 G' Cn2 T2 M2 a' w' → Le G0 G' → Q .normal a' w') → wpOpsIn (FF ro) n P ops Q (List.range' k ios.length) a w
  | [], k, T, M, Cn, a, w, G, _, h, hG, hl, _, _, hQ => by
    simp [lsteps] at hl; obtain ⟨rfl, rfl, rfl⟩ := hl
    exact hQ a w G h hG
  | io :: r, k, T, M, Cn, a, w, G, hok, h, hG, hl, hap, hf, hQ => by
    obtain ⟨o, ho, hio⟩ := hok 0 io rfl
    rw [List.length_cons, List.range'_succ, wpOpsIn_cons]
    refine step_wp h hrun hΦ (by simpa using ho) hio hl hap hf fun T1 M1 Cn1 a1 w1 G1 hl1 h1 hG1 hf1 => ?_
    simp only [siteL] at hap
    refine lsteps_wp hrun hΦ r (k + 1) T1 M1 Cn1 a1 w1 G1 (fun j io' hj => ?_) h1 (hG.trans hG1) hl1 (apartB_append hap).2.1 hf1 hQ
    obtain ⟨o', ho', hio'⟩ := hok (j + 1) io' (by simpa using hj)
    exact ⟨o', by rw [show k + 1 + j = k + (j + 1) by omega]; exact ho', hio'⟩

/-! ### a region's beginning and end -/
theorem Rel.start (h : Rel N X w0 μ0 G [] T M a w) (defs : List Nat) : ∃ G', Rel N X w0 μ0 G' [] (pT defs T) (pM defs M) a w ∧ Le G G' ∧ ∀ s ∈ defs, G'.τ s = none := by
  cases defs with
  | nil => exact ⟨G, h, Le.refl _, fun s hs => by simp at hs⟩
  | cons s r => exact ⟨_, h.pgτ (s :: r) (by simp), ⟨fun _ _ h => h⟩, fun t ht => by simp [Gh.offτ, has_mem.2 ht]⟩
theorem Rel.used (h : Rel N X w0 μ0 G Cn T M a w) : ∃ G', Rel N X w0 μ0 G' [] (pT Cn T) (pM Cn M) a w ∧ Le G G' := by
  cases Cn with
  | nil => exact ⟨G, h, Le.refl _⟩
  | cons s r => exact ⟨_, h.pgτ (s :: r) (fun _ h => h), ⟨fun _ _ h => h⟩⟩
theorem Rel.kills (h : Rel N X w0 μ0 G Cn T M a w) (ks : List Nat) : Rel N X w0 μ0 G Cn (rmk T ks) M a w := by
  cases ks with
  | nil => exact h
  | cons s r => exact h.rmT (s :: r)

/-- no site of a caller's box -/
def lowB : List Nat → Bool
  | [] => true
  | s :: r => Nat.blt s 1000 && lowB r
theorem lowB_mem : ∀ {l : List Nat}, lowB l = true → ∀ s ∈ l, s < 1000
  | [], _, s, hs => by simp at hs
  | x :: r, h, s, hs => by
    simp only [lowB, Bool.and_eq_true] at h
    rcases List.mem_cons.1 hs with rfl | hs
    · simpa using h.1
    · exact lowB_mem h.2 s hs
/-- what is kept of the boxes that are borrowed -/
def Low (G G' : Gh) : Prop := ∀ s x, 1000 ≤ s → G.ρ s = some x → G'.ρ s = some x
theorem Low.refl (G : Gh) : Low G G := fun _ _ _ h => h
theorem Low.trans {A B C : Gh} (h : Low A B) (k : Low B C) : Low A C := fun s x hs hx => k s x hs (h s x hs hx)
theorem Le.low {G G' : Gh} (h : Le G G') : Low G G' := fun s x _ hx => h.ρ s x hx
theorem Rel.boxes (h : Rel N X w0 μ0 G [] T M a w) (bs : List Nat) (hlow : lowB bs = true) : ∃ G', Rel N X w0 μ0 G' [] (pT bs T) (pM bs (rmk M bs)) a w ∧ Low G G' := by
  cases bs with
  | nil => exact ⟨G, h, Low.refl _⟩
  | cons s r =>
    refine ⟨_, h.pgρ (s :: r), fun t x ht hx => ?_⟩
    have : has (s :: r) t = false := has_not.2 fun hm => by have := lowB_mem hlow t hm; omega
    simp only [Gh.off, this]; exact hx

/-- what is asked of a region that draws no order -/
def regB (P : Program) (N : Nat) (ops : Array Oper) (ios : List Io) (defs boxes : List Nat) : Bool :=
  okIos P N ops ops.toList ios && apartB (siteL ios) && subB defs (siteL ios) && lowB boxes

theorem reg_wp (h : Rel N X w0 μ0 G [] T M a w) {Φ : Tab} {run : Run} (hrun : RunOk P run) (hΦ : TabOk P Φ) {ops : Array Oper} {ios : List Io} {defs kills boxes : List Nat} {id : Nat} (hB : regB P N ops ios defs boxes = true)
    (he : evReg Φ run ios none defs kills boxes T M = some (T', M')) (hQ : ∀ a' w' G', Rel N X w0 μ0 G' [] T' M' a' w' → Low G G' → Q .normal a' w') : (Code.region id ops false).wpIn (FF ro) n P Q a w := by
  simp only [regB, Bool.and_eq_true] at hB
  obtain ⟨⟨⟨h1, h2⟩, h3⟩, h4⟩ := hB
  simp only [evReg, Option.bind_eq_some_iff] at he
  obtain ⟨⟨T1, M1, Cn1⟩, hl, he⟩ := he
  simp at he; obtain ⟨rfl, rfl⟩ := he
  obtain ⟨G1, hs, hG1, hf⟩ := h.start defs
  obtain ⟨hlen, hget⟩ := okIos_get h1
  refine wpIn_region ?_
  have hsz : ops.size = ios.length := by rw [← hlen]; simp
  rw [hsz, List.range_eq_range']
  refine lsteps_wp hrun hΦ (G0 := G) ios 0 _ _ _ a w G1 (fun j io hj => ?_) hs hG1 hl h2 (fun s hs' => hf s (subB_mem h3 s hs')) fun a' w' G2 h5 hG2 => ?_
  · obtain ⟨o, ho, hio⟩ := hget j io hj
    exact ⟨o, by simpa using ho, hio⟩
  · obtain ⟨G3, h6, hG3⟩ := h5.used
    obtain ⟨G4, h7, hG4⟩ := (h6.kills kills).boxes boxes h4
    exact hQ a' w' G4 h7 ((hG2.trans hG3).low.trans hG4)
end
end Go.YtnpoikgkhhpdgaaDoorE

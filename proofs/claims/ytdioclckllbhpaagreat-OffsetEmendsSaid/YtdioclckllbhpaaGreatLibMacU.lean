/- A part of the logic and of the contracts of the functions that the statement reaches; the statement itself is proved in the last text. -/
import Derived.Test.YtdioclckllbhpaaGreatLibMacR

set_option linter.all false
set_option linter.unusedVariables false
set_option linter.unusedSimpArgs false
set_option linter.unnecessarySimpa false
namespace Go.Mac
open Go Go.Conc
def locBlock : Loc → Option Nat
  | .cell a => some a.block
  | .obj r => some r
  | _ => none
def KnowsW (t : Trace) (g b : Nat) : Prop := ∀ i a, touchAt t i = some a → locBlock a.loc = some b → a.write = true → Knows t g i
def KnowsB (t : Trace) (g b : Nat) : Prop := ∀ i a, touchAt t i = some a → locBlock a.loc = some b → Knows t g i
theorem KnowsB.w {t : Trace} {g b : Nat} (h : KnowsB t g b) : KnowsW t g b := fun i a ha hb _ => h i a ha hb
structure Tame (t : Trace) (n : Nat) : Prop where
  low : ∀ i a, touchAt t i = some a → ∃ b, locBlock a.loc = some b ∧ b < n
  plain : ∀ i a, touchAt t i = some a → a.kind = .plain
  words : Wordless t
def Fits2 (j : Nat) (c : Cx) (n0 n1 : Nat) (u : Trace) : Prop :=
  ∀ op ∈ u, op.g = j ∧ ((∀ a, op.act.touch? = some a → a.kind = .plain ∧ ∃ b, locBlock a.loc = some b ∧ b < n1 ∧ (c.mine b ∨ n0 ≤ b ∨ (a.write = false ∧ (c.imm b).isSome = true))) ∧ ∀ m, op.act = .mark m → Neutral m)
theorem touch_app {t u : Trace} {i : Nat} {a : Touch} (h : touchAt (t ++ u) i = some a) : (i < t.size ∧ touchAt t i = some a) ∨ ∃ op ∈ u, (t ++ u)[i]? = some op ∧ op.act.touch? = some a := by
  obtain ⟨op, ho, hoa⟩ := touch_of h
  rcases getElem?_append_cases ho with ⟨hi, ho'⟩ | ⟨_, hu⟩
  · exact .inl ⟨hi, by rw [touchAt_of ho']; exact hoa⟩
  · exact .inr ⟨op, hu, ho, hoa⟩
theorem KnowsB.app {t u : Trace} {g b : Nat} (h : KnowsB t g b) (hu : ∀ op ∈ u, ∀ a, op.act.touch? = some a → locBlock a.loc = some b → op.g = g) : KnowsB (t ++ u) g b := by
  intro i a ha hb
  rcases touch_app ha with ⟨hi, h'⟩ | ⟨op, hop, ho, hoa⟩
  · exact (h i a h' hb).app u
  · have := knows_own ho
    rwa [hu op hop a hoa hb] at this
theorem KnowsW.app {t u : Trace} {g b : Nat} (h : KnowsW t g b) (hu : ∀ op ∈ u, ∀ a, op.act.touch? = some a → locBlock a.loc = some b → a.write = true → op.g = g) : KnowsW (t ++ u) g b := by
  intro i a ha hb hw
  rcases touch_app ha with ⟨hi, h'⟩ | ⟨op, hop, ho, hoa⟩
  · exact (h i a h' hb hw).app u
  · have := knows_own ho
    rwa [hu op hop a hoa hb hw] at this
theorem KnowsB.fresh {t : Trace} {n b g : Nat} (h : Tame t n) (hb : n ≤ b) : KnowsB t g b := by
  intro i a ha hl
  obtain ⟨b', h1, h2⟩ := h.low i a ha
  rw [hl] at h1
  cases h1
  omega
theorem noRace_own {t u : Trace} {j : Nat} {c : Cx} {n0 n1 : Nat} (h : ∀ said, ¬ Race said t) (ht : Tame t n0) (hm : ∀ b, c.mine b → KnowsB t j b) (hi : ∀ b, (c.imm b).isSome = true → KnowsW t j b) (hu : Fits2 j c n0 n1 u) (said : Bool) : ¬ Race said (t ++ u) := by
  refine noRace_append (g := j) (h said) (fun op hop => (hu op hop).1) ?_
  intro i a ha op hop b hb hc
  obtain ⟨hbp, bl, h1, h2, h3⟩ := (hu op hop).2.1 b hb
  have hla : locBlock a.loc = some bl := by rw [hc.1]; exact h1
  rcases h3 with h3 | h3 | ⟨h3, h4⟩
  · exact hm bl h3 i a ha hla
  · exact KnowsB.fresh ht h3 i a ha hla
  · refine hi bl h4 i a ha hla ?_
    rcases hc.2.2.1 with hw | hw
    · exact hw
    · rw [h3] at hw; cases hw
theorem Tame.own {t u : Trace} {j : Nat} {c : Cx} {n0 n1 : Nat} (ht : Tame t n0) (hn : n0 ≤ n1) (hu : Fits2 j c n0 n1 u) : Tame (t ++ u) n1 where
  low i a ha := by
    rcases touch_app ha with ⟨hi, h'⟩ | ⟨op, hop, ho, hoa⟩
    · obtain ⟨b, h1, h2⟩ := ht.low i a h'; exact ⟨b, h1, by omega⟩
    · obtain ⟨_, b, h1, h2, _⟩ := (hu op hop).2.1 a hoa; exact ⟨b, h1, h2⟩
  plain i a ha := by
    rcases touch_app ha with ⟨hi, h'⟩ | ⟨op, hop, ho, hoa⟩
    · exact ht.plain i a h'
    · exact ((hu op hop).2.1 a hoa).1
  words := ht.words.append fun op hop => (hu op hop).2.2
theorem fits_of {c : Cx} {j n0 n1 : Nat} {fn : FuncId} {pos : String} {es : Array Event} (h : ∀ e ∈ es, EvOk c n0 n1 e) : Fits2 j c n0 n1 (MemOp.ofEvents j fn pos es) := by
  intro op hop
  unfold MemOp.ofEvents at hop
  split at hop
  · simp at hop
  · obtain ⟨e, he, rfl⟩ := Array.mem_map.1 hop
    have hk := h e he
    refine ⟨rfl, ?_, ?_⟩
    · intro a ha
      obtain ⟨loc, wr, sy⟩ := e
      unfold EvOk at hk
      cases loc with
      | cell ad =>
        obtain ⟨hs, hlt, hm⟩ := hk
        simp only at hs
        subst hs
        simp only [MemAct.ofEvent, MemAct.touch?, Option.some.injEq] at ha
        subst ha
        exact ⟨rfl, ad.block, rfl, hlt, hm⟩
      | obj r =>
        obtain ⟨hs, hlt, hm⟩ := hk
        simp only at hs
        subst hs
        simp only [MemAct.ofEvent, MemAct.touch?, Option.some.injEq] at ha
        subst ha
        exact ⟨rfl, r, rfl, hlt, hm⟩
      | mark m =>
        have : m = .noRoom := hk
        subst this
        simp [MemAct.ofEvent, MemAct.touch?] at ha
      | _ => exact hk.elim
    · intro m hm
      obtain ⟨loc, wr, sy⟩ := e
      unfold EvOk at hk
      cases loc with
      | cell ad =>
        obtain ⟨hs, _⟩ := hk
        simp only at hs
        subst hs
        simp [MemAct.ofEvent] at hm
      | obj r =>
        obtain ⟨hs, _⟩ := hk
        simp only at hs
        subst hs
        simp [MemAct.ofEvent] at hm
      | mark m' =>
        have h' : m' = .noRoom := hk
        subst h'
        simp only [MemAct.ofEvent, MemAct.mark.injEq] at hm
        exact hm.symm
      | _ => exact hk.elim
theorem knows_edge {t u : Trace} {a b i p q : Nat} {x y : MemOp} (hw : Wordless (t ++ u)) (hk : Knows t a i) (hp : t.size ≤ p) (hx : (t ++ u)[p]? = some x) (hxa : x.g = a) (hy : (t ++ u)[q]? = some y) (hyb : y.g = b) (hn : Notices (t ++ u) p q) : Knows (t ++ u) b i :=
  ⟨q, y, hy, hyb, .inr ((hk.hb_new hp hx hxa).trans (.single (.inr ⟨hn, hw.heard hx, hw.heard hy⟩)))⟩
def Mute (u : Trace) : Prop := ∀ op ∈ u, op.act.touch? = none ∧ ∀ m, op.act = .mark m → Neutral m
theorem Tame.mute {t u : Trace} {n0 n1 : Nat} (ht : Tame t n0) (hn : n0 ≤ n1) (hu : Mute u) : Tame (t ++ u) n1 where
  low i a ha := by
    rcases touch_app ha with ⟨hi, h'⟩ | ⟨op, hop, ho, hoa⟩
    · obtain ⟨b, h1, h2⟩ := ht.low i a h'; exact ⟨b, h1, by omega⟩
    · rw [(hu op hop).1] at hoa; cases hoa
  plain i a ha := by
    rcases touch_app ha with ⟨hi, h'⟩ | ⟨op, hop, ho, hoa⟩
    · exact ht.plain i a h'
    · rw [(hu op hop).1] at hoa; cases hoa
  words := ht.words.append fun op hop => (hu op hop).2
theorem noRace_mute {t u : Trace} (h : ∀ said, ¬ Race said t) (hu : Mute u) (said : Bool) : ¬ Race said (t ++ u) := by
  rintro ⟨i, j, hij, ⟨a, b, ha, hb, hc⟩, n1, n2⟩
  rcases touch_app (t := t) (u := u) (i := i) ha with ⟨hi, ha'⟩ | ⟨op, hop, _, hoa⟩
  · rcases touch_app (t := t) (u := u) (i := j) hb with ⟨hj, hb'⟩ | ⟨op, hop, _, hoa⟩
    · exact h said ⟨i, j, hij, ⟨a, b, ha', hb', hc⟩, fun e => n1 (hb_app u e), fun e => n2 (hb_app u e)⟩
    · rw [(hu op hop).1] at hoa; cases hoa
  · rw [(hu op hop).1] at hoa; cases hoa
theorem KnowsB.mute {t u : Trace} {g b : Nat} (h : KnowsB t g b) (hu : Mute u) : KnowsB (t ++ u) g b :=
  h.app fun op hop a ha => by rw [(hu op hop).1] at ha; cases ha
theorem KnowsW.mute {t u : Trace} {g b : Nat} (h : KnowsW t g b) (hu : Mute u) : KnowsW (t ++ u) g b :=
  h.app fun op hop a ha => by rw [(hu op hop).1] at ha; cases ha
theorem KnowsW.edge {t u : Trace} {a b bl p q : Nat} {x y : MemOp} (hw : Wordless (t ++ u)) (hu : Mute u) (hk : KnowsW t a bl) (hp : t.size ≤ p) (hx : (t ++ u)[p]? = some x) (hxa : x.g = a) (hy : (t ++ u)[q]? = some y) (hyb : y.g = b) (hn : Notices (t ++ u) p q) : KnowsW (t ++ u) b bl := by
  intro i a' ha hb hwr
  rcases touch_app ha with ⟨hi, h'⟩ | ⟨op, hop, ho, hoa⟩
  · exact knows_edge hw (hk i a' h' hb hwr) hp hx hxa hy hyb hn
  · rw [(hu op hop).1] at hoa; cases hoa
theorem getElem?_app_at {t u : Trace} (k : Nat) : (t ++ u)[t.size + k]? = u[k]? := by
  rw [Array.getElem?_append_right (by omega)]
  congr 1
  omega
def goOps (j : Nat) (fn fn' : FuncId) (pos : String) : Trace := #[{ g := 0, fn := fn, pos := pos, act := .go j }, { g := j, fn := fn', pos := pos, act := .start }]
theorem mute_go (j : Nat) (fn fn' : FuncId) (pos : String) : Mute (goOps j fn fn' pos) := by
  intro op hop
  simp only [goOps, List.mem_toArray, List.mem_cons, List.not_mem_nil, or_false] at hop
  rcases hop with rfl | rfl <;> exact ⟨rfl, fun m hm => by cases hm⟩
theorem spawn_knows {t : Trace} {j bl : Nat} {fn fn' : FuncId} {pos : String} (hw : Wordless t) (hk : KnowsW t 0 bl) : KnowsW (t ++ goOps j fn fn' pos) j bl :=
  KnowsW.edge (hw.append fun op hop => (mute_go j fn fn' pos op hop).2) (mute_go _ _ _ _) hk (Nat.le_refl t.size) (p := t.size) (q := t.size + 1)
    (x := { g := 0, fn := fn, pos := pos, act := .go j }) (y := { g := j, fn := fn', pos := pos, act := .start })
    (by have := getElem?_app_at (t := t) (u := goOps j fn fn' pos) 0; simpa [goOps] using this) rfl (by rw [getElem?_app_at]; rfl) rfl
    (.spawn (child := j) (by simp only [Trace.act?]; have := getElem?_app_at (t := t) (u := goOps j fn fn' pos) 0; simp only [Nat.add_zero] at this; rw [this]; rfl)
      (by simp only [Trace.act?]; rw [getElem?_app_at]; rfl) (by simp only [Trace.g?]; rw [getElem?_app_at]; rfl))
def meetOps (j r k k' cap : Nat) (fj f0 : FuncId) (pj p0 : String) : Trace :=
  #[{ g := j, fn := fj, pos := pj, act := .send r k }, { g := 0, fn := f0, pos := p0, act := .recv r k' cap }, { g := j, fn := fj, pos := pj, act := .sendDone r k }, { g := 0, fn := f0, pos := p0, act := .recvDone r k' }]
theorem mute_meet (j r k k' cap : Nat) (fj f0 : FuncId) (pj p0 : String) : Mute (meetOps j r k k' cap fj f0 pj p0) := by
  intro op hop
  simp only [meetOps, List.mem_toArray, List.mem_cons, List.not_mem_nil, or_false] at hop
  rcases hop with rfl | rfl | rfl | rfl <;> exact ⟨rfl, fun m hm => by cases hm⟩
theorem meet_knows {t : Trace} {j r k cap i : Nat} {fj f0 : FuncId} {pj p0 : String} (hw : Wordless t) (hk : Knows t j i) : Knows (t ++ meetOps j r k k cap fj f0 pj p0) 0 i :=
  knows_edge (hw.append fun op hop => (mute_meet j r k k cap fj f0 pj p0 op hop).2) hk (Nat.le_refl t.size) (p := t.size) (q := t.size + 3)
    (x := { g := j, fn := fj, pos := pj, act := .send r k }) (y := { g := 0, fn := f0, pos := p0, act := .recvDone r k })
    (by have := getElem?_app_at (t := t) (u := meetOps j r k k cap fj f0 pj p0) 0; simpa [meetOps] using this) rfl (by rw [getElem?_app_at]; rfl) rfl
    (.handOver (c := r) (k := k) (by simp only [Trace.act?]; have := getElem?_app_at (t := t) (u := meetOps j r k k cap fj f0 pj p0) 0; simp only [Nat.add_zero] at this; rw [this]; rfl)
      (by simp only [Trace.act?]; rw [getElem?_app_at]; rfl))
end Go.Mac

/- A part of the logic and of the contracts of the functions that the statement reaches; the statement itself is proved in the last text. -/
import Derived.Test.YtdioclckllbhpaaGreatLibMacC
import Derived.Test.YtdioclckllbhpaaGreatLibMacV

set_option linter.all false
set_option linter.unusedVariables false
set_option linter.unusedSimpArgs false
set_option linter.unnecessarySimpa false
namespace Go.Mac
open Go Go.Conc
def Runs (P : Program) (Post : Value → World → Prop) (m : Machine) (t : Trace) : Prop :=
  ∃ M last o w' t', runNT P (M + 1) m t = (.ended o w', t') ∧ runN P M m = .next last ∧ step P last = .ended o w' ∧ Conc.Good P Post last o w' t'
theorem Runs.more {P : Program} {Post : Value → World → Prop} {m m' : Machine} {t : Trace} {ops : Array MemOp} (h : stepT P m = (.next m', ops)) (hr : Runs P Post m' (t ++ ops)) : Runs P Post m t := by
  obtain ⟨M, last, o, w', t', h1, h2, h3, h4⟩ := hr
  refine ⟨M + 1, last, o, w', t', ?_, ?_, h3, h4⟩
  · show (match stepT P m with
      | (.next m, ops) => runNT P (M + 1) m (t ++ ops)
      | (e, ops) => (e, t ++ ops)) = _
    rw [h]
    exact h1
  · show (match Go.step P m with
      | .next m => runN P M m
      | e => e) = _
    have : Go.step P m = .next m' := by simp [Go.step, h]
    rw [this]
    exact h2
theorem Runs.last {P : Program} {Post : Value → World → Prop} {m : Machine} {t : Trace} {ops : Array MemOp} {o : Outcome} {w' : World} (h : stepT P m = (.ended o w', ops)) (hg : Conc.Good P Post m o w' (t ++ ops)) : Runs P Post m t := by
  refine ⟨0, m, o, w', t ++ ops, ?_, rfl, by simp [Go.step, h], hg⟩
  show (match stepT P m with
      | (.next m, ops) => runNT P 0 m (t ++ ops)
      | (e, ops) => (e, t ++ ops)) = _
  rw [h]
def Act {P : Program} (s : WS P) (x : Goroutine) : Prop :=
  match s with
  | ⟨_, g, _, _, false⟩ => x = g
  | ⟨_, _, _, .send (g' := g') (r := r) (v := v) (z := z) _ _ _ _ _ _ _ _ _ _ _ _, true⟩ => x = parked g' #[⟨.chan (some r), some v, z⟩] .send
  | _ => False
structure Apart (a b : Cx) : Prop where
  mine : ∀ x, a.mine x → ¬ b.mine x
  imm : ∀ x, a.mine x → b.imm x = none
  imm' : ∀ x, b.mine x → a.imm x = none
theorem Apart.symm {a b : Cx} (h : Apart a b) : Apart b a := ⟨fun x h1 h2 => h.mine x h2 h1, h.imm', h.imm⟩
structure MI (P : Program) (gs : Array Goroutine) (w : World) (t : Trace) (c0 : Cx) (w0 : World) (ws : List (WS P)) : Prop where
  size : gs.size = ws.length + 1
  act : ∀ (i : Nat) (s : WS P), ws[i]? = some s → ∃ g, gs[i + 1]? = some g ∧ Act s g
  rel0 : RL c0 w0 w
  rel : ∀ s ∈ ws, RL s.c s.w w
  apart0 : ∀ s ∈ ws, Apart c0 s.c
  apart : ∀ (i j : Nat) (s s' : WS P), i ≠ j → ws[i]? = some s → ws[j]? = some s' → Apart s.c s'.c
  low0 : ∀ b, c0.mine b ∨ (c0.imm b).isSome = true → b < w.heap.size
  low : ∀ s ∈ ws, ∀ b, s.c.mine b ∨ (s.c.imm b).isSome = true → b < w.heap.size
  chans : ∀ r, (c0.com.chans r ∨ ∃ s ∈ ws, s.c.com.chans r) → OpenChan w r ∧ (¬ c0.mine r ∧ c0.imm r = none) ∧ ∀ s ∈ ws, ¬ s.c.mine r ∧ s.c.imm r = none
  todo : c0.com.todo.Perm ((ws.map fun s => s.c.com.out).filter fun o => !o.isEmpty)
  know0 : (∀ b, c0.mine b → KnowsB t 0 b) ∧ ∀ b, (c0.imm b).isSome = true → KnowsW t 0 b
  know : ∀ (i : Nat) (s : WS P), ws[i]? = some s → (∀ b, s.c.mine b → KnowsB t (i + 1) b) ∧ ∀ b, (s.c.imm b).isSome = true → KnowsW t (i + 1) b
  tame : Tame t w.heap.size
  race : ∀ said, ¬ Race said t
  hand : ∀ (i : Nat) (op : MemOp) (a : Touch), t[i]? = some op → op.act.touch? = some a → op.g = 0 ∨ Knows t 0 i ∨ ∃ (k : Nat) (s : WS P), op.g = k + 1 ∧ ws[k]? = some s ∧ s.c.com.out ≠ []
theorem MI.ghost0 {P : Program} {gs : Array Goroutine} {w : World} {t : Trace} {c0 c0' : Cx} {w0 : World} {ws : List (WS P)} (h : MI P gs w t c0 w0 ws) (g : Gh c0 c0') : MI P gs w t c0' w0 ws where
  size := h.size
  act := h.act
  rel0 := g.rely h.rel0
  rel := h.rel
  apart0 s hs := by
    obtain ⟨a, b, d⟩ := h.apart0 s hs
    refine ⟨fun x hx => a x (g.mine x hx), fun x hx => b x (g.mine x hx), fun x hx => ?_⟩
    cases hi : c0'.imm x with
    | none => rfl
    | some o =>
      rcases g.imm x o hi with h1 | h1
      · rw [d x hx] at h1; cases h1
      · exact absurd hx (a x h1)
  apart := h.apart
  low0 b hb := by
    rcases hb with hb | hb
    · exact h.low0 b (.inl (g.mine b hb))
    · obtain ⟨o, ho⟩ := Option.isSome_iff_exists.1 hb
      rcases g.imm b o ho with h1 | h1
      · exact h.low0 b (.inr (by rw [h1]; rfl))
      · exact h.low0 b (.inl h1)
  low := h.low
  chans r hr := by
    rw [g.com] at hr
    obtain ⟨a, ⟨b, b'⟩, d⟩ := h.chans r hr
    refine ⟨a, ⟨fun q => b (g.mine r q), ?_⟩, d⟩
    cases hi : c0'.imm r with
    | none => rfl
    | some o =>
      rcases g.imm r o hi with h1 | h1
      · rw [b'] at h1; cases h1
      · exact absurd h1 b
  todo := by rw [g.com]; exact h.todo
  know0 := ⟨fun b hb => h.know0.1 b (g.mine b hb), fun b hb => by
    obtain ⟨o, ho⟩ := Option.isSome_iff_exists.1 hb
    rcases g.imm b o ho with h1 | h1
    · exact h.know0.2 b (by rw [h1]; rfl)
    · exact (h.know0.1 b h1).w⟩
  know := h.know
  tame := h.tame
  race := h.race
  hand := h.hand
theorem rl_other {a a' b : Cx} {w w' : World} {es : Array Event} (g : Gd a a' w w' es) (h : Apart a b) (hl : ∀ x, b.mine x ∨ (b.imm x).isSome = true → x < w.heap.size) (hc : ∀ r, b.com.chans r → ¬ a.mine r ∧ r < w.heap.size) : RL b w w' where
  size := g.keeps.size
  mine x hx := g.keeps.keep x (hl x (.inl hx)) fun q => h.mine x q hx
  imm x hx := g.keeps.keep x (hl x (.inr hx)) fun q => by have := h.imm x q; rw [this] at hx; cases hx
  os := g.keeps.os
  output := g.keeps.output
  tape := g.keeps.tape
  chans r hr ho := by
    unfold OpenChan
    rw [g.keeps.keep r (hc r hr).2 (hc r hr).1]
    exact ho
theorem apart_step {a a' b : Cx} {w w' : World} {es : Array Event} (g : Gd a a' w w' es) (h : Apart a b) (hl : ∀ x, b.mine x ∨ (b.imm x).isSome = true → x < w.heap.size) : Apart a' b where
  mine x hx hb := by
    rcases g.mine x hx with h1 | h1
    · exact h.mine x h1 hb
    · have := hl x (.inl hb); omega
  imm x hx := by
    rcases g.mine x hx with h1 | h1
    · exact h.imm x h1
    · cases hi : b.imm x with
      | none => rfl
      | some o => have := hl x (.inr (by rw [hi]; rfl)); omega
  imm' x hx := by
    cases hi : a'.imm x with
    | none => rfl
    | some o =>
      rcases g.imm x o hi with h1 | h1 | h1
      · have := h.imm' x hx; rw [this] at h1; cases h1
      · exact absurd hx (h.mine x h1)
      · have := hl x (.inl hx); omega
theorem know_step {a a' : Cx} {w w' : World} {es : Array Event} {t : Trace} {j : Nat} {fn : FuncId} {pos : String} (g : Gd a a' w w' es) (ht : Tame t w.heap.size) (k1 : ∀ b, a.mine b → KnowsB t j b) (k2 : ∀ b, (a.imm b).isSome = true → KnowsW t j b) :
    (∀ b, a'.mine b → KnowsB (t ++ MemOp.ofEvents j fn pos es) j b) ∧ ∀ b, (a'.imm b).isSome = true → KnowsW (t ++ MemOp.ofEvents j fn pos es) j b := by
  have hf := fits_of (j := j) (fn := fn) (pos := pos) g.evs
  have own : ∀ op ∈ MemOp.ofEvents j fn pos es, op.g = j := fun op hop => (hf op hop).1
  refine ⟨fun b hb => ?_, fun b hb => ?_⟩
  · rcases g.mine b hb with h1 | h1
    · exact (k1 b h1).app fun op hop _ _ _ => own op hop
    · exact (KnowsB.fresh ht h1).app fun op hop _ _ _ => own op hop
  · obtain ⟨o, ho⟩ := Option.isSome_iff_exists.1 hb
    rcases g.imm b o ho with h1 | h1 | h1
    · exact (k2 b (by rw [h1]; rfl)).app fun op hop _ _ _ _ => own op hop
    · exact ((k1 b h1).app fun op hop _ _ _ => own op hop).w
    · exact ((KnowsB.fresh ht h1).app fun op hop _ _ _ => own op hop).w
theorem know_other {a a' b : Cx} {w w' : World} {es : Array Event} {t : Trace} {i j : Nat} {fn : FuncId} {pos : String} (g : Gd a a' w w' es) (h : Apart a b) (hl : ∀ x, b.mine x ∨ (b.imm x).isSome = true → x < w.heap.size) (k1 : ∀ x, b.mine x → KnowsB t i x) (k2 : ∀ x, (b.imm x).isSome = true → KnowsW t i x) :
    (∀ x, b.mine x → KnowsB (t ++ MemOp.ofEvents j fn pos es) i x) ∧ ∀ x, (b.imm x).isSome = true → KnowsW (t ++ MemOp.ofEvents j fn pos es) i x := by
  have hf := fits_of (j := j) (fn := fn) (pos := pos) g.evs
  refine ⟨fun x hx => (k1 x hx).app fun op hop d hd hb => ?_, fun x hx => (k2 x hx).app fun op hop d hd hb hw => ?_⟩
  · exfalso
    obtain ⟨_, y, h1, h2, h3⟩ := (hf op hop).2.1 d hd
    rw [hb] at h1
    cases h1
    rcases h3 with h3 | h3 | h3
    · exact h.mine x h3 hx
    · have := hl x (.inl hx); omega
    · have := h.imm' x hx; rw [this] at h3; cases h3.2
  · exfalso
    obtain ⟨_, y, h1, h2, h3⟩ := (hf op hop).2.1 d hd
    rw [hb] at h1
    cases h1
    rcases h3 with h3 | h3 | h3
    · have := h.imm x h3; rw [this] at hx; cases hx
    · have := hl x (.inr hx); omega
    · rw [h3.1] at hw; cases hw
theorem wt_status {P : Program} {c : Cx} {g : Goroutine} {w : World} (t : WT P c g w) : g.status = .running ∨ g.status = .finished := by
  induction t with
  | leave n h ho hm => exact h.status
  | step nx hne hs h1 h2 ih => exact .inl hs
  | ghost hg h ih => exact ih
  | send hs hs' h1 ho hr hc hm hi hch hout htodo h2 ih => exact .inl hs
theorem again_same {g : Goroutine} {w : World} (h : g.status = .running ∨ g.status = .finished) : g.again w = g := by
  unfold Goroutine.again
  rcases h with h | h <;> rw [h]
theorem act_woken {P : Program} {s : WS P} {x a a' : Goroutine} {w : World} (h : Act s x) (hc : ∀ r, s.c.com.chans r → OpenChan w r) : woken P a a' w x = x := by
  unfold woken
  split
  · obtain ⟨c, g, w0, t, p⟩ := s
    cases p with
    | false =>
      have : x = g := h
      subst this
      exact again_same (wt_status t)
    | true =>
      cases t with
      | send hs hs' h1 ho hr hcc hm hi hch hout htodo h2 =>
        have e : x = parked _ _ _ := h
        rw [e]
        obtain ⟨b, hb⟩ := hc _ hr
        exact again_send_open hb
      | _ => exact h.elim
  · rfl
theorem RL.next {c : Cx} {w w' : World} {es : Array Event} {c' : Cx} (_g : Gd c c' w w' es) : RL c' w' w' := RL.refl _ _
theorem MI.own0 {P : Program} {gs : Array Goroutine} {w w' : World} {t : Trace} {c0 c0' : Cx} {w0 : World} {ws : List (WS P)} {g g' : Goroutine} {es : Array Event} {fn : FuncId} {pos : String} (h : MI P gs w t c0 w0 ws) (gd : Gd c0 c0' w w' es) :
    MI P ((gs.map (woken P g g' w')).setIfInBounds 0 g') w' (t ++ MemOp.ofEvents 0 fn pos es) c0' w' ws := by
  have hcw : ∀ s ∈ ws, ∀ r, s.c.com.chans r → OpenChan w' r := fun s hs r hr => by
    obtain ⟨a, ⟨b, _⟩, _⟩ := h.chans r (.inr ⟨s, hs, hr⟩)
    unfold OpenChan
    rw [gd.keeps.keep r a.lt b]
    exact a
  have hrl : ∀ s ∈ ws, RL s.c w w' := fun s hs => rl_other gd (h.apart0 s hs) (h.low s hs) fun r hr => ⟨(h.chans r (.inr ⟨s, hs, hr⟩)).2.1.1, (h.chans r (.inr ⟨s, hs, hr⟩)).1.lt⟩
  have hf := fits_of (j := 0) (fn := fn) (pos := pos) gd.evs
  refine ⟨by simp [h.size], ?_, RL.refl _ _, fun s hs => (h.rel s hs).trans (hrl s hs), fun s hs => apart_step gd (h.apart0 s hs) (h.low s hs), h.apart, ?_, fun s hs b hb => Nat.lt_of_lt_of_le (h.low s hs b hb) gd.keeps.size, ?_, ?_, ?_, ?_, ?_, ?_, ?_⟩
  · intro i s hi
    obtain ⟨x, hx, ha⟩ := h.act i s hi
    refine ⟨x, ?_, ha⟩
    rw [Array.getElem?_setIfInBounds_ne (by omega), Array.getElem?_map, hx]
    simp only [Option.map_some, Option.some.injEq]
    exact act_woken ha (hcw s (List.mem_of_getElem? hi))
  · intro b hb
    rcases gd.low b hb with h1 | h1
    · exact Nat.lt_of_lt_of_le (h.low0 b h1) gd.keeps.size
    · exact h1
  · intro r hr
    have hr' : (c0.com.chans r ∨ ∃ s ∈ ws, s.c.com.chans r) ∨ (w.heap.size ≤ r ∧ OpenChan w' r ∧ ¬ c0'.mine r ∧ c0'.imm r = none) := by
      rcases hr with hr | hr
      · exact (gd.chans r hr).imp_left .inl
      · exact .inl (.inr hr)
    rcases hr' with h1 | ⟨h1, h2, h3, h4⟩
    · obtain ⟨a, ⟨b, b'⟩, d⟩ := h.chans r h1
      refine ⟨by unfold OpenChan; rw [gd.keeps.keep r a.lt b]; exact a, ⟨fun q => ?_, ?_⟩, d⟩
      · rcases gd.mine r q with q | q
        · exact b q
        · have := a.lt; omega
      · cases hi : c0'.imm r with
        | none => rfl
        | some o =>
          rcases gd.imm r o hi with q | q | q
          · rw [b'] at q; cases q
          · exact absurd q b
          · have := a.lt; omega
    · refine ⟨h2, ⟨h3, h4⟩, fun s hs => ⟨fun q => ?_, ?_⟩⟩
      · have := h.low s hs r (.inl q); omega
      · cases hi : s.c.imm r with
        | none => rfl
        | some o => have := h.low s hs r (.inr (by rw [hi]; rfl)); omega
  · rw [gd.todo]; exact h.todo
  · exact know_step gd h.tame h.know0.1 h.know0.2
  · exact fun i s hi => know_other gd (h.apart0 s (List.mem_of_getElem? hi)) (h.low s (List.mem_of_getElem? hi)) (h.know i s hi).1 (h.know i s hi).2
  · exact h.tame.own gd.keeps.size hf
  · exact noRace_own h.race h.tame h.know0.1 h.know0.2 hf
  · intro i op a hi ha
    rcases getElem?_append_cases hi with ⟨_, hi'⟩ | ⟨_, hu⟩
    · rcases h.hand i op a hi' ha with h1 | h1 | h1
      · exact .inl h1
      · exact .inr (.inl (h1.app _))
      · exact .inr (.inr h1)
    · exact .inl (hf op hu).1
theorem get_set {α : Type 1} {l : List α} {k i : Nat} {a x : α} (h : (l.set k a)[i]? = some x) : (i = k ∧ x = a) ∨ (i ≠ k ∧ l[i]? = some x) := by
  by_cases hik : k = i
  · subst hik
    have hlt : k < l.length := by have := (List.getElem?_eq_some_iff.1 h).1; simpa using this
    rw [List.getElem?_set_self hlt] at h
    cases h
    exact .inl ⟨rfl, rfl⟩
  · rw [List.getElem?_set_ne hik] at h
    exact .inr ⟨fun e => hik e.symm, h⟩
theorem mem_set' {α : Type 1} {l : List α} {k : Nat} {a x : α} (h : x ∈ l.set k a) : x = a ∨ ∃ i, i ≠ k ∧ l[i]? = some x := by
  obtain ⟨i, hi⟩ := List.mem_iff_getElem?.1 h
  rcases get_set hi with ⟨_, h1⟩ | ⟨h1, h2⟩
  · exact .inl h1
  · exact .inr ⟨i, h1, h2⟩
theorem outs_set {P : Program} {ws : List (WS P)} {k : Nat} {s s' : WS P} (hk : ws[k]? = some s) (ho : s'.c.com.out = s.c.com.out) : ((ws.set k s').map fun s => s.c.com.out) = ws.map fun s => s.c.com.out := by
  apply List.ext_getElem?
  intro i
  by_cases hik : k = i
  · subst hik
    have hlt := (List.getElem?_eq_some_iff.1 hk).1
    rw [List.getElem?_map, List.getElem?_map, List.getElem?_set_self hlt, hk]
    simp [ho]
  · simp [List.getElem?_set_ne hik]
theorem MI.ownW {P : Program} {gs : Array Goroutine} {w w' : World} {t : Trace} {c0 : Cx} {w0 : World} {ws : List (WS P)} {k : Nat} {s s' : WS P} {g g' : Goroutine} {es : Array Event} {fn : FuncId} {pos : String} (h : MI P gs w t c0 w0 ws) (hk : ws[k]? = some s)
    (gd : Gd s.c s'.c w w' es) (hw : s'.w = w') (ha : Act s' g') (hne : s.c.com.out ≠ [] ∨ es = #[]) :
    MI P ((gs.map (woken P g g' w')).setIfInBounds (k + 1) g') w' (t ++ MemOp.ofEvents (k + 1) fn pos es) c0 w0 (ws.set k s') := by
  have hmem := List.mem_of_getElem? hk
  have hlt : k < ws.length := (List.getElem?_eq_some_iff.1 hk).1
  have hopen : ∀ r, (c0.com.chans r ∨ ∃ s ∈ ws, s.c.com.chans r) → OpenChan w' r := fun r hr => by
    obtain ⟨a, _, d⟩ := h.chans r hr
    unfold OpenChan
    rw [gd.keeps.keep r a.lt (d s hmem).1]
    exact a
  have hap : ∀ (i : Nat) (x : WS P), i ≠ k → ws[i]? = some x → Apart s.c x.c := fun i x hi hx => h.apart k i s x (fun e => hi e.symm) hk hx
  have hchan : ∀ {b : Cx}, (∀ r, b.com.chans r → c0.com.chans r ∨ ∃ s ∈ ws, s.c.com.chans r) → ∀ r, b.com.chans r → ¬ s.c.mine r ∧ r < w.heap.size := fun hb r hr => ⟨((h.chans r (hb r hr)).2.2 s hmem).1, (h.chans r (hb r hr)).1.lt⟩
  have hf := fits_of (j := k + 1) (fn := fn) (pos := pos) gd.evs
  refine ⟨by simp [h.size], ?_, h.rel0.trans (rl_other gd (h.apart0 s hmem).symm h.low0 (hchan fun r hr => .inl hr)), ?_, ?_, ?_, fun b hb => Nat.lt_of_lt_of_le (h.low0 b hb) gd.keeps.size, ?_, ?_, ?_, ?_, ?_, ?_, ?_, ?_⟩
  · intro i x hi
    rcases get_set hi with ⟨rfl, rfl⟩ | ⟨hne, hi⟩
    · refine ⟨g', ?_, ha⟩
      rw [Array.getElem?_setIfInBounds_self_of_lt]
      simp [h.size, hlt]
    · obtain ⟨y, hy, hay⟩ := h.act i x hi
      refine ⟨y, ?_, hay⟩
      rw [Array.getElem?_setIfInBounds_ne (by omega), Array.getElem?_map, hy]
      simp only [Option.map_some, Option.some.injEq]
      exact act_woken hay fun r hr => hopen r (.inr ⟨x, List.mem_of_getElem? hi, hr⟩)
  · intro x hx
    rcases mem_set' hx with rfl | ⟨i, hi, hx⟩
    · rw [hw]; exact RL.refl _ _
    · exact (h.rel x (List.mem_of_getElem? hx)).trans (rl_other gd (hap i x hi hx) (h.low x (List.mem_of_getElem? hx)) (hchan fun r hr => .inr ⟨x, List.mem_of_getElem? hx, hr⟩))
  · intro x hx
    rcases mem_set' hx with rfl | ⟨i, hi, hx⟩
    · exact (apart_step gd (h.apart0 s hmem).symm h.low0).symm
    · exact h.apart0 x (List.mem_of_getElem? hx)
  · intro i j x y hij hx hy
    rcases get_set hx with ⟨e1, e2⟩ | ⟨hi, hx2⟩ <;> rcases get_set hy with ⟨e3, e4⟩ | ⟨hj, hy2⟩
    · omega
    · rw [e2]; exact apart_step gd (hap j y hj hy2) (h.low y (List.mem_of_getElem? hy2))
    · rw [e4]; exact (apart_step gd (hap i x hi hx2) (h.low x (List.mem_of_getElem? hx2))).symm
    · exact h.apart i j x y hij hx2 hy2
  · intro x hx b hb
    rcases mem_set' hx with rfl | ⟨i, hi, hx⟩
    · rcases gd.low b hb with h1 | h1
      · exact Nat.lt_of_lt_of_le (h.low s hmem b h1) gd.keeps.size
      · exact h1
    · exact Nat.lt_of_lt_of_le (h.low x (List.mem_of_getElem? hx) b hb) gd.keeps.size
  · intro r hr
    have hr' : (c0.com.chans r ∨ ∃ x ∈ ws, x.c.com.chans r) ∨ (w.heap.size ≤ r ∧ OpenChan w' r ∧ ¬ s'.c.mine r ∧ s'.c.imm r = none) := by
      rcases hr with hr | ⟨x, hx, hr⟩
      · exact .inl (.inl hr)
      · rcases mem_set' hx with rfl | ⟨i, hi, hx⟩
        · exact (gd.chans r hr).imp_left fun q => .inr ⟨s, hmem, q⟩
        · exact .inl (.inr ⟨x, List.mem_of_getElem? hx, hr⟩)
    rcases hr' with h1 | ⟨h1, h2, h3, h4⟩
    · obtain ⟨a, b, d⟩ := h.chans r h1
      refine ⟨hopen r h1, b, fun x hx => ?_⟩
      rcases mem_set' hx with rfl | ⟨i, hi, hx⟩
      · refine ⟨fun q => ?_, ?_⟩
        · rcases gd.mine r q with q | q
          · exact (d s hmem).1 q
          · have := a.lt; omega
        · cases hi : x.c.imm r with
          | none => rfl
          | some o =>
            rcases gd.imm r o hi with q | q | q
            · rw [(d s hmem).2] at q; cases q
            · exact absurd q (d s hmem).1
            · have := a.lt; omega
      · exact d x (List.mem_of_getElem? hx)
    · have old : ∀ b : Cx, (∀ y, b.mine y ∨ (b.imm y).isSome = true → y < w.heap.size) → ¬ b.mine r ∧ b.imm r = none := fun b hb => ⟨fun q => by have := hb r (.inl q); omega, by
        cases hi : b.imm r with
        | none => rfl
        | some o => have := hb r (.inr (by rw [hi]; rfl)); omega⟩
      refine ⟨h2, old c0 h.low0, fun x hx => ?_⟩
      rcases mem_set' hx with rfl | ⟨i, hi, hx⟩
      · exact ⟨h3, h4⟩
      · exact old x.c (h.low x (List.mem_of_getElem? hx))
  · rw [outs_set hk gd.out]; exact h.todo
  · exact know_other gd (h.apart0 s hmem).symm h.low0 h.know0.1 h.know0.2
  · intro i x hx
    rcases get_set hx with ⟨e1, e2⟩ | ⟨hi, hx2⟩
    · rw [e2, e1]; exact know_step gd h.tame (h.know k s hk).1 (h.know k s hk).2
    · exact know_other gd (hap i x hi hx2) (h.low x (List.mem_of_getElem? hx2)) (h.know i x hx2).1 (h.know i x hx2).2
  · exact h.tame.own gd.keeps.size hf
  · exact noRace_own h.race h.tame (h.know k s hk).1 (h.know k s hk).2 hf
  · intro i op a hi ha
    have keep : (∃ (m : Nat) (y : WS P), op.g = m + 1 ∧ ws[m]? = some y ∧ y.c.com.out ≠ []) → ∃ (m : Nat) (y : WS P), op.g = m + 1 ∧ (ws.set k s')[m]? = some y ∧ y.c.com.out ≠ [] := by
      rintro ⟨m, y, h1, h2, h3⟩
      by_cases hm : k = m
      · subst hm
        rw [hk] at h2
        cases h2
        exact ⟨k, s', h1, List.getElem?_set_self hlt, by rw [gd.out]; exact h3⟩
      · exact ⟨m, y, h1, by rw [List.getElem?_set_ne hm]; exact h2, h3⟩
    rcases getElem?_append_cases hi with ⟨_, hi'⟩ | ⟨_, hu⟩
    · rcases h.hand i op a hi' ha with h1 | h1 | h1
      · exact .inl h1
      · exact .inr (.inl (h1.app _))
      · exact .inr (.inr (keep h1))
    · rcases hne with hne | hne
      · exact .inr (.inr (keep ⟨k, s, (hf op hu).1, hk, hne⟩))
      · subst hne
        simp [MemOp.ofEvents] at hu
theorem MI.draw {P : Program} {gs : Array Goroutine} {w : World} {t : Trace} {c0 : Cx} {w0 : World} {ws : List (WS P)} (h : MI P gs w t c0 w0 ws) (d : Nat) : MI P gs (w.at d) t c0 w0 ws :=
  ⟨h.size, h.act, h.rel0.trans (RL.at _ _ _), fun s hs => (h.rel s hs).trans (RL.at _ _ _), h.apart0, h.apart, h.low0, h.low, h.chans, h.todo, h.know0, h.know, h.tame, h.race, h.hand⟩
end Go.Mac

/- A part of the logic and of the contracts of the functions that the statement reaches; the statement itself is proved in the last text. -/
import Derived.Laws.Sem
import Derived.Laws.World
import Derived.StepT
import GoSem.ClaimLeaving
import Derived.Conc.Script
import Derived.Test.YtdioclckllbhpaaGreatLibMacA

set_option linter.all false
set_option linter.unusedVariables false
set_option linter.unusedSimpArgs false
set_option linter.unnecessarySimpa false
namespace Go.Mac
open Go
def EvOk (c : Cx) (n0 n1 : Nat) (e : Event) : Prop :=
  match e.loc with
  | .cell a => e.sync = false ∧ a.block < n1 ∧ (c.mine a.block ∨ n0 ≤ a.block ∨ (e.write = false ∧ (c.imm a.block).isSome))
  | .obj r => e.sync = false ∧ r < n1 ∧ (c.mine r ∨ n0 ≤ r ∨ (e.write = false ∧ (c.imm r).isSome))
  | .mark m => m = .noRoom
  | _ => False
structure Keeps (c : Cx) (n0 : Nat) (w w' : World) : Prop where
  size : w.heap.size ≤ w'.heap.size
  keep : ∀ b, b < n0 → ¬ c.mine b → w'.heap[b]? = w.heap[b]?
  os : w'.os = w.os
  output : w'.output = w.output
  tape : w'.tape = w.tape
theorem Keeps.refl (c : Cx) (n0 : Nat) (w : World) : Keeps c n0 w w := ⟨Nat.le_refl _, fun _ _ _ => rfl, rfl, rfl, rfl⟩
theorem Keeps.trans {c : Cx} {n0 : Nat} {a b d : World} (h : Keeps c n0 a b) (h' : Keeps c n0 b d) : Keeps c n0 a d :=
  ⟨Nat.le_trans h.size h'.size, fun x hx hm => by rw [h'.keep x hx hm, h.keep x hx hm], h'.os.trans h.os, h'.output.trans h.output, h'.tape.trans h.tape⟩
def _root_.Go.Result.world {α : Type} : Result α → World
  | .ok _ w => w
  | .halt _ w => w
def noCells : Obj → Prop
  | .cells .. => False
  | _ => True
def Ok (P : Program) (c : Cx) (n0 : Nat) {α : Type} : Sem α → World → (Result α → Prop) → Prop
  | .pure a, w, Q => Q (.ok a w)
  | .load m a k, w, Q => m = .plain ∧ (c.mine a.block ∨ n0 ≤ a.block ∨ (c.imm a.block).isSome) ∧ ∃ v, w.cell? a = some v ∧ Ok P c n0 (k v) w Q
  | .store m a v k, w, Q => m = .plain ∧ (c.mine a.block ∨ n0 ≤ a.block) ∧ v.oneCell' = true ∧ (w.cell? a).isSome ∧ w.frozen? a = false ∧ Ok P c n0 k (w.setCell a v) Q
  | .new o k, w, Q => Ok P c n0 (k w.heap.size) (w.alloc o) Q
  | .shape r k, w, Q => Ok P c n0 (k (w.shape? r)) w Q
  | .freeze _ _ _, _, _ => False
  | .frozen a k, w, Q => Ok P c n0 (k (w.frozen? a)) w Q
  | .getObj r k, w, Q => (c.mine r ∨ n0 ≤ r ∨ (c.imm r).isSome) ∧ ∃ o, w.heap[r]? = some o ∧ noCells o ∧ o.isChan = false ∧ Ok P c n0 (k o) w Q
  | .setObj r o k, w, Q => (c.mine r ∨ n0 ≤ r) ∧ o.isChan = false ∧ (∃ o', w.heap[r]? = some o' ∧ noCells o') ∧ Ok P c n0 k { w with heap := w.heap.setIfInBounds r o } Q
  | .choose q k, w, Q => ∀ n, (q.forced = true → n = 0) → (q.forced = false → ∃ t, n = q.cut t) → ∀ d, Ok P c n0 (k n) { w with drawn := d } Q
  | .sys _ _, _, _ => False
  | .program k, w, Q => Ok P c n0 (k P) w Q
  | .mark m k, w, Q => m = .noRoom ∧ Ok P c n0 k w Q
  | .halt h, w, Q => Q (.halt h w)
theorem Ok.mono {P : Program} {c : Cx} {n0 : Nat} {α : Type} {s : Sem α} : ∀ {w : World} {Q Q' : Result α → Prop}, Ok P c n0 s w Q → (∀ r, Q r → Q' r) → Ok P c n0 s w Q' := by
  induction s with
  | pure a => intro w Q Q' h hq; exact hq _ h
  | load m a k ih => intro w Q Q' h hq; obtain ⟨h1, h2, v, h3, h4⟩ := h; exact ⟨h1, h2, v, h3, ih v h4 hq⟩
  | store m a v k ih => intro w Q Q' h hq; obtain ⟨h1, h2, h3, h4, h5, h6⟩ := h; exact ⟨h1, h2, h3, h4, h5, ih h6 hq⟩
  | new o k ih => intro w Q Q' h hq; exact ih _ h hq
  | shape r k ih => intro w Q Q' h hq; exact ih _ h hq
  | freeze => intro w Q Q' h; exact h.elim
  | frozen a k ih => intro w Q Q' h hq; exact ih _ h hq
  | getObj r k ih => intro w Q Q' h hq; obtain ⟨h1, o, h2, h3, h4, h5⟩ := h; exact ⟨h1, o, h2, h3, h4, ih _ h5 hq⟩
  | setObj r o k ih => intro w Q Q' h hq; obtain ⟨h1, h2, h3, h4⟩ := h; exact ⟨h1, h2, h3, ih h4 hq⟩
  | choose q k ih => intro w Q Q' h hq n h1 h2 d; exact ih _ (h n h1 h2 d) hq
  | sys => intro w Q Q' h; exact h.elim
  | program k ih => intro w Q Q' h hq; exact ih _ h hq
  | mark m k ih => intro w Q Q' h hq; exact ⟨h.1, ih h.2 hq⟩
  | halt h => intro w Q Q' h hq; exact hq _ h
def thenOk (P : Program) (c : Cx) (n0 : Nat) {α β : Type} (f : α → Sem β) (Q : Result β → Prop) : Result α → Prop
  | .ok a w => Ok P c n0 (f a) w Q
  | .halt h w => Q (.halt h w)
theorem Ok.bind {P : Program} {c : Cx} {n0 : Nat} {α β : Type} {s : Sem α} {f : α → Sem β} {Q : Result β → Prop} : ∀ {w : World}, Ok P c n0 s w (thenOk P c n0 f Q) → Ok P c n0 (s.bind f) w Q := by
  induction s with
  | pure a => intro w h; exact h
  | load m a k ih => intro w h; obtain ⟨h1, h2, v, h3, h4⟩ := h; exact ⟨h1, h2, v, h3, ih v h4⟩
  | store m a v k ih => intro w h; obtain ⟨h1, h2, h3, h4, h5, h6⟩ := h; exact ⟨h1, h2, h3, h4, h5, ih h6⟩
  | new o k ih => intro w h; exact ih _ h
  | shape r k ih => intro w h; exact ih _ h
  | freeze => intro w h; exact h.elim
  | frozen a k ih => intro w h; exact ih _ h
  | getObj r k ih => intro w h; obtain ⟨h1, o, h2, h3, h4, h5⟩ := h; exact ⟨h1, o, h2, h3, h4, ih _ h5⟩
  | setObj r o k ih => intro w h; obtain ⟨h1, h2, h3, h4⟩ := h; exact ⟨h1, h2, h3, ih h4⟩
  | choose q k ih => intro w h n h1 h2 d; exact ih _ (h n h1 h2 d)
  | sys => intro w h; exact h.elim
  | program k ih => intro w h; exact ih _ h
  | mark m k ih => intro w h; exact ⟨h.1, ih h.2⟩
  | halt h => intro w h; exact h
theorem Ok.bind' {P : Program} {c : Cx} {n0 : Nat} {α β : Type} {s : Sem α} {f : α → Sem β} {Q : Result β → Prop} {w : World} (h : Ok P c n0 s w (thenOk P c n0 f Q)) : Ok P c n0 (s >>= f) w Q := Ok.bind h
theorem getElem?_setIfInBounds_other {α : Type} (xs : Array α) (i j : Nat) (a : α) (h : i ≠ j) : (xs.setIfInBounds i a)[j]? = xs[j]? := by
  simp [h]
theorem heap_setCell_other (w : World) (a : Addr) (v : Value) (b : Nat) (h : a.block ≠ b) : (w.setCell a v).heap[b]? = w.heap[b]? := by
  simp [World.setCell, Array.getElem?_modify, h]
theorem cell_lt {w : World} {a : Addr} {v : Value} (h : w.cell? a = some v) : a.block < w.heap.size := by
  unfold World.cell? at h
  cases hb : w.heap[a.block]? with
  | none => rw [hb] at h; cases h
  | some o => exact (Array.getElem?_eq_some_iff.1 hb).1
theorem Ok.spec {P : Program} {c : Cx} {n0 : Nat} {α : Type} {s : Sem α} : ∀ {w : World} {Q : Result α → Prop} (es : Array Event), Ok P c n0 s w Q → n0 ≤ w.heap.size →
    Q (s.run P w) ∧ (∀ e ∈ s.events P w es, e ∈ es ∨ EvOk c n0 (s.run P w).world.heap.size e) ∧ Keeps c n0 w (s.run P w).world := by
  induction s with
  | pure a => intro w Q es h _; exact ⟨h, fun e he => .inl he, .refl _ _ _⟩
  | load m a k ih =>
    intro w Q es h hn
    obtain ⟨rfl, h2, v, h3, h4⟩ := h
    have e1 : (Sem.load .plain a k).run P w = (k v).run P w := by simp [Sem.run, h3]
    have e2 : (Sem.load .plain a k).events P w es = (k v).events P w (es.push ⟨.cell a, false, false⟩) := by
      simp only [Sem.events, Sem.runT, h3]; rfl
    rw [e1, e2]
    obtain ⟨q, ev, kp⟩ := ih v (es.push ⟨.cell a, false, false⟩) h4 hn
    refine ⟨q, fun e he => ?_, kp⟩
    rcases ev e he with h | h
    · rcases Array.mem_push.1 h with h | rfl
      · exact .inl h
      · exact .inr ⟨rfl, Nat.lt_of_lt_of_le (cell_lt h3) kp.size, by rcases h2 with h | h | h; exact .inl h; exact .inr (.inl h); exact .inr (.inr ⟨rfl, h⟩)⟩
    · exact .inr h
  | store m a v k ih =>
    intro w Q es h hn
    obtain ⟨rfl, h2, h3, h4, h5, h6⟩ := h
    obtain ⟨u, hu⟩ := Option.isSome_iff_exists.1 h4
    have e1 : (Sem.store .plain a v k).run P w = k.run P (w.setCell a v) := by
      cases v <;> simp_all [Sem.run, Value.oneCell']
    have e2 : (Sem.store .plain a v k).events P w es = k.events P (w.setCell a v) (es.push ⟨.cell a, true, false⟩) := by
      cases v <;> simp_all [Sem.events, Sem.runT, Value.oneCell', -Sem.runT_eq] <;> rfl
    rw [e1, e2]
    have sz : (w.setCell a v).heap.size = w.heap.size := by simp [World.setCell]
    obtain ⟨q, ev, kp⟩ := ih (es.push ⟨.cell a, true, false⟩) h6 (by omega)
    refine ⟨q, fun e he => ?_, Keeps.trans ⟨by omega, fun b hb hm => heap_setCell_other w a v b (by rintro rfl; rcases h2 with h | h; exact hm h; omega), rfl, rfl, rfl⟩ kp⟩
    rcases ev e he with h | h
    · rcases Array.mem_push.1 h with h | rfl
      · exact .inl h
      · exact .inr ⟨rfl, Nat.lt_of_lt_of_le (by have := cell_lt hu; rw [sz]; exact this) kp.size, by rcases h2 with h | h; exact .inl h; exact .inr (.inl h)⟩
    · exact .inr h
  | new o k ih =>
    intro w Q es h hn
    obtain ⟨q, ev, kp⟩ := ih w.heap.size es h (by simp; omega)
    have hk : Keeps c n0 w (w.alloc o) := ⟨by simp, fun b hb _ => by
      have : b < w.heap.size := by omega
      show (w.heap.push o)[b]? = w.heap[b]?
      simp [Array.getElem?_push, Nat.ne_of_lt this], rfl, rfl, rfl⟩
    exact ⟨q, ev, hk.trans kp⟩
  | shape r k ih => intro w Q es h hn; exact ih _ es h hn
  | freeze => intro w Q es h; exact h.elim
  | frozen a k ih => intro w Q es h hn; exact ih _ es h hn
  | getObj r k ih =>
    intro w Q es h hn
    obtain ⟨h1, o, h2, h3, h4, h5⟩ := h
    have e1 : (Sem.getObj r k).run P w = (k o).run P w := by cases o <;> simp_all [Sem.run, noCells]
    have e2 : (Sem.getObj r k).events P w es = (k o).events P w (es.push ⟨.obj r, false, false⟩) := by
      cases o <;> simp_all [Sem.events, Sem.runT, noCells, -Sem.runT_eq]
    rw [e1, e2]
    obtain ⟨q, ev, kp⟩ := ih o (es.push ⟨.obj r, false, false⟩) h5 hn
    refine ⟨q, fun e he => ?_, kp⟩
    rcases ev e he with h | h
    · rcases Array.mem_push.1 h with h | rfl
      · exact .inl h
      · exact .inr ⟨rfl, Nat.lt_of_lt_of_le (Array.getElem?_eq_some_iff.1 h2).1 kp.size, by rcases h1 with h | h | h; exact .inl h; exact .inr (.inl h); exact .inr (.inr ⟨rfl, h⟩)⟩
    · exact .inr h
  | setObj r o k ih =>
    intro w Q es h hn
    obtain ⟨h1, h2, ⟨o', h3, h4⟩, h5⟩ := h
    have e1 : (Sem.setObj r o k).run P w = k.run P { w with heap := w.heap.setIfInBounds r o } := by cases o' <;> simp_all [Sem.run, noCells]
    have e2 : (Sem.setObj r o k).events P w es = k.events P { w with heap := w.heap.setIfInBounds r o } (es.push ⟨.obj r, true, false⟩) := by
      cases o' <;> simp_all [Sem.events, Sem.runT, noCells, -Sem.runT_eq]
    rw [e1, e2]
    obtain ⟨q, ev, kp⟩ := ih (es.push ⟨.obj r, true, false⟩) h5 (by simpa using hn)
    have hk : Keeps c n0 w { w with heap := w.heap.setIfInBounds r o } := ⟨by simp, fun b hb hm =>
      getElem?_setIfInBounds_other _ _ _ _ (by rintro rfl; rcases h1 with h | h; exact hm h; omega), rfl, rfl, rfl⟩
    refine ⟨q, fun e he => ?_, hk.trans kp⟩
    rcases ev e he with h | h
    · rcases Array.mem_push.1 h with h | rfl
      · exact .inl h
      · exact .inr ⟨rfl, Nat.lt_of_lt_of_le (by have := (Array.getElem?_eq_some_iff.1 h3).1; simpa using this) kp.size, by rcases h1 with h | h; exact .inl h; exact .inr (.inl h)⟩
    · exact .inr h
  | choose q k ih =>
    intro w Q es h hn
    cases hq : q.forced with
    | true =>
      have e1 : (Sem.choose q k).run P w = (k 0).run P w := by simp [Sem.run, hq]
      have e2 : (Sem.choose q k).events P w es = (k 0).events P w es := by simp [Sem.events, Sem.runT, hq, -Sem.runT_eq]
      rw [e1, e2]
      exact ih 0 es (h 0 (fun _ => rfl) (fun f => by rw [hq] at f; cases f) w.drawn) hn
    | false =>
      have e1 : (Sem.choose q k).run P w = (k (q.cut (w.tape w.drawn q))).run P { w with drawn := w.drawn + 1 } := by simp [Sem.run, hq]
      have e2 : (Sem.choose q k).events P w es = (k (q.cut (w.tape w.drawn q))).events P { w with drawn := w.drawn + 1 } es := by simp [Sem.events, Sem.runT, hq, -Sem.runT_eq]
      rw [e1, e2]
      obtain ⟨a, b, d⟩ := ih _ es (h _ (fun f => by rw [hq] at f; cases f) (fun _ => ⟨_, rfl⟩) (w.drawn + 1)) hn
      have hk : Keeps c n0 w { w with drawn := w.drawn + 1 } := ⟨Nat.le_refl _, fun _ _ _ => rfl, rfl, rfl, rfl⟩
      exact ⟨a, b, hk.trans d⟩
  | sys => intro w Q es h; exact h.elim
  | program k ih => intro w Q es h hn; exact ih _ es h hn
  | mark m k ih =>
    intro w Q es h hn
    obtain ⟨rfl, h1⟩ := h
    obtain ⟨q, ev, kp⟩ := ih (es.push ⟨.mark .noRoom, false, true⟩) h1 hn
    refine ⟨q, fun e he => ?_, kp⟩
    have he' : e ∈ k.events P w (es.push ⟨.mark .noRoom, false, true⟩) := he
    rcases ev e he' with h | h
    · rcases Array.mem_push.1 h with h | rfl
      · exact .inl h
      · exact .inr rfl
    · exact .inr h
  | halt h => intro w Q es h _; exact ⟨h, fun e he => .inl he, .refl _ _ _⟩
theorem mem_seen {P : Program} {fn : FuncId} {es : Array Event} {e : Event} (h : e ∈ seen P fn es) : e ∈ es := by
  unfold seen at h
  simp only [] at h
  have key : ∀ (l : List Event) (q : Bool) (kept : Array Event), e ∈ (l.foldl (init := (q, kept)) fun (x : Bool × Array Event) e => match e.loc with
      | .mark (.extern f) => ((P.funcs[f]?).any (·.norace), x.2)
      | _ => (x.1, if x.1 && !e.sync then x.2 else x.2.push e)).2 → e ∈ l ∨ e ∈ kept := by
    intro l
    induction l with
    | nil => intro q kept h; exact .inr h
    | cons a l ih =>
      intro q kept h
      simp only [List.foldl_cons] at h
      split at h
      · rcases ih _ _ h with h | h
        · exact .inl (List.mem_cons_of_mem _ h)
        · exact .inr h
      · rcases ih _ _ h with h | h
        · exact .inl (List.mem_cons_of_mem _ h)
        · split at h
          · exact .inr h
          · rcases Array.mem_push.1 h with h | h
            · exact .inr h
            · exact .inl (by rw [h]; exact List.mem_cons_self)
  rw [← Array.foldl_toList] at h
  rcases key es.toList _ _ h with h | h
  · exact Array.mem_toList_iff.1 h
  · simp at h
def OpenChan (w : World) (r : Nat) : Prop := ∃ a, w.heap[r]? = some (.chan 0 #[] false a a false)
structure RL (c : Cx) (w w1 : World) : Prop where
  size : w.heap.size ≤ w1.heap.size
  mine : ∀ b, c.mine b → w1.heap[b]? = w.heap[b]?
  imm : ∀ b, (c.imm b).isSome → w1.heap[b]? = w.heap[b]?
  os : w1.os = w.os
  output : w1.output = w.output
  tape : w1.tape = w.tape
  chans : ∀ r, c.com.chans r → OpenChan w r → OpenChan w1 r
theorem RL.refl (c : Cx) (w : World) : RL c w w := ⟨Nat.le_refl _, fun _ _ => rfl, fun _ _ => rfl, rfl, rfl, rfl, fun _ _ h => h⟩
theorem RL.trans {c : Cx} {a b d : World} (h : RL c a b) (h' : RL c b d) : RL c a d :=
  ⟨Nat.le_trans h.size h'.size, fun x hx => by rw [h'.mine x hx, h.mine x hx], fun x hx => by rw [h'.imm x hx, h.imm x hx], h'.os.trans h.os, h'.output.trans h.output, h'.tape.trans h.tape, fun r hr ho => h'.chans r hr (h.chans r hr ho)⟩
theorem RL.at (c : Cx) (w : World) (d : Nat) : RL c w { w with drawn := d } := ⟨Nat.le_refl _, fun _ _ => rfl, fun _ _ => rfl, rfl, rfl, rfl, fun _ _ h => h⟩
structure Gd (c c' : Cx) (w w' : World) (es : Array Event) : Prop where
  keeps : Keeps c w.heap.size w w'
  mine : ∀ b, c'.mine b → c.mine b ∨ w.heap.size ≤ b
  imm : ∀ b o, c'.imm b = some o → c.imm b = some o ∨ c.mine b ∨ w.heap.size ≤ b
  still : ∀ b o, c.imm b = some o → c'.imm b = some o
  evs : ∀ e ∈ es, EvOk c w.heap.size w'.heap.size e
  low : ∀ b, (c'.mine b ∨ (c'.imm b).isSome = true) → (c.mine b ∨ (c.imm b).isSome = true) ∨ b < w'.heap.size
  chans : ∀ r, c'.com.chans r → c.com.chans r ∨ (w.heap.size ≤ r ∧ OpenChan w' r ∧ ¬ c'.mine r ∧ c'.imm r = none)
  open_ : ∀ r, c.com.chans r → c'.com.chans r
  out : c'.com.out = c.com.out
  todo : c'.com.todo = c.com.todo
  main : c'.com.main = c.com.main := by rfl
theorem RL.same {c c' : Cx} {w w1 : World} (r : RL c w w1) (e2 : c'.mine = c.mine) (e3 : c'.imm = c.imm) (e4 : c'.com.chans = c.com.chans) : RL c' w w1 :=
  ⟨r.size, fun b hb => r.mine b (by rw [← e2]; exact hb), fun b hb => r.imm b (by rw [← e3]; exact hb), r.os, r.output, r.tape, fun x hx => r.chans x (by rw [← e4]; exact hx)⟩
structure Gh (c c' : Cx) : Prop where
  com : c'.com = c.com
  mine : ∀ b, c'.mine b → c.mine b
  imm : ∀ b o, c'.imm b = some o → c.imm b = some o ∨ c.mine b
  still : ∀ b o, c.imm b = some o → c'.imm b = some o
theorem Gh.refl (c : Cx) : Gh c c := ⟨rfl, fun _ h => h, fun _ _ h => .inl h, fun _ _ h => h⟩
theorem Gh.trans {a b d : Cx} (h : Gh a b) (h' : Gh b d) : Gh a d :=
  ⟨h'.com.trans h.com, fun x hx => h.mine x (h'.mine x hx), fun x o hx => (h'.imm x o hx).elim (fun y => h.imm x o y) (fun y => .inr (h.mine x y)), fun x o hx => h'.still x o (h.still x o hx)⟩
theorem Gh.rely {c c' : Cx} (g : Gh c c') {w w1 : World} (r : RL c w w1) : RL c' w w1 where
  size := r.size
  mine b hb := r.mine b (g.mine b hb)
  imm b hb := by
    obtain ⟨o, ho⟩ := Option.isSome_iff_exists.1 hb
    rcases g.imm b o ho with h | h
    · exact r.imm b (by rw [h]; rfl)
    · exact r.mine b h
  os := r.os
  output := r.output
  tape := r.tape
  chans x hx := r.chans x (by rw [g.com] at hx; exact hx)
def restOf (rest : List (Nat × Value)) : List (List (Nat × Value)) := if rest = [] then [] else [rest]
def Recvs (c : Cx) (cases : Array CommCase) : Prop := (∀ k ∈ cases, k.send = none ∧ ∃ r, k.chan = .chan (some r) ∧ c.com.chans r) ∧
  ∀ (i j : Nat) (x y : CommCase), cases[i]? = some x → cases[j]? = some y → x.chan = y.chan → i = j
inductive Go' (P : Program) : Bool → (Cx → Goroutine → World → Prop) → Cx → Goroutine → World → Prop
  | stop {main : Bool} {Stop : Cx → Goroutine → World → Prop} {c : Cx} {g : Goroutine} {w : World} (h : ∀ w1, RL c w w1 → Stop c g w1) : Go' P main Stop c g w
  | step {main : Bool} {Stop : Cx → Goroutine → World → Prop} {c : Cx} {g : Goroutine} {w : World} (nx : World → Cx) (hs : g.status = .running)
      (h1 : ∀ w1, RL c w w1 → ∃ g' w' es, stepG P main g w1 = .go g' w' es ∧ g'.status = .running ∧ Gd c (nx w1) w1 w' es)
      (h2 : ∀ w1, RL c w w1 → ∀ g' w' es, stepG P main g w1 = .go g' w' es → Go' P main Stop (nx w1) g' w') : Go' P main Stop c g w
  | ghost {main : Bool} {Stop : Cx → Goroutine → World → Prop} {c c' : Cx} {g : Goroutine} {w : World} (hg : Gh c c') (h : Go' P main Stop c' g w) : Go' P main Stop c g w
  | spawn {main : Bool} {Stop : Cx → Goroutine → World → Prop} {c c' cc : Cx} {g g' child : Goroutine} {w : World} (hrole : c.com.main = true) (hs : g.status = .running) (hs' : g'.status = .running) (hk : child.status = .running)
      (h1 : ∀ w1, stepG P main g w1 = .spawn g' child w1 #[])
      (hc : c'.own = c.own ∧ c'.mine = c.mine ∧ c'.imm = c.imm ∧ c'.com.chans = c.com.chans ∧ c'.com.out = c.com.out ∧ c'.com.todo = c.com.todo ++ [cc.com.out] ∧ c'.com.main = c.com.main)
      (hcc : (∀ b, ¬ cc.mine b) ∧ (∀ b o, cc.imm b = some o → c.imm b = some o ∧ ¬ c.mine b) ∧ (∀ r, cc.com.chans r → c.com.chans r) ∧ cc.com.todo = [] ∧ cc.com.out ≠ [] ∧ cc.com.main = false ∧ ∀ m ∈ cc.com.out, c.com.chans m.1)
      (h2 : Go' P false (fun _ _ _ => False) cc child w) (h3 : Go' P main Stop c' g' w) : Go' P main Stop c g w
  | send {main : Bool} {Stop : Cx → Goroutine → World → Prop} {c c' : Cx} {g g' : Goroutine} {w : World} {r : Nat} {v z : Value} {rest : List (Nat × Value)} (hrole : c.com.main = false) (hs : g.status = .running) (hs' : g'.status = .running)
      (h1 : ∀ w1, stepG P main g w1 = .comm g' #[⟨.chan (some r), some v, z⟩] true .send w1 #[])
      (ho : c.com.out = (r, v) :: rest) (hr : c.com.chans r)
      (hc : c'.own = c.own ∧ c'.mine = c.mine ∧ c'.imm = c.imm ∧ c'.com.chans = c.com.chans ∧ c'.com.out = rest ∧ c'.com.todo = c.com.todo ∧ c'.com.main = c.com.main)
      (h2 : rest ≠ [] → Go' P main Stop c' (g'.finishComm P #[⟨.chan (some r), some v, z⟩] .send 0 undef false) w)
      (h3 : rest = [] → ∃ n, Conc.QuitsIn P n (g'.finishComm P #[⟨.chan (some r), some v, z⟩] .send 0 undef false)) : Go' P main Stop c g w
  | recv {main : Bool} {Stop : Cx → Goroutine → World → Prop} {c : Cx} {g g' : Goroutine} {w : World} {cases : Array CommCase} {shape : CommShape} (hrole : c.com.main = true) (hs : g.status = .running) (hs' : g'.status = .running)
      (h1 : ∀ w1, stepG P main g w1 = .comm g' cases true shape w1 #[]) (hr : Recvs c cases) (hne : c.com.todo ≠ [])
      (hall : ∀ ms ∈ c.com.todo, ∃ r v rest, ms = (r, v) :: rest ∧ ∃ k ∈ cases, k.chan = .chan (some r))
      (nx : Nat → Value → List (List (Nat × Value)) → Cx)
      (hc : ∀ k v T, (nx k v T).own = c.own ∧ (nx k v T).mine = c.mine ∧ (nx k v T).imm = c.imm ∧ (nx k v T).com.chans = c.com.chans ∧ (nx k v T).com.out = c.com.out ∧ (nx k v T).com.todo = T ∧ (nx k v T).com.main = c.com.main)
      (h2 : ∀ (k r : Nat) (v z : Value) (T1 T2 : List (List (Nat × Value))) (rest : List (Nat × Value)), cases[k]? = some ⟨.chan (some r), none, z⟩ → c.com.todo = T1 ++ ((r, v) :: rest) :: T2 →
        Go' P main Stop (nx k v (T1 ++ restOf rest ++ T2)) (g'.finishComm P cases shape k v true) w) : Go' P main Stop c g w
section
variable {P : Program} {main : Bool} {Stop : Cx → Goroutine → World → Prop}
theorem Go'.of_step {c : Cx} {g : Goroutine} {w : World} (hs : g.status = .running)
    (h : ∀ w1, RL c w w1 → ∃ g' w' es c', stepG P main g w1 = .go g' w' es ∧ g'.status = .running ∧ Gd c c' w1 w' es ∧ Go' P main Stop c' g' w') : Go' P main Stop c g w := by
  classical
  refine .step (fun w1 => if h1 : RL c w w1 then (h w1 h1).choose_spec.choose_spec.choose_spec.choose else c) hs (fun w1 r => ?_) (fun w1 r g' w' es e => ?_)
  · have x := (h w1 r).choose_spec.choose_spec.choose_spec.choose_spec
    refine ⟨_, _, _, x.1, x.2.1, ?_⟩
    simp only [r, dif_pos]
    exact x.2.2.1
  · have x := (h w1 r).choose_spec.choose_spec.choose_spec.choose_spec
    have y := e.symm.trans x.1
    simp only [r, dif_pos]
    injection y with y1 y2 y3
    rw [y1, y2]
    exact x.2.2.2
theorem Go'.rely {c : Cx} {g : Goroutine} {w w1 : World} (h : Go' P main Stop c g w) (r : RL c w w1) : Go' P main Stop c g w1 := by
  induction h generalizing w1 with
  | stop h => exact .stop fun w2 r2 => h w2 (r.trans r2)
  | step nx hs h1 h2 => exact .step nx hs (fun w2 r2 => h1 w2 (r.trans r2)) (fun w2 r2 => h2 w2 (r.trans r2))
  | ghost hg h ih => exact .ghost hg (ih (hg.rely r))
  | spawn hrole hs hs' hk h1 hc hcc h2 h3 ih2 ih3 =>
    obtain ⟨e1, e2, e3, e4, e5, e6⟩ := hc
    refine .spawn hrole hs hs' hk h1 ⟨e1, e2, e3, e4, e5, e6⟩ hcc (ih2 ⟨r.size, fun b hb => absurd hb (hcc.1 b), fun b hb => ?_, r.os, r.output, r.tape, fun x hx => r.chans x (hcc.2.2.1 x hx)⟩) (ih3 (r.same e2 e3 e4))
    obtain ⟨o, ho⟩ := Option.isSome_iff_exists.1 hb
    exact r.imm b (by rw [(hcc.2.1 b o ho).1]; rfl)
  | send hrole hs hs' h1 ho hr hc h2 h3 ih2 => exact .send hrole hs hs' h1 ho hr hc (fun hne => ih2 hne (r.same hc.2.1 hc.2.2.1 hc.2.2.2.1)) h3
  | recv hrole hs hs' h1 hr hne hall nx hc h2 ih2 => exact .recv hrole hs hs' h1 hr hne hall nx hc fun k x v z T1 T2 rest hk ht => ih2 k x v z T1 T2 rest hk ht (r.same (hc _ _ _).2.1 (hc _ _ _).2.2.1 (hc _ _ _).2.2.2.1)
theorem Go'.idle {c : Cx} {g g' : Goroutine} {w : World} (hs : g.status = .running) (hs' : g'.status = .running) (h : ∀ w1, stepG P main g w1 = .go g' w1 #[]) (h' : Go' P main Stop c g' w) : Go' P main Stop c g w :=
  .of_step hs fun w1 r => ⟨g', w1, #[], c, h w1, hs', ⟨.refl _ _ _, fun _ h => .inl h, fun _ _ h => .inl h, fun _ _ h => h, by simp, fun _ h => .inl h, fun _ h => .inl h, fun _ h => h, rfl, rfl, rfl⟩, h'.rely r⟩
theorem Go'.mono {Stop' : Cx → Goroutine → World → Prop} {c : Cx} {g : Goroutine} {w : World} (h : Go' P main Stop c g w) (hm : ∀ c g w, Stop c g w → Stop' c g w) : Go' P main Stop' c g w := by
  induction h with
  | stop h => exact .stop fun w1 r => hm _ _ _ (h w1 r)
  | step nx hs h1 h2 ih => exact .step nx hs h1 fun w1 r g' w' es e => ih w1 r g' w' es e hm
  | ghost hg h ih => exact .ghost hg (ih hm)
  | spawn hrole hs hs' hk h1 hc hcc h2 h3 ih2 ih3 => exact .spawn hrole hs hs' hk h1 hc hcc h2 (ih3 hm)
  | send hrole hs hs' h1 ho hr hc h2 h3 ih2 => exact .send hrole hs hs' h1 ho hr hc (fun hne => ih2 hne hm) h3
  | recv hrole hs hs' h1 hr hne hall nx hc h2 ih2 => exact .recv hrole hs hs' h1 hr hne hall nx hc fun k x v z T1 T2 rest hk ht => ih2 k x v z T1 T2 rest hk ht hm
end
end Go.Mac

/- A part of the logic and of the contracts of the functions that the statement reaches; the statement itself is proved in the last text. -/
import Derived.Test.YtdioclckllbhpaaGreatLibMacB

set_option linter.all false
set_option linter.unusedVariables false
set_option linter.unusedSimpArgs false
set_option linter.unnecessarySimpa false
namespace Go.Mac
open Go Go.Conc
inductive Blk where
  | cells (gen : Nat) (cs : List AV)
  | map (ks vs : List AV)
  | loop (st : LoopState) (pend : Option Code) (fn : FuncId) (slots : List AV) (params : Array Tmp) (assign body : Code)
  | defd
  | iter (s : List UInt8) (pos : Nat)
  | chan (gen : Nat)
  | role (main : Bool)
  | dead
  deriving Inhabited
inductive ADef where
  | call (f : Fn) (cap args : List AV)
  | mark (n : Nm)
def DR (c : Cx) : ADef → Deferred → Prop
  | .call f cap args, d => ∃ l1 l2, d = { target := .fn f l1.toArray, args := l2.toArray } ∧ VRL c cap l1 ∧ VRL c args l2
  | .mark n, d => c.At n fun s => ∃ b k, s = some (b, k) ∧ d = { target := .collected b, args := #[] }
def DRL (c : Cx) : List ADef → List Deferred → Prop
  | [], l => l = []
  | a :: as, l => ∃ d ds, l = d :: ds ∧ DR c a d ∧ DRL c as ds
structure Gst where
  out : List (Nm × Value) := []
  todo : List (List (Nm × Value)) := []
def MR (c : Cx) : List (Nm × Value) → List (Nat × Value) → Prop
  | [], l => l = []
  | m :: ms, l => ∃ r l', l = (r, m.2) :: l' ∧ c.At m.1 (fun s => ∃ k, s = some (r, k)) ∧ MR c ms l'
def MRL (c : Cx) : List (List (Nm × Value)) → List (List (Nat × Value)) → Prop
  | [], l => l = []
  | m :: ms, l => ∃ x l', l = x :: l' ∧ MR c m x ∧ MRL c ms l'
theorem MR.ext {c c' : Cx} (x : Ext c c') : ∀ {ms : List (Nm × Value)} {l : List (Nat × Value)}, MR c ms l → MR c' ms l
  | [], _, h => h
  | _ :: _, _, ⟨r, l', e, h1, h2⟩ => ⟨r, l', e, h1.ext x, MR.ext x h2⟩
theorem MRL.ext {c c' : Cx} (x : Ext c c') : ∀ {ms : List (List (Nm × Value))} {l : List (List (Nat × Value))}, MRL c ms l → MRL c' ms l
  | [], _, h => h
  | _ :: _, _, ⟨r, l', e, h1, h2⟩ => ⟨r, l', e, h1.ext x, MRL.ext x h2⟩
structure CR (base : List (Nat × Value)) (c : Cx) (s : Gst) : Prop where
  out : ∃ M, c.com.out = M ++ base ∧ MR c s.out M
  todo : MRL c s.todo c.com.todo
theorem CR.ext {base : List (Nat × Value)} {c c' : Cx} {s : Gst} (h : CR base c s) (x : Ext c c') (e1 : c'.com.out = c.com.out) (e2 : c'.com.todo = c.com.todo) : CR base c' s where
  out := by obtain ⟨M, h1, h2⟩ := h.out; exact ⟨M, by rw [e1]; exact h1, h2.ext x⟩
  todo := by rw [e2]; exact h.todo.ext x
structure AS where
  sl : List AV
  df : List ADef
  hp : List Blk
  gh : Gst := {}
def BR (c : Cx) (w : World) (e : Ent) : Blk → Prop
  | .dead => True
  | .cells g cs => e.gen = g ∧ ((e.seat = none ∧ cs = []) ∨ ∃ b k arr el l, e.seat = some (b, k) ∧ c.mine b ∧ w.heap[b]? = some (.cells arr el (0, 0)) ∧ arr.size = k ∧ VRL c cs l ∧ l <+: arr.toList)
  | .map ks vs => e.gen = 0 ∧ ∃ b k ents clk, e.seat = some (b, k) ∧ c.mine b ∧ w.heap[b]? = some (.map ents clk) ∧ VRL c ks (ents.toList.map (·.key)) ∧ VRL c vs (ents.toList.map (·.val))
  | .loop st pend fn slots params assign body => e.gen = 0 ∧ ∃ b k tm d, e.seat = some (b, k) ∧ c.mine b ∧
      w.heap[b]? = some (.loop { state := st, pending := pend, fn, tmps := tm, params, assign, body, defers := d }) ∧ VRL c slots tm.toList
  | .defd => e.gen = 0 ∧ ∃ b k, e.seat = some (b, k) ∧ c.mine b ∧ w.heap[b]? = some (.deferred (some []))
  | .iter s pos => e.gen = 0 ∧ ∃ b k, e.seat = some (b, k) ∧ c.mine b ∧ w.heap[b]? = some (.stringIter ⟨s.toArray⟩ pos)
  | .chan g => e.gen = g ∧ ∃ b k, e.seat = some (b, k) ∧ c.com.chans b
  | .role m => c.com.main = m
def Blk.live : Blk → Bool
  | .dead | .role _ => false
  | _ => true
structure HR (c : Cx) (w : World) (h : List Blk) : Prop where
  len : h.length = c.own.length
  blk : ∀ (i : Nat) (e : Ent) (b : Blk), c.own[i]? = some e → h[i]? = some b → BR c w e b
  apart : ∀ (i j : Nat) (ei ej : Ent) (bi bj : Blk) (x y : Nat × Nat), i ≠ j → c.own[i]? = some ei → c.own[j]? = some ej → h[i]? = some bi → h[j]? = some bj →
    bi.live = true → bj.live = true → ei.seat = some x → ej.seat = some y → x.1 ≠ y.1
  mine : ∀ b, c.mine b → b < w.heap.size
  imm : ∀ b o, c.imm b = some o → ¬ c.mine b ∧ w.heap[b]? = some o
  chan : ∀ r, c.com.chans r → ¬ c.mine r ∧ c.imm r = none ∧ OpenChan w r
structure SR (base : List (Nat × Value)) (c : Cx) (w : World) (s : AS) (tmps : Array Value) (ds : List Deferred) : Prop where
  sl : VRL c s.sl tmps.toList
  df : DRL c s.df ds
  hp : HR c w s.hp
  gh : CR base c s.gh
theorem DR.ext {c c' : Cx} (x : Ext c c') {a : ADef} {d : Deferred} (h : DR c a d) : DR c' a d := by
  cases a with
  | call f cap args => obtain ⟨l1, l2, e, h1, h2⟩ := h; exact ⟨l1, l2, e, h1.ext x, h2.ext x⟩
  | mark n =>
    have h' : c.At n fun s => ∃ b k, s = some (b, k) ∧ d = { target := .collected b, args := #[] } := h
    exact h'.ext x
theorem DRL.ext {c c' : Cx} (x : Ext c c') : ∀ {as : List ADef} {ds : List Deferred}, DRL c as ds → DRL c' as ds
  | [], _, h => h
  | _ :: _, _, h => by obtain ⟨d, ds, e, h1, h2⟩ := h; exact ⟨d, ds, e, h1.ext x, DRL.ext x h2⟩
theorem BR.rely {c : Cx} {w w1 : World} (r : RL c w w1) {e : Ent} {b : Blk} (h : BR c w e b) : BR c w1 e b := by
  cases b with
  | dead => trivial
  | cells g cs =>
    obtain ⟨h0, h1 | ⟨b, k, arr, el, l, h1, h2, h3, h4⟩⟩ := h
    · exact ⟨h0, .inl h1⟩
    · exact ⟨h0, .inr ⟨b, k, arr, el, l, h1, h2, by rw [r.mine b h2]; exact h3, h4⟩⟩
  | map ks vs => obtain ⟨h0, b, k, ents, clk, h1, h2, h3, h4⟩ := h; exact ⟨h0, b, k, ents, clk, h1, h2, by rw [r.mine b h2]; exact h3, h4⟩
  | loop st pend fn slots params assign body => obtain ⟨h0, b, k, tm, d, h1, h2, h3, h4⟩ := h; exact ⟨h0, b, k, tm, d, h1, h2, by rw [r.mine b h2]; exact h3, h4⟩
  | defd => obtain ⟨h0, b, k, h1, h2, h3⟩ := h; exact ⟨h0, b, k, h1, h2, by rw [r.mine b h2]; exact h3⟩
  | iter s pos => obtain ⟨h0, b, k, h1, h2, h3⟩ := h; exact ⟨h0, b, k, h1, h2, by rw [r.mine b h2]; exact h3⟩
  | chan g => exact h
  | role m => exact h
theorem HR.rely {c : Cx} {w w1 : World} (r : RL c w w1) {h : List Blk} (x : HR c w h) : HR c w1 h where
  len := x.len
  blk i e b h1 h2 := (x.blk i e b h1 h2).rely r
  apart := x.apart
  mine b hb := Nat.lt_of_lt_of_le (x.mine b hb) r.size
  imm b o hb := ⟨(x.imm b o hb).1, by rw [r.imm b (by rw [hb]; rfl)]; exact (x.imm b o hb).2⟩
  chan y hy := ⟨(x.chan y hy).1, (x.chan y hy).2.1, r.chans y hy (x.chan y hy).2.2⟩
theorem OpenChan.lt {w : World} {r : Nat} (h : OpenChan w r) : r < w.heap.size := by
  obtain ⟨a, h⟩ := h
  exact (Array.getElem?_eq_some_iff.1 h).1
theorem HR.low {c : Cx} {w : World} {h : List Blk} (x : HR c w h) {b : Nat} (hb : c.mine b ∨ (c.imm b).isSome = true) : b < w.heap.size := by
  rcases hb with hb | hb
  · exact x.mine b hb
  · obtain ⟨o, ho⟩ := Option.isSome_iff_exists.1 hb
    exact (Array.getElem?_eq_some_iff.1 (x.imm b o ho).2).1
theorem SR.rely {base : List (Nat × Value)} {c : Cx} {w w1 : World} (r : RL c w w1) {s : AS} {tmps : Array Value} {ds : List Deferred} (x : SR base c w s tmps ds) : SR base c w1 s tmps ds := ⟨x.sl, x.df, x.hp.rely r, x.gh⟩
def at' (b : Frame) (tmps : Array Value) (ds : List Deferred) (todo : List Item) : Frame := { b with tmps := tmps, defers := ds, todo := todo, mode := .run }
inductive AExit where
  | normal
  | exit (id : Nat)
  | goto (l : Nat)
  | ret
  | panic (v : AV)
  deriving Inhabited
section
variable (P : Program) (main : Bool) (Stop : Cx → Goroutine → World → Prop)
def Cont (b : Frame) (cs : List Frame) (k : List Item) (c : Cx) (w : World) (tmps : Array Value) (ds : List Deferred) : AExit → Prop
  | .normal => Go' P main Stop c (G (at' b tmps ds k) cs) w
  | .exit id => ∀ k', exitTo id k' = exitTo id k → Go' P main Stop c (G (at' b tmps ds (.code (.exit id) :: k')) cs) w
  | .goto l => ∀ k', gotoIn l k' = gotoIn l k → Go' P main Stop c (G (at' b tmps ds (.code (.goto l) :: k')) cs) w
  | .ret => ∀ k', Go' P main Stop c (G (at' b tmps ds (.code .ret :: k')) cs) w
  | .panic v => ∀ V todo, VR c v V → Go' P main Stop c (G { at' b tmps ds todo with mode := .panicking [{ v := V, recovered := false }] } cs) w
end
structure FK where
  fn : FuncId
  rnd : Bool
  low : Nat
def Fits (b : Frame) (k : FK) : Prop := b.fn = k.fn ∧ (k.rnd = false → b.roundOf = none)
def WPI (P : Program) (fn : FK) (its : List Item) (Q : AExit → AS → Prop) (s : AS) : Prop :=
  ∀ (main : Bool) (Stop : Cx → Goroutine → World → Prop) (b : Frame) (k : List Item) (cs : List Frame) (base : List (Nat × Value)) (c : Cx) (w : World) (tmps : Array Value) (ds : List Deferred),
    Fits b fn → b.kind ≠ .early → SR base c w s tmps ds →
    (∀ e s' c' w' tmps' ds', Q e s' → SR base c' w' s' tmps' ds' → Ext (c.take fn.low) c' → Cont P main Stop b cs k c' w' tmps' ds' e) →
    Go' P main Stop c (G (at' b tmps ds (its ++ k)) cs) w
section
variable {P : Program} {fn : FK} {Q Q' : AExit → AS → Prop} {s : AS} {its its' : List Item}
theorem WPI.mono (h : WPI P fn its Q s) (hq : ∀ e s, Q e s → Q' e s) : WPI P fn its Q' s :=
  fun main Stop b k cs base c w tmps ds h1 h2 h3 h4 => h main Stop b k cs base c w tmps ds h1 h2 h3 fun e s' c' w' tmps' ds' q => h4 e s' c' w' tmps' ds' (hq _ _ q)
theorem WPI.nil (h : Q .normal s) : WPI P fn [] Q s :=
  fun _ _ _ _ _ _ c w tmps ds _ _ h3 h4 => h4 .normal s c w tmps ds h h3 (.reflT c _)
theorem WPI.idle {it : Item} (its' : List Item)
    (hst : ∀ (main : Bool) (b : Frame) (k : List Item) (cs : List Frame) (c : Cx) (tmps : Array Value) (ds : List Deferred) (w : World), VRL c s.sl tmps.toList →
      stepG P main (G (at' b tmps ds (it :: k)) cs) w = .go (G (at' b tmps ds (its' ++ k)) cs) w #[])
    (h : WPI P fn (its' ++ its) Q s) : WPI P fn (it :: its) Q s := by
  intro main Stop b k cs base c w tmps ds h1 h2 h3 h4
  have := h main Stop b k cs base c w tmps ds h1 h2 h3 h4
  rw [List.append_assoc] at this
  exact Go'.idle rfl rfl (fun w1 => hst main b _ cs c tmps ds w1 h3.sl) this
def passed : Item → Bool
  | .inBlock _ | .inScope _ => false
  | _ => true
theorem Cont.pass {main : Bool} {Stop : Cx → Goroutine → World → Prop} {b : Frame} {cs : List Frame} {k : List Item} {c : Cx} {w : World} {tmps : Array Value} {ds : List Deferred} {e : AExit} {it : Item}
    (hp : passed it = true) (he : e ≠ .normal) (h : Cont P main Stop b cs k c w tmps ds e) : Cont P main Stop b cs (it :: k) c w tmps ds e := by
  cases e with
  | normal => exact absurd rfl he
  | exit id => exact fun k' hk => h k' (by rw [hk]; cases it <;> simp_all [exitTo, passed])
  | goto l => exact fun k' hk => h k' (by rw [hk]; cases it <;> simp_all [gotoIn, passed])
  | ret => exact h
  | panic v => exact h
def andThen (Q Q' : AExit → AS → Prop) : AExit → AS → Prop
  | .normal, s => Q .normal s
  | e, s => Q' e s
theorem WPI.cons {it : Item} {x : Item} (hp : passed x = true) (h : WPI P fn [it] (fun e s => match e with | .normal => WPI P fn [x] Q s | e => Q e s) s) : WPI P fn [it, x] Q s := by
  intro main Stop b k cs base c w tmps ds h1 h2 h3 h4
  refine h main Stop b (x :: k) cs base c w tmps ds h1 h2 h3 fun e s' c' w' tmps' ds' q r y => ?_
  cases e with
  | normal => exact q main Stop b k cs base c' w' tmps' ds' h1 h2 r fun e s2 c2 w2 t2 d2 q2 r2 y2 => h4 e s2 c2 w2 t2 d2 q2 r2 (y.transT y2)
  | exit id => exact (h4 _ s' c' w' tmps' ds' q r y).pass hp (by simp)
  | goto l => exact (h4 _ s' c' w' tmps' ds' q r y).pass hp (by simp)
  | ret => exact (h4 _ s' c' w' tmps' ds' q r y).pass hp (by simp)
  | panic v => exact (h4 _ s' c' w' tmps' ds' q r y).pass hp (by simp)
abbrev WP (P : Program) (fn : FK) (cd : Code) (Q : AExit → AS → Prop) (s : AS) : Prop := WPI P fn [.code cd] Q s
theorem WP.skip (h : Q .normal s) : WP P fn .skip Q s :=
  WPI.idle [] (fun _ _ _ _ _ _ _ _ _ => by simp [G, stepG, stepG.exec, at']) (WPI.nil h)
theorem WP.label {l : Nat} (h : Q .normal s) : WP P fn (.label l) Q s :=
  WPI.idle [] (fun _ _ _ _ _ _ _ _ _ => by simp [G, stepG, stepG.exec, at']) (WPI.nil h)
theorem WP.seq {a b : Code} (h : WP P fn a (fun e s => match e with | .normal => WP P fn b Q s | e => Q e s) s) : WP P fn (.seq a b) Q s :=
  WPI.idle [.code a, .code b] (fun _ _ _ _ _ _ _ _ _ => by simp [G, stepG, stepG.exec, at']) (WPI.cons rfl h)
def blockQ (id : Nat) (Q : AExit → AS → Prop) : AExit → AS → Prop
  | .exit id', s => if id' = id then Q .normal s else Q (.exit id') s
  | e, s => Q e s
theorem WP.block {id : Nat} {a : Code} (h : WP P fn a (blockQ id Q) s) : WP P fn (.block id a) Q s := by
  refine WPI.idle [.code a, .inBlock id] (fun _ _ _ _ _ _ _ _ _ => by simp [G, stepG, stepG.exec, at']) ?_
  intro main Stop b k cs base c w tmps ds h1 h2 h3 h4
  refine h main Stop b (.inBlock id :: k) cs base c w tmps ds h1 h2 h3 fun e s' c' w' tmps' ds' q r y => ?_
  cases e with
  | normal => exact Go'.idle rfl rfl (fun w1 => by simp [G, stepG, stepG.exec, at']) (h4 .normal s' c' w' tmps' ds' q r y)
  | exit id' =>
    intro k' hk
    simp only [blockQ] at q
    by_cases hid : id' = id
    · subst hid
      have q' : Q .normal s' := by simpa using q
      have hx : exitTo id' k' = some k := by rw [hk]; simp [exitTo]
      exact Go'.idle rfl rfl (fun w1 => by simp [G, stepG, stepG.exec, at', hx]) (h4 .normal s' c' w' tmps' ds' q' r y)
    · have q' : Q (.exit id') s' := by simpa [hid] using q
      exact h4 _ s' c' w' tmps' ds' q' r y k' (by rw [hk]; simp [exitTo]; intro h; exact absurd h.symm hid)
  | goto l =>
    have x := h4 (.goto l) s' c' w' tmps' ds' q r y
    exact fun k' hk => x k' (by rw [hk]; simp [gotoIn])
  | ret => exact h4 .ret s' c' w' tmps' ds' q r y
  | panic v => exact h4 (.panic v) s' c' w' tmps' ds' q r y
theorem WP.exit {id : Nat} (h : Q (.exit id) s) : WP P fn (.exit id) Q s :=
  fun _ _ _ k _ _ c w tmps ds _ _ h3 h4 => h4 _ s c w tmps ds h h3 (.reflT c _) k rfl
theorem WP.goto {l : Nat} (h : Q (.goto l) s) : WP P fn (.goto l) Q s :=
  fun _ _ _ k _ _ c w tmps ds _ _ h3 h4 => h4 _ s c w tmps ds h h3 (.reflT c _) k rfl
theorem WP.ret (h : Q .ret s) : WP P fn .ret Q s :=
  fun _ _ _ k _ _ c w tmps ds _ _ h3 h4 => h4 _ s c w tmps ds h h3 (.reflT c _) k
theorem WP.loop {body : Code} (I : AS → Prop) (μ : AS → Nat) (h0 : I s)
    (h : ∀ s, I s → WP P fn body (fun e s' => match e with | .normal => I s' ∧ μ s' < μ s | e => Q e s') s) : WP P fn (.loop body) Q s := by
  have key : ∀ n s, μ s < n → I s → WPI P fn [.inLoop body] Q s := by
    intro n
    induction n with
    | zero => intro s hn; exact absurd hn (Nat.not_lt_zero _)
    | succ n ih =>
      intro s hn hs
      refine WPI.idle [.code body, .inLoop body] (fun _ _ _ _ _ _ _ _ _ => by simp [G, stepG, stepG.exec, at']) (WPI.cons rfl ((h s hs).mono fun e s' q => ?_))
      cases e with
      | normal => exact ih s' (by have := q.2; omega) q.1
      | exit id => exact q
      | goto l => exact q
      | ret => exact q
      | panic v => exact q
  have := key (μ s + 1) s (by omega) h0
  refine WPI.idle [.code body, .inLoop body] (fun _ _ _ _ _ _ _ _ _ => by simp [G, stepG, stepG.exec, at']) (WPI.cons rfl ((h s h0).mono fun e s' q => ?_))
  cases e with
  | normal => exact key (μ s' + 1) s' (by omega) q.1
  | exit id => exact q
  | goto l => exact q
  | ret => exact q
  | panic v => exact q
def constA : Value → AV
  | .bool b => .bool b
  | .int k n => .int k n
  | .string s => .str s.data.toList
  | .pointer none => .nilptr
  | .slice none 0 0 => .nilsl
  | .map none => .nilmap
  | .nilFunc => .nilfn
  | .nilIface => .niliface
  | .func f first cap => if first.isEmpty && cap.isEmpty then .fn f [] [] else .any
  | .agg cs => if cs.isEmpty then .agg [] else .any
  | .tuple cs => if cs.isEmpty then .tup [] else .any
  | _ => .any
def evA (sl : List AV) : Operand → AV
  | .tmp t => sl.getD t .any
  | .const v => constA v
  | .global _ => .any
  | .func f => .fn (.func f) [] []
theorem VR_constA (c : Cx) (v : Value) : VR c (constA v) v := by
  cases v <;> simp only [constA] <;> try (first | rfl | trivial)
  case pointer a => cases a <;> first | rfl | trivial
  case slice a l k =>
    cases a with
    | none => rcases l with _ | l <;> rcases k with _ | k <;> first | rfl | trivial
    | some a => trivial
  case map a => cases a <;> first | rfl | trivial
  case func f first cap =>
    split
    · rename_i h
      simp at h
      exact ⟨[], [], by rw [h.1, h.2], rfl, rfl⟩
    · trivial
  case agg cs =>
    split
    · rename_i h; simp at h; exact ⟨[], by rw [h], rfl⟩
    · trivial
  case tuple cs =>
    split
    · rename_i h; simp at h; exact ⟨[], by rw [h], rfl⟩
    · trivial
theorem VR_evA {c : Cx} {sl : List AV} {tmps : Array Value} (h : VRL c sl tmps.toList) (b : Frame) (ds : List Deferred) (todo : List Item) (x : Operand) :
    VR c (evA sl x) ((at' b tmps ds todo).eval x) := by
  cases x with
  | tmp t =>
    simp only [evA, Frame.eval, at']
    cases ht : sl[t]? with
    | none => simp [List.getD, ht, VR]
    | some a =>
      obtain ⟨v, hv, hr⟩ := h.get ht
      have : tmps[t]? = some v := by simpa using hv
      simp [List.getD, ht, Array.getD_eq_getD_getElem?, this, hr]
  | const v => exact VR_constA c v
  | global g => trivial
  | func f => exact ⟨[], [], rfl, rfl, rfl⟩
theorem WP.cond {x : Operand} {a b : Code} {t : Bool} (ht : evA s.sl x = .bool t) (h1 : t = true → WP P fn a Q s) (h2 : t = false → WP P fn b Q s) : WP P fn (.cond x a b) Q s := by
  refine WPI.idle [.code (if t then a else b)] (fun main b' k cs c tmps ds w hs => ?_) ?_
  · have := VR_evA hs b' ds (.code (.cond x a b) :: k) x
    rw [ht] at this
    have e : (at' b' tmps ds (.code (.cond x a b) :: k)).eval x = .bool t := this
    simp only [at'] at e
    simp [G, stepG, stepG.exec, at', e]
  · cases t
    · exact h2 rfl
    · exact h1 rfl
theorem WP.region {id : Nat} {ops : Array Oper} (h : WPI P fn [.inRegion ops (List.range ops.size)] Q s) : WP P fn (.region id ops false) Q s :=
  WPI.idle [.inRegion ops (List.range ops.size)] (fun _ _ _ _ _ _ _ _ _ => by simp [G, stepG, stepG.exec, at']) h
theorem WPI.region_end {ops : Array Oper} (h : Q .normal s) : WPI P fn [.inRegion ops []] Q s :=
  WPI.idle [] (fun _ _ _ _ _ _ _ _ _ => by simp [G, stepG, stepG.exec, at']) (WPI.nil h)
end
end Go.Mac

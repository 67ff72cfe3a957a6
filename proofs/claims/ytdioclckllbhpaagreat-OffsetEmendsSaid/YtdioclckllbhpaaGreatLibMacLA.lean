/- A part of the logic and of the contracts of the functions that the statement reaches; the statement itself is proved in the last text. -/
import Derived.Test.YtdioclckllbhpaaGreatLibMacL

set_option linter.all false
set_option linter.unusedVariables false
set_option linter.unusedSimpArgs false
set_option linter.unnecessarySimpa false
namespace Go.Mac
open Go Go.Conc
def Back (P : Program) (main : Bool) (Stop : Cx → Goroutine → World → Prop) (fr : Frame) (cs : List Frame) (c : Cx) (w : World) : AEnd → Prop
  | .ret v => ∀ V, VR c v V → Go' P main Stop c (G (fr.finish V) cs) w
  | .panic v => ∀ V, VR c v V → Go' P main Stop c (G (fr.raise [{ v := V, recovered := false }]) cs) w
def roundTmps (r : Loop) (vargs : Array Value) : Array Value := (r.params.zip vargs).foldl (fun tmps (t, a) => tmps.setIfInBounds t a) r.tmps
def Cx.LoopAt (c : Cx) (w : World) (n : Nm) (l : Nat) (r : Loop) : Prop := n.gen = 0 ∧ (∃ e k, c.own[n.id]? = some e ∧ e.gen = 0 ∧ e.seat = some (l, k)) ∧ c.mine l ∧ w.heap[l]? = some (.loop r)
def YieldA (P : Program) (n : Nm) (args : List AV) (h : List Blk) (Post : AEnd → List Blk → Prop) : Prop :=
  ∀ (main : Bool) (Stop : Cx → Goroutine → World → Prop) (fr : Frame) (cs : List Frame) (c : Cx) (w : World) (vargs : Array Value) (l : Nat) (r : Loop), VRL c args vargs.toList → HR c w h → c.com.todo = [] → c.LoopAt w n l r →
    (∀ e h' c' w', Post e h' → HR c' w' h' → Ext c c' → c'.com.out = c.com.out → c'.com.todo = [] → Back P main Stop fr cs c' w' e) →
    Go' P main Stop c (G (Frame.round l r.fn (roundTmps r vargs) r.assign r.body .normal) (fr :: cs)) w
theorem YieldA.mono {P : Program} {n : Nm} {args : List AV} {h : List Blk} {Post Post' : AEnd → List Blk → Prop} (x : YieldA P n args h Post) (hp : ∀ e h, Post e h → Post' e h) : YieldA P n args h Post' :=
  fun main Stop fr cs c w vargs l r h1 h2 h3 h4 h5 => x main Stop fr cs c w vargs l r h1 h2 h3 h4 fun e h' c' w' q => h5 e h' c' w' (hp _ _ q)
section
variable {P : Program} {fk : FK} {Q : AExit → AS → Prop} {s : AS} {ops : Array Oper} {i : Nat} {rest : List Nat} {o : Oper}
theorem HR.loopAt {c : Cx} {w : World} {h : List Blk} (x : HR c w h) {n : Nm} {st : LoopState} {pend : Option Code} {fn : FuncId} {slots : List AV} {params : Array Tmp} {assign body : Code} (hb : h[n.id]? = some (.loop st pend fn slots params assign body)) (hg : n.gen = 0) :
    ∃ l r, c.LoopAt w n l r ∧ r.state = st ∧ r.pending = pend ∧ r.fn = fn ∧ r.params = params ∧ r.assign = assign ∧ r.body = body ∧ VRL c slots r.tmps.toList := by
  have hlt : n.id < c.own.length := by rw [← x.len]; exact (List.getElem?_eq_some_iff.1 hb).1
  have he : c.own[n.id]? = some c.own[n.id] := by simp [hlt]
  obtain ⟨h0, b, k, tm, d, h1, h2, h3, h4⟩ := x.blk _ _ _ he hb
  exact ⟨b, _, ⟨hg, ⟨_, k, he, h0, h1⟩, h2, h3⟩, rfl, rfl, rfl, rfl, rfl, rfl, h4⟩
theorem WPI.callY {cl : Go.Call} {f : Operand} {n : Nm} {st : LoopState} {pend : Option Code} {fn : FuncId} {slots : List AV} {params : Array Tmp} {assign body : Code} (ho : ops[i]? = some o) (hw : ∀ c tmps, VRL c s.sl tmps.toList → Region.wanted o (yielded ops tmps) = true) (hop : o.op = .call cl) (hcl : cl.callee = .value f)
    (hfv : evA s.sl f = .yield n) (hb : s.hp[n.id]? = some (.loop st pend fn slots params assign body)) (hg : n.gen = 0) (hlen : cl.args.size = params.size) (hgt : s.gh.todo = [])
    (h : YieldA P n (cl.args.toList.map (evA s.sl)) s.hp (callQ P fk ops rest o Q s)) : WPI P fk [.inRegion ops (i :: rest)] Q s := by
  intro main Stop b k cs base c w tmps ds h1 h2 h3 h4
  refine Go'.of_step rfl fun w1 r => ?_
  have h3' := h3.rely r
  have htodo : c.com.todo = [] := by have := h3.gh.todo; rw [hgt] at this; exact this
  rw [List.singleton_append, stepG_opA ho (hw c tmps h3.sl) (by rw [hop]; rfl)]
  generalize hfr : at' b tmps ds (.inRegion ops (i :: rest) :: k) = fr
  have hρ : ∀ x, VR c (evA s.sl x) (fr.eval x) := fun x => by rw [← hfr]; exact VR_evA h3.sl b ds _ x
  obtain ⟨l, lr, hat, e1, e2, e3, e4, e5, e6, e7⟩ := h3'.hp.loopAt hb hg
  have hfx := hρ f
  rw [hfv] at hfx
  have hF : fr.eval f = .func (.yield l) #[] #[] := by
    obtain ⟨_, hx⟩ := hfx
    obtain ⟨_, ⟨e, k', he, hge, hse⟩, _⟩ := hat
    obtain ⟨e', he', _, hS⟩ := hx
    rw [he] at he'
    cases he'
    obtain ⟨b', k'', hs, hv⟩ := hS (by rw [hg, hge])
    rw [hse] at hs
    cases hs
    exact hv
  have hok : Ok P c w1.heap.size (execOp fr.eval o) w1 (fun q => q = .ok (.round l lr.fn (roundTmps lr (cl.args.map fr.eval)) lr.assign lr.body) w1) := by
    simp only [execOp, hop, resolve, hcl, hF, Deferred.ofValue]
    show Ok P c w1.heap.size (Instr.yield l (#[] ++ cl.args.map fr.eval)) w1 _
    unfold Instr.yield Instr.getLoop
    refine Ok.then (a := lr) ?_ ?_
    · refine Ok.then (a := .loop lr) ⟨.inl hat.2.2.1, .loop lr, hat.2.2.2, trivial, rfl, rfl⟩ ?_
      exact ok_pure rfl
    · have hsz : ¬ (#[] ++ cl.args.map fr.eval).size ≠ lr.params.size := by simp [e4, hlen]
      rw [if_neg hsz]
      simp only [Array.empty_append]
      exact ok_pure rfl
  obtain ⟨q, ev, kp⟩ := Ok.spec #[] hok (Nat.le_refl _)
  rw [q] at ev
  have hkind : (fr.kind == CallKind.early) = false := by rw [← hfr]; simpa [at'] using h2
  have hstep : stepG.apply P true fr cs none (execOp fr.eval o) w1 = .go (G (Frame.round l lr.fn (roundTmps lr (cl.args.map fr.eval)) lr.assign lr.body .normal) (fr :: cs)) w1 (seen P fr.fn ((execOp fr.eval o).events P w1 #[])) := by
    simp [stepG.apply, q, hkind, GStep.after, G]
  refine ⟨_, w1, _, c, hstep, rfl, ⟨.refl _ _ _, fun _ h => .inl h, fun _ _ h => .inl h, fun _ _ h => h, fun x hx => ?_, fun _ h => .inl h, fun _ h => .inl h, fun _ h => h, rfl, rfl, rfl⟩, ?_⟩
  · rcases ev x (mem_seen hx) with h | h
    · simp at h
    · exact h
  refine h main Stop fr cs c w1 _ l lr (by simp only [Array.toList_map]; exact VRL_map hρ _) h3'.hp htodo hat fun e h' c' w' q hH hx ho1 ho2 => ?_
  cases e with
  | ret v =>
    intro V hV
    have hfin : fr.finish V = at' b (putV tmps o.dst V) ds (.inRegion ops rest :: k) := by rw [← hfr, finish_at', ho]; rfl
    rw [hfin]
    exact q main Stop b k cs base c' w' _ ds h1 h2 ⟨(h3.sl.ext hx).put o.dst hV, h3.df.ext hx, hH, h3.gh.ext hx ho1 (by rw [ho2, htodo])⟩ fun e s' c2 w2 t2 d2 q r2 y => h4 e s' c2 w2 t2 d2 q r2 ((hx.toT _).transT y)
  | panic v =>
    intro V hV
    have hra : fr.raise [{ v := V, recovered := false }] = { at' b tmps ds (.inRegion ops (i :: rest) :: k) with mode := .panicking [{ v := V, recovered := false }] } := by rw [← hfr]; rfl
    rw [hra]
    exact h4 (.panic v) _ c' w' tmps ds q ⟨h3.sl.ext hx, h3.df.ext hx, hH, h3.gh.ext hx ho1 (by rw [ho2, htodo])⟩ (hx.toT _) V _ hV
end
end Go.Mac

/- A part of the logic and of the contracts of the functions that the statement reaches; the statement itself is proved in the last text. -/
import Derived.Test.YtdioclckllbhpaaGreatLibMacC

set_option linter.all false
set_option linter.unusedVariables false
set_option linter.unusedSimpArgs false
set_option linter.unnecessarySimpa false
namespace Go.Mac
open Go Go.Conc
structure TurnOk (c c' : Cx) (n0 : Nat) : Prop where
  ext : Ext c c'
  mine : ∀ b, c'.mine b → c.mine b ∨ n0 ≤ b
  imm : ∀ b o, c'.imm b = some o → c.imm b = some o ∨ c.mine b ∨ n0 ≤ b
  com : c'.com = c.com
theorem TurnOk.refl (c : Cx) (n0 : Nat) : TurnOk c c n0 := ⟨.refl c, fun _ h => .inl h, fun _ _ h => .inl h, rfl⟩
def givenBy : Next → Option Value
  | .value v => some v
  | .skip => some undef
  | _ => none
def OpOk (P : Program) (s : Sem Next) (K : AV → List Blk → Prop) (c : Cx) (w : World) : Prop :=
  Ok P c w.heap.size s w fun r => ∃ nx V w' c' v h', r = .ok nx w' ∧ givenBy nx = some V ∧ K v h' ∧ VR c' v V ∧ HR c' w' h' ∧ TurnOk c c' w.heap.size
def isDefer : Op → Bool
  | .defer _ => true
  | _ => false
def putA (sl : List AV) : Option Tmp → AV → List AV
  | some d, v => sl.set d v
  | none, _ => sl
def putV (tmps : Array Value) : Option Tmp → Value → Array Value
  | some d, v => tmps.setIfInBounds d v
  | none, _ => tmps
theorem VRL.put {c : Cx} {sl : List AV} {tmps : Array Value} (h : VRL c sl tmps.toList) (dst : Option Tmp) {v : AV} {V : Value} (hv : VR c v V) : VRL c (putA sl dst v) (putV tmps dst V).toList := by
  cases dst with
  | none => exact h
  | some d => simp only [putA, putV, Array.toList_setIfInBounds]; exact h.set d hv
theorem finish_at' (b : Frame) (tmps : Array Value) (ds : List Deferred) (ops : Array Oper) (i : Nat) (rest : List Nat) (k : List Item) (v : Value) :
    (at' b tmps ds (.inRegion ops (i :: rest) :: k)).finish v = at' b (putV tmps ((ops[i]?).bind (·.dst)) v) ds (.inRegion ops rest :: k) := by
  cases h : (ops[i]?).bind (·.dst) <;> simp [Frame.finish, at', putV, h]
theorem stepG_opA {P : Program} {main : Bool} {b : Frame} {tmps : Array Value} {ds : List Deferred} {ops : Array Oper} {i : Nat} {rest : List Nat} {k : List Item} {cs : List Frame} {w : World} {o : Oper}
    (ho : ops[i]? = some o) (hw : Region.wanted o (yielded ops tmps) = true) (hd : isDefer o.op = false) :
    stepG P main (G (at' b tmps ds (.inRegion ops (i :: rest) :: k)) cs) w =
      stepG.apply P true (at' b tmps ds (.inRegion ops (i :: rest) :: k)) cs none (execOp (at' b tmps ds (.inRegion ops (i :: rest) :: k)).eval o) w := by
  simp only [G, stepG, at', stepG.exec, ho, Option.map_some, hw, Option.getD_some, if_true, stepG.oper, Frame.oper?]
  cases hr : b.roundOf with
  | none => rfl
  | some l => cases hop : o.op <;> first | rfl | (rw [hop] at hd; cases hd)
theorem stepG_skipped {P : Program} {main : Bool} {b : Frame} {tmps : Array Value} {ds : List Deferred} {ops : Array Oper} {i : Nat} {rest : List Nat} {k : List Item} {cs : List Frame} {w : World} {o : Oper}
    (ho : ops[i]? = some o) (hw : Region.wanted o (yielded ops tmps) = false) :
    stepG P main (G (at' b tmps ds (.inRegion ops (i :: rest) :: k)) cs) w = .go (G (at' b (putV tmps o.dst undef) ds (.inRegion ops rest :: k)) cs) w #[] := by
  have hf := finish_at' b tmps ds ops i rest k undef
  rw [ho] at hf
  simp only [Option.bind_some] at hf
  rw [← hf]
  simp [G, stepG, at', stepG.exec, ho, hw]
section
variable {P : Program} {fn : FK} {Q : AExit → AS → Prop} {s : AS} {ops : Array Oper} {i : Nat} {rest : List Nat} {o : Oper}
theorem WPI.op (ho : ops[i]? = some o) (hw : ∀ c tmps, VRL c s.sl tmps.toList → Region.wanted o (yielded ops tmps) = true) (hd : isDefer o.op = false) (K : AV → List Blk → Prop)
    (hop : ∀ (c : Cx) (w : World) (ρ : Operand → Value), (∀ x, VR c (evA s.sl x) (ρ x)) → HR c w s.hp → OpOk P (execOp ρ o) K c w)
    (hk : ∀ v h', K v h' → WPI P fn [.inRegion ops rest] Q { s with sl := putA s.sl o.dst v, hp := h' }) : WPI P fn [.inRegion ops (i :: rest)] Q s := by
  intro main Stop b k cs base c w tmps ds h1 h2 h3 h4
  refine Go'.of_step rfl fun w1 r => ?_
  have h3' := h3.rely r
  rw [List.singleton_append, stepG_opA ho (hw c tmps h3.sl) hd]
  generalize hfr : at' b tmps ds (.inRegion ops (i :: rest) :: k) = fr
  have hρ : ∀ x, VR c (evA s.sl x) (fr.eval x) := fun x => by rw [← hfr]; exact VR_evA h3.sl b ds _ x
  obtain ⟨⟨nx, V, w', c', v, h', e, hv, hK, hV, hH, hT⟩, ev, kp⟩ := Ok.spec #[] (hop c w1 fr.eval hρ h3'.hp) (Nat.le_refl _)
  rw [e] at kp ev
  have hkind : (fr.kind == CallKind.early) = false := by rw [← hfr]; simpa [at'] using h2
  have hfin : fr.finish V = at' b (putV tmps o.dst V) ds (.inRegion ops rest :: k) := by rw [← hfr, finish_at', ho]; rfl
  have hstep : stepG.apply P true fr cs none (execOp fr.eval o) w1 = .go (G (at' b (putV tmps o.dst V) ds (.inRegion ops rest :: k)) cs) w' (seen P fr.fn ((execOp fr.eval o).events P w1 #[])) := by
    rw [← hfin]
    cases nx <;> simp only [givenBy, Option.some.injEq, reduceCtorEq] at hv
    · subst hv; simp [stepG.apply, e, hkind, GStep.after, G]
    · subst hv; simp [stepG.apply, e, hkind, GStep.after, G]
  refine ⟨_, w', _, c', hstep, rfl, ⟨kp, hT.mine, hT.imm, hT.ext.imm, fun x hx => ?_, fun b hb => .inr (hH.low hb), fun r hr => .inl (by rw [hT.com] at hr; exact hr), fun r hr => by rw [hT.com]; exact hr, by rw [hT.com], by rw [hT.com], by rw [hT.com]⟩, ?_⟩
  · rcases ev x (mem_seen hx) with h | h
    · simp at h
    · exact h
  · refine hk v h' hK main Stop b k cs base c' w' _ ds h1 h2 ⟨(h3.sl.ext hT.ext).put o.dst hV, h3.df.ext hT.ext, hH, h3.gh.ext hT.ext (by rw [hT.com]) (by rw [hT.com])⟩ fun e s' c2 w2 t2 d2 q r2 y => h4 e s' c2 w2 t2 d2 q r2 ((hT.ext.toT _).transT y)
theorem WPI.op0 (ho : ops[i]? = some o) (hg : o.guard = none) (hd : isDefer o.op = false) (K : AV → List Blk → Prop)
    (hop : ∀ (c : Cx) (w : World) (ρ : Operand → Value), (∀ x, VR c (evA s.sl x) (ρ x)) → HR c w s.hp → OpOk P (execOp ρ o) K c w)
    (hk : ∀ v h', K v h' → WPI P fn [.inRegion ops rest] Q { s with sl := putA s.sl o.dst v, hp := h' }) : WPI P fn [.inRegion ops (i :: rest)] Q s :=
  WPI.op ho (fun _ _ _ => by simp [Region.wanted, hg]) hd K hop hk
theorem yielded_of {c : Cx} {tmps : Array Value} {j d : Nat} {oj : Oper} {t : Bool} (h : VRL c s.sl tmps.toList) (hj : ops[j]? = some oj) (hjd : oj.dst = some d) (ht : s.sl[d]? = some (.bool t)) : yielded ops tmps j = some t := by
  obtain ⟨v, hv, hr⟩ := h.get ht
  have hv' : tmps[d]? = some v := by simpa using hv
  have : v = .bool t := hr
  subst this
  simp [yielded, hj, hjd, hv']
theorem WPI.op_out (ho : ops[i]? = some o) {j d : Nat} {want t : Bool} {oj : Oper} (hg : o.guard = some (j, want)) (hj : ops[j]? = some oj) (hjd : oj.dst = some d) (ht : s.sl[d]? = some (.bool t)) (hne : t ≠ want)
    (hk : WPI P fn [.inRegion ops rest] Q { s with sl := putA s.sl o.dst (.tup []) }) : WPI P fn [.inRegion ops (i :: rest)] Q s := by
  intro main Stop b k cs base c w tmps ds h1 h2 h3 h4
  have hw : Region.wanted o (yielded ops tmps) = false := by
    simp only [Region.wanted, hg, yielded_of h3.sl hj hjd ht]
    cases t <;> cases want <;> simp_all
  refine Go'.idle rfl rfl (fun w1 => stepG_skipped ho hw) ?_
  exact hk main Stop b k cs base c w _ ds h1 h2 ⟨h3.sl.put o.dst ⟨[], rfl, rfl⟩, h3.df, h3.hp, h3.gh⟩ h4
theorem WPI.op_none (ho : ops[i]? = some o) {j d : Nat} {want : Bool} {oj : Oper} (hg : o.guard = some (j, want)) (hj : ops[j]? = some oj) (hjd : oj.dst = some d) (ht : s.sl[d]? = some (.tup []))
    (hk : WPI P fn [.inRegion ops rest] Q { s with sl := putA s.sl o.dst (.tup []) }) : WPI P fn [.inRegion ops (i :: rest)] Q s := by
  intro main Stop b k cs base c w tmps ds h1 h2 h3 h4
  have hw : Region.wanted o (yielded ops tmps) = false := by
    obtain ⟨v, hv, hr⟩ := h3.sl.get ht
    have hv' : tmps[d]? = some v := by simpa using hv
    obtain ⟨l, rfl, _⟩ := hr
    simp [Region.wanted, hg, yielded, hj, hjd, hv']
  refine Go'.idle rfl rfl (fun w1 => stepG_skipped ho hw) ?_
  exact hk main Stop b k cs base c w _ ds h1 h2 ⟨h3.sl.put o.dst ⟨[], rfl, rfl⟩, h3.df, h3.hp, h3.gh⟩ h4
theorem WPI.op_in (ho : ops[i]? = some o) {j d : Nat} {want t : Bool} {oj : Oper} (hg : o.guard = some (j, want)) (hj : ops[j]? = some oj) (hjd : oj.dst = some d) (ht : s.sl[d]? = some (.bool t)) (he : t = want)
    (hd : isDefer o.op = false) (K : AV → List Blk → Prop)
    (hop : ∀ (c : Cx) (w : World) (ρ : Operand → Value), (∀ x, VR c (evA s.sl x) (ρ x)) → HR c w s.hp → OpOk P (execOp ρ o) K c w)
    (hk : ∀ v h', K v h' → WPI P fn [.inRegion ops rest] Q { s with sl := putA s.sl o.dst v, hp := h' }) : WPI P fn [.inRegion ops (i :: rest)] Q s :=
  WPI.op ho (fun c tmps h => by simp [Region.wanted, hg, yielded_of h hj hjd ht, he]) hd K hop hk
end
end Go.Mac

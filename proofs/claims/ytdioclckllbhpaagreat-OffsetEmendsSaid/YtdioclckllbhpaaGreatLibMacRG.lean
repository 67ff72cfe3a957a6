/- A part of the logic and of the contracts of the functions that the statement reaches; the statement itself is proved in the last text. -/
import Derived.Test.YtdioclckllbhpaaGreatLibMacRF

set_option linter.all false
set_option linter.unusedVariables false
set_option linter.unusedSimpArgs false
set_option linter.unnecessarySimpa false
namespace Go.Mac
open Go Go.Conc
section
variable {P : Program} {fk : FK} {Q : AExit → AS → Prop} {s : AS}
def jumpQ (Q : AExit → AS → Prop) : Option Code → AS → Prop
  | none, s => Q .normal s
  | some (.exit id), s => Q (.exit id) s
  | some (.goto l), s => Q (.goto l) s
  | some .ret, s => Q .ret s
  | _, _ => False
def rangeQ (Q : AExit → AS → Prop) (s : AS) : AEnd → List Blk → Prop
  | .ret _, h' => ∃ st pend fn sl ps a b, h'[s.hp.length + 1]? = some (.loop st pend fn sl ps a b) ∧ st ≠ .busy ∧ jumpQ Q pend { s with df := .mark ⟨s.hp.length, 0⟩ :: s.df, hp := h'.set (s.hp.length + 1) .dead }
  | .panic v, h' => Q (.panic v) { s with df := .mark ⟨s.hp.length, 0⟩ :: s.df, hp := h' }
theorem WP.rangeFunc {f : Operand} {params : Array Tmp} {assign body : Code} {g : FuncId} {first cap : List AV} (hrnd : fk.rnd = false) (hf : evA s.sl f = .fn (.func g) first cap) (hc : callable P g) (hgt : s.gh.todo = [])
    (h : CallsA P g (first ++ [.yield ⟨s.hp.length + 1, 0⟩] ++ cap) (s.hp ++ [.defd, .loop .ready none fk.fn s.sl params assign body]) (rangeQ Q s)) : WP P fk (.rangeFunc f params assign body) Q s := by
  intro main Stop b k cs base c w tmps ds h1 h2 h3 h4
  refine Go'.of_step rfl fun w1 r => ?_
  have h3' := h3.rely r
  have hro : b.roundOf = none := h1.2 hrnd
  have htodo : c.com.todo = [] := by have := h3.gh.todo; rw [hgt] at this; exact this
  have hlen := h3.hp.len
  let w2 := w1.alloc (.deferred (some []))
  let lp : Loop := { state := .ready, pending := none, fn := b.fn, tmps := tmps, params, assign, body, defers := w1.heap.size }
  let w3 := w2.alloc (.loop lp)
  have hokE : Ok P c w1.heap.size (Instr.enterLoop b.fn tmps params assign body b.roundOf) w1 (fun q => q = .ok (w1.heap.size + 1, [{ target := .collected w1.heap.size, args := #[] }]) w3) := by
    rw [hro]
    unfold Instr.enterLoop
    have hs : w2.heap.size = w1.heap.size + 1 := by simp [w2]
    show Ok P c w1.heap.size (Sem.pure (w2.heap.size, [({ target := .collected w1.heap.size, args := #[] } : Deferred)])) w3 (fun q => q = .ok (w1.heap.size + 1, [({ target := .collected w1.heap.size, args := #[] } : Deferred)]) w3)
    rw [hs]
    rfl
  obtain ⟨qE, evE, kpE⟩ := Ok.spec #[] hokE (Nat.le_refl _)
  rw [qE] at evE kpE
  let c2 := c.new w1 0
  let c3 := c2.new w2 0
  have x2 : Ext c c2 := .new c w1 0
  have x3 : Ext c2 c3 := .new c2 w2 0
  have hH2 : HR c2 w2 (s.hp ++ [.defd]) := h3'.hp.new (.deferred (some [])) 0 ⟨rfl, w1.heap.size, 0, rfl, .inr rfl, heap_alloc_self _ _⟩
  have hs2 : w2.heap.size = w1.heap.size + 1 := by simp [w2]
  have hH3 : HR c3 w3 (s.hp ++ [.defd] ++ [.loop .ready none fk.fn s.sl params assign body]) :=
    hH2.new (.loop lp) 0 ⟨rfl, w2.heap.size, 0, tmps, w1.heap.size, rfl, .inr rfl, by rw [heap_alloc_self]; simp only [lp, h1.1], (h3.sl.ext x2).ext x3⟩
  rw [List.append_assoc] at hH3
  obtain ⟨fnd, hgf, hname, hbody⟩ := hc
  have hfx : VR c (evA s.sl f) ((at' b tmps ds (.inRangeFunc (w1.heap.size + 1) :: k)).eval f) := VR_evA h3.sl b ds _ f
  rw [hf] at hfx
  obtain ⟨L1, L2, hF, hL1, hL2⟩ := hfx
  have hrun : (do let d ← resolve (at' b tmps (({ target := .collected w1.heap.size, args := #[] } : Deferred) :: ds) (.inRangeFunc (w1.heap.size + 1) :: k)).eval { callee := .value f, args := #[.const (.func (.yield (w1.heap.size + 1)) #[] #[])], argTypes := #[] } 0; invoke d.target d.args : Sem Next).runT P w3 #[] =
      (.ok (.enter g (L1.toArray ++ #[Value.func (.yield (w1.heap.size + 1)) #[] #[]] ++ L2.toArray)) w3, #[]) := by
    have hF' : (at' b tmps (({ target := .collected w1.heap.size, args := #[] } : Deferred) :: ds) (.inRangeFunc (w1.heap.size + 1) :: k)).eval f = .func (.func g) L1.toArray L2.toArray := by rw [← hF]; cases f <;> rfl
    simp only [resolve, hF', Deferred.ofValue]
    simp only [List.map_toArray, List.map_cons, List.map_nil, Frame.eval]
    show ((callFunc g (L1.toArray ++ #[Value.func (.yield (w1.heap.size + 1)) #[] #[]] ++ L2.toArray))).runT P w3 #[] = _
    unfold callFunc
    show Sem.runT P (match P.funcs[g]? with
      | none => _
      | some fn => _) w3 #[] = _
    rw [hgf]
    have hbn : fnd.body.isNone = false := by cases hb : fnd.body <;> simp_all
    simp only [hname, Bool.false_eq_true, if_false, hbn]
    rfl
  have hst : stepG P main (G (at' b tmps ds ([.code (.rangeFunc f params assign body)] ++ k)) cs) w1 =
      .go (G (Frame.enter P g (L1.toArray ++ #[Value.func (.yield (w1.heap.size + 1)) #[] #[]] ++ L2.toArray) .normal) (at' b tmps (({ target := .collected w1.heap.size, args := #[] } : Deferred) :: ds) (.inRangeFunc (w1.heap.size + 1) :: k) :: cs)) w3
        (seen P b.fn ((Instr.enterLoop b.fn tmps params assign body b.roundOf).events P w1 #[]) ++ seen P b.fn #[]) := by
    have hk : (b.kind == CallKind.early) = false := by simpa using h2
    generalize hfr : at' b tmps (({ target := .collected w1.heap.size, args := #[] } : Deferred) :: ds) (.inRangeFunc (w1.heap.size + 1) :: k) = fr
    rw [hfr] at hrun
    have hap : stepG.apply P true fr cs none (do let d ← resolve fr.eval { callee := .value f, args := #[.const (.func (.yield (w1.heap.size + 1)) #[] #[])], argTypes := #[] } 0; invoke d.target d.args) w3 =
        .go (G (Frame.enter P g (L1.toArray ++ #[Value.func (.yield (w1.heap.size + 1)) #[] #[]] ++ L2.toArray) .normal) (fr :: cs)) w3 (seen P b.fn #[]) := by
      have hkf : (fr.kind == CallKind.early) = false := by rw [← hfr]; exact hk
      have htd : fr.todo = .inRangeFunc (w1.heap.size + 1) :: k := by rw [← hfr]; rfl
      have hfn : fr.fn = b.fn := by rw [← hfr]; rfl
      simp only [stepG.apply, if_true, hrun, hkf, htd, hfn, GStep.after, G, Bool.false_eq_true, if_false]
      simp
    have hstepG : stepG P main (G (at' b tmps ds ([.code (.rangeFunc f params assign body)] ++ k)) cs) w1 =
        (let (r, es) := (Instr.enterLoop b.fn tmps params assign body b.roundOf).runT P w1 #[]
        GStep.after (seen P b.fn es) <| match r with
        | .ok (l, mark) w =>
          let fr := { at' b tmps ds ([.code (.rangeFunc f params assign body)] ++ k) with todo := .inRangeFunc l :: k, defers := mark ++ ds }
          let call : Call := { callee := .value f, args := #[.const (.func (.yield l) #[] #[])], argTypes := #[] }
          stepG.apply P true fr cs none (do let d ← resolve fr.eval call 0; invoke d.target d.args) w
        | .halt _ w => .ended (.stuck "range over a function: no such loop" ((at' b tmps ds ([.code (.rangeFunc f params assign body)] ++ k)).pos P)) w) := rfl
    rw [hstepG]
    simp only [Sem.runT_eq, qE]
    have hfr2 : ({ at' b tmps ds ([.code (.rangeFunc f params assign body)] ++ k) with todo := .inRangeFunc (w1.heap.size + 1) :: k, defers := [({ target := .collected w1.heap.size, args := #[] } : Deferred)] ++ ds } : Frame) = fr := by rw [← hfr]; rfl
    rw [hfr2, hap]
    rfl
  refine ⟨_, w3, _, c3, hst, rfl, ⟨kpE, ?_, ?_, ?_, ?_, fun b hb => .inr (hH3.low hb), fun r hr => .inl hr, fun r hr => hr, rfl, rfl, rfl⟩, ?_⟩
  · rintro b ((h | h) | h)
    · exact .inl h
    · exact .inr (by rw [h]; exact Nat.le_refl _)
    · exact .inr (by rw [h, hs2]; omega)
  · exact fun b o h => .inl h
  · exact fun b o h => h
  · intro x hx
    have e0 : seen P b.fn #[] = #[] := by simp [seen]
    rw [e0, Array.append_empty] at hx
    rcases evE x (mem_seen hx) with h | h
    · simp at h
    · exact h
  have hy : VR c3 (.yield ⟨s.hp.length + 1, 0⟩) (.func (.yield (w1.heap.size + 1)) #[] #[]) := by
    refine ⟨⟨_, rfl⟩, ⟨0, some (w2.heap.size, 0)⟩, ?_, Nat.le_refl _, fun _ => ⟨w2.heap.size, 0, rfl, by rw [hs2]⟩⟩
    show ((c.own ++ [_]) ++ [_])[s.hp.length + 1]? = _
    rw [List.getElem?_append_right (by simp [hlen]), hlen]
    simp
  have hargs : VRL c3 (first ++ [.yield ⟨s.hp.length + 1, 0⟩] ++ cap) (L1.toArray ++ #[Value.func (.yield (w1.heap.size + 1)) #[] #[]] ++ L2.toArray).toList := by
    simp only [Array.toList_append]
    exact (((hL1.ext x2).ext x3).append (bs := [.yield ⟨s.hp.length + 1, 0⟩]) (m := [Value.func (.yield (w1.heap.size + 1)) #[] #[]]) ⟨_, _, rfl, hy, rfl⟩).append ((hL2.ext x2).ext x3)
  refine h main Stop (at' b tmps (({ target := .collected w1.heap.size, args := #[] } : Deferred) :: ds) (.inRangeFunc (w1.heap.size + 1) :: k) :: cs) c3 w3 _ .normal (by simp) hargs hH3 htodo fun e h' c' w' fr' q hH hx ho1 ho2 he => ?_
  have xc : Ext c c' := (x2.trans x3).trans hx
  have hmark : DR c' (.mark ⟨s.hp.length, 0⟩) { target := .collected w1.heap.size, args := #[] } := by
    have hn : c3.own[s.hp.length]? = some ⟨0, some (w1.heap.size, 0)⟩ := by
      show ((c.own ++ [_]) ++ [_])[s.hp.length]? = _
      rw [List.getElem?_append_left (by simp [hlen]), hlen]
      simp
    have hx' : c3.At ⟨s.hp.length, 0⟩ fun S => ∃ b k, S = some (b, k) ∧ ({ target := .collected w1.heap.size, args := #[] } : Deferred) = { target := .collected b, args := #[] } := ⟨_, hn, Nat.le_refl _, fun _ => ⟨_, _, rfl, rfl⟩⟩
    exact hx'.ext hx
  have hsr : SR base c' w' { s with df := .mark ⟨s.hp.length, 0⟩ :: s.df, hp := h' } tmps (({ target := .collected w1.heap.size, args := #[] } : Deferred) :: ds) :=
    ⟨h3.sl.ext xc, ⟨_, _, rfl, hmark, h3.df.ext xc⟩, hH, h3.gh.ext xc (by rw [ho1]; rfl) (by rw [ho2, htodo])⟩
  cases e with
  | panic v =>
    obtain ⟨e1, e2, e3, fn', V, e4, hV, e5⟩ := he
    have hst : ∀ w2, stepG P main (G fr' (at' b tmps (({ target := .collected w1.heap.size, args := #[] } : Deferred) :: ds) (.inRangeFunc (w1.heap.size + 1) :: k) :: cs)) w2 =
        .go (G { at' b tmps (({ target := .collected w1.heap.size, args := #[] } : Deferred) :: ds) (.inRangeFunc (w1.heap.size + 1) :: k) with mode := .panicking [{ v := V, recovered := false }] } cs) w2 #[] := by
      intro w2
      have hc : fr'.catches P = false := by simp [Frame.catches, e1, e4]
      simp [G, stepG, unwind, e3, e5, hc, Frame.raise, at']
    exact Go'.idle rfl rfl hst (h4 (.panic v) _ c' w' tmps _ q hsr (xc.toT _) V _ hV)
  | ret v =>
    obtain ⟨e1, e2, e3, e4, fn', V, e5, hV, hok⟩ := he
    obtain ⟨st, pend, fn, sl, ps, a, bb, hb, hne, hj⟩ := q
    refine Go'.of_step rfl fun w4 r4 => ?_
    obtain ⟨h5, h6, _⟩ := Ok.spec #[] (hok w4 r4) (Nat.le_refl _)
    rw [h5] at h6
    have hst4 : stepG P main (G fr' (at' b tmps (({ target := .collected w1.heap.size, args := #[] } : Deferred) :: ds) (.inRangeFunc (w1.heap.size + 1) :: k) :: cs)) w4 =
        .go (G (at' b tmps (({ target := .collected w1.heap.size, args := #[] } : Deferred) :: ds) (.endRangeFunc (w1.heap.size + 1) :: k)) cs) w4 (seen P fr'.fn ((results fn' fr'.tmps).events P w4 #[])) := by
      simp [G, stepG, unwind, doReturn, e1, e2, e3, e4, e5, h5, GStep.after, Frame.finish, at']
    refine ⟨_, w4, _, c', hst4, rfl, ⟨.refl _ _ _, fun _ h => .inl h, fun _ _ h => .inl h, fun _ _ h => h, fun x hx' => ?_, fun _ h => .inl h, fun _ h => .inl h, fun _ h => h, rfl, rfl, rfl⟩, ?_⟩
    · rcases h6 x (mem_seen hx') with h | h
      · simp at h
      · exact h
    refine Go'.of_step rfl fun w5 r5 => ?_
    have hH5 := (hH.rely r4).rely r5
    obtain ⟨l, lr, hat, g1, g2, g3, g4, g5, g6, g7⟩ := hH5.loopAt (n := ⟨s.hp.length + 1, 0⟩) hb rfl
    have hl : l = w1.heap.size + 1 := by
      obtain ⟨_, ⟨e, k', he, hge, hse⟩, _⟩ := hat
      have hn : c3.own[s.hp.length + 1]? = some ⟨0, some (w2.heap.size, 0)⟩ := by
        show ((c.own ++ [_]) ++ [_])[s.hp.length + 1]? = _
        rw [List.getElem?_append_right (by simp [hlen]), hlen]
        simp
      obtain ⟨e', he', _, hS⟩ := hx.own _ _ hn
      rw [he] at he'
      cases he'
      have := hS hge.symm
      rw [hse] at this
      cases this
      exact hs2
    subst hl
    have hokL : Ok P c' w5.heap.size (Instr.endLoop (w1.heap.size + 1)) w5 (fun q => q = .ok pend { w5 with heap := w5.heap.setIfInBounds (w1.heap.size + 1) (.loop { lr with state := .exhausted }) }) := by
      unfold Instr.endLoop Instr.getLoop
      refine Ok.then (a := lr) ?_ ?_
      · refine Ok.then (a := .loop lr) ⟨.inl hat.2.2.1, .loop lr, hat.2.2.2, trivial, rfl, rfl⟩ ?_
        exact ok_pure rfl
      · have hbz : (lr.state == LoopState.busy) = false := by rw [g1]; cases st <;> first | rfl | exact absurd rfl hne
        simp only [hbz, Bool.false_eq_true, if_false]
        refine Ok.then' (R := fun _ w' => w' = { w5 with heap := w5.heap.setIfInBounds (w1.heap.size + 1) (.loop { lr with state := .exhausted }) }) ⟨.inl hat.2.2.1, rfl, ⟨.loop lr, hat.2.2.2, trivial⟩, ⟨_, _, rfl, rfl⟩⟩ fun _ w' e => ?_
        subst e
        rw [g2]
        exact ok_pure rfl
    obtain ⟨qL, evL, kpL⟩ := Ok.spec #[] hokL (Nat.le_refl _)
    rw [qL] at evL kpL
    have hst5 : stepG P main (G (at' b tmps (({ target := .collected w1.heap.size, args := #[] } : Deferred) :: ds) (.endRangeFunc (w1.heap.size + 1) :: k)) cs) w5 =
        .go (G (at' b tmps (({ target := .collected w1.heap.size, args := #[] } : Deferred) :: ds) ((pend.map Item.code).toList ++ k)) cs) { w5 with heap := w5.heap.setIfInBounds (w1.heap.size + 1) (.loop { lr with state := .exhausted }) } (seen P b.fn ((Instr.endLoop (w1.heap.size + 1)).events P w5 #[])) := by
      have hstepG : stepG P main (G (at' b tmps (({ target := .collected w1.heap.size, args := #[] } : Deferred) :: ds) (.endRangeFunc (w1.heap.size + 1) :: k)) cs) w5 =
        (let (r, es) := (Instr.endLoop (w1.heap.size + 1)).runT P w5 #[]
        GStep.after (seen P b.fn es) <| match r with
        | .ok jump w => .go (G { at' b tmps (({ target := .collected w1.heap.size, args := #[] } : Deferred) :: ds) (.endRangeFunc (w1.heap.size + 1) :: k) with todo := (jump.map Item.code).toList ++ k } cs) w
        | .halt (.panic v) w => .go (G ((at' b tmps (({ target := .collected w1.heap.size, args := #[] } : Deferred) :: ds) (.endRangeFunc (w1.heap.size + 1) :: k)).raise [{ v, recovered := false }]) cs) w
        | .halt _ w => .ended (.stuck "range over a function: no such loop" ((at' b tmps (({ target := .collected w1.heap.size, args := #[] } : Deferred) :: ds) (.endRangeFunc (w1.heap.size + 1) :: k)).pos P)) w) := rfl
      rw [hstepG]
      simp only [Sem.runT_eq, qL, GStep.after]
      simp [at']
    have hHs := hH5.loopSet (st' := .exhausted) (pend' := pend) (r' := { lr with state := .exhausted }) hat hb (by rw [← g2]) ⟨g3, g4, g5, g6, g7⟩
    have hHd := hHs.forget (s.hp.length + 1)
    rw [List.set_set] at hHd
    refine ⟨_, _, _, c', hst5, rfl, ⟨kpL, fun _ h => .inl h, fun _ _ h => .inl h, fun _ _ h => h, fun x hx' => ?_, fun _ h => .inl h, fun _ h => .inl h, fun _ h => h, rfl, rfl, rfl⟩, ?_⟩
    · rcases evL x (mem_seen hx') with h | h
      · simp at h
      · exact h
    have hsr5 : SR base c' { w5 with heap := w5.heap.setIfInBounds (w1.heap.size + 1) (.loop { lr with state := .exhausted }) } { s with df := .mark ⟨s.hp.length, 0⟩ :: s.df, hp := h'.set (s.hp.length + 1) .dead } tmps (({ target := .collected w1.heap.size, args := #[] } : Deferred) :: ds) :=
      ⟨hsr.sl, hsr.df, hHd, hsr.gh⟩
    cases pend with
    | none => exact h4 .normal _ c' _ tmps _ hj hsr5 (xc.toT _)
    | some cd =>
      cases cd with
      | exit id => exact h4 (.exit id) _ c' _ tmps _ hj hsr5 (xc.toT _) k rfl
      | goto lb => exact h4 (.goto lb) _ c' _ tmps _ hj hsr5 (xc.toT _) k rfl
      | ret => exact h4 .ret _ c' _ tmps _ hj hsr5 (xc.toT _) k
      | _ => exact hj.elim
end
end Go.Mac

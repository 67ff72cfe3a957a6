/- Part 3 of the logic and of the contracts of the functions that the statement reaches; the statement itself is proved in the last text. -/
import Derived.Conc.Quits
import Derived.Conc.Events
import Derived.Attr
import Derived.Test.YtdioclckllbhpaaProg
import Derived.KernelRfl
import Derived.Laws.RangeString
import Derived.Laws.RangeAny
import Derived.Test.YtdioclckllbhpaaLib2

/-! MacRG -/
/- MacRG: a loop over a function by its iterator; the marks that such loops leave among the deferred calls; a deferred call that recovers. No program is in sight. -/
namespace Go.Mac
open Go Go.Conc

section
variable {P : Program} {fk : FK} {Q : AExit → AS → Prop} {s : AS}

/-- Where a loop that has been left goes on. -/
def jumpQ (Q : AExit → AS → Prop) : Option Code → AS → Prop
  | none, s => Q .normal s
  | some (.exit id), s => Q (.exit id) s
  | some (.goto l), s => Q (.goto l) s
  | some .ret, s => Q .ret s
  | _, _ => False

/-- What is asked behind the iterator's end. -/
def rangeQ (Q : AExit → AS → Prop) (s : AS) : AEnd → List Blk → Prop
  | .ret _, h' => ∃ st pend fn sl ps a b, h'[s.hp.length + 1]? = some (.loop st pend fn sl ps a b) ∧ st ≠ .busy ∧ jumpQ Q pend { s with df := .mark ⟨s.hp.length, 0⟩ :: s.df, hp := h'.set (s.hp.length + 1) .dead }
  | .panic v, h' => Q (.panic v) { s with df := .mark ⟨s.hp.length, 0⟩ :: s.df, hp := h' }

/-- ████ A loop over a function. ████ -/
theorem WP.rangeFunc {f : Operand} {params : Array Tmp} {assign body : Code} {g : FuncId} {first cap : List AV} (hrnd : fk.rnd = false) (hf : evA s.sl f = .fn (.func g) first cap) (hc : callable P g) (hgt : s.gh.todo = [])
    (h : CallsA P g (first ++ [.yield ⟨s.hp.length + 1, 0⟩] ++ cap) (s.hp ++ [.defd, .loop .ready none fk.fn s.sl params assign body]) (rangeQ Q s)) : WP P fk (.rangeFunc f params assign body) Q s := by
  intro main Stop b k cs base c w tmps ds h1 h2 h3 h4
  refine Go'.of_step rfl fun w1 r => ?_
  have h3' := h3.rely r
  have hro : b.roundOf = none := h1.2 hrnd
  have htodo : c.com.todo = [] := by have := h3.gh.todo; rw [hgt] at this; exact this
  have hlen := h3.hp.len
  -- the two blocks
  let w2 := w1.alloc (.deferred (some []))
  let lp : Loop := { state := .ready, pending := none, fn := b.fn, tmps := tmps, params, assign, body, defers := w1.heap.size }
  let w3 := w2.alloc (.loop lp)
  have hokE : Ok P c w1.heap.size (Instr.enterLoop b.fn tmps params assign body b.roundOf) w1 (fun q => q = .ok (w1.heap.size + 1, [{ target := .collected w1.heap.size, args := #[] }]) w3) := by
    rw [hro]
    unfold Instr.enterLoop
    have hs : w2.heap.size = w1.heap.size + 1 := by simp [w2]
    show Ok P c w1.heap.size (Sem.pure (w2.heap.size, [({ target := .collected w1.heap.size, args := #[] } : Deferred)])) w3 (fun q => q = .ok (w1.heap.size + 1, [({ target := .collected w1.heap.size, args := #[] } : Deferred)]) w3)
    rw [hs]
    rfl
  obtain ⟨qE, evE, kpE⟩ := Ok.spec #[] hokE (Nat.le_refl _)
  rw [qE] at evE kpE
  let c2 := c.new w1 0
  let c3 := c2.new w2 0
  have x2 : Ext c c2 := .new c w1 0
  have x3 : Ext c2 c3 := .new c2 w2 0
  have hH2 : HR c2 w2 (s.hp ++ [.defd]) := h3'.hp.new (.deferred (some [])) 0 ⟨rfl, w1.heap.size, 0, rfl, .inr rfl, heap_alloc_self _ _⟩
  have hs2 : w2.heap.size = w1.heap.size + 1 := by simp [w2]
  have hH3 : HR c3 w3 (s.hp ++ [.defd] ++ [.loop .ready none fk.fn s.sl params assign body]) :=
    hH2.new (.loop lp) 0 ⟨rfl, w2.heap.size, 0, tmps, w1.heap.size, rfl, .inr rfl, by rw [heap_alloc_self]; simp only [lp, h1.1], (h3.sl.ext x2).ext x3⟩
  rw [List.append_assoc] at hH3
  -- the call
  obtain ⟨fnd, hgf, hname, hbody⟩ := hc
  have hfx : VR c (evA s.sl f) ((at' b tmps ds (.inRangeFunc (w1.heap.size + 1) :: k)).eval f) := VR_evA h3.sl b ds _ f
  rw [hf] at hfx
  obtain ⟨L1, L2, hF, hL1, hL2⟩ := hfx
  have hrun : (do let d ← resolve (at' b tmps (({ target := .collected w1.heap.size, args := #[] } : Deferred) :: ds) (.inRangeFunc (w1.heap.size + 1) :: k)).eval { callee := .value f, args := #[.const (.func (.yield (w1.heap.size + 1)) #[] #[])], argTypes := #[] } 0; invoke d.target d.args : Sem Next).runT P w3 #[] =
      (.ok (.enter g (L1.toArray ++ #[Value.func (.yield (w1.heap.size + 1)) #[] #[]] ++ L2.toArray)) w3, #[]) := by
    have hF' : (at' b tmps (({ target := .collected w1.heap.size, args := #[] } : Deferred) :: ds) (.inRangeFunc (w1.heap.size + 1) :: k)).eval f = .func (.func g) L1.toArray L2.toArray := by rw [← hF]; cases f <;> rfl
    simp only [resolve, hF', Deferred.ofValue]
    simp only [List.map_toArray, List.map_cons, List.map_nil, Frame.eval]
    show ((callFunc g (L1.toArray ++ #[Value.func (.yield (w1.heap.size + 1)) #[] #[]] ++ L2.toArray))).runT P w3 #[] = _
    unfold callFunc
    show Sem.runT P (match P.funcs[g]? with
      | none => _
      | some fn => _) w3 #[] = _
    rw [hgf]
    have hbn : fnd.body.isNone = false := by cases hb : fnd.body <;> simp_all
    simp only [hname, Bool.false_eq_true, if_false, hbn]
    rfl
  have hst : stepG P main (G (at' b tmps ds ([.code (.rangeFunc f params assign body)] ++ k)) cs) w1 =
      .go (G (Frame.enter P g (L1.toArray ++ #[Value.func (.yield (w1.heap.size + 1)) #[] #[]] ++ L2.toArray) .normal) (at' b tmps (({ target := .collected w1.heap.size, args := #[] } : Deferred) :: ds) (.inRangeFunc (w1.heap.size + 1) :: k) :: cs)) w3
        (seen P b.fn ((Instr.enterLoop b.fn tmps params assign body b.roundOf).events P w1 #[]) ++ seen P b.fn #[]) := by
    have hk : (b.kind == CallKind.early) = false := by simpa using h2
    generalize hfr : at' b tmps (({ target := .collected w1.heap.size, args := #[] } : Deferred) :: ds) (.inRangeFunc (w1.heap.size + 1) :: k) = fr
    rw [hfr] at hrun
    have hap : stepG.apply P true fr cs none (do let d ← resolve fr.eval { callee := .value f, args := #[.const (.func (.yield (w1.heap.size + 1)) #[] #[])], argTypes := #[] } 0; invoke d.target d.args) w3 =
        .go (G (Frame.enter P g (L1.toArray ++ #[Value.func (.yield (w1.heap.size + 1)) #[] #[]] ++ L2.toArray) .normal) (fr :: cs)) w3 (seen P b.fn #[]) := by
      have hkf : (fr.kind == CallKind.early) = false := by rw [← hfr]; exact hk
      have htd : fr.todo = .inRangeFunc (w1.heap.size + 1) :: k := by rw [← hfr]; rfl
      have hfn : fr.fn = b.fn := by rw [← hfr]; rfl
      simp only [stepG.apply, if_true, hrun, hkf, htd, hfn, GStep.after, G, Bool.false_eq_true, if_false]
      simp
    have hstepG : stepG P main (G (at' b tmps ds ([.code (.rangeFunc f params assign body)] ++ k)) cs) w1 =
        (let (r, es) := (Instr.enterLoop b.fn tmps params assign body b.roundOf).runT P w1 #[]
        GStep.after (seen P b.fn es) <| match r with
        | .ok (l, mark) w =>
          let fr := { at' b tmps ds ([.code (.rangeFunc f params assign body)] ++ k) with todo := .inRangeFunc l :: k, defers := mark ++ ds }
          let call : Call := { callee := .value f, args := #[.const (.func (.yield l) #[] #[])], argTypes := #[] }
          stepG.apply P true fr cs none (do let d ← resolve fr.eval call 0; invoke d.target d.args) w
        | .halt _ w => .ended (.stuck "range over a function: no such loop" ((at' b tmps ds ([.code (.rangeFunc f params assign body)] ++ k)).pos P)) w) := rfl
    rw [hstepG]
    simp only [Sem.runT_eq, qE]
    have hfr2 : ({ at' b tmps ds ([.code (.rangeFunc f params assign body)] ++ k) with todo := .inRangeFunc (w1.heap.size + 1) :: k, defers := [({ target := .collected w1.heap.size, args := #[] } : Deferred)] ++ ds } : Frame) = fr := by rw [← hfr]; rfl
    rw [hfr2, hap]
    rfl
  refine ⟨_, w3, _, c3, hst, rfl, ⟨kpE, ?_, ?_, ?_, ?_, fun b hb => .inr (hH3.low hb), fun r hr => .inl hr, fun r hr => hr, rfl, rfl, rfl⟩, ?_⟩
  · rintro b ((h | h) | h)
    · exact .inl h
    · exact .inr (by rw [h]; exact Nat.le_refl _)
    · exact .inr (by rw [h, hs2]; omega)
  · exact fun b o h => .inl h
  · exact fun b o h => h
  · intro x hx
    have e0 : seen P b.fn #[] = #[] := by simp [seen]
    rw [e0, Array.append_empty] at hx
    rcases evE x (mem_seen hx) with h | h
    · simp at h
    · exact h
  -- the iterator's run
  have hy : VR c3 (.yield ⟨s.hp.length + 1, 0⟩) (.func (.yield (w1.heap.size + 1)) #[] #[]) := by
    refine ⟨⟨_, rfl⟩, ⟨0, some (w2.heap.size, 0)⟩, ?_, Nat.le_refl _, fun _ => ⟨w2.heap.size, 0, rfl, by rw [hs2]⟩⟩
    show ((c.own ++ [_]) ++ [_])[s.hp.length + 1]? = _
    rw [List.getElem?_append_right (by simp [hlen]), hlen]
    simp
  have hargs : VRL c3 (first ++ [.yield ⟨s.hp.length + 1, 0⟩] ++ cap) (L1.toArray ++ #[Value.func (.yield (w1.heap.size + 1)) #[] #[]] ++ L2.toArray).toList := by
    simp only [Array.toList_append]
    exact (((hL1.ext x2).ext x3).append (bs := [.yield ⟨s.hp.length + 1, 0⟩]) (m := [Value.func (.yield (w1.heap.size + 1)) #[] #[]]) ⟨_, _, rfl, hy, rfl⟩).append ((hL2.ext x2).ext x3)
  refine h main Stop (at' b tmps (({ target := .collected w1.heap.size, args := #[] } : Deferred) :: ds) (.inRangeFunc (w1.heap.size + 1) :: k) :: cs) c3 w3 _ .normal (by simp) hargs hH3 htodo fun e h' c' w' fr' q hH hx ho1 ho2 he => ?_
  have xc : Ext c c' := (x2.trans x3).trans hx
  have hmark : DR c' (.mark ⟨s.hp.length, 0⟩) { target := .collected w1.heap.size, args := #[] } := by
    have hn : c3.own[s.hp.length]? = some ⟨0, some (w1.heap.size, 0)⟩ := by
      show ((c.own ++ [_]) ++ [_])[s.hp.length]? = _
      rw [List.getElem?_append_left (by simp [hlen]), hlen]
      simp
    have hx' : c3.At ⟨s.hp.length, 0⟩ fun S => ∃ b k, S = some (b, k) ∧ ({ target := .collected w1.heap.size, args := #[] } : Deferred) = { target := .collected b, args := #[] } := ⟨_, hn, Nat.le_refl _, fun _ => ⟨_, _, rfl, rfl⟩⟩
    exact hx'.ext hx
  have hsr : SR base c' w' { s with df := .mark ⟨s.hp.length, 0⟩ :: s.df, hp := h' } tmps (({ target := .collected w1.heap.size, args := #[] } : Deferred) :: ds) :=
    ⟨h3.sl.ext xc, ⟨_, _, rfl, hmark, h3.df.ext xc⟩, hH, h3.gh.ext xc (by rw [ho1]; rfl) (by rw [ho2, htodo])⟩
  cases e with
  | panic v =>
    obtain ⟨e1, e2, e3, fn', V, e4, hV, e5⟩ := he
    have hst : ∀ w2, stepG P main (G fr' (at' b tmps (({ target := .collected w1.heap.size, args := #[] } : Deferred) :: ds) (.inRangeFunc (w1.heap.size + 1) :: k) :: cs)) w2 =
        .go (G { at' b tmps (({ target := .collected w1.heap.size, args := #[] } : Deferred) :: ds) (.inRangeFunc (w1.heap.size + 1) :: k) with mode := .panicking [{ v := V, recovered := false }] } cs) w2 #[] := by
      intro w2
      have hc : fr'.catches P = false := by simp [Frame.catches, e1, e4]
      simp [G, stepG, unwind, e3, e5, hc, Frame.raise, at']
    exact Go'.idle rfl rfl hst (h4 (.panic v) _ c' w' tmps _ q hsr (xc.toT _) V _ hV)
  | ret v =>
    obtain ⟨e1, e2, e3, e4, fn', V, e5, hV, hok⟩ := he
    obtain ⟨st, pend, fn, sl, ps, a, bb, hb, hne, hj⟩ := q
    -- the return to the loop
    refine Go'.of_step rfl fun w4 r4 => ?_
    obtain ⟨h5, h6, _⟩ := Ok.spec #[] (hok w4 r4) (Nat.le_refl _)
    rw [h5] at h6
    have hst4 : stepG P main (G fr' (at' b tmps (({ target := .collected w1.heap.size, args := #[] } : Deferred) :: ds) (.inRangeFunc (w1.heap.size + 1) :: k) :: cs)) w4 =
        .go (G (at' b tmps (({ target := .collected w1.heap.size, args := #[] } : Deferred) :: ds) (.endRangeFunc (w1.heap.size + 1) :: k)) cs) w4 (seen P fr'.fn ((results fn' fr'.tmps).events P w4 #[])) := by
      simp [G, stepG, unwind, doReturn, e1, e2, e3, e4, e5, h5, GStep.after, Frame.finish, at']
    refine ⟨_, w4, _, c', hst4, rfl, ⟨.refl _ _ _, fun _ h => .inl h, fun _ _ h => .inl h, fun _ _ h => h, fun x hx' => ?_, fun _ h => .inl h, fun _ h => .inl h, fun _ h => h, rfl, rfl, rfl⟩, ?_⟩
    · rcases h6 x (mem_seen hx') with h | h
      · simp at h
      · exact h
    -- the loop's end
    refine Go'.of_step rfl fun w5 r5 => ?_
    have hH5 := (hH.rely r4).rely r5
    obtain ⟨l, lr, hat, g1, g2, g3, g4, g5, g6, g7⟩ := hH5.loopAt (n := ⟨s.hp.length + 1, 0⟩) hb rfl
    have hl : l = w1.heap.size + 1 := by
      obtain ⟨_, ⟨e, k', he, hge, hse⟩, _⟩ := hat
      have hn : c3.own[s.hp.length + 1]? = some ⟨0, some (w2.heap.size, 0)⟩ := by
        show ((c.own ++ [_]) ++ [_])[s.hp.length + 1]? = _
        rw [List.getElem?_append_right (by simp [hlen]), hlen]
        simp
      obtain ⟨e', he', _, hS⟩ := hx.own _ _ hn
      rw [he] at he'
      cases he'
      have := hS hge.symm
      rw [hse] at this
      cases this
      exact hs2
    subst hl
    have hokL : Ok P c' w5.heap.size (Instr.endLoop (w1.heap.size + 1)) w5 (fun q => q = .ok pend { w5 with heap := w5.heap.setIfInBounds (w1.heap.size + 1) (.loop { lr with state := .exhausted }) }) := by
      unfold Instr.endLoop Instr.getLoop
      refine Ok.then (a := lr) ?_ ?_
      · refine Ok.then (a := .loop lr) ⟨.inl hat.2.2.1, .loop lr, hat.2.2.2, trivial, rfl, rfl⟩ ?_
        exact ok_pure rfl
      · have hbz : (lr.state == LoopState.busy) = false := by rw [g1]; cases st <;> first | rfl | exact absurd rfl hne
        simp only [hbz, Bool.false_eq_true, if_false]
        refine Ok.then' (R := fun _ w' => w' = { w5 with heap := w5.heap.setIfInBounds (w1.heap.size + 1) (.loop { lr with state := .exhausted }) }) ⟨.inl hat.2.2.1, rfl, ⟨.loop lr, hat.2.2.2, trivial⟩, ⟨_, _, rfl, rfl⟩⟩ fun _ w' e => ?_
        subst e
        rw [g2]
        exact ok_pure rfl
    obtain ⟨qL, evL, kpL⟩ := Ok.spec #[] hokL (Nat.le_refl _)
    rw [qL] at evL kpL
    have hst5 : stepG P main (G (at' b tmps (({ target := .collected w1.heap.size, args := #[] } : Deferred) :: ds) (.endRangeFunc (w1.heap.size + 1) :: k)) cs) w5 =
        .go (G (at' b tmps (({ target := .collected w1.heap.size, args := #[] } : Deferred) :: ds) ((pend.map Item.code).toList ++ k)) cs) { w5 with heap := w5.heap.setIfInBounds (w1.heap.size + 1) (.loop { lr with state := .exhausted }) } (seen P b.fn ((Instr.endLoop (w1.heap.size + 1)).events P w5 #[])) := by
      have hstepG : stepG P main (G (at' b tmps (({ target := .collected w1.heap.size, args := #[] } : Deferred) :: ds) (.endRangeFunc (w1.heap.size + 1) :: k)) cs) w5 =
        (let (r, es) := (Instr.endLoop (w1.heap.size + 1)).runT P w5 #[]
        GStep.after (seen P b.fn es) <| match r with
        | .ok jump w => .go (G { at' b tmps (({ target := .collected w1.heap.size, args := #[] } : Deferred) :: ds) (.endRangeFunc (w1.heap.size + 1) :: k) with todo := (jump.map Item.code).toList ++ k } cs) w
        | .halt (.panic v) w => .go (G ((at' b tmps (({ target := .collected w1.heap.size, args := #[] } : Deferred) :: ds) (.endRangeFunc (w1.heap.size + 1) :: k)).raise [{ v, recovered := false }]) cs) w
        | .halt _ w => .ended (.stuck "range over a function: no such loop" ((at' b tmps (({ target := .collected w1.heap.size, args := #[] } : Deferred) :: ds) (.endRangeFunc (w1.heap.size + 1) :: k)).pos P)) w) := rfl
      rw [hstepG]
      simp only [Sem.runT_eq, qL, GStep.after]
      simp [at']
    have hHs := hH5.loopSet (st' := .exhausted) (pend' := pend) (r' := { lr with state := .exhausted }) hat hb (by rw [← g2]) ⟨g3, g4, g5, g6, g7⟩
    have hHd := hHs.forget (s.hp.length + 1)
    rw [List.set_set] at hHd
    refine ⟨_, _, _, c', hst5, rfl, ⟨kpL, fun _ h => .inl h, fun _ _ h => .inl h, fun _ _ h => h, fun x hx' => ?_, fun _ h => .inl h, fun _ h => .inl h, fun _ h => h, rfl, rfl, rfl⟩, ?_⟩
    · rcases evL x (mem_seen hx') with h | h
      · simp at h
      · exact h
    have hsr5 : SR base c' { w5 with heap := w5.heap.setIfInBounds (w1.heap.size + 1) (.loop { lr with state := .exhausted }) } { s with df := .mark ⟨s.hp.length, 0⟩ :: s.df, hp := h'.set (s.hp.length + 1) .dead } tmps (({ target := .collected w1.heap.size, args := #[] } : Deferred) :: ds) :=
      ⟨hsr.sl, hsr.df, hHd, hsr.gh⟩
    cases pend with
    | none => exact h4 .normal _ c' _ tmps _ hj hsr5 (xc.toT _)
    | some cd =>
      cases cd with
      | exit id => exact h4 (.exit id) _ c' _ tmps _ hj hsr5 (xc.toT _) k rfl
      | goto lb => exact h4 (.goto lb) _ c' _ tmps _ hj hsr5 (xc.toT _) k rfl
      | ret => exact h4 .ret _ c' _ tmps _ hj hsr5 (xc.toT _) k
      | _ => exact hj.elim
end
end Go.Mac

/-! MacRH -/
/- MacRH: the ends of functions with deferred calls: marks of loops over functions, one call that recovers; functions that panic. No program is in sight. -/
namespace Go.Mac
open Go Go.Conc

/-- The blocks once the marks' deferred calls (there are none) have been collected. -/
def unmark : List Blk → List ADef → Option (List Blk)
  | h, [] => some h
  | h, .mark n :: df => match h[n.id]? with
    | some .defd => if n.gen = 0 then unmark (h.set n.id .dead) df else none
    | _ => none
  | _, .call .. :: _ => none

section
variable {P : Program} {main : Bool} {Stop : Cx → Goroutine → World → Prop}

theorem Go'.unmark {cs : List Frame} {c : Cx} {h' : List Blk} {fr : Frame} (hm : ∀ ds, ({ fr with defers := ds } : Frame).mode ≠ .run) : ∀ {df : List ADef} {ds : List Deferred} {h : List Blk} {w : World}, DRL c df ds → HR c w h → Mac.unmark h df = some h' →
    (∀ w', HR c w' h' → Go' P main Stop c (G { fr with defers := [] } cs) w') → Go' P main Stop c (G { fr with defers := ds } cs) w
  | [], ds, h, w, hd, hH, hu, hk => by
    have : ds = [] := hd
    subst this
    simp only [Mac.unmark, Option.some.injEq] at hu
    subst hu
    exact hk w hH
  | .call f cap args :: df, ds, h, w, hd, hH, hu, hk => by cases hu
  | .mark n :: df, ds, h, w, hd, hH, hu, hk => by
    obtain ⟨d, ds', rfl, hd1, hd2⟩ := hd
    simp only [Mac.unmark] at hu
    split at hu
    · rename_i hb
      split at hu
      · rename_i hg
        refine Go'.of_step rfl fun w1 r => ?_
        have hH1 := hH.rely r
        have hlt : n.id < c.own.length := by rw [← hH.len]; exact (List.getElem?_eq_some_iff.1 hb).1
        have he : c.own[n.id]? = some c.own[n.id] := by simp [hlt]
        obtain ⟨h0, b, k, h1, h2, h3⟩ := hH1.blk _ _ _ he hb
        have hdd : d = { target := .collected b, args := #[] } := by
          have hd1' : c.At n fun s => ∃ b k, s = some (b, k) ∧ d = { target := .collected b, args := #[] } := hd1
          obtain ⟨b', k', q1, q2⟩ := At_some hd1' he (by omega)
          rw [h1] at q1
          cases q1
          exact q2
        subst hdd
        have hok : Ok P c w1.heap.size (Instr.takeDeferred b) w1 (fun q => q = .ok [] { w1 with heap := w1.heap.setIfInBounds b (.deferred none) }) := by
          unfold Instr.takeDeferred
          refine Ok.then (a := .deferred (some [])) ⟨.inl h2, _, h3, trivial, rfl, rfl⟩ ?_
          refine Ok.then' (R := fun _ w' => w' = { w1 with heap := w1.heap.setIfInBounds b (.deferred none) }) ⟨.inl h2, rfl, ⟨_, h3, trivial⟩, ⟨_, _, rfl, rfl⟩⟩ fun _ w' e => ?_
          subst e
          exact ok_pure rfl
        obtain ⟨q, ev, kp⟩ := Ok.spec #[] hok (Nat.le_refl _)
        rw [q] at ev kp
        have hst : stepG P main (G { fr with defers := ({ target := .collected b, args := #[] } : Deferred) :: ds' } cs) w1 = .go (G { fr with defers := ds' } cs) { w1 with heap := w1.heap.setIfInBounds b (.deferred none) } (seen P fr.fn ((Instr.takeDeferred b).events P w1 #[])) := by
          have hm' := hm (({ target := .collected b, args := #[] } : Deferred) :: ds')
          have hu : stepG P main (G { fr with defers := ({ target := .collected b, args := #[] } : Deferred) :: ds' } cs) w1 = unwind P main { fr with defers := ({ target := .collected b, args := #[] } : Deferred) :: ds' } cs none w1 := by
            simp only [G, stepG]
          rw [hu]
          simp only [unwind, Sem.runT_eq, q, GStep.after]
          simp [G]
        refine ⟨_, _, _, c, hst, rfl, ⟨kp, fun _ h => .inl h, fun _ _ h => .inl h, fun _ _ h => h, fun x hx => ?_, fun _ h => .inl h, fun _ h => .inl h, fun _ h => h, rfl, rfl, rfl⟩, ?_⟩
        · rcases ev x (mem_seen hx) with h | h
          · simp at h
          · exact h
        have hHd : HR c { w1 with heap := w1.heap.setIfInBounds b (.deferred none) } (h.set n.id .dead) :=
          hH1.update he hb rfl h1 h2 (by simp) (fun y hy => by simp [Ne.symm hy]) trivial
        exact Go'.unmark hm hd2 hHd hu hk
      · cases hu
    · cases hu
end

/-- What the body of a function must achieve that defers nothing, but for marks. -/
def bodyE (P : Program) (fn : Func) (n0 : Nat) (Post : AEnd → List Blk → Prop) : AExit → AS → Prop
  | .normal, s | .ret, s => s.gh = {} ∧ ∃ h1, unmark s.hp s.df = some h1 ∧ ∃ v n, resA P fn s.sl h1 = some v ∧ n0 ≤ n ∧ below n v = true ∧ (h1.take n).all (belowBlk n) = true ∧ Post (.ret v) (h1.take n)
  | .panic v, s => s.gh = {} ∧ ∃ h1, unmark s.hp s.df = some h1 ∧ Post (.panic v) h1
  | _, _ => False

/-- ████ A contract by the function's body, with marks. ████ -/
theorem CallsA.of_bodyE {P : Program} {f : FuncId} {fn : Func} {code : Code} {args : List AV} {h : List Blk} {Post : AEnd → List Blk → Prop} (hf : P.funcs[f]? = some fn) (hb : fn.body = some code)
    (hw : h.all (belowBlk h.length) = true → belowL h.length args = true → WP P ⟨f, false, h.length⟩ code (Mac.turnQ h.length (bodyE P fn h.length Post)) { sl := args ++ List.replicate (fn.ntmps - args.length) (.tup []), df := [], hp := h }) : CallsA P f args h Post := by
  intro main Stop cs c w vargs kind hk hv hH htodo hcont
  have hbel : h.all (belowBlk h.length) = true := List.all_eq_true.2 fun b hb => by obtain ⟨i, hi⟩ := List.mem_iff_getElem?.1 hb; exact hH.below hi
  have harg : belowL h.length args = true := by rw [hH.len]; exact VRL.below _ _ hv
  have hent : Frame.enter P f vargs kind = at' (Frame.enter P f vargs kind) (vargs ++ Array.replicate (fn.ntmps - vargs.size) undef) [] ([.code code] ++ []) := by
    simp [Frame.enter, at', hf, hb]
  rw [hent]
  have hsz : vargs.size = args.length := by have := hv.length; simpa using this
  have hrep : ∀ n, VRL c (List.replicate n (.tup [])) (List.replicate n undef) := by
    intro n
    induction n with
    | zero => rfl
    | succ n ih => exact ⟨_, _, rfl, ⟨[], rfl, rfl⟩, ih⟩
  have hsr : SR c.com.out c w { sl := args ++ List.replicate (fn.ntmps - args.length) (.tup []), df := [], hp := h } (vargs ++ Array.replicate (fn.ntmps - vargs.size) undef) [] :=
    ⟨by simp only [Array.toList_append, Array.toList_replicate]; rw [hsz]; exact hv.append (hrep _), rfl, hH, ⟨[], rfl, rfl⟩, htodo⟩
  refine (hw hbel harg).turnQ main Stop (Frame.enter P f vargs kind) [] cs c.com.out c w _ [] ⟨rfl, fun _ => rfl⟩ hk hsr ?_
  intro e s' c' w' tmps' ds' q r xT
  have x : Ext c c' := xT.ofT (by rw [← hH.len]; exact Nat.le_refl _)
  have ret : ∀ (todo todo' : List Item), (∀ w1, stepG P main (G (at' (Frame.enter P f vargs kind) tmps' ds' todo) cs) w1 = .go (G { at' (Frame.enter P f vargs kind) tmps' ds' todo' with mode := .returning } cs) w1 #[]) →
      (s'.gh = {} ∧ ∃ h1, unmark s'.hp s'.df = some h1 ∧ ∃ v n, resA P fn s'.sl h1 = some v ∧ h.length ≤ n ∧ Mac.below n v = true ∧ (h1.take n).all (belowBlk n) = true ∧ Post (.ret v) (h1.take n)) →
      Go' P main Stop c' (G (at' (Frame.enter P f vargs kind) tmps' ds' todo) cs) w' := by
    rintro todo todo' hstep ⟨hgh, h1, hun, v, n, hres, hn, hbv, hbh, hp⟩
    have hg := neutral_of r.gh hgh
    refine Go'.idle rfl rfl hstep ?_
    have hfrm : ({ at' (Frame.enter P f vargs kind) tmps' ds' todo' with mode := .returning } : Frame) = { ({ at' (Frame.enter P f vargs kind) tmps' [] todo' with mode := .returning } : Frame) with defers := ds' } := rfl
    rw [hfrm]
    refine Go'.unmark (fr := { at' (Frame.enter P f vargs kind) tmps' [] todo' with mode := .returning }) (fun ds => by simp) r.df r.hp hun fun w2 hH2 => ?_
    obtain ⟨V, hV, hok⟩ := ok_results (P := P) r.sl hH2 hres
    have hle : c.own.length ≤ n := by rw [← hH.len]; exact hn
    have hgh2 : Gh c' (c'.take n) := ⟨rfl, fun _ h => h, fun _ _ h => .inl h, fun _ _ h => h⟩
    refine .ghost hgh2 ?_
    exact hcont (.ret v) _ (c'.take n) w2 _ hp (hH2.take hbh) (x.take hle) hg.1 hg.2
      ⟨rfl, rfl, rfl, rfl, fn, V, hf, VR.take v V hbv hV, fun w1 r1 => Ok.congr (c := c') (c' := c'.take n) rfl rfl (hok w1 ⟨r1.size, r1.mine, r1.imm, r1.os, r1.output, r1.tape, r1.chans⟩)⟩
  cases e with
  | normal => exact ret [] [] (fun w1 => by simp [G, stepG, stepG.exec, at', Frame.enter]) q
  | ret => exact fun k' => ret (.code .ret :: k') (.code .ret :: k') (fun w1 => by simp [G, stepG, stepG.exec, at', Frame.enter]) q
  | exit id => exact q.elim
  | goto l => exact q.elim
  | panic v =>
    intro V todo hV
    obtain ⟨hgh, h1, hun, hp⟩ := q
    have hg := neutral_of r.gh hgh
    have hfrm : ({ at' (Frame.enter P f vargs kind) tmps' ds' todo with mode := .panicking [{ v := V, recovered := false }] } : Frame) = { ({ at' (Frame.enter P f vargs kind) tmps' [] todo with mode := .panicking [{ v := V, recovered := false }] } : Frame) with defers := ds' } := rfl
    rw [hfrm]
    refine Go'.unmark (fr := { at' (Frame.enter P f vargs kind) tmps' [] todo with mode := .panicking [{ v := V, recovered := false }] }) (fun ds => by simp) r.df r.hp hun fun w2 hH2 => ?_
    exact hcont (.panic v) _ c' w2 _ hp hH2 x hg.1 hg.2 ⟨rfl, rfl, rfl, fn, V, hf, hV, rfl⟩

/-! ### A deferred call that recovers -/
/-- The mode of a frame whose deferred calls are made. -/
def ModeA (c : Cx) : Option AV → FrameMode → Prop
  | none, m => m = .returning
  | some v, m => ∃ V, VR c v V ∧ m = .panicking [{ v := V, recovered := false }]

/-- ████ A contract of a deferred call that recovers, in a frame that returns, or panics with a value. ████ -/
def RecA (P : Program) (g : FuncId) (args : List AV) (h : List Blk) (rec : Option AV) (Post : List Blk → Prop) : Prop :=
  ∀ (main : Bool) (Stop : Cx → Goroutine → World → Prop) (fr : Frame) (cs : List Frame) (c : Cx) (w : World) (vargs : Array Value), ModeA c rec fr.mode → VRL c args vargs.toList → HR c w h → c.com.todo = [] →
    (∀ h' c' w', Post h' → HR c' w' h' → Ext c c' → c'.com.out = c.com.out → c'.com.todo = [] → Go' P main Stop c' (G { fr with mode := .returning } cs) w') →
    Go' P main Stop c (G (Frame.enter P g vargs .deferred) (fr :: cs)) w

/-- What the body of such a call must achieve. -/
def recQ (n0 : Nat) (Post : List Blk → Prop) : AExit → AS → Prop
  | .normal, s | .ret, s => s.df = [] ∧ s.gh = {} ∧ (s.hp.take n0).all (belowBlk n0) = true ∧ Post (s.hp.take n0)
  | _, _ => False

theorem RecA.of_body {P : Program} {g : FuncId} {fn : Func} {id : Nat} {ops : Array Oper} {rest : Code} {o : Oper} {dst : Tmp} {args : List AV} {h : List Blk} {rec : Option AV} {Post : List Blk → Prop} (hf : P.funcs[g]? = some fn) (hb : fn.body = some (.seq (.region id ops false) rest)) (hres : fn.results = #[])
    (ho : ops[0]? = some o) (hop : o.op = .call { callee := .builtin .recover, args := #[], argTypes := #[] }) (hog : o.guard = none) (hod : o.dst = some dst)
    (hw : h.all (belowBlk h.length) = true → WPI P ⟨g, false, h.length⟩ [.inRegion ops (List.range' 1 (ops.size - 1)), .code rest] (recQ h.length Post) { sl := (args ++ List.replicate (fn.ntmps - args.length) (AV.tup [])).set dst (rec.getD .niliface), df := [], hp := h }) : RecA P g args h rec Post := by
  intro main Stop fr cs c w vargs hmode hv hH htodo hcont
  have hbel : h.all (belowBlk h.length) = true := List.all_eq_true.2 fun b hb => by obtain ⟨i, hi⟩ := List.mem_iff_getElem?.1 hb; exact hH.below hi
  generalize hfr0 : Frame.enter P g vargs .deferred = b0
  have hkind : b0.kind = .deferred := by rw [← hfr0]; rfl
  have hro : b0.roundOf = none := by rw [← hfr0]; rfl
  have hfn : b0.fn = g := by rw [← hfr0]; rfl
  have hb0 : b0 = at' b0 (vargs ++ Array.replicate (fn.ntmps - vargs.size) undef) [] [.code (.seq (.region id ops false) rest)] := by
    rw [← hfr0]; simp [Frame.enter, at', hf, hb]
  rw [hb0]
  have hsz : vargs.size = args.length := by have := hv.length; simpa using this
  have hrep : ∀ n, VRL c (List.replicate n (.tup [])) (List.replicate n undef) := by
    intro n
    induction n with
    | zero => rfl
    | succ n ih => exact ⟨_, _, rfl, ⟨[], rfl, rfl⟩, ih⟩
  have hsl : VRL c (args ++ List.replicate (fn.ntmps - args.length) (.tup [])) (vargs ++ Array.replicate (fn.ntmps - vargs.size) undef).toList := by
    simp only [Array.toList_append, Array.toList_replicate]; rw [hsz]; exact hv.append (hrep _)
  have hops : List.range ops.size = 0 :: List.range' 1 (ops.size - 1) := by
    have : 0 < ops.size := (Array.getElem?_eq_some_iff.1 ho).1
    rw [List.range_eq_range', show ops.size = (ops.size - 1) + 1 by omega, List.range'_succ]
    simp
  refine Go'.idle (g' := G (at' b0 (vargs ++ Array.replicate (fn.ntmps - vargs.size) undef) [] [.code (.region id ops false), .code rest]) (fr :: cs)) rfl rfl (fun w1 => by simp [G, stepG, stepG.exec, at']) ?_
  refine Go'.idle (g' := G (at' b0 (vargs ++ Array.replicate (fn.ntmps - vargs.size) undef) [] [.inRegion ops (0 :: List.range' 1 (ops.size - 1)), .code rest]) (fr :: cs)) rfl rfl (fun w1 => by simp [G, stepG, stepG.exec, at', hops]) ?_
  -- the call of 'recover'
  have hcase : ∃ (R : Value) (fr2 : Frame), VR c (rec.getD .niliface) R ∧ (∃ m, fr2 = { fr with mode := m } ∧ (m = .returning ∨ ∃ V, m = .panicking [{ v := V, recovered := true }])) ∧
      ∀ w1, stepG P main (G (at' b0 (vargs ++ Array.replicate (fn.ntmps - vargs.size) undef) [] [.inRegion ops (0 :: List.range' 1 (ops.size - 1)), .code rest]) (fr :: cs)) w1 =
        .go (G (at' b0 (putV (vargs ++ Array.replicate (fn.ntmps - vargs.size) undef) o.dst R) [] [.inRegion ops (List.range' 1 (ops.size - 1)), .code rest]) (fr2 :: cs)) w1 #[] := by
    have hstep : ∀ w1, stepG P main (G (at' b0 (vargs ++ Array.replicate (fn.ntmps - vargs.size) undef) [] [.inRegion ops (0 :: List.range' 1 (ops.size - 1)), .code rest]) (fr :: cs)) w1 =
        stepG.apply P true (at' b0 (vargs ++ Array.replicate (fn.ntmps - vargs.size) undef) [] [.inRegion ops (0 :: List.range' 1 (ops.size - 1)), .code rest]) (fr :: cs) none (execOp (at' b0 (vargs ++ Array.replicate (fn.ntmps - vargs.size) undef) [] [.inRegion ops (0 :: List.range' 1 (ops.size - 1)), .code rest]).eval o) w1 :=
      fun w1 => stepG_opA ho (by simp [Region.wanted, hog]) (by rw [hop]; rfl)
    have hfin : ∀ V, (at' b0 (vargs ++ Array.replicate (fn.ntmps - vargs.size) undef) [] [.inRegion ops (0 :: List.range' 1 (ops.size - 1)), .code rest]).finish V =
        at' b0 (putV (vargs ++ Array.replicate (fn.ntmps - vargs.size) undef) o.dst V) [] [.inRegion ops (List.range' 1 (ops.size - 1)), .code rest] := fun V => by rw [finish_at', ho]; rfl
    generalize hfb : at' b0 (vargs ++ Array.replicate (fn.ntmps - vargs.size) undef) [] [.inRegion ops (0 :: List.range' 1 (ops.size - 1)), .code rest] = fb at hstep hfin
    have k1 : fb.kind = .deferred := by rw [← hfb]; exact hkind
    have k2 : fb.roundOf = none := by rw [← hfb]; exact hro
    have hrun : ∀ w1, (execOp fb.eval o).runT P w1 #[] = (.ok .recover w1, #[]) := by
      intro w1
      simp only [execOp, hop, resolve]
      rfl
    cases rec with
    | none =>
      have hm : fr.mode = .returning := hmode
      refine ⟨.nilIface, fr, rfl, ⟨.returning, by rw [← hm], .inl rfl⟩, fun w1 => ?_⟩
      rw [hstep, ← hfin]
      have htr : tryRecover fb (fr :: cs) = none := by unfold tryRecover; rw [k1]; simp only [hm]
      simp only [stepG.apply, if_true, hrun, k1, k2, htr, GStep.after]
      simp [G, seen]
    | some v =>
      obtain ⟨V, hV, hm⟩ := hmode
      refine ⟨V, { fr with mode := .panicking [{ v := V, recovered := true }] }, hV, ⟨_, rfl, .inr ⟨V, rfl⟩⟩, fun w1 => ?_⟩
      rw [hstep, ← hfin]
      have htr : tryRecover fb (fr :: cs) = some (V, { fr with mode := .panicking [{ v := V, recovered := true }] } :: cs) := by unfold tryRecover; rw [k1]; simp only [hm]
      simp only [stepG.apply, if_true, hrun, k1, k2, htr, GStep.after]
      simp [G, seen]
  obtain ⟨R, fr2, hR, ⟨m, rfl, hm⟩, hst⟩ := hcase
  refine Go'.idle rfl rfl hst ?_
  have hsr : SR c.com.out c w { sl := (args ++ List.replicate (fn.ntmps - args.length) (AV.tup [])).set dst (rec.getD .niliface), df := [], hp := h } (putV (vargs ++ Array.replicate (fn.ntmps - vargs.size) undef) o.dst R) [] := by
    refine ⟨?_, rfl, hH, ⟨[], rfl, rfl⟩, htodo⟩
    have := hsl.put o.dst hR
    rw [hod] at this ⊢
    exact this
  refine hw hbel main Stop b0 [] ({ fr with mode := m } :: cs) c.com.out c w _ [] ⟨hfn, fun _ => hro⟩ (by rw [hkind]; simp) hsr ?_
  intro e s' c' w' tmps' ds' q r xT
  have x : Ext c c' := xT.ofT (by rw [← hH.len]; exact Nat.le_refl _)
  have ret : ∀ (todo todo' : List Item), (∀ w1, stepG P main (G (at' b0 tmps' ds' todo) ({ fr with mode := m } :: cs)) w1 = .go (G { at' b0 tmps' ds' todo' with mode := .returning } ({ fr with mode := m } :: cs)) w1 #[]) →
      (s'.df = [] ∧ s'.gh = {} ∧ (s'.hp.take h.length).all (belowBlk h.length) = true ∧ Post (s'.hp.take h.length)) → Go' P main Stop c' (G (at' b0 tmps' ds' todo) ({ fr with mode := m } :: cs)) w' := by
    rintro todo todo' hstep ⟨hdf, hgh, hbh, hp⟩
    have hg := neutral_of r.gh hgh
    have hds : ds' = [] := by have := r.df; rw [hdf] at this; exact this
    subst hds
    refine Go'.idle rfl rfl hstep ?_
    have hst2 : ∀ w1, stepG P main (G { at' b0 tmps' [] todo' with mode := .returning } ({ fr with mode := m } :: cs)) w1 = .go (G { fr with mode := .returning } cs) w1 #[] := by
      intro w1
      have hr : (results fn tmps').runT P w1 #[] = (.ok (.tuple #[]) w1, #[]) := by unfold results; rw [hres, Array.mapM_eq_mapM_toList]; rfl
      rcases hm with rfl | ⟨V, rfl⟩
      · simp [G, stepG, unwind, at', hfn, hf, hr, doReturn, hkind, GStep.after, seen, -Sem.runT_eq]
      · simp [G, stepG, unwind, at', hfn, hf, hr, doReturn, hkind, GStep.after, seen, -Sem.runT_eq]
    refine Go'.idle rfl rfl hst2 ?_
    have hgh2 : Gh c' (c'.take h.length) := ⟨rfl, fun _ h => h, fun _ _ h => .inl h, fun _ _ h => h⟩
    refine .ghost hgh2 ?_
    exact hcont _ (c'.take h.length) w' hp (r.hp.take hbh) (x.take (by rw [← hH.len]; exact Nat.le_refl _)) hg.1 hg.2
  cases e with
  | normal => exact ret [] [] (fun w1 => by simp [G, stepG, stepG.exec, at', hro]) q
  | ret => exact fun k' => ret (.code .ret :: k') (.code .ret :: k') (fun w1 => by simp [G, stepG, stepG.exec, at', hro]) q
  | exit id => exact q.elim
  | goto l => exact q.elim
  | panic v => exact q.elim

/-! ### A function with one deferred call that recovers -/
/-- What the body of a function must achieve that has deferred one call, which recovers. -/
def bodyR (P : Program) (fn : Func) (n0 : Nat) (Post : AEnd → List Blk → Prop) : AExit → AS → Prop
  | .normal, s | .ret, s => s.gh = {} ∧ ∃ g cap, s.df = [.call (.func g) cap []] ∧ callable P g ∧ RecA P g cap s.hp none fun h1 => ∃ v n, resA P fn s.sl h1 = some v ∧ n0 ≤ n ∧ below n v = true ∧ (h1.take n).all (belowBlk n) = true ∧ Post (.ret v) (h1.take n)
  | .panic x, s => s.gh = {} ∧ ∃ g cap, s.df = [.call (.func g) cap []] ∧ callable P g ∧ RecA P g cap s.hp (some x) fun h1 => ∃ v n, resA P fn s.sl h1 = some v ∧ n0 ≤ n ∧ below n v = true ∧ (h1.take n).all (belowBlk n) = true ∧ Post (.ret v) (h1.take n)
  | _, _ => False

/-- ████ A contract by the function's body, with a deferred call that recovers. ████ -/
theorem CallsA.of_bodyR {P : Program} {f : FuncId} {fn : Func} {code : Code} {args : List AV} {h : List Blk} {Post : AEnd → List Blk → Prop} (hf : P.funcs[f]? = some fn) (hb : fn.body = some code)
    (hw : h.all (belowBlk h.length) = true → belowL h.length args = true → WP P ⟨f, false, h.length⟩ code (Mac.turnQ h.length (bodyR P fn h.length Post)) { sl := args ++ List.replicate (fn.ntmps - args.length) (.tup []), df := [], hp := h }) : CallsA P f args h Post := by
  intro main Stop cs c w vargs kind hk hv hH htodo hcont
  have hbel : h.all (belowBlk h.length) = true := List.all_eq_true.2 fun b hb => by obtain ⟨i, hi⟩ := List.mem_iff_getElem?.1 hb; exact hH.below hi
  have harg : belowL h.length args = true := by rw [hH.len]; exact VRL.below _ _ hv
  have hent : Frame.enter P f vargs kind = at' (Frame.enter P f vargs kind) (vargs ++ Array.replicate (fn.ntmps - vargs.size) undef) [] ([.code code] ++ []) := by
    simp [Frame.enter, at', hf, hb]
  rw [hent]
  have hsz : vargs.size = args.length := by have := hv.length; simpa using this
  have hrep : ∀ n, VRL c (List.replicate n (.tup [])) (List.replicate n undef) := by
    intro n
    induction n with
    | zero => rfl
    | succ n ih => exact ⟨_, _, rfl, ⟨[], rfl, rfl⟩, ih⟩
  have hsr : SR c.com.out c w { sl := args ++ List.replicate (fn.ntmps - args.length) (.tup []), df := [], hp := h } (vargs ++ Array.replicate (fn.ntmps - vargs.size) undef) [] :=
    ⟨by simp only [Array.toList_append, Array.toList_replicate]; rw [hsz]; exact hv.append (hrep _), rfl, hH, ⟨[], rfl, rfl⟩, htodo⟩
  refine (hw hbel harg).turnQ main Stop (Frame.enter P f vargs kind) [] cs c.com.out c w _ [] ⟨rfl, fun _ => rfl⟩ hk hsr ?_
  intro e s' c' w' tmps' ds' q r xT
  have x : Ext c c' := xT.ofT (by rw [← hH.len]; exact Nat.le_refl _)
  -- the deferred call, in a frame that is on its way out
  have out : ∀ (rec : Option AV) (todo : List Item) (m : FrameMode), ModeA c' rec m → (s'.gh = {} ∧ ∃ g cap, s'.df = [.call (.func g) cap []] ∧ callable P g ∧ RecA P g cap s'.hp rec fun h1 => ∃ v n, resA P fn s'.sl h1 = some v ∧ h.length ≤ n ∧ Mac.below n v = true ∧ (h1.take n).all (belowBlk n) = true ∧ Post (.ret v) (h1.take n)) →
      Go' P main Stop c' (G { at' (Frame.enter P f vargs kind) tmps' ds' todo with mode := m } cs) w' := by
    rintro rec todo m hm ⟨hgh, g, cap, hdf, ⟨fg, hg1, hg2, hg3⟩, hrec⟩
    have hn := neutral_of r.gh hgh
    have hd := r.df
    rw [hdf] at hd
    obtain ⟨d, ds2, rfl, ⟨l1, l2, rfl, hl1, hl2⟩, hnil⟩ := hd
    have hnil' : ds2 = [] := hnil
    subst hnil'
    have hl2' : l2 = [] := hl2
    subst hl2'
    have hnr : m ≠ .run := by
      cases rec with
      | none => have : m = .returning := hm; rw [this]; simp
      | some v => obtain ⟨V, _, e⟩ := hm; rw [e]; simp
    have hst : ∀ w1, stepG P main (G { at' (Frame.enter P f vargs kind) tmps' [({ target := .fn (.func g) l1.toArray, args := [].toArray } : Deferred)] todo with mode := m } cs) w1 =
        .go (G (Frame.enter P g l1.toArray .deferred) ({ at' (Frame.enter P f vargs kind) tmps' [] todo with mode := m } :: cs)) w1 #[] := by
      intro w1
      have hu : stepG P main (G { at' (Frame.enter P f vargs kind) tmps' [({ target := .fn (.func g) l1.toArray, args := [].toArray } : Deferred)] todo with mode := m } cs) w1 =
          unwind P main { at' (Frame.enter P f vargs kind) tmps' [({ target := .fn (.func g) l1.toArray, args := [].toArray } : Deferred)] todo with mode := m } cs none w1 := by
        simp only [G, stepG]
      rw [hu]
      have hrun : (invoke (.fn (.func g) l1.toArray) [].toArray).runT P w1 #[] = (.ok (.enter g l1.toArray) w1, #[]) := by
        have he : invoke (.fn (.func g) l1.toArray) [].toArray = callFunc g ([].toArray ++ l1.toArray) := rfl
        rw [he, show ([] : List Value).toArray ++ l1.toArray = l1.toArray by simp]
        unfold callFunc
        show Sem.runT P (match P.funcs[g]? with
          | none => _
          | some fn => _) w1 #[] = _
        rw [hg1]
        have hbn : fg.body.isNone = false := by cases hbb : fg.body with | none => rw [hbb] at hg3; cases hg3 | some _ => rfl
        simp only [hg2, Bool.false_eq_true, if_false, hbn]
        rfl
      simp only [unwind, at']
      simp only [callDeferred]
      rw [if_neg (by simp), hrun]
      simp [GStep.after, seen, G]
    refine Go'.idle rfl rfl hst ?_
    refine hrec main Stop { at' (Frame.enter P f vargs kind) tmps' [] todo with mode := m } cs c' w' l1.toArray hm hl1 r.hp hn.2 fun h1 c2 w2 hp hH2 x2 o1 o2 => ?_
    obtain ⟨v, n, hres, hnn, hbv, hbh, hpost⟩ := hp
    obtain ⟨V, hV, hok⟩ := ok_results (P := P) (r.sl.ext x2) hH2 hres
    have hle : c.own.length ≤ n := by rw [← hH.len]; exact hnn
    have hgh2 : Gh c2 (c2.take n) := ⟨rfl, fun _ h => h, fun _ _ h => .inl h, fun _ _ h => h⟩
    refine .ghost hgh2 ?_
    exact hcont (.ret v) _ (c2.take n) w2 { at' (Frame.enter P f vargs kind) tmps' [] todo with mode := .returning } hpost (hH2.take hbh) ((x.trans x2).take hle) (o1.trans hn.1) o2
      ⟨rfl, rfl, rfl, rfl, fn, V, hf, VR.take v V hbv hV, fun w1 r1 => Ok.congr (c := c2) (c' := c2.take n) rfl rfl (hok w1 ⟨r1.size, r1.mine, r1.imm, r1.os, r1.output, r1.tape, r1.chans⟩)⟩
  cases e with
  | normal => exact Go'.idle rfl rfl (fun w1 => by simp [G, stepG, stepG.exec, at', Frame.enter]) (out none [] .returning rfl q)
  | ret => exact fun k' => Go'.idle rfl rfl (fun w1 => by simp [G, stepG, stepG.exec, at', Frame.enter]) (out none (.code .ret :: k') .returning rfl q)
  | exit id => exact q.elim
  | goto l => exact q.elim
  | panic v => exact fun V todo hV => out (some v) todo _ ⟨V, hV, rfl⟩ q

section
variable {P : Program} {fk : FK} {Q : AExit → AS → Prop} {s : AS} {ops : Array Oper} {i : Nat} {rest : List Nat} {o : Oper}
/-- ████ A call is deferred. ████ -/
theorem WPI.defer {f : Operand} {ats : Array TypeId} {g : FuncId} {cap : List AV} (hrnd : fk.rnd = false) (ho : ops[i]? = some o) (hop : o.op = .defer { callee := .value f, args := #[], argTypes := ats }) (hog : o.guard = none) (hf : evA s.sl f = .fn (.func g) [] cap)
    (h : WPI P fk [.inRegion ops rest] Q { s with sl := putA s.sl o.dst (.tup []), df := .call (.func g) cap [] :: s.df }) : WPI P fk [.inRegion ops (i :: rest)] Q s := by
  intro main Stop b k cs base c w tmps ds h1 h2 h3 h4
  generalize hfr : at' b tmps ds (.inRegion ops (i :: rest) :: k) = fr
  have hρ : VR c (evA s.sl f) (fr.eval f) := by rw [← hfr]; exact VR_evA h3.sl b ds _ f
  rw [hf] at hρ
  obtain ⟨L1, L2, hF, hL1, hL2⟩ := hρ
  have hL1' : L1 = [] := hL1
  subst hL1'
  have hro : b.roundOf = none := h1.2 hrnd
  have hst : ∀ w1, stepG P main (G fr cs) w1 = .go (G (at' b (putV tmps o.dst undef) (({ target := .fn (.func g) L2.toArray, args := #[] } : Deferred) :: ds) (.inRegion ops rest :: k)) cs) w1 #[] := by
    intro w1
    have hs : stepG P main (G fr cs) w1 = stepG.apply P true fr cs none (execOp fr.eval o) w1 := by
      rw [← hfr]
      simp only [G, stepG, at', stepG.exec, ho, Option.map_some, Region.wanted, hog, Option.getD_some, if_true, stepG.oper, Frame.oper?, hro]
    rw [hs]
    have hrun : (execOp fr.eval o).runT P w1 #[] = (.ok (.defer { target := .fn (.func g) L2.toArray, args := #[] }) w1, #[]) := by
      simp only [execOp, hop, resolve, hF, Deferred.ofValue]
      simp
    have hkind : (fr.kind == CallKind.early) = false := by rw [← hfr]; simpa [at'] using h2
    have htd : fr.todo = .inRegion ops (i :: rest) :: k := by rw [← hfr]; rfl
    have hfin : ({ fr with defers := ({ target := .fn (.func g) L2.toArray, args := #[] } : Deferred) :: fr.defers } : Frame).finish undef = at' b (putV tmps o.dst undef) (({ target := .fn (.func g) L2.toArray, args := #[] } : Deferred) :: ds) (.inRegion ops rest :: k) := by
      have := finish_at' b tmps (({ target := .fn (.func g) L2.toArray, args := #[] } : Deferred) :: ds) ops i rest k undef
      rw [ho] at this
      rw [← hfr]
      exact this
    simp only [stepG.apply, if_true, hrun, hkind, Bool.false_eq_true, if_false, GStep.after, hfin]
    simp [G, seen]
  rw [List.singleton_append, hfr]
  refine Go'.idle (by rfl) rfl hst ?_
  exact h main Stop b k cs base c w _ _ h1 h2 ⟨h3.sl.put o.dst ⟨[], rfl, rfl⟩, ⟨_, _, rfl, ⟨L2, [], rfl, hL2, rfl⟩, h3.df⟩, h3.hp, h3.gh⟩ h4
end
end Go.Mac

/-! MacCH -/
/- MacCH: names held in reserve; channels: made, a goroutine started, something sent, something received. No program is in sight. -/
namespace Go.Mac
open Go Go.Conc

section
variable {c : Cx} {w : World} {h : List Blk}

/-- A name more. -/
def Cx.more (c : Cx) : Cx := { c with own := c.own ++ [⟨0, none⟩] }
theorem Ext.more (c : Cx) : Ext c c.more where
  own i e he := ⟨e, by simp only [Cx.more]; rw [List.getElem?_append_left (List.getElem?_eq_some_iff.1 he).1]; exact he, Nat.le_refl _, fun _ => rfl⟩
  imm _ _ h := h
theorem Gh.more (c : Cx) : Gh c c.more := ⟨rfl, fun _ h => h, fun _ _ h => .inl h, fun _ _ h => h⟩
theorem HR.more (x : HR c w h) : HR c.more w (h ++ [.cells 0 []]) where
  len := by simp [Cx.more, x.len]
  blk i e b h1 h2 := by
    simp only [Cx.more] at h1
    by_cases hi : i < h.length
    · rw [List.getElem?_append_left (by rw [← x.len]; exact hi)] at h1
      rw [List.getElem?_append_left hi] at h2
      exact (x.blk i e b h1 h2).grow (.more c) (fun _ h => h) (fun _ h => h) fun _ _ => rfl
    · have hi' : i = h.length := by
        have := (List.getElem?_eq_some_iff.1 h2).1
        simp at this; omega
      subst hi'
      rw [x.len] at h1
      simp at h1 h2
      subst h1; subst h2
      exact ⟨rfl, .inl ⟨rfl, rfl⟩⟩
  apart i j ei ej bi bj y1 y2 hne h1 h2 h3 h4 l1 l2 s1 s2 := by
    simp only [Cx.more] at h1 h2
    have key : ∀ (m : Nat) (em : Ent) (bm : Blk) (y : Nat × Nat), (c.own ++ [⟨0, none⟩])[m]? = some em → (h ++ [.cells 0 []])[m]? = some bm → em.seat = some y → c.own[m]? = some em ∧ h[m]? = some bm := by
      intro m em bm y g1 g2 g4
      by_cases hm : m < h.length
      · rw [List.getElem?_append_left (by rw [← x.len]; exact hm)] at g1
        rw [List.getElem?_append_left hm] at g2
        exact ⟨g1, g2⟩
      · have hm' : m = h.length := by
          have := (List.getElem?_eq_some_iff.1 g2).1
          simp at this; omega
        subst hm'
        rw [x.len] at g1
        simp at g1
        subst g1
        cases g4
    obtain ⟨a1, a2⟩ := key i ei bi y1 h1 h3 s1
    obtain ⟨b1, b2⟩ := key j ej bj y2 h2 h4 s2
    exact x.apart i j ei ej bi bj y1 y2 hne a1 b1 a2 b2 l1 l2 s1 s2
  mine := x.mine
  imm := x.imm
  chan := x.chan
end

section
variable {P : Program} {fk : FK} {Q : AExit → AS → Prop} {s : AS} {n0 : Nat}

/-- A name is held in reserve. -/
theorem Turns.reserve : Turns n0 s { s with hp := s.hp ++ [.cells 0 []] } := fun _ c _ _ _ x =>
  ⟨c.more, .more c, (Ext.more c).toT _, x.sl.ext (.more c), x.df.ext (.more c), x.hp.more, x.gh.ext (.more c) rfl rfl⟩

/-- A slice that is nil gets a name, in a temporary. -/
theorem Turns.nilSlot {d sz : Nat} (ha : evA s.sl (.tmp d) = .nilsl) : Turns n0 s { s with sl := s.sl.set d (.sl ⟨s.hp.length, 0⟩ sz 0 0), hp := s.hp ++ [.cells 0 []] } := by
  intro base c w tmps ds x
  have hname : c.more.own[s.hp.length]? = some ⟨0, none⟩ := by simp only [Cx.more]; rw [x.hp.len]; simp
  refine ⟨c.more, .more c, (Ext.more c).toT _, ?_, x.df.ext (.more c), x.hp.more, x.gh.ext (.more c) rfl rfl⟩
  cases hd : s.sl[d]? with
  | none => simp [evA, List.getD, hd] at ha
  | some a0 =>
    have : a0 = .nilsl := by simpa [evA, List.getD, hd] using ha
    subst this
    obtain ⟨V, hV, hr⟩ := x.sl.get hd
    have hr' : V = .slice none 0 0 := hr
    have h2 := (x.sl.ext (.more c)).set d (a := .sl ⟨s.hp.length, 0⟩ sz 0 0) (v := V) ⟨⟨none, 0, 0, hr'⟩, _, hname, Nat.le_refl _, fun _ => .inl ⟨rfl, rfl, hr'⟩⟩
    have : tmps.toList.set d V = tmps.toList := by
      obtain ⟨hlt, he⟩ := List.getElem?_eq_some_iff.1 hV
      rw [← he]; exact List.set_getElem_self hlt
    rw [this] at h2
    exact h2

/-- A slice that is nil gets a name, in a cell. -/
theorem Turns.nilCell {i g j sz : Nat} {cs : List AV} (hb : s.hp[i]? = some (.cells g cs)) (hj : cs[j]? = some .nilsl) :
    Turns n0 s { s with hp := (s.hp.set i (.cells g (cs.set j (.sl ⟨s.hp.length, 0⟩ sz 0 0)))) ++ [.cells 0 []] } := by
  intro base c w tmps ds x
  have hname : c.more.own[s.hp.length]? = some ⟨0, none⟩ := by simp only [Cx.more]; rw [x.hp.len]; simp
  have hlt : i < s.hp.length := (List.getElem?_eq_some_iff.1 hb).1
  have hlt' : i < c.own.length := by rw [← x.hp.len]; exact hlt
  have hm := x.hp.more
  have he : c.more.own[i]? = some c.own[i] := by simp only [Cx.more]; rw [List.getElem?_append_left hlt']; simp [hlt']
  have hb' : (s.hp ++ [.cells 0 []])[i]? = some (.cells g cs) := by rw [List.getElem?_append_left hlt]; exact hb
  refine ⟨c.more, .more c, (Ext.more c).toT _, x.sl.ext (.more c), x.df.ext (.more c), ?_, x.gh.ext (.more c) rfl rfl⟩
  have e : (s.hp.set i (.cells g (cs.set j (.sl ⟨s.hp.length, 0⟩ sz 0 0)))) ++ [.cells 0 []] = (s.hp ++ [Blk.cells 0 []]).set i (.cells g (cs.set j (.sl ⟨s.hp.length, 0⟩ sz 0 0))) := by rw [List.set_append_left _ _ hlt]
  show HR c.more w _
  rw [e]
  obtain ⟨h0, h1 | ⟨b, k, arr, el, l, h1, h2, h3, h4, h5, h6⟩⟩ := hm.blk _ _ _ he hb'
  · rw [h1.2] at hj; simp at hj
  · refine hm.update (new := .cells g (cs.set j (.sl ⟨s.hp.length, 0⟩ sz 0 0))) he hb' rfl h1 h2 rfl (fun _ _ => rfl) ⟨h0, .inr ⟨b, k, arr, el, l, h1, h2, h3, h4, ?_, h6⟩⟩
    obtain ⟨V, hV, hr⟩ := h5.get hj
    have hr' : V = .slice none 0 0 := hr
    have h7 := h5.set j (a := .sl ⟨s.hp.length, 0⟩ sz 0 0) (v := V) ⟨⟨none, 0, 0, hr'⟩, _, hname, Nat.le_refl _, fun _ => .inl ⟨rfl, rfl, hr'⟩⟩
    have : l.set j V = l := by
      obtain ⟨hlt, he⟩ := List.getElem?_eq_some_iff.1 hV
      rw [← he]; exact List.set_getElem_self hlt
    rw [this] at h7
    exact h7
end

/-! ### New things at names held in reserve -/
section
variable {P : Program} {fk : FK} {ops : Array Oper} {i : Nat} {o : Oper}

theorem rebind_new {c : Cx} {w : World} {h : List Blk} {r g : Nat} {cells : Array Value} {cs : List AV} {el : TypeId} (hH : HR c w h) (hr : h[r]? = some (.cells g [])) (hv : VRL c cs cells.toList) :
    ∃ c', HR c' (w.alloc (.cells cells el (0, 0))) (h.set r (.cells (g + 1) cs)) ∧ TurnOk c c' w.heap.size ∧ VR c' (.ptr ⟨r, g + 1⟩ 0) (.pointer (some ⟨w.heap.size, 0, none⟩)) := by
  have hlt : r < c.own.length := by rw [← hH.len]; exact (List.getElem?_eq_some_iff.1 hr).1
  have he : c.own[r]? = some c.own[r] := by simp [hlt]
  have hg : c.own[r].gen = g := (hH.blk _ _ _ he hr).1
  let e' : Ent := ⟨g + 1, some (w.heap.size, cells.size)⟩
  have hx : Ext c (c.rebind r e') := Ext.rebind he (by show c.own[r].gen < g + 1; omega)
  refine ⟨c.rebind r e', ?_, ⟨hx, ?_, fun b o h => .inl h, rfl⟩, ?_⟩
  · refine hH.rebind he (by show c.own[r].gen < g + 1; omega) hr (fun b k hs => ?_) (by simp) (fun j hj _ => heap_alloc_old w _ hj) (fun b k hs hc => ?_) ⟨rfl, .inr ⟨w.heap.size, cells.size, cells, el, cells.toList, rfl, .inr ⟨_, rfl⟩, heap_alloc_self _ _, rfl, hv.ext hx, List.prefix_refl _⟩⟩
    · have hb : b = w.heap.size := by have : (some (w.heap.size, cells.size) : Option (Nat × Nat)) = some (b, k) := hs; cases this; rfl
      subst hb
      refine ⟨by simp, ?_, fun j ej bj y hj h1 h2 hl hs hy => ?_⟩
      · cases hi : c.imm w.heap.size with
        | none => rfl
        | some o => have := (Array.getElem?_eq_some_iff.1 (hH.imm _ o hi).2).1; omega
      · have := hH.seat_lt (hH.blk j ej bj h1 h2) hl hs
        omega
    · have hb : b = w.heap.size := by have : (some (w.heap.size, cells.size) : Option (Nat × Nat)) = some (b, k) := hs; cases this; rfl
      subst hb
      have := (hH.chan _ hc).2.2.lt
      omega
  · rintro b (hb | ⟨k, hb⟩)
    · exact .inl hb
    · have : (some (w.heap.size, cells.size) : Option (Nat × Nat)) = some (b, k) := hb
      cases this
      exact .inr (Nat.le_refl _)
  · exact ⟨⟨_, rfl⟩, e', by simp only [Cx.rebind]; rw [List.getElem?_set_self hlt], Nat.le_refl _, fun _ => ⟨w.heap.size, cells.size, rfl, rfl⟩⟩

/-- ████ A variable at a name held in reserve. ████ -/
theorem FreeAt.alloc {e : TypeId} {f : TF} {z : List AV} {h : List Blk} {r g : Nat} (ho : ops[i]? = some o) (hop : o.op = .alloc e) (hog : o.guard = none) (ht : tyT P e = some f) (hz : f.ze = some z) (hr : h[r]? = some (.cells g [])) :
    FreeAt P fk ops i o.dst h (.ptr ⟨r, g + 1⟩ 0) (h.set r (.cells (g + 1) z)) := by
  intro Q s rest hs hk
  refine WPI.op0 ho hog (by rw [hop]; rfl) (fun v h' => v = .ptr ⟨r, g + 1⟩ 0 ∧ h' = h.set r (.cells (g + 1) z)) (fun c w ρ hρ hH => ?_) (fun v h' q => by rw [q.1, q.2]; exact hk)
  rw [hs] at hH
  obtain ⟨i, h1, h2, h3, h4, _⟩ := tyT_some ht
  rw [hz] at h4
  cases hi : i.zero with
  | none => rw [hi] at h4; cases h4
  | some Z =>
    rw [hi] at h4
    simp only [Option.map_some, Option.some.injEq] at h4
    simp only [execOp, hop]
    refine OpOk.value ?_
    refine Ok.then (ok_zeroValue h1 hi) ?_
    obtain ⟨c', q1, q2, q3⟩ := rebind_new (el := e) (cells := Z.cells) (cs := z) hH hr (by rw [← h4]; exact VRL_constA c _)
    exact ⟨_, _, c', _, _, rfl, ⟨rfl, rfl⟩, q3, q1, q2⟩

/-- ████ A channel at a name held in reserve. ████ -/
theorem FreeAt.makeChan {t el : TypeId} {f fe : TF} {dir : ChanDir} {h : List Blk} {r g : Nat} (ho : ops[i]? = some o) (hop : o.op = .makeChan t (.const (.int .i64 0))) (hog : o.guard = none) (ht : tyT P t = some f) (hd : f.d = .chan dir el) (hte : tyT P el = some fe) (hr : h[r]? = some (.cells g [])) :
    FreeAt P fk ops i o.dst h (.chan ⟨r, g + 1⟩) (h.set r (.chan (g + 1))) := by
  intro Q s rest hs hk main Stop b k cs base c w tmps ds h1 h2 h3 h4
  refine Go'.of_step rfl fun w1 ry => ?_
  have h3' := h3.rely ry
  have hH := h3'.hp
  rw [hs] at hH
  rw [List.singleton_append, stepG_opA ho (by simp [Region.wanted, hog]) (by rw [hop]; rfl)]
  generalize hfr : at' b tmps ds (.inRegion ops (i :: rest) :: k) = fr
  obtain ⟨_, _, hu, _⟩ := tyT_some ht
  obtain ⟨ie, hie, _⟩ := tyT_some hte
  let w2 := w1.alloc (.chan 0 #[] false 0 0 false)
  have hok : Ok P c w1.heap.size (execOp fr.eval o) w1 (fun q => q = .ok (.value (.chan (some w1.heap.size))) w2) := by
    simp only [execOp, hop]
    refine Ok.bind' (Ok.mono (Q := fun q => q = .ok (.chan (some w1.heap.size)) w2) ?_ fun q e => by subst e; exact rfl)
    show Ok P c w1.heap.size (Instr.makeChan t (.int .i64 0)) w1 _
    unfold Instr.makeChan
    refine Ok.then (a := 0) rfl ?_
    refine Ok.then (ok_underlying hu) ?_
    rw [hd]
    refine Ok.then (ok_typeInfo hie) ?_
    rw [if_neg (by simp [IntKind.max, IntKind.signed, IntKind.bits])]
    rfl
  obtain ⟨q, ev, kp⟩ := Ok.spec #[] hok (Nat.le_refl _)
  rw [q] at ev kp
  have hkind : (fr.kind == CallKind.early) = false := by rw [← hfr]; simpa [at'] using h2
  have hfin : fr.finish (.chan (some w1.heap.size)) = at' b (putV tmps o.dst (.chan (some w1.heap.size))) ds (.inRegion ops rest :: k) := by rw [← hfr, finish_at', ho]; rfl
  have hstep : stepG.apply P true fr cs none (execOp fr.eval o) w1 = .go (G (at' b (putV tmps o.dst (.chan (some w1.heap.size))) ds (.inRegion ops rest :: k)) cs) w2 (seen P fr.fn ((execOp fr.eval o).events P w1 #[])) := by
    rw [← hfin]
    simp [stepG.apply, q, hkind, GStep.after, G]
  have hlt : r < c.own.length := by rw [← hH.len]; exact (List.getElem?_eq_some_iff.1 hr).1
  have he : c.own[r]? = some c.own[r] := by simp [hlt]
  have hg : c.own[r].gen = g := (hH.blk _ _ _ he hr).1
  let e' : Ent := ⟨g + 1, some (w1.heap.size, 0)⟩
  let c2 : Cx := { c with own := c.own.set r e', com := { c.com with chans := fun x => c.com.chans x ∨ x = w1.heap.size } }
  have hx : Ext c c2 := ⟨fun j ej hj => by
    by_cases hij : r = j
    · subst hij
      rw [he] at hj
      cases hj
      exact ⟨e', by simp only [c2]; rw [List.getElem?_set_self hlt], by show c.own[r].gen ≤ g + 1; omega, fun h => by have : c.own[r].gen = g + 1 := h; omega⟩
    · exact ⟨ej, by simp only [c2]; rw [List.getElem?_set_ne hij]; exact hj, Nat.le_refl _, fun _ => rfl⟩, fun _ _ h => h, rfl⟩
  have himm : c.imm w1.heap.size = none := by
    cases hi : c.imm w1.heap.size with
    | none => rfl
    | some o => have := (Array.getElem?_eq_some_iff.1 (hH.imm _ o hi).2).1; omega
  have hnm : ¬ c.mine w1.heap.size := fun h => by have := hH.mine _ h; omega
  have hop2 : OpenChan w2 w1.heap.size := ⟨0, heap_alloc_self _ _⟩
  have hH2 : HR c2 w2 (h.set r (.chan (g + 1))) := by
    refine ⟨by simp [c2, hH.len], ?_, ?_, fun b hb => Nat.lt_of_lt_of_le (hH.mine b hb) (by simp [w2]), fun b o hb => ⟨(hH.imm b o hb).1, ?_⟩, ?_⟩
    · intro j ej bj g1 g2
      simp only [c2] at g1
      by_cases hij : r = j
      · subst hij
        rw [List.getElem?_set_self hlt] at g1
        rw [List.getElem?_set_self (List.getElem?_eq_some_iff.1 hr).1] at g2
        cases g1; cases g2
        exact ⟨rfl, w1.heap.size, 0, rfl, .inr rfl⟩
      · rw [List.getElem?_set_ne hij] at g1 g2
        exact (hH.blk j ej bj g1 g2).grow hx (fun _ h => .inl h) (fun _ h => h) fun b hb => heap_alloc_old _ _ (hH.mine b hb)
    · intro a1 a2 e1 e2 b1 b2 y1 y2 hne g1 g2 g3 g4 l1 l2 s1 s2
      simp only [c2] at g1 g2
      have key : ∀ (m : Nat) (em : Ent) (bm : Blk) (y : Nat × Nat), (c.own.set r e')[m]? = some em → (h.set r (.chan (g + 1)))[m]? = some bm → bm.live = true → em.seat = some y →
          (m = r ∧ y.1 = w1.heap.size) ∨ (m ≠ r ∧ c.own[m]? = some em ∧ h[m]? = some bm ∧ y.1 < w1.heap.size) := by
        intro m em bm y q1 q2 q3 q4
        by_cases him : r = m
        · subst him
          rw [List.getElem?_set_self hlt] at q1
          cases q1
          have : (some (w1.heap.size, 0) : Option (Nat × Nat)) = some y := q4
          cases this
          exact .inl ⟨rfl, rfl⟩
        · rw [List.getElem?_set_ne him] at q1 q2
          exact .inr ⟨fun e => him e.symm, q1, q2, hH.seat_lt (hH.blk m em bm q1 q2) q3 q4⟩
      rcases key a1 e1 b1 y1 g1 g3 l1 s1 with ⟨p1, p2⟩ | ⟨p1, p2, p3, p4⟩ <;> rcases key a2 e2 b2 y2 g2 g4 l2 s2 with ⟨q1, q2⟩ | ⟨q1, q2, q3, q4⟩
      · omega
      · omega
      · omega
      · exact hH.apart a1 a2 e1 e2 b1 b2 y1 y2 hne p2 q2 p3 q3 l1 l2 s1 s2
    · have hbl : b < w1.heap.size := (Array.getElem?_eq_some_iff.1 (hH.imm b o hb).2).1
      rw [heap_alloc_old _ _ hbl]
      exact (hH.imm b o hb).2
    · rintro y (hy | rfl)
      · obtain ⟨p1, p2, p3⟩ := hH.chan y hy
        exact ⟨p1, p2, by unfold OpenChan; rw [heap_alloc_old _ _ p3.lt]; exact p3⟩
      · exact ⟨hnm, himm, hop2⟩
  refine ⟨_, w2, _, c2, hstep, rfl, ⟨kp, fun _ h => .inl h, fun _ _ h => .inl h, fun _ _ h => h, fun x hx => ?_, fun b hb => .inl hb, ?_, fun _ h => .inl h, rfl, rfl, rfl⟩, ?_⟩
  · rcases ev x (mem_seen hx) with h | h
    · simp at h
    · exact h
  · rintro y (hy | rfl)
    · exact .inl hy
    · exact .inr ⟨Nat.le_refl _, hop2, hnm, himm⟩
  · have hV : VR c2 (.chan ⟨r, g + 1⟩) (.chan (some w1.heap.size)) := ⟨⟨_, rfl⟩, e', by simp only [c2]; rw [List.getElem?_set_self hlt], Nat.le_refl _, fun _ => ⟨w1.heap.size, 0, rfl, rfl⟩⟩
    exact hk main Stop b k cs base c2 w2 _ ds h1 h2 ⟨(h3.sl.ext hx).put o.dst hV, h3.df.ext hx, hH2, h3.gh.ext hx rfl rfl⟩ fun e s' c3 w3 t3 d3 q r3 y => h4 e s' c3 w3 t3 d3 q r3 ((hx.toT _).transT y)
end
end Go.Mac

/-! MacCI -/
/- MacCI: a goroutine is started; it sends; what it sends is received. No program is in sight. -/
namespace Go.Mac
open Go Go.Conc

/-- A goroutine at its start. -/
def childOf (P : Program) (g : FuncId) (cap : Array Value) : Goroutine :=
  { frame := { (default : Frame) with fn := P.funcs.size, defers := [{ target := .fn (.func g) cap, args := #[] }], mode := .panicking [goexitEntry] }, callers := [], status := .running, dying := none }

/-- ████ A contract of a goroutine that sends 'O', and holds nothing of its own. ████ -/
def SendA (P : Program) (g : FuncId) (cap : List AV) (h : List Blk) (O : List (Nm × Value)) : Prop :=
  ∀ (c : Cx) (w : World) (vcap : Array Value), VRL c cap vcap.toList → HR c w h → c.com.todo = [] → MR c O c.com.out → Go' P false (fun _ _ _ => False) c (childOf P g vcap) w

/-- The blocks as another goroutine sees them. -/
def shareB : Blk → Blk
  | .chan g => .chan g
  | .role _ => .role false
  | _ => .dead

theorem MR.exists {c : Cx} {w : World} {h : List Blk} (hH : HR c w h) : ∀ {O : List (Nm × Value)}, (∀ m ∈ O, h[m.1.id]? = some (.chan m.1.gen)) → ∃ M, MR c O M ∧ M.length = O.length ∧ ∀ m ∈ M, c.com.chans m.1
  | [], _ => ⟨[], rfl, rfl, by simp⟩
  | m :: O, hm => by
    obtain ⟨M, h1, h2, h3⟩ := MR.exists hH fun x hx => hm x (List.mem_cons_of_mem _ hx)
    have hb := hm m List.mem_cons_self
    have hlt : m.1.id < c.own.length := by rw [← hH.len]; exact (List.getElem?_eq_some_iff.1 hb).1
    have he : c.own[m.1.id]? = some c.own[m.1.id] := by simp [hlt]
    obtain ⟨h0, b, k, hs, hc⟩ := hH.blk _ _ _ he hb
    refine ⟨(b, m.2) :: M, ⟨b, M, rfl, ⟨_, he, by omega, fun _ => ⟨k, hs⟩⟩, h1⟩, by simp [h2], ?_⟩
    intro x hx
    rcases List.mem_cons.1 hx with rfl | hx
    · exact hc
    · exact h3 x hx

theorem MRL.append {c : Cx} : ∀ {A : List (List (Nm × Value))} {T : List (List (Nat × Value))} {a : List (Nm × Value)} {t : List (Nat × Value)}, MRL c A T → MR c a t → MRL c (A ++ [a]) (T ++ [t])
  | [], _, _, t, h, h' => by cases h; exact ⟨t, [], rfl, h', rfl⟩
  | _ :: _, _, _, _, ⟨x, l', e, h1, h2⟩, h' => by subst e; exact ⟨x, _, rfl, h1, MRL.append h2 h'⟩

theorem DR.same {c c' : Cx} (x : Same c c') {a : ADef} {d : Deferred} (h : DR c a d) : DR c' a d := by
  cases a with
  | call f cap args => obtain ⟨l1, l2, e, h1, h2⟩ := h; exact ⟨l1, l2, e, h1.same x, h2.same x⟩
  | mark n =>
    have h' : c.At n fun s => ∃ b k, s = some (b, k) ∧ d = { target := .collected b, args := #[] } := h
    exact h'.same x
theorem DRL.same {c c' : Cx} (x : Same c c') : ∀ {as : List ADef} {ds : List Deferred}, DRL c as ds → DRL c' as ds
  | [], _, h => h
  | _ :: _, _, h => by obtain ⟨d, ds, e, h1, h2⟩ := h; exact ⟨d, ds, e, h1.same x, DRL.same x h2⟩
theorem MR.same {c c' : Cx} (x : Same c c') : ∀ {ms : List (Nm × Value)} {l : List (Nat × Value)}, MR c ms l → MR c' ms l
  | [], _, h => h
  | _ :: _, _, ⟨r, l', e, h1, h2⟩ => ⟨r, l', e, h1.same x, MR.same x h2⟩
theorem MRL.same {c c' : Cx} (x : Same c c') : ∀ {ms : List (List (Nm × Value))} {l : List (List (Nat × Value))}, MRL c ms l → MRL c' ms l
  | [], _, h => h
  | _ :: _, _, ⟨r, l', e, h1, h2⟩ => ⟨r, l', e, h1.same x, MRL.same x h2⟩

/-- What is to be sent may be turned. -/
theorem HR.com {c : Cx} {w : World} {h : List Blk} (x : HR c w h) {m : Com} (e1 : m.main = c.com.main) (e2 : m.chans = c.com.chans) : HR { c with com := m } w h where
  len := x.len
  blk i e b h1 h2 := by
    have xx : Ext c { c with com := m } := ⟨fun _ e h => ⟨e, h, Nat.le_refl _, fun _ => rfl⟩, fun _ _ h => h, e1⟩
    exact BR.grow xx (fun r hr => by show m.chans r; rw [e2]; exact hr) (fun _ h => h) (fun _ _ => rfl) (x.blk i e b h1 h2)
  apart := x.apart
  mine := x.mine
  imm := x.imm
  chan r hr := x.chan r (by have : m.chans r := hr; rw [e2] at this; exact this)

section
variable {P : Program} {fk : FK} {Q : AExit → AS → Prop} {s : AS} {ops : Array Oper} {i : Nat} {rest : List Nat} {o : Oper}

/-- ████ A goroutine is started. ████ -/
theorem WPI.go {f : Operand} {ats : Array TypeId} {g : FuncId} {cap : List AV} {ri : Nat} (O : List (Nm × Value)) (hro : s.hp[ri]? = some (.role true)) (ho : ops[i]? = some o) (hop : o.op = .go { callee := .value f, args := #[], argTypes := ats }) (hog : o.guard = none) (hf : evA s.sl f = .fn (.func g) [] cap)
    (hO : O ≠ []) (hch : ∀ m ∈ O, s.hp[m.1.id]? = some (.chan m.1.gen)) (hs : SendA P g cap (s.hp.map shareB) O)
    (h : WPI P fk [.inRegion ops rest] Q { s with sl := putA s.sl o.dst (.tup []), gh := { s.gh with todo := s.gh.todo ++ [O] } }) : WPI P fk [.inRegion ops (i :: rest)] Q s := by
  intro main Stop b k cs base c w tmps ds h1 h2 h3 h4
  generalize hfr : at' b tmps ds (.inRegion ops (i :: rest) :: k) = fr
  have hρ : VR c (evA s.sl f) (fr.eval f) := by rw [← hfr]; exact VR_evA h3.sl b ds _ f
  rw [hf] at hρ
  obtain ⟨L1, L2, hF, hL1, hL2⟩ := hρ
  have hL1' : L1 = [] := hL1
  subst hL1'
  have hH := h3.hp
  have hrole : c.com.main = true := by
    have hlt : ri < c.own.length := by rw [← hH.len]; exact (List.getElem?_eq_some_iff.1 hro).1
    exact hH.blk ri c.own[ri] _ (by simp [hlt]) hro
  have hst : ∀ w1, stepG P main (G fr cs) w1 = .spawn (G (at' b (putV tmps o.dst undef) ds (.inRegion ops rest :: k)) cs) (childOf P g L2.toArray) w1 #[] := by
    intro w1
    have hs : stepG P main (G fr cs) w1 = stepG.apply P true fr cs none (execOp fr.eval o) w1 := by
      rw [← hfr]
      exact stepG_opA ho (by simp [Region.wanted, hog]) (by rw [hop]; rfl)
    rw [hs]
    have hrun : (execOp fr.eval o).runT P w1 #[] = (.ok (.spawn { target := .fn (.func g) L2.toArray, args := #[] }) w1, #[]) := by
      simp only [execOp, hop, resolve, hF, Deferred.ofValue]
      simp
    have hkind : (fr.kind == CallKind.early) = false := by rw [← hfr]; simpa [at'] using h2
    have hfin : fr.finish undef = at' b (putV tmps o.dst undef) ds (.inRegion ops rest :: k) := by rw [← hfr, finish_at', ho]; rfl
    simp only [stepG.apply, if_true, hrun, hkind, Bool.false_eq_true, if_false, GStep.after, hfin]
    simp [G, seen, childOf]
  rw [List.singleton_append, hfr]
  obtain ⟨M, m1, m2, m3⟩ := MR.exists hH hch
  have hM : M ≠ [] := by
    intro e
    rw [e] at m2
    exact hO (List.length_eq_zero_iff.1 m2.symm)
  let cc : Cx := { c with mine := fun _ => False, com := { main := false, chans := c.com.chans, out := M, todo := [] } }
  have hsame : Same c cc := ⟨rfl, fun _ _ h => h⟩
  have hHc : ∀ w1, RL c w w1 → HR cc w1 (s.hp.map shareB) := fun w1 r => by
    have hH1 := hH.rely r
    have lv : ∀ (b : Blk), (shareB b).live = true → ∃ g, b = .chan g := by
      intro b hb
      cases b <;> simp [shareB, Blk.live] at hb ⊢
    refine ⟨by simp [hH1.len, cc], ?_, ?_, fun b hb => hb.elim, fun b o hb => ⟨fun q => q, (hH1.imm b o hb).2⟩, fun r hr => ⟨fun q => q, (hH1.chan r hr).2⟩⟩
    · intro j e b' hj hb'
      rw [List.getElem?_map] at hb'
      cases hbj : s.hp[j]? with
      | none => rw [hbj] at hb'; cases hb'
      | some b0 =>
        rw [hbj] at hb'
        simp only [Option.map_some, Option.some.injEq] at hb'
        subst hb'
        have := hH1.blk j e b0 hj hbj
        cases b0 <;> first | trivial | exact this | rfl
    · intro j1 j2 e1 e2 b1 b2 y1 y2 hne g1 g2 g3 g4 l1 l2 s1 s2
      rw [List.getElem?_map] at g3 g4
      cases hb1 : s.hp[j1]? with
      | none => rw [hb1] at g3; cases g3
      | some b10 =>
        cases hb2 : s.hp[j2]? with
        | none => rw [hb2] at g4; cases g4
        | some b20 =>
          rw [hb1] at g3
          rw [hb2] at g4
          simp only [Option.map_some, Option.some.injEq] at g3 g4
          subst g3 g4
          obtain ⟨gg1, rfl⟩ := lv _ l1
          obtain ⟨gg2, rfl⟩ := lv _ l2
          exact hH1.apart j1 j2 e1 e2 _ _ y1 y2 hne g1 g2 hb1 hb2 rfl rfl s1 s2
  refine .spawn (cc := cc) (c' := { c with com := { c.com with todo := c.com.todo ++ [M] } }) (child := childOf P g L2.toArray) hrole rfl rfl rfl hst ⟨rfl, rfl, rfl, rfl, rfl, rfl, rfl⟩ ⟨fun b hb => hb, fun b o hb => ⟨hb, (hH.imm b o hb).1⟩, fun r hr => hr, rfl, hM, rfl, m3⟩ ?_ ?_
  · exact hs cc w L2.toArray (hL2.same hsame) (hHc w (RL.refl _ _)) rfl (m1.same hsame)
  · have hs2 : Same c { c with com := { c.com with todo := c.com.todo ++ [M] } } := ⟨rfl, fun _ _ h => h⟩
    refine h main Stop b k cs base { c with com := { c.com with todo := c.com.todo ++ [M] } } w _ ds h1 h2 ⟨?_, ?_, ?_, ?_⟩ ?_
    · exact (h3.sl.put o.dst (v := .tup []) (V := undef) ⟨[], rfl, rfl⟩).same hs2
    · exact h3.df.same hs2
    · exact hH.com rfl rfl
    · obtain ⟨⟨M0, q1, q2⟩, q3⟩ := h3.gh
      exact ⟨⟨M0, q1, q2.same hs2⟩, (q3.same hs2).append (m1.same hs2)⟩
    · intro e s' c2 w2 t2 d2 q r y
      exact h4 e s' c2 w2 t2 d2 q r ⟨y.own, y.imm, y.main⟩

/-- What an operand is, that is a channel's name. -/
theorem chan_seat {c : Cx} {w : World} {h : List Blk} (hH : HR c w h) {n : Nm} (hb : h[n.id]? = some (.chan n.gen)) {V : Value} (hV : VR c (.chan n) V) : ∃ r, V = .chan (some r) ∧ c.com.chans r ∧ c.At n fun s => ∃ k, s = some (r, k) := by
  have hlt : n.id < c.own.length := by rw [← hH.len]; exact (List.getElem?_eq_some_iff.1 hb).1
  have he : c.own[n.id]? = some c.own[n.id] := by simp [hlt]
  obtain ⟨h0, b, k, hs, hc⟩ := hH.blk _ _ _ he hb
  obtain ⟨b', k', q1, q2⟩ := At_some hV.2 he (by omega)
  rw [hs] at q1
  cases q1
  exact ⟨b, q2, hc, _, he, by omega, fun _ => ⟨k, hs⟩⟩

theorem At_uniq {c : Cx} {n : Nm} {r r' : Nat} (h : c.At n fun s => ∃ k, s = some (r, k)) (h' : c.At n fun s => ∃ k, s = some (r', k)) (hg : ∀ e, c.own[n.id]? = some e → n.gen = e.gen) : r = r' := by
  obtain ⟨e, he, _, p⟩ := h
  obtain ⟨e', he', _, p'⟩ := h'
  rw [he] at he'
  cases he'
  obtain ⟨k, hk⟩ := p (hg e he)
  obtain ⟨k', hk'⟩ := p' (hg e he)
  rw [hk] at hk'
  cases hk'
  rfl

theorem chan_gen {c : Cx} {w : World} {h : List Blk} (hH : HR c w h) {n : Nm} (hb : h[n.id]? = some (.chan n.gen)) : ∀ e, c.own[n.id]? = some e → n.gen = e.gen := fun e he => (hH.blk _ _ _ he hb).1.symm

/-- ████ Something is sent, and more is going to be sent. ████ -/
theorem WPI.send {ch x : Operand} {n : Nm} {bv : Bool} {out : List (Nm × Value)} {ri : Nat} (hro : s.hp[ri]? = some (.role false)) (ho : ops[i]? = some o) (hop : o.op = .send ch x) (hog : o.guard = none) (hc : evA s.sl ch = .chan n) (hx : evA s.sl x = .bool bv)
    (hout : s.gh.out = (n, .bool bv) :: out) (hne : out ≠ []) (hlive : s.hp[n.id]? = some (.chan n.gen))
    (h : WPI P fk [.inRegion ops rest] Q { s with sl := putA s.sl o.dst (.tup []), gh := { s.gh with out := out } }) : WPI P fk [.inRegion ops (i :: rest)] Q s := by
  intro main Stop b k cs base c w tmps ds h1 h2 h3 h4
  generalize hfr : at' b tmps ds (.inRegion ops (i :: rest) :: k) = fr
  have hρ : ∀ x, VR c (evA s.sl x) (fr.eval x) := fun x => by rw [← hfr]; exact VR_evA h3.sl b ds _ x
  have hH := h3.hp
  have hrole : c.com.main = false := by
    have hlt : ri < c.own.length := by rw [← hH.len]; exact (List.getElem?_eq_some_iff.1 hro).1
    exact hH.blk ri c.own[ri] _ (by simp [hlt]) hro
  have hcv := hρ ch
  rw [hc] at hcv
  obtain ⟨r, hr, hch, hat⟩ := chan_seat hH hlive hcv
  have hxv : fr.eval x = .bool bv := by have := hρ x; rw [hx] at this; exact this
  obtain ⟨⟨M0, q1, q2⟩, q3⟩ := h3.gh
  rw [hout] at q2
  obtain ⟨r', M, rfl, q4, q5⟩ := q2
  have hrr : r = r' := At_uniq hat q4 (chan_gen hH hlive)
  subst hrr
  have hMne : M ++ base ≠ [] := by
    cases out with
    | nil => exact absurd rfl hne
    | cons m ms => obtain ⟨_, _, e, _⟩ := q5; rw [e]; simp
  have hst : ∀ w1, stepG P main (G fr cs) w1 = .comm (G fr cs) #[⟨.chan (some r), some (.bool bv), .tuple #[]⟩] true .send w1 #[] := by
    intro w1
    have hs : stepG P main (G fr cs) w1 = stepG.apply P true fr cs none (execOp fr.eval o) w1 := by
      rw [← hfr]
      exact stepG_opA ho (by simp [Region.wanted, hog]) (by rw [hop]; rfl)
    rw [hs]
    have hrun : (execOp fr.eval o).runT P w1 #[] = (.ok (.comm #[⟨.chan (some r), some (.bool bv), .tuple #[]⟩] true .send) w1, #[]) := by
      simp only [execOp, hop, hr, hxv]
      rfl
    have hkind : (fr.kind == CallKind.early) = false := by rw [← hfr]; simpa [at'] using h2
    simp only [stepG.apply, if_true, hrun, hkind, Bool.false_eq_true, if_false, GStep.after]
    simp [G, seen]
  rw [List.singleton_append, hfr]
  let c2 : Cx := { c with com := { c.com with out := M ++ base } }
  have hs2 : Same c c2 := ⟨rfl, fun _ _ h => h⟩
  have hfin : (G fr cs).finishComm P #[⟨.chan (some r), some (.bool bv), .tuple #[]⟩] .send 0 undef false = G (at' b (putV tmps o.dst undef) ds (.inRegion ops rest :: k)) cs := by
    have : fr.finish undef = at' b (putV tmps o.dst undef) ds (.inRegion ops rest :: k) := by rw [← hfr, finish_at', ho]; rfl
    simp [Goroutine.finishComm, commResult, G, this]
  refine .send (c' := c2) (g' := G fr cs) (r := r) (v := .bool bv) (z := .tuple #[]) (rest := M ++ base) hrole rfl rfl hst (by rw [q1]; rfl) hch ⟨rfl, rfl, rfl, rfl, rfl, rfl, rfl⟩ (fun _ => ?_) (fun e => absurd e hMne)
  rw [hfin]
  refine h main Stop b k cs base c2 w _ ds h1 h2 ⟨(h3.sl.put o.dst (v := .tup []) (V := undef) ⟨[], rfl, rfl⟩).same hs2, h3.df.same hs2, hH.com rfl rfl, ⟨M, rfl, q5.same hs2⟩, q3.same hs2⟩ ?_
  intro e s' c3 w3 t3 d3 q r3 y
  exact h4 e s' c3 w3 t3 d3 q r3 ⟨y.own, y.imm, y.main⟩
end

/-! ### The end of a goroutine that sends -/
theorem quits_end {P : Program} {b : Frame} {g : FuncId} {fn : Func} {ops : Array Oper} {tmps : Array Value} (hf : P.funcs[g]? = some fn) (hres : fn.results = #[]) (hfn : b.fn = g) (hro : b.roundOf = none) (hk : b.kind = .deferred) :
    QuitsIn P 4 (G (at' b tmps [] [.inRegion ops []]) [{ (default : Frame) with fn := P.funcs.size, defers := [], mode := .panicking [goexitEntry] }]) := by
  refine QuitsIn.ctl rfl (g' := G (at' b tmps [] []) [{ (default : Frame) with fn := P.funcs.size, defers := [], mode := .panicking [goexitEntry] }]) (fun w => by simp [G, stepG, stepG.exec, at']) ?_
  refine QuitsIn.ctl rfl (g' := G { at' b tmps [] [] with mode := .returning } [{ (default : Frame) with fn := P.funcs.size, defers := [], mode := .panicking [goexitEntry] }]) (fun w => by simp [G, stepG, stepG.exec, at', hro]) ?_
  refine QuitsIn.ctl rfl (g' := G { (default : Frame) with fn := P.funcs.size, defers := [], mode := .panicking [goexitEntry] } []) (fun w => ?_) ?_
  · have hr : (results fn tmps).runT P w #[] = (.ok (.tuple #[]) w, #[]) := by unfold results; rw [hres, Array.mapM_eq_mapM_toList]; rfl
    simp [G, stepG, unwind, at', hfn, hf, hr, doReturn, hk, GStep.after, seen, goexitEntry, -Sem.runT_eq]
  · refine QuitsIn.ctl rfl (g' := { frame := { (default : Frame) with fn := P.funcs.size, defers := [], mode := .panicking [goexitEntry] }, callers := [], status := .finished, dying := none }) (fun w => ?_) ?_
    · have hc : ({ (default : Frame) with fn := P.funcs.size, defers := [], mode := .panicking [goexitEntry] } : Frame).catches P = false := by
        unfold Frame.catches
        simp only [Array.getElem?_size]
        rfl
      simp only [G, stepG, unwind, hc, Bool.false_eq_true, if_false]
      rfl
    · rfl

/-- ████ A goroutine whose last doing is to read a channel out of a cell and to send 'true' there. ████ -/
theorem SendA.of_body {P : Program} {g : FuncId} {fn : Func} {c0 : Code} {id : Nat} {ops : Array Oper} {o0 o1 : Oper} {t : TypeId} {f : TF} {a d : Tmp} {cap : List AV} {h : List Blk} {O : List (Nm × Value)} {n : Nm} {ri : Nat} (hf : P.funcs[g]? = some fn) (hname : (fn.name == "runtime.NumGoroutine") = false) (hb : fn.body = some (.seq c0 (.region id ops false))) (hres : fn.results = #[])
    (hops : ops = #[o0, o1]) (ho0 : o0.op = .load t (.tmp a)) (hd0 : o0.dst = some d) (hg0 : o0.guard = none) (ho1 : o1.op = .send (.tmp d) (.const (.bool true))) (hg1 : o1.guard = none) (hd1 : o1.dst = none) (ht : tyT P t = some f) (hfd : aggD f.d = false)
    (hw : WP P ⟨g, false, h.length⟩ c0 (fun e s => match e with
      | .normal => s.df = [] ∧ s.gh.out = [(n, .bool true)] ∧ s.hp[n.id]? = some (.chan n.gen) ∧ s.hp[ri]? = some (.role false) ∧ d < s.sl.length ∧ ∃ cs, cellsAt s.hp (evA s.sl (.tmp a)) = some (.chan n :: cs)
      | _ => False) { sl := cap ++ List.replicate (fn.ntmps - cap.length) (.tup []), df := [], hp := h, gh := { out := O } }) : SendA P g cap h O := by
  intro c w vcap hv hH htodo hM
  generalize hfr0 : Frame.enter P g vcap .deferred = b0
  have hkind : b0.kind = .deferred := by rw [← hfr0]; rfl
  have hro : b0.roundOf = none := by rw [← hfr0]; rfl
  have hfn : b0.fn = g := by rw [← hfr0]; rfl
  have hb0 : b0 = at' b0 (vcap ++ Array.replicate (fn.ntmps - vcap.size) undef) [] [.code (.seq c0 (.region id ops false))] := by
    rw [← hfr0]; simp [Frame.enter, at', hf, hb]
  let fr1 : Frame := { (default : Frame) with fn := P.funcs.size, defers := [], mode := .panicking [goexitEntry] }
  have hst0 : ∀ w1, stepG P false (childOf P g vcap) w1 = .go (G b0 [fr1]) w1 #[] := by
    intro w1
    have hu : stepG P false (childOf P g vcap) w1 = unwind P false { (default : Frame) with fn := P.funcs.size, defers := [{ target := .fn (.func g) vcap, args := #[] }], mode := .panicking [goexitEntry] } [] none w1 := rfl
    rw [hu]
    have hrun : (invoke (.fn (.func g) vcap) #[]).runT P w1 #[] = (.ok (.enter g vcap) w1, #[]) := by
      have he : invoke (.fn (.func g) vcap) #[] = callFunc g (#[] ++ vcap) := rfl
      rw [he, show (#[] : Array Value) ++ vcap = vcap by simp]
      unfold callFunc
      show Sem.runT P (match P.funcs[g]? with
        | none => _
        | some fn => _) w1 #[] = _
      rw [hf]
      have hbn : fn.body.isNone = false := by rw [hb]; rfl
      simp only [hname, Bool.false_eq_true, if_false, hbn]
      rfl
    simp only [unwind, callDeferred]
    rw [if_neg (by simp), hrun, ← hfr0]
    simp [GStep.after, seen, G, fr1]
  refine Go'.idle rfl rfl hst0 ?_
  rw [hb0]
  have hsz : vcap.size = cap.length := by have := hv.length; simpa using this
  have hrep : ∀ n, VRL c (List.replicate n (.tup [])) (List.replicate n undef) := by
    intro n
    induction n with
    | zero => rfl
    | succ n ih => exact ⟨_, _, rfl, ⟨[], rfl, rfl⟩, ih⟩
  have hsr : SR [] c w { sl := cap ++ List.replicate (fn.ntmps - cap.length) (.tup []), df := [], hp := h, gh := { out := O } } (vcap ++ Array.replicate (fn.ntmps - vcap.size) undef) [] :=
    ⟨by simp only [Array.toList_append, Array.toList_replicate]; rw [hsz]; exact hv.append (hrep _), rfl, hH, ⟨_, by simp, hM⟩, htodo⟩
  refine Go'.idle (g' := G (at' b0 (vcap ++ Array.replicate (fn.ntmps - vcap.size) undef) [] ([.code c0] ++ [.code (.region id ops false)])) [fr1]) rfl rfl (fun w1 => by simp [G, stepG, stepG.exec, at']) ?_
  refine hw false _ b0 _ [fr1] [] c w _ [] ⟨hfn, fun _ => hro⟩ (by rw [hkind]; simp) hsr ?_
  intro e s2 c2 w2 t2 d2 q r2 x2
  cases e with
  | exit id => exact q.elim
  | goto l => exact q.elim
  | ret => exact q.elim
  | panic v => exact q.elim
  | normal =>
  obtain ⟨hdf, hout, hlive, hrl, hdl, cs, hcs⟩ := q
  have hds : d2 = [] := by have := r2.df; rw [hdf] at this; exact this
  subst hds
  refine Go'.idle (g' := G (at' b0 t2 [] ([.inRegion ops [0, 1]])) [fr1]) rfl rfl (fun w1 => by simp [G, stepG, stepG.exec, at', hops]; rfl) ?_
  have hi0 : ops[0]? = some o0 := by rw [hops]; rfl
  have hi1 : ops[1]? = some o1 := by rw [hops]; rfl
  -- the channel is read
  refine Go'.of_step rfl fun w3 ry => ?_
  have r3 := r2.rely ry
  rw [stepG_opA hi0 (by simp [Region.wanted, hg0]) (by rw [ho0]; rfl)]
  generalize hfr : at' b0 t2 [] [.inRegion ops [0, 1]] = fr
  have hρ : ∀ x, VR c2 (evA s2.sl x) (fr.eval x) := fun x => by rw [← hfr]; exact VR_evA r3.sl b0 [] _ x
  have hload : opW P o0.op (evA s2.sl) s2.hp (fun v h' => v = .chan n ∧ h' = s2.hp) := by
    rw [ho0]
    simp only [opW, loadW, ht, hcs, hfd]
    simp [readA, hfd]
  obtain ⟨⟨nx, V, w4, c4, v, h4, e4, hgiv, ⟨rfl, rfl⟩, hV, hH4, hT⟩, ev, kp⟩ := Ok.spec #[] (opW_ok hload hρ r3.hp) (Nat.le_refl _)
  rw [e4] at kp ev
  have hkd : (fr.kind == CallKind.early) = false := by rw [← hfr]; show (b0.kind == CallKind.early) = false; rw [hkind]; rfl
  have hfin : fr.finish V = at' b0 (putV t2 (some d) V) [] [.inRegion ops [1]] := by rw [← hfr, finish_at', hi0, Option.bind_some, hd0]
  have hstep : stepG.apply P true fr [fr1] none (execOp fr.eval o0) w3 = .go (G (at' b0 (putV t2 (some d) V) [] [.inRegion ops [1]]) [fr1]) w4 (seen P fr.fn ((execOp fr.eval o0).events P w3 #[])) := by
    rw [← hfin]
    cases nx <;> simp only [givenBy, Option.some.injEq, reduceCtorEq] at hgiv
    · subst hgiv; simp [stepG.apply, e4, hkd, GStep.after, G]
    · subst hgiv; simp [stepG.apply, e4, hkd, GStep.after, G]
  refine ⟨_, w4, _, c4, hstep, rfl, ⟨kp, hT.mine, hT.imm, hT.ext.imm, fun x hx => ?_, fun b hb => .inr (hH4.low hb), fun r hr => .inl (by rw [hT.com] at hr; exact hr), fun r hr => by rw [hT.com]; exact hr, by rw [hT.com], by rw [hT.com], by rw [hT.com]⟩, ?_⟩
  · rcases ev x (mem_seen hx) with h | h
    · simp at h
    · exact h
  -- the last is sent
  have hrole : c4.com.main = false := by
    have hlt : ri < c4.own.length := by rw [← hH4.len]; exact (List.getElem?_eq_some_iff.1 hrl).1
    exact hH4.blk ri c4.own[ri] _ (by simp [hlt]) hrl
  obtain ⟨r, hr, hch, hat⟩ := chan_seat hH4 hlive hV
  obtain ⟨⟨M0, q1, q2⟩, q3⟩ := r3.gh.ext hT.ext (by rw [hT.com]) (by rw [hT.com])
  rw [hout] at q2
  obtain ⟨r', M, rfl, q4, q5⟩ := q2
  have hM' : M = [] := q5
  subst hM'
  have hrr : r = r' := At_uniq hat q4 (chan_gen hH4 hlive)
  subst hrr
  have hlen : d < t2.size := by have hq := r2.sl.length; rw [Array.length_toList] at hq; rw [hq]; exact hdl
  generalize hfr2 : at' b0 (putV t2 (some d) V) [] [.inRegion ops [1]] = fr2
  have hev : fr2.eval (.tmp d) = .chan (some r) := by
    rw [← hfr2, ← hr]
    simp [Frame.eval, at', putV, hlen]
  have hst2 : ∀ w1, stepG P false (G fr2 [fr1]) w1 = .comm (G fr2 [fr1]) #[⟨.chan (some r), some (.bool true), .tuple #[]⟩] true .send w1 #[] := by
    intro w1
    have hs : stepG P false (G fr2 [fr1]) w1 = stepG.apply P true fr2 [fr1] none (execOp fr2.eval o1) w1 := by
      rw [← hfr2]
      exact stepG_opA hi1 (by simp [Region.wanted, hg1]) (by rw [ho1]; rfl)
    rw [hs]
    have hrun : (execOp fr2.eval o1).runT P w1 #[] = (.ok (.comm #[⟨.chan (some r), some (.bool true), .tuple #[]⟩] true .send) w1, #[]) := by
      simp only [execOp, ho1, hev]
      rfl
    have hkd2 : (fr2.kind == CallKind.early) = false := by rw [← hfr2]; show (b0.kind == CallKind.early) = false; rw [hkind]; rfl
    simp only [stepG.apply, if_true, hrun, hkd2, Bool.false_eq_true, if_false, GStep.after]
    simp [G, seen]
  have hfin2 : (G fr2 [fr1]).finishComm P #[⟨.chan (some r), some (.bool true), .tuple #[]⟩] .send 0 undef false = G (at' b0 (putV t2 (some d) V) [] [.inRegion ops []]) [fr1] := by
    have : fr2.finish undef = at' b0 (putV t2 (some d) V) [] [.inRegion ops []] := by rw [← hfr2, finish_at', hi1, Option.bind_some, hd1]; rfl
    simp [Goroutine.finishComm, commResult, G, this]
  refine .send (c' := { c4 with com := { c4.com with out := [] } }) (g' := G fr2 [fr1]) (r := r) (v := .bool true) (z := .tuple #[]) (rest := []) hrole rfl rfl hst2 (by rw [q1]; rfl) hch ⟨rfl, rfl, rfl, rfl, rfl, rfl, rfl⟩ (fun hne => absurd rfl hne) (fun _ => ⟨4, ?_⟩)
  rw [hfin2]
  exact quits_end hf hres hfn hro hkind
end Go.Mac

/-! MacCJ -/
/- MacCJ: what others send is received by a select of two cases. No program is in sight. -/
namespace Go.Mac
open Go Go.Conc

/-- What goes on when something has been sent, abstractly. -/
def restA (rest : List (Nm × Value)) : List (List (Nm × Value)) := if rest = [] then [] else [rest]

theorem MRL.split {c : Cx} : ∀ {A : List (List (Nm × Value))} {T1 T2 : List (List (Nat × Value))} {X : List (Nat × Value)}, MRL c A (T1 ++ X :: T2) → ∃ A1 a A2, A = A1 ++ a :: A2 ∧ MRL c A1 T1 ∧ MR c a X ∧ MRL c A2 T2
  | [], T1, _, _, h => by have h' : T1 ++ _ :: _ = [] := h; simp at h'
  | a :: A, [], T2, X, ⟨x, l', e, h1, h2⟩ => by
    simp only [List.nil_append, List.cons.injEq] at e
    obtain ⟨rfl, rfl⟩ := e
    exact ⟨[], a, A, rfl, rfl, h1, h2⟩
  | a :: A, t :: T1, T2, X, ⟨x, l', e, h1, h2⟩ => by
    simp only [List.cons_append, List.cons.injEq] at e
    obtain ⟨rfl, rfl⟩ := e
    obtain ⟨A1, b, A2, rfl, g1, g2, g3⟩ := MRL.split h2
    exact ⟨a :: A1, b, A2, rfl, ⟨_, _, rfl, h1, g1⟩, g2, g3⟩

theorem MRL.app {c : Cx} : ∀ {A B : List (List (Nm × Value))} {T U : List (List (Nat × Value))}, MRL c A T → MRL c B U → MRL c (A ++ B) (T ++ U)
  | [], _, _, _, h, h' => by cases h; exact h'
  | _ :: _, _, _, _, ⟨x, l', e, h1, h2⟩, h' => by subst e; exact ⟨x, _, rfl, h1, MRL.app h2 h'⟩

theorem MRL.rest {c : Cx} {ar : List (Nm × Value)} {rest : List (Nat × Value)} (h : MR c ar rest) : MRL c (restA ar) (restOf rest) := by
  cases ar with
  | nil => have : rest = [] := h; subst this; rfl
  | cons m ms =>
    obtain ⟨r, l', rfl, h1, h2⟩ := h
    simp only [restA, restOf, List.cons_ne_nil, if_false]
    exact ⟨_, _, rfl, ⟨r, l', rfl, h1, h2⟩, rfl⟩

theorem MRL.mem {c : Cx} : ∀ {A : List (List (Nm × Value))} {T : List (List (Nat × Value))}, MRL c A T → ∀ ms ∈ T, ∃ a ∈ A, MR c a ms
  | [], _, h, ms, hm => by cases h; cases hm
  | a :: A, _, ⟨x, l', e, h1, h2⟩, ms, hm => by
    subst e
    rcases List.mem_cons.1 hm with rfl | hm
    · exact ⟨a, List.mem_cons_self, h1⟩
    · obtain ⟨b, hb, hr⟩ := MRL.mem h2 ms hm
      exact ⟨b, List.mem_cons_of_mem _ hb, hr⟩

theorem zeroValue_runT {P : Program} {e : TypeId} {ie : TypeInfo} {Z : Value} (h : P.info? e = some ie) (hz : ie.zero = some Z) (w : World) (es : Array Event) : (zeroValue e).runT P w es = (.ok Z w, es) := by
  have ht : (typeInfo e).runT P w es = (.ok ie w, es) := by
    unfold typeInfo
    show Sem.runT P ((match P.info? e with | some i => _ | none => _ : Sem TypeInfo)) w es = _
    rw [h]
    rfl
  unfold zeroValue
  show Sem.runT P ((typeInfo e).bind _) w es = _
  rw [Sem.runT_bind', ht]
  simp only [hz]
  rfl

section
variable {P : Program} {fk : FK} {Q : AExit → AS → Prop} {s : AS} {ops : Array Oper} {i : Nat} {rest : List Nat} {o : Oper}

/-- ████ Something is received, by a select of two cases. ████ -/
theorem WPI.select {x0 x1 : Operand} {e0 e1 : TypeId} {f0 f1 : TF} {n0 n1 : Nm} {ri d : Nat} (hro : s.hp[ri]? = some (.role true)) (ho : ops[i]? = some o) (hop : o.op = .select #[⟨x0, none, e0⟩, ⟨x1, none, e1⟩] true) (hog : o.guard = none) (hod : o.dst = some d)
    (hx0 : evA s.sl x0 = .chan n0) (hx1 : evA s.sl x1 = .chan n1) (h0 : s.hp[n0.id]? = some (.chan n0.gen)) (h1 : s.hp[n1.id]? = some (.chan n1.gen)) (hne : n0.id ≠ n1.id)
    (ht0 : tyT P e0 = some f0) (ht1 : tyT P e1 = some f1) (hz0 : f0.d = .bool) (hz1 : f1.d = .bool) (hzz0 : f0.ze = some [.bool false]) (hzz1 : f1.ze = some [.bool false]) (hf0 : zeroFits P e0 = true) (hf1 : zeroFits P e1 = true)
    (hnil : s.gh.todo ≠ []) (hall : ∀ ms ∈ s.gh.todo, ∃ n b r, ms = (n, .bool b) :: r ∧ (n = n0 ∨ n = n1))
    (h : ∀ T1 n b r T2, s.gh.todo = T1 ++ ((n, .bool b) :: r) :: T2 →
      (n = n0 → WPI P fk [.inRegion ops rest] Q { s with sl := s.sl.set d (.tup [.int .i64 0, .bool true, .bool b, .bool false]), gh := { s.gh with todo := T1 ++ restA r ++ T2 } }) ∧
      (n = n1 → WPI P fk [.inRegion ops rest] Q { s with sl := s.sl.set d (.tup [.int .i64 1, .bool true, .bool false, .bool b]), gh := { s.gh with todo := T1 ++ restA r ++ T2 } })) : WPI P fk [.inRegion ops (i :: rest)] Q s := by
  intro main Stop b k cs base c w tmps ds g1 g2 h3 h4
  generalize hfr : at' b tmps ds (.inRegion ops (i :: rest) :: k) = fr
  have hρ : ∀ x, VR c (evA s.sl x) (fr.eval x) := fun x => by rw [← hfr]; exact VR_evA h3.sl b ds _ x
  have hH := h3.hp
  have hrole : c.com.main = true := by
    have hlt : ri < c.own.length := by rw [← hH.len]; exact (List.getElem?_eq_some_iff.1 hro).1
    exact hH.blk ri c.own[ri] _ (by simp [hlt]) hro
  have hv0 := hρ x0
  rw [hx0] at hv0
  have hv1 := hρ x1
  rw [hx1] at hv1
  obtain ⟨r0, hr0, hc0, ha0⟩ := chan_seat hH h0 hv0
  obtain ⟨r1, hr1, hc1, ha1⟩ := chan_seat hH h1 hv1
  have hrr : r0 ≠ r1 := by
    have l0 : n0.id < c.own.length := by rw [← hH.len]; exact (List.getElem?_eq_some_iff.1 h0).1
    have l1 : n1.id < c.own.length := by rw [← hH.len]; exact (List.getElem?_eq_some_iff.1 h1).1
    obtain ⟨k0, q0⟩ := At_some ha0 (e := c.own[n0.id]) (by simp [l0]) (chan_gen hH h0 _ (by simp [l0])).symm
    obtain ⟨k1, q1⟩ := At_some ha1 (e := c.own[n1.id]) (by simp [l1]) (chan_gen hH h1 _ (by simp [l1])).symm
    exact hH.apart n0.id n1.id _ _ _ _ _ _ hne (by simp [l0]) (by simp [l1]) h0 h1 rfl rfl q0 q1
  -- the zero values
  have zb : ∀ {e : TypeId} {f : TF}, tyT P e = some f → f.d = .bool → f.ze = some [.bool false] → zeroFits P e = true → ∀ (w1 : World) (es : Array Event), (zeroValue e).runT P w1 es = (.ok (.bool false) w1, es) := by
    intro e f ht hd hz hfz w1 es
    obtain ⟨ie, i1, i2, i3, i4, _⟩ := tyT_some ht
    rw [hz] at i4
    cases hie : ie.zero with
    | none => rw [hie] at i4; cases i4
    | some Z =>
      have hok := ok_zeroA (P := P) (c := c) (w := w1) (n0 := 0) ht hz hfz
      obtain ⟨⟨V, q1, q2⟩, _⟩ := Ok.spec (P := P) (c := c) (n0 := 0) #[] hok (Nat.zero_le _)
      have hVb : V = .bool false := by
        have : zeroA f [.bool false] = .bool false := by simp [zeroA, hd, aggD]
        rw [this] at q2
        exact q2
      subst hVb
      have hr := zeroValue_runT (P := P) i1 hie w1 es
      have hr2 := zeroValue_runT (P := P) i1 hie w1 #[]
      have : Z = .bool false := by
        have h3 : (zeroValue e).run P w1 = .ok Z w1 := by
          have := congrArg Prod.fst hr2
          rw [Sem.runT_eq] at this
          exact this
        rw [q1] at h3
        simpa using h3.symm
      subst this
      exact hr
  let cases2 : Array CommCase := #[⟨.chan (some r0), none, .bool false⟩, ⟨.chan (some r1), none, .bool false⟩]
  have hst : ∀ w1, stepG P main (G fr cs) w1 = .comm (G fr cs) cases2 true .select w1 #[] := by
    intro w1
    have hs : stepG P main (G fr cs) w1 = stepG.apply P true fr cs none (execOp fr.eval o) w1 := by
      rw [← hfr]
      exact stepG_opA ho (by simp [Region.wanted, hog]) (by rw [hop]; rfl)
    rw [hs]
    have hrun : (execOp fr.eval o).runT P w1 #[] = (.ok (.comm cases2 true .select) w1, #[]) := by
      simp only [execOp, hop]
      rw [Array.mapM_eq_mapM_toList]
      have hmap : ∀ (y : Sem (List CommCase)) (w : World) (es : Array Event), (List.toArray <$> y).runT P w es = match y.runT P w es with
        | (.ok a w', es') => ((Sem.pure a.toArray : Sem (Array CommCase))).runT P w' es'
        | (.halt h w', es') => (.halt h w', es') := fun y w es => by
        show (y.bind _).runT P w es = _
        rw [Sem.runT_bind']
        cases Sem.runT P y w es with
        | mk r es' => cases r <;> rfl
      simp only [List.mapM_cons, List.mapM_nil, bind, pure, Sem.runT_bind', hmap, zb ht0 hz0 hzz0 hf0, zb ht1 hz1 hzz1 hf1, hr0, hr1, cases2]
      rfl
    have hkind : (fr.kind == CallKind.early) = false := by rw [← hfr]; simpa [at'] using g2
    simp only [stepG.apply, if_true, hrun, hkind, Bool.false_eq_true, if_false, GStep.after]
    simp [G, seen]
  have hrecvs : Recvs c cases2 := by
    refine ⟨?_, ?_⟩
    · intro kc hk
      simp only [cases2, List.mem_toArray, List.mem_cons, List.not_mem_nil, or_false] at hk
      rcases hk with rfl | rfl
      · exact ⟨rfl, r0, rfl, hc0⟩
      · exact ⟨rfl, r1, rfl, hc1⟩
    · intro p q x y hx hy hxy
      have hp : p = 0 ∨ p = 1 := by have := (Array.getElem?_eq_some_iff.1 hx).1; simp [cases2] at this; omega
      have hq : q = 0 ∨ q = 1 := by have := (Array.getElem?_eq_some_iff.1 hy).1; simp [cases2] at this; omega
      rcases hp with rfl | rfl <;> rcases hq with rfl | rfl <;> simp [cases2] at hx hy <;> subst hx hy <;> simp at hxy
      · rfl
      · exact absurd hxy hrr
      · exact absurd hxy.symm hrr
      · rfl
  have htd := h3.gh.todo
  have hall' : ∀ ms ∈ c.com.todo, ∃ r v rest, ms = (r, v) :: rest ∧ ∃ k ∈ cases2, k.chan = .chan (some r) := by
    intro ms hms
    obtain ⟨a, ha, hr⟩ := htd.mem ms hms
    obtain ⟨n, bv, ar, rfl, hn⟩ := hall a ha
    obtain ⟨r, l', rfl, q1, q2⟩ := hr
    refine ⟨r, _, l', rfl, ?_⟩
    rcases hn with rfl | rfl
    · have : r0 = r := At_uniq ha0 q1 (chan_gen hH h0)
      subst this
      exact ⟨⟨.chan (some r0), none, .bool false⟩, by simp [cases2], rfl⟩
    · have : r1 = r := At_uniq ha1 q1 (chan_gen hH h1)
      subst this
      exact ⟨⟨.chan (some r1), none, .bool false⟩, by simp [cases2], rfl⟩
  rw [List.singleton_append, hfr]
  have hnil' : c.com.todo ≠ [] := by
    intro e
    rw [e] at htd
    cases hA : s.gh.todo with
    | nil => exact hnil hA
    | cons a A => rw [hA] at htd; obtain ⟨_, _, e2, _⟩ := htd; cases e2
  have hfin : ∀ V, fr.finish V = at' b (putV tmps o.dst V) ds (.inRegion ops rest :: k) := fun V => by rw [← hfr, finish_at', ho]; rfl
  refine .recv (cases := cases2) (shape := .select) (g' := G fr cs) hrole rfl rfl hst hrecvs hnil' hall' (fun _ _ T => { c with com := { c.com with todo := T } }) (fun _ _ _ => ⟨rfl, rfl, rfl, rfl, rfl, rfl, rfl⟩) ?_
  intro kk r v z T1 T2 rst hk hT
  rw [hT] at htd
  obtain ⟨A1, a, A2, hA, m1, m2, m3⟩ := htd.split
  obtain ⟨n, bv, ar, rfl, hn⟩ := hall a (by rw [hA]; simp)
  obtain ⟨r', l', e, q1, q2⟩ := m2
  simp only [List.cons.injEq, Prod.mk.injEq] at e
  obtain ⟨⟨rfl, rfl⟩, rfl⟩ := e
  let c2 : Cx := { c with com := { c.com with todo := T1 ++ restOf rst ++ T2 } }
  have hs2 : Same c c2 := ⟨rfl, fun _ _ h => h⟩
  have hgh : CR base c2 { s.gh with todo := A1 ++ restA ar ++ A2 } := by
    obtain ⟨⟨M0, p1, p2⟩, _⟩ := h3.gh
    exact ⟨⟨M0, p1, p2.same hs2⟩, ((m1.same hs2).app (MRL.rest q2 |>.same hs2)).app (m3.same hs2)⟩
  have go : ∀ (AVr : AV) (V : Value), VR c AVr V → WPI P fk [.inRegion ops rest] Q { s with sl := s.sl.set d AVr, gh := { s.gh with todo := A1 ++ restA ar ++ A2 } } → Go' P main Stop c2 (G (at' b (putV tmps o.dst V) ds (.inRegion ops rest :: k)) cs) w := by
    intro AVr V hV hw
    have hsl : VRL c (s.sl.set d AVr) (putV tmps o.dst V).toList := by
      have := h3.sl.put o.dst hV
      rw [hod] at this ⊢
      exact this
    refine hw main Stop b k cs base c2 w _ ds g1 g2 ⟨hsl.same hs2, h3.df.same hs2, hH.com rfl rfl, hgh⟩ ?_
    intro e s' c3 w3 t3 d3 q r3 y
    exact h4 e s' c3 w3 t3 d3 q r3 ⟨y.own, y.imm, y.main⟩
  have hkk : kk = 0 ∨ kk = 1 := by have := (Array.getElem?_eq_some_iff.1 hk).1; simp [cases2] at this; omega
  rcases hkk with rfl | rfl
  · have hrv : r = r0 := by simp [cases2] at hk; exact hk.1.symm
    subst hrv
    have hnn : n = n0 := by
      rcases hn with hn | rfl
      · exact hn
      · exact absurd (At_uniq ha1 q1 (chan_gen hH h1)).symm hrr
    have hres : (G fr cs).finishComm P cases2 .select (0 : Nat) (.bool bv) true = G (at' b (putV tmps o.dst (.tuple #[goInt 0, .bool true, .bool bv, .bool false])) ds (.inRegion ops rest :: k)) cs := by
      rw [← hfin]
      simp [Goroutine.finishComm, commResult, G, cases2]
    rw [hres]
    exact go (.tup [.int .i64 0, .bool true, .bool bv, .bool false]) _ ⟨_, rfl, by simp [VRL_cons_cons, VR, goInt]⟩ ((h A1 n bv ar A2 hA).1 hnn)
  · have hrv : r = r1 := by simp [cases2] at hk; exact hk.1.symm
    subst hrv
    have hnn : n = n1 := by
      rcases hn with rfl | hn
      · exact absurd (At_uniq ha0 q1 (chan_gen hH h0)) hrr
      · exact hn
    have hres : (G fr cs).finishComm P cases2 .select (1 : Nat) (.bool bv) true = G (at' b (putV tmps o.dst (.tuple #[goInt 1, .bool true, .bool false, .bool bv])) ds (.inRegion ops rest :: k)) cs := by
      rw [← hfin]
      simp [Goroutine.finishComm, commResult, G, cases2]
    rw [hres]
    exact go (.tup [.int .i64 1, .bool true, .bool false, .bool bv]) _ ⟨_, rfl, by simp [VRL_cons_cons, VR, goInt]⟩ ((h A1 n bv ar A2 hA).2 hnn)
end
end Go.Mac

/-! MacRS -/
/- MacRS: contracts by what is reckoned of the body, with marks of loops over functions. No program is in sight. -/
namespace Go.Mac
open Go Go.Conc

/-- The marks that loops over functions have left. -/
def unmarkK (h : List Blk) (df : List ADef) (K : List Blk → Prop) : Prop :=
  match unmark h df with
  | some h1 => K h1
  | none => False
def markK (b : Option Blk) (n : Nm) (h : List Blk) (df : List ADef) (K : List Blk → Prop) : Prop :=
  match b with
  | some .defd => n.gen = 0 ∧ unmarkK (h.set n.id .dead) df K
  | _ => False
section
variable {P : Program} {fn : Func} {h hp : List Blk} {v : AV} {sl : List AV} {df : List ADef} {gh : Gst} {K : List Blk → Prop} {n0 : Nat} {Post : AEnd → List Blk → Prop}
theorem unmarkK_nil : unmarkK hp [] K = K hp := rfl
theorem unmarkK_mark {n : Nm} : unmarkK hp (.mark n :: df) K = markK (hp[n.id]?) n hp df K := by
  simp only [unmarkK, unmark, markK]
  cases hp[n.id]? with
  | none => rfl
  | some b =>
    cases b <;> try rfl
    by_cases hg : n.gen = 0
    · simp [hg, unmarkK]
    · simp [hg]
theorem markK_defd {n : Nm} : markK (some .defd) n hp df K = (n.gen = 0 ∧ unmarkK (hp.set n.id .dead) df K) := rfl

/-- The end of a way of a body. -/
def endK (ds : List Nat) (s : AS) (K : List AV → List Blk → Prop) : Prop := s.gh = {} ∧ shutK ds s.sl s.hp fun sl hp => unmarkK hp s.df fun h1 => K sl h1
def retE (ds : List Nat) (P : Program) (fn : Func) (n0 : Nat) (Post : AEnd → List Blk → Prop) : AExit → AS → Prop
  | .normal, s | .ret, s => endK ds s fun sl h1 => ∃ v n, resA P fn sl h1 = some v ∧ n0 ≤ n ∧ below n v = true ∧ (h1.take n).all (belowBlk n) = true ∧ Post (.ret v) (h1.take n)
  | .panic v, s => endK [] s fun _ h1 => Post (.panic v) h1
  | _, _ => False
def retPE (ds : List Nat) (P : Program) (fn : Func) (h : List Blk) (v : AV) : AExit → AS → Prop
  | .normal, s | .ret, s => endK ds s fun sl h1 => resA P fn sl h1 = some v ∧ ∃ k, h1 = h ++ k
  | _, _ => False
theorem endK_mk {ds : List Nat} {K : List AV → List Blk → Prop} : endK ds ⟨sl, df, hp, gh⟩ K = (gh = {} ∧ shutK ds sl hp fun sl hp => unmarkK hp df fun h1 => K sl h1) := rfl
theorem retE_ret {ds : List Nat} {s : AS} : retE ds P fn n0 Post .ret s = endK ds s fun sl h1 => ∃ v n, resA P fn sl h1 = some v ∧ n0 ≤ n ∧ below n v = true ∧ (h1.take n).all (belowBlk n) = true ∧ Post (.ret v) (h1.take n) := rfl
theorem retE_normal {ds : List Nat} {s : AS} : retE ds P fn n0 Post .normal s = endK ds s fun sl h1 => ∃ v n, resA P fn sl h1 = some v ∧ n0 ≤ n ∧ below n v = true ∧ (h1.take n).all (belowBlk n) = true ∧ Post (.ret v) (h1.take n) := rfl
theorem retE_panic {ds : List Nat} {s : AS} : retE ds P fn n0 Post (.panic v) s = endK [] s fun _ h1 => Post (.panic v) h1 := rfl
theorem retPE_ret {ds : List Nat} {s : AS} : retPE ds P fn h v .ret s = endK ds s fun sl h1 => resA P fn sl h1 = some v ∧ ∃ k, h1 = h ++ k := rfl
theorem retPE_normal {ds : List Nat} {s : AS} : retPE ds P fn h v .normal s = endK ds s fun sl h1 => resA P fn sl h1 = some v ∧ ∃ k, h1 = h ++ k := rfl
attribute [go_sem ↓] retE_ret retE_normal retE_panic retPE_ret retPE_normal endK_mk unmarkK_nil unmarkK_mark
attribute [go_sem] markK_defd

theorem endK_turns {n0 : Nat} {ds : List Nat} {s : AS} {K : List AV → List Blk → Prop} (q : endK ds s K) : ∃ s', Turns n0 s s' ∧ s'.gh = {} ∧ ∃ h1, unmark s'.hp s'.df = some h1 ∧ K s'.sl h1 := by
  obtain ⟨h1, h2⟩ := q
  obtain ⟨s', t, e1, e2, e3⟩ := shutK_turns (n0 := n0) h2
  refine ⟨s', t, e2.trans h1, ?_⟩
  unfold unmarkK at e3
  rw [← e1] at e3
  split at e3
  · rename_i h1 hh
    exact ⟨h1, hh, e3⟩
  · exact e3.elim

/-- ████ A contract by what is reckoned of the body. ████ -/
theorem CallsA.of_wpe {f : FuncId} {code : Code} {args : List AV} (ds : List Nat) (so : Opt) (m : Nat) (hm : P.follows .mixedOrders = true) (hf : P.funcs[f]? = some fn) (hn : max args.length fn.ntmps = args.length + m) (hb : fn.body = some code) (hd : drawsOk so code = true)
    (hw : ∀ (j : Nat → AV), h.all (belowBlk h.length) = true → belowL h.length args = true → wp P so ⟨f, false, h.length⟩ code (retE ds P fn h.length Post) ⟨args ++ junk j args.length m, [], h, {}⟩) : CallsA P f args h Post := by
  refine CallsA.of_bodyE hf hb fun h1 h2 => ?_
  obtain ⟨j, hj⟩ := entry_lit (l := args ++ List.replicate (fn.ntmps - args.length) (.tup [])) (args := args) (m := m) (by simp; omega) (fun i a hi => by
    have : i < args.length := (List.getElem?_eq_some_iff.1 hi).1
    simp [evA, List.getD, List.getElem?_append_left this, hi])
  rw [hj]
  refine (wp_ok hm _ hd (hw j h1 h2)).mono fun e s q => ?_
  have key : (endK ds s fun sl h1 => ∃ v n, resA P fn sl h1 = some v ∧ h.length ≤ n ∧ below n v = true ∧ (h1.take n).all (belowBlk n) = true ∧ Post (.ret v) (h1.take n)) →
      ∃ s', Turns h.length s s' ∧ s'.gh = {} ∧ ∃ h1, unmark s'.hp s'.df = some h1 ∧ ∃ v n, resA P fn s'.sl h1 = some v ∧ h.length ≤ n ∧ below n v = true ∧ (h1.take n).all (belowBlk n) = true ∧ Post (.ret v) (h1.take n) := fun q => by
    obtain ⟨s', t, g1, h1, g2, g3⟩ := endK_turns (n0 := h.length) q
    exact ⟨s', t, g1, h1, g2, g3⟩
  cases e with
  | normal => exact key q
  | ret => exact key q
  | panic v =>
    obtain ⟨g0, g1⟩ := q
    simp only [shutK, unmarkK] at g1
    split at g1
    · rename_i h1 hh
      exact ⟨g0, h1, hh, g1⟩
    · exact g1.elim
  | exit id => exact q.elim
  | goto l => exact q.elim

theorem PureA.of_wpe {f : FuncId} {code : Code} {args : List AV} {v : AV} (ds : List Nat) (so : Opt) (m : Nat) (hm : P.follows .mixedOrders = true) (hf : P.funcs[f]? = some fn) (hn : max args.length fn.ntmps = args.length + m) (hb : fn.body = some code) (hd : drawsOk so code = true) (hv : below 0 v = true)
    (hw : ∀ (h : List Blk) (j : Nat → AV), h.all (belowBlk h.length) = true → wp P so ⟨f, false, h.length⟩ code (retPE ds P fn h v) ⟨args ++ junk j args.length m, [], h, {}⟩) : PureA P f args v := by
  intro h
  refine CallsA.of_bodyE hf hb fun h1 h2 => ?_
  obtain ⟨j, hj⟩ := entry_lit (l := args ++ List.replicate (fn.ntmps - args.length) (.tup [])) (args := args) (m := m) (by simp; omega) (fun i a hi => by
    have : i < args.length := (List.getElem?_eq_some_iff.1 hi).1
    simp [evA, List.getD, List.getElem?_append_left this, hi])
  rw [hj]
  refine (wp_ok hm _ hd (hw h j h1)).mono fun e s q => ?_
  have key : (endK ds s fun sl h1 => resA P fn sl h1 = some v ∧ ∃ k, h1 = h ++ k) →
      ∃ s', Turns h.length s s' ∧ s'.gh = {} ∧ ∃ h1, unmark s'.hp s'.df = some h1 ∧ ∃ v' n, resA P fn s'.sl h1 = some v' ∧ h.length ≤ n ∧ below n v' = true ∧ (h1.take n).all (belowBlk n) = true ∧ (AEnd.ret v' = .ret v ∧ h1.take n = h) := fun q => by
    obtain ⟨s', t, g1, h1', g2, g3, k, g4⟩ := endK_turns (n0 := h.length) q
    refine ⟨s', t, g1, h1', g2, v, h.length, g3, Nat.le_refl _, below_mono (Nat.zero_le _) v hv, ?_, rfl, ?_⟩
    · rw [g4, List.take_left]; exact h1
    · rw [g4, List.take_left]
  cases e with
  | normal => exact key q
  | ret => exact key q
  | panic v => exact q.elim
  | exit id => exact q.elim
  | goto l => exact q.elim
end
end Go.Mac

/-! MacIT -/
/- MacIT: iterators. No program is in sight. -/
namespace Go.Mac
open Go Go.Conc

section
variable {P : Program} {fk : FK} {Q : AExit → AS → Prop} {s : AS} {its : List Item}

theorem HR.allBelow {c : Cx} {w : World} {h : List Blk} (x : HR c w h) : h.all (belowBlk h.length) = true :=
  List.all_eq_true.2 fun b hb => by obtain ⟨i, hi⟩ := List.mem_iff_getElem?.1 hb; exact x.below hi

theorem WPI.of_below (h : s.hp.all (belowBlk s.hp.length) = true → belowL s.hp.length s.sl = true → WPI P fk its Q s) : WPI P fk its Q s :=
  fun main Stop b k cs base c w tmps ds h1 h2 h3 h4 => h h3.hp.allBelow (by rw [h3.hp.len]; exact VRL.below _ _ h3.sl) main Stop b k cs base c w tmps ds h1 h2 h3 h4

theorem YieldA.of_below {n : Nm} {args : List AV} {h : List Blk} {Post : AEnd → List Blk → Prop} (y : h.all (belowBlk h.length) = true → YieldA P n args h Post) : YieldA P n args h Post :=
  fun main Stop fr cs c w vargs l r h1 h2 h3 h4 h5 => y h2.allBelow main Stop fr cs c w vargs l r h1 h2 h3 h4 h5

theorem belowBlk_mono {n m : Nat} (hnm : n ≤ m) (b : Blk) (h : belowBlk n b = true) : belowBlk m b = true := by
  have key : ∀ l, belowL n l = true → belowL m l = true := fun l hl => by
    rw [belowL_all] at *
    exact List.all_eq_true.2 fun a ha => below_mono hnm a (List.all_eq_true.1 hl a ha)
  cases b <;> simp only [belowBlk, Bool.and_eq_true] at * <;> try trivial
  · exact key _ h
  · exact ⟨key _ h.1, key _ h.2⟩
  · exact key _ h
theorem allBelow_mono {n m : Nat} (hnm : n ≤ m) {l : List Blk} (h : l.all (belowBlk n) = true) : l.all (belowBlk m) = true :=
  List.all_eq_true.2 fun b hb => belowBlk_mono hnm b (List.all_eq_true.1 h b hb)

/-- ████ An iterator: what it hands to 'yield', in order. ████ -/
def IterA (P : Program) (g : FuncId) (cap : List AV) (xs : List (List AV)) : Prop :=
  ∀ (n : Nm) (L : Nat) (J : Nat → List Blk → Prop) (S : List Blk → Prop), n.gen = 0 →
    (∀ k h, J k h → h.length = L ∧ h.all (belowBlk L) = true ∧ n.id < L ∧ ∀ hk : k < xs.length, loopAr h n = some xs[k].length) →
    (∀ h, S h → h.length = L ∧ h.all (belowBlk L) = true) →
    (∀ k h own (hk : k < xs.length), J k h → YieldA P n xs[k] (h ++ own) fun e h' => ∃ b h1, e = .ret (.bool b) ∧ h' = h1 ++ own ∧ if b = true then J (k + 1) h1 else S h1) →
    ∀ h, J 0 h → CallsA P g (.yield n :: cap) h fun e h' => e = .ret (.tup []) ∧ (J xs.length h' ∨ S h')

/-- The blocks are reckoned before what follows. -/
def withB (h : List Blk) (f : List Blk → Prop) : Prop := f h
theorem withB_eq {h : List Blk} {f : List Blk → Prop} : withB h f = f h := rfl
@[congr] theorem withB_congr {h h' : List Blk} {f : List Blk → Prop} (e : h = h') : withB h f = withB h' f := by rw [e]
/-- A round's assignments have been made. -/
def busyK (b : Option Blk) (n : Nm) (hp : List Blk) (K : List Blk → Prop) : Prop :=
  match b with
  | some (.loop .ready p f sl ps a bd) => K (hp.set n.id (.loop .busy p f sl ps a bd))
  | _ => False
def asgK (P : Program) (so : Opt) (fk : FK) (n : Nm) (body : Code) (K : AExit → AS → Prop) : AExit → AS → Prop
  | .normal, s1 => s1.df = [] ∧ busyK (s1.hp[n.id]?) n s1.hp fun hp => wp P so fk body K ⟨s1.sl, s1.df, hp, s1.gh⟩
  | _, _ => False
/-- The heap with a loop that runs. -/
def loopH (h : List Blk) (st : LoopState) (pend : Option Code) (fn : FuncId) (sl : List AV) (ps : Array Tmp) (a b : Code) (own : List Blk) : List Blk := h ++ .defd :: .loop st pend fn sl ps a b :: own
/-- The end of a round. -/
def roundP (C : List Blk → List Blk → Prop) (I : List Blk → Prop) (T : Code → List Blk → Prop) : AExit → AS → Prop
  | .normal, s => s.df = [] ∧ s.gh = {} ∧ ∃ h1, C s.hp h1 ∧ I h1
  | .exit id, s => s.df = [] ∧ s.gh = {} ∧ ∃ h1, C s.hp h1 ∧ T (.exit id) h1
  | .goto l, s => s.df = [] ∧ s.gh = {} ∧ ∃ h1, C s.hp h1 ∧ T (.goto l) h1
  | .ret, s => s.df = [] ∧ s.gh = {} ∧ ∃ h1, C s.hp h1 ∧ T .ret h1
  | .panic _, _ => False

theorem WP.rangeIter {f : Operand} {params : Array Tmp} {assign body : Code} {g : FuncId} {cap : List AV} {xs : List (List AV)} (so : Opt) (hm : P.follows .mixedOrders = true) (hda : drawsOk so assign = true) (hdb : drawsOk so body = true) (hrnd : fk.rnd = false) (hf : evA s.sl f = .fn (.func g) [] cap) (hc : callable P g) (hgt : s.gh.todo = []) (hfs : (P.funcs[fk.fn]?).isSome = true)
    (hit : IterA P g cap xs) (hx : ∀ x ∈ xs, x.length = params.size) (I : Nat → List Blk → Prop) (T : Code → List Blk → Prop)
    (hI : ∀ k h, s.hp.all (belowBlk s.hp.length) = true → I k h → h.length = s.hp.length ∧ h.all (belowBlk s.hp.length) = true) (hT : ∀ c h, s.hp.all (belowBlk s.hp.length) = true → T c h → h.length = s.hp.length ∧ h.all (belowBlk s.hp.length) = true)
    (h0 : I 0 s.hp)
    (hround : ∀ k h own (hk : k < xs.length), I k h → h.length = s.hp.length → wp P so ⟨fk.fn, true, h.length + (2 + own.length)⟩ assign
      (asgK P so ⟨fk.fn, true, h.length + (2 + own.length)⟩ ⟨s.hp.length + 1, 0⟩ body (roundP (fun hp h1 => ∃ extra, hp = loopH h1 .busy none fk.fn s.sl params assign body (own ++ extra)) (I (k + 1)) T))
      ⟨setParams s.sl params.toList xs[k], [], loopH h .ready none fk.fn s.sl params assign body own, {}⟩)
    (hend : ∀ h, I xs.length h → Q .normal { s with df := .mark ⟨s.hp.length, 0⟩ :: s.df, hp := h ++ [.defd, .dead] })
    (hstop : ∀ c h, T c h → jumpQ Q (some c) { s with df := .mark ⟨s.hp.length, 0⟩ :: s.df, hp := h ++ [.defd, .dead] }) : WP P fk (.rangeFunc f params assign body) Q s := by
  refine WPI.of_below fun hB hBs => ?_
  refine WP.rangeFunc hrnd hf hc hgt ?_
  have hslots : belowBlk (s.hp.length + 2) (.loop .ready none fk.fn s.sl params assign body) = true := by
    simp only [belowBlk]
    rw [belowL_all] at *
    exact List.all_eq_true.2 fun a ha => below_mono (by omega) a (List.all_eq_true.1 hBs a ha)
  have hall : ∀ {h : List Blk} {st : LoopState} {p : Option Code}, h.length = s.hp.length → h.all (belowBlk s.hp.length) = true → (loopH h st p fk.fn s.sl params assign body []).length = s.hp.length + 2 ∧ (loopH h st p fk.fn s.sl params assign body []).all (belowBlk (s.hp.length + 2)) = true := fun {h st p} e1 e2 => by
    refine ⟨by simp [loopH, e1], ?_⟩
    simp only [loopH, List.all_append, List.all_cons, List.all_nil, Bool.and_true, Bool.and_eq_true]
    exact ⟨allBelow_mono (by omega) e2, rfl, hslots⟩
  refine ((hit ⟨s.hp.length + 1, 0⟩ (s.hp.length + 2) (fun k hh => ∃ h, I k h ∧ hh = loopH h .ready none fk.fn s.sl params assign body []) (fun hh => ∃ c h, T c h ∧ hh = loopH h .done (some c) fk.fn s.sl params assign body []) rfl ?_ ?_ ?_ _ ⟨s.hp, h0, rfl⟩)).mono ?_
  · rintro k hh ⟨h, hi, rfl⟩
    obtain ⟨e1, e2⟩ := hI k h hB hi
    refine ⟨(hall e1 e2).1, (hall e1 e2).2, by simp, fun hk => ?_⟩
    simp only [loopAr, loopH, ← e1]
    rw [List.getElem?_append_right (by omega)]
    simp [hx _ (List.getElem_mem hk)]
  · rintro hh ⟨c, h, hi, rfl⟩
    obtain ⟨e1, e2⟩ := hT c h hB hi
    exact hall e1 e2
  · rintro k hh own hk ⟨h, hi, rfl⟩
    refine YieldA.of_below fun hBB => ?_
    obtain ⟨e1, e2⟩ := hI k h hB hi
    have eh : loopH h .ready none fk.fn s.sl params assign body [] ++ own = loopH h .ready none fk.fn s.sl params assign body own := by simp [loopH]
    rw [eh] at hBB ⊢
    have el : (loopH h .ready none fk.fn s.sl params assign body own).length = h.length + (2 + own.length) := by simp [loopH]; omega
    have hat : ∀ (h' : List Blk) (st : LoopState) (p : Option Code) (o : List Blk), h'.length = s.hp.length → (loopH h' st p fk.fn s.sl params assign body o)[s.hp.length + 1]? = some (.loop st p fk.fn s.sl params assign body) := fun h' st p o e => by
      simp only [loopH]
      rw [List.getElem?_append_right (by omega)]
      simp [e]
    have hset : ∀ (h' : List Blk) (st st' : LoopState) (p p' : Option Code) (o : List Blk), h'.length = s.hp.length → (loopH h' st p fk.fn s.sl params assign body o).set (s.hp.length + 1) (.loop st' p' fk.fn s.sl params assign body) = loopH h' st' p' fk.fn s.sl params assign body o := fun h' st st' p p' o e => by
      simp only [loopH]
      rw [List.set_append_right _ _ (by omega)]
      simp [e]
    refine YieldA.of_round hfs (hat h _ _ _ e1) rfl ?_
    rw [el]
    refine (wp_ok hm _ hda (hround k h own hk hi e1)).mono fun e s1 q => ?_
    cases e with
    | normal =>
      obtain ⟨g1, g2⟩ := q
      refine ⟨g1, ?_⟩
      unfold busyK at g2
      split at g2
      · rename_i p fn2 sl2 ps2 a2 b2 hb2
        refine ⟨p, fn2, sl2, ps2, a2, b2, hb2, ?_⟩
        refine (wp_ok hm _ hdb g2).mono fun e2 s2 q2 => ?_
        have fin : ∀ (jump : Option Code) (h1 extra : List Blk), s2.df = [] → s2.gh = {} → h1.length = s.hp.length → h1.all (belowBlk s.hp.length) = true → s2.hp = loopH h1 .busy none fk.fn s.sl params assign body (own ++ extra) →
            (match jump with | none => I (k + 1) h1 | some c => T c h1) →
            roundEnd ⟨s.hp.length + 1, 0⟩ (h.length + (2 + own.length)) (fun e h' => ∃ b h1, e = .ret (.bool b) ∧ h' = h1 ++ own ∧ if b = true then (∃ h, I (k + 1) h ∧ h1 = loopH h .ready none fk.fn s.sl params assign body []) else ∃ c h, T c h ∧ h1 = loopH h .done (some c) fk.fn s.sl params assign body []) jump s2 := by
          intro jump h1 extra d1 d2 d3 d4 d5 d6
          have htk : ∀ (st : LoopState) (p : Option Code), (loopH h1 st p fk.fn s.sl params assign body (own ++ extra)).take (h.length + (2 + own.length)) = loopH h1 st p fk.fn s.sl params assign body [] ++ own := fun st p => by
            have : loopH h1 st p fk.fn s.sl params assign body (own ++ extra) = (loopH h1 st p fk.fn s.sl params assign body [] ++ own) ++ extra := by simp [loopH]
            rw [this, List.take_left' (by simp [loopH]; omega)]
          refine ⟨d1, d2, by simp only; omega, .busy, none, fk.fn, s.sl, params, assign, body, by rw [d5]; exact hat h1 _ _ _ d3, ?_, ?_⟩
          · rw [d5, htk]
            simp only [List.all_append, Bool.and_eq_true]
            refine ⟨allBelow_mono (by omega) (hall (st := .busy) (p := none) d3 d4).2, ?_⟩
            rw [el] at hBB
            simp only [loopH, List.all_append, List.all_cons, Bool.and_eq_true] at hBB
            exact hBB.2.2.2
          · rw [d5, hset h1 _ _ _ _ _ d3, htk]
            refine ⟨jump.isNone, _, rfl, rfl, ?_⟩
            cases jump with
            | none => exact ⟨h1, d6, rfl⟩
            | some c => exact ⟨c, h1, d6, rfl⟩
        cases e2 with
        | normal =>
          obtain ⟨g3, g4, h1, ⟨extra, g5⟩, g6⟩ := q2
          obtain ⟨i1, i2⟩ := hI _ _ hB g6
          exact ⟨s2, .refl, fin none h1 extra g3 g4 i1 i2 g5 g6⟩
        | exit id =>
          obtain ⟨g3, g4, h1, ⟨extra, g5⟩, g6⟩ := q2
          obtain ⟨i1, i2⟩ := hT _ _ hB g6
          exact ⟨s2, .refl, fin (some (.exit id)) h1 extra g3 g4 i1 i2 g5 g6⟩
        | goto l =>
          obtain ⟨g3, g4, h1, ⟨extra, g5⟩, g6⟩ := q2
          obtain ⟨i1, i2⟩ := hT _ _ hB g6
          exact ⟨s2, .refl, fin (some (.goto l)) h1 extra g3 g4 i1 i2 g5 g6⟩
        | ret =>
          obtain ⟨g3, g4, h1, ⟨extra, g5⟩, g6⟩ := q2
          obtain ⟨i1, i2⟩ := hT _ _ hB g6
          exact ⟨s2, .refl, fin (some .ret) h1 extra g3 g4 i1 i2 g5 g6⟩
        | panic v => exact q2.elim
      · exact g2.elim
    | exit id => exact q.elim
    | goto l => exact q.elim
    | ret => exact q.elim
    | panic v => exact q.elim
  · rintro e h' ⟨rfl, q⟩
    have hat : ∀ (h' : List Blk) (st : LoopState) (p : Option Code) (o : List Blk), h'.length = s.hp.length → (loopH h' st p fk.fn s.sl params assign body o)[s.hp.length + 1]? = some (.loop st p fk.fn s.sl params assign body) := fun h' st p o e => by
      simp only [loopH]
      rw [List.getElem?_append_right (by omega)]
      simp [e]
    have hdead : ∀ (h' : List Blk) (st : LoopState) (p : Option Code), h'.length = s.hp.length → (loopH h' st p fk.fn s.sl params assign body []).set (s.hp.length + 1) .dead = h' ++ [.defd, .dead] := fun h' st p e => by
      simp only [loopH]
      rw [List.set_append_right _ _ (by omega)]
      simp [e]
    rcases q with ⟨h, hi, rfl⟩ | ⟨c, h, hi, rfl⟩
    · obtain ⟨e1, e2⟩ := hI _ _ hB hi
      refine ⟨.ready, none, fk.fn, s.sl, params, assign, body, hat h _ _ _ e1, by simp, ?_⟩
      rw [hdead h _ _ e1]
      exact hend h hi
    · obtain ⟨e1, e2⟩ := hT _ _ hB hi
      refine ⟨.done, some c, fk.fn, s.sl, params, assign, body, hat h _ _ _ e1, by simp, ?_⟩
      rw [hdead h _ _ e1]
      exact hstop c h hi
end

/-! ### Marks of loops over functions, many of them -/
def marksAt (lo : Nat) (hp : List Blk) : Nat → List ADef → Prop
  | _, [] => True
  | hi, .mark n :: df => n.gen = 0 ∧ lo ≤ n.id ∧ n.id < hi ∧ hp[n.id]? = some .defd ∧ marksAt lo hp n.id df
  | _, .call .. :: _ => False
theorem marksAt_congr {lo : Nat} {hp hp' : List Blk} : ∀ {hi hi' : Nat} {df : List ADef}, hi ≤ hi' → (∀ i, lo ≤ i → i < hi → hp'[i]? = hp[i]?) → marksAt lo hp hi df → marksAt lo hp' hi' df
  | _, _, [], _, _, _ => trivial
  | _, _, .mark n :: df, hh, he, ⟨h1, h2, h3, h4, h5⟩ => ⟨h1, h2, by omega, by rw [he _ h2 h3]; exact h4, marksAt_congr (Nat.le_refl _) (fun i a b => he i a (by omega)) h5⟩
  | _, _, .call .. :: _, _, _, q => q.elim
theorem unmark_marks {lo : Nat} : ∀ {hi : Nat} {hp : List Blk} {df : List ADef}, marksAt lo hp hi df → ∃ h', unmark hp df = some h' ∧ h'.length = hp.length ∧ h'.take lo = hp.take lo
  | _, hp, [], _ => ⟨hp, rfl, rfl, rfl⟩
  | _, hp, .mark n :: df, ⟨h1, h2, h3, h4, h5⟩ => by
    obtain ⟨h', e1, e2, e3⟩ := unmark_marks (hp := hp.set n.id .dead) (marksAt_congr (Nat.le_refl _) (fun i _ b => by rw [List.getElem?_set_ne (by omega)]) h5)
    refine ⟨h', ?_, by rw [e2, List.length_set], ?_⟩
    · simp only [unmark, h4, h1, if_true]
      exact e1
    · rw [e3, List.take_set_of_le h2]
  | _, _, .call .. :: _, q => q.elim
theorem unmarkK_marks {lo hi : Nat} {hp : List Blk} {df : List ADef} {K : List Blk → Prop} (hm : marksAt lo hp hi df) (hk : ∀ h', h'.length = hp.length → h'.take lo = hp.take lo → K h') : unmarkK hp df K := by
  obtain ⟨h', e1, e2, e3⟩ := unmark_marks hm
  unfold unmarkK
  rw [e1]
  exact hk h' e2 e3
theorem marksAt_more {lo hi : Nat} {hp hp' : List Blk} {df : List ADef} {n : Nm} (hm : marksAt lo hp hi df) (hg : n.gen = 0) (hlo : lo ≤ n.id) (hn : hi ≤ n.id) (hd : hp'[n.id]? = some .defd) (he : ∀ i, lo ≤ i → i < hi → hp'[i]? = hp[i]?) {hi' : Nat} (hh : n.id < hi') : marksAt lo hp' hi' (.mark n :: df) :=
  ⟨hg, hlo, hh, hd, marksAt_congr hn he hm⟩

section
variable {P : Program} {so : Opt} {fk : FK} {n : Nm} {body : Code} {K : AExit → AS → Prop} {sl : List AV} {df : List ADef} {hp : List Blk} {gh : Gst} {C : List Blk → List Blk → Prop} {I : List Blk → Prop} {T : Code → List Blk → Prop}
@[congr] theorem busyK_congr {b b' : Option Blk} {K : List Blk → Prop} (e : b = b') : busyK b n hp K = busyK b' n hp K := by rw [e]
theorem busyK_loop {p : Option Code} {f : FuncId} {sl : List AV} {ps : Array Tmp} {a bd : Code} {K : List Blk → Prop} : busyK (some (.loop .ready p f sl ps a bd)) n hp K = withB (tag (hp.set n.id (.loop .busy p f sl ps a bd))) K := rfl
theorem asgK_normal : asgK P so fk n body K .normal ⟨sl, df, hp, gh⟩ = (df = [] ∧ busyK (tag (hp[n.id]?)) n hp fun hp => wp P so fk body K ⟨sl, df, hp, gh⟩) := rfl
theorem roundP_normal : roundP C I T .normal ⟨sl, df, hp, gh⟩ = (df = [] ∧ gh = {} ∧ ∃ h1, C hp h1 ∧ I h1) := rfl
theorem roundP_exit {id : Nat} : roundP C I T (.exit id) ⟨sl, df, hp, gh⟩ = (df = [] ∧ gh = {} ∧ ∃ h1, C hp h1 ∧ T (.exit id) h1) := rfl
theorem roundP_goto {l : Nat} : roundP C I T (.goto l) ⟨sl, df, hp, gh⟩ = (df = [] ∧ gh = {} ∧ ∃ h1, C hp h1 ∧ T (.goto l) h1) := rfl
theorem roundP_ret : roundP C I T .ret ⟨sl, df, hp, gh⟩ = (df = [] ∧ gh = {} ∧ ∃ h1, C hp h1 ∧ T .ret h1) := rfl
attribute [go_sem ↓] asgK_normal roundP_normal roundP_exit roundP_goto roundP_ret
attribute [go_sem] busyK_loop withB_eq loopH setParams
end
end Go.Mac

/-! MacT -/
/- MacT: the types of the program, as the steps ask for them, and its functions' being callable (printed by wip/tools/mkT.sh). -/
namespace Go.Mac
open Go Go.Conc Go.Proofs
set_option maxRecDepth 10000
theorem ty1 : tyT Try.prog 1 = some { d := Go.TypeDesc.func #[] #[] false, sz := 1, ze := some [.nilfn], bytes := 8 } := by kernel_rfl -- func()
theorem ty2 : tyT Try.prog 2 = some { d := Go.TypeDesc.int (Go.IntKind.i64), sz := 1, ze := some [.int .i64 0], bytes := 8 } := by kernel_rfl -- int64
theorem ty3 : tyT Try.prog 3 = some { d := Go.TypeDesc.int (Go.IntKind.i64), sz := 1, ze := some [.int .i64 0], bytes := 8 } := by kernel_rfl -- int
theorem ty4 : tyT Try.prog 4 = some { d := Go.TypeDesc.bool, sz := 1, ze := some [.bool false], bytes := 1 } := by kernel_rfl -- bool
theorem ty5 : tyT Try.prog 5 = some { d := Go.TypeDesc.int (Go.IntKind.u8), sz := 1, ze := some [.int .u8 0], bytes := 1 } := by kernel_rfl -- uint8
theorem ty6 : tyT Try.prog 6 = some { d := Go.TypeDesc.int (Go.IntKind.u8), sz := 1, ze := some [.int .u8 0], bytes := 1 } := by kernel_rfl -- abi.BoundsErrorCode
theorem ty7 : tyT Try.prog 7 = some { d := Go.TypeDesc.struct #[{ name := "x", type := 2, offset := 0, embedded := false, tag := "", pkgPath := "runtime", byteOffset := 0 }, { name := "y", type := 3, offset := 1, embedded := false, tag := "", pkgPath := "runtime", byteOffset := 8 }, { name := "signed", type := 4, offset := 2, embedded := false, tag := "", pkgPath := "runtime", byteOffset := 16 }, { name := "code", type := 6, offset := 3, embedded := false, tag := "", pkgPath := "runtime", byteOffset := 17 }], sz := 4, ze := some [.int .i64 0, .int .i64 0, .bool false, .int .u8 0], bytes := 24 } := by kernel_rfl -- struct { x int64; y int; signed bool; code abi.BoundsErrorCode }
theorem ty8 : tyT Try.prog 8 = some { d := Go.TypeDesc.struct #[{ name := "x", type := 2, offset := 0, embedded := false, tag := "", pkgPath := "runtime", byteOffset := 0 }, { name := "y", type := 3, offset := 1, embedded := false, tag := "", pkgPath := "runtime", byteOffset := 8 }, { name := "signed", type := 4, offset := 2, embedded := false, tag := "", pkgPath := "runtime", byteOffset := 16 }, { name := "code", type := 6, offset := 3, embedded := false, tag := "", pkgPath := "runtime", byteOffset := 17 }], sz := 4, ze := some [.int .i64 0, .int .i64 0, .bool false, .int .u8 0], bytes := 24 } := by kernel_rfl -- runtime.boundsError
theorem ty9 : tyT Try.prog 9 = some { d := Go.TypeDesc.string, sz := 1, ze := some [.str []], bytes := 16 } := by kernel_rfl -- string
theorem ty10 : tyT Try.prog 10 = some { d := Go.TypeDesc.string, sz := 1, ze := some [.str []], bytes := 16 } := by kernel_rfl -- runtime.errorString
theorem ty11 : tyT Try.prog 11 = some { d := Go.TypeDesc.string, sz := 1, ze := some [.str []], bytes := 16 } := by kernel_rfl -- runtime.plainError
theorem ty12 : tyT Try.prog 12 = some { d := Go.TypeDesc.int (Go.IntKind.u64), sz := 1, ze := some [.int .u64 0], bytes := 8 } := by kernel_rfl -- uintptr
theorem ty13 : tyT Try.prog 13 = some { d := Go.TypeDesc.struct #[{ name := "msg", type := 9, offset := 0, embedded := false, tag := "", pkgPath := "runtime", byteOffset := 0 }, { name := "addr", type := 12, offset := 1, embedded := false, tag := "", pkgPath := "runtime", byteOffset := 16 }], sz := 2, ze := some [.str [], .int .u64 0], bytes := 24 } := by kernel_rfl -- struct { msg string; addr uintptr }
theorem ty14 : tyT Try.prog 14 = some { d := Go.TypeDesc.struct #[{ name := "msg", type := 9, offset := 0, embedded := false, tag := "", pkgPath := "runtime", byteOffset := 0 }, { name := "addr", type := 12, offset := 1, embedded := false, tag := "", pkgPath := "runtime", byteOffset := 16 }], sz := 2, ze := some [.str [], .int .u64 0], bytes := 24 } := by kernel_rfl -- runtime.errorAddressString
theorem ty15 : tyT Try.prog 15 = some { d := Go.TypeDesc.pointer 197, sz := 1, ze := some [.nilptr], bytes := 8 } := by kernel_rfl -- *runtime.TypeAssertionError
theorem ty16 : tyT Try.prog 16 = some { d := Go.TypeDesc.pointer 200, sz := 1, ze := some [.nilptr], bytes := 8 } := by kernel_rfl -- *runtime.PanicNilError
theorem ty17 : tyT Try.prog 17 = some { d := Go.TypeDesc.pointer 210, sz := 1, ze := some [.nilptr], bytes := 8 } := by kernel_rfl -- *abi.Type
theorem ty18 : tyT Try.prog 18 = some { d := Go.TypeDesc.struct #[{ name := "typ", type := 17, offset := 0, embedded := false, tag := "", pkgPath := "internal/runtime/maps", byteOffset := 0 }], sz := 1, ze := some [.nilptr], bytes := 8 } := by kernel_rfl -- struct { typ *abi.Type }
theorem ty19 : tyT Try.prog 19 = some { d := Go.TypeDesc.struct #[{ name := "typ", type := 17, offset := 0, embedded := false, tag := "", pkgPath := "internal/runtime/maps", byteOffset := 0 }], sz := 1, ze := some [.nilptr], bytes := 8 } := by kernel_rfl -- maps.unhashableTypeError
theorem ty20 : tyT Try.prog 20 = some { d := Go.TypeDesc.interface #[], sz := 1, ze := some [.niliface], bytes := 16 } := by kernel_rfl -- interface {}
theorem ty21 : tyT Try.prog 21 = some { d := Go.TypeDesc.int (Go.IntKind.i32), sz := 1, ze := some [.int .i32 0], bytes := 4 } := by kernel_rfl -- int32
theorem ty22 : tyT Try.prog 22 = some { d := Go.TypeDesc.slice 3, sz := 1, ze := some [.nilsl], bytes := 24 } := by kernel_rfl -- []int
theorem ty23 : tyT Try.prog 23 = some { d := Go.TypeDesc.pointer 89, sz := 1, ze := some [.nilptr], bytes := 8 } := by kernel_rfl -- *maculaturekit.Dice
theorem ty24 : tyT Try.prog 24 = some { d := Go.TypeDesc.func #[22] #[23] false, sz := 1, ze := some [.nilfn], bytes := 8 } := by kernel_rfl -- func([]int) *maculaturekit.Dice
theorem ty25 : tyT Try.prog 25 = some { d := Go.TypeDesc.slice 56, sz := 1, ze := some [.nilsl], bytes := 24 } := by kernel_rfl -- []api.Glyph
theorem ty26 : tyT Try.prog 26 = some { d := Go.TypeDesc.slice 51, sz := 1, ze := some [.nilsl], bytes := 24 } := by kernel_rfl -- [][]string
theorem ty27 : tyT Try.prog 27 = some { d := Go.TypeDesc.slice 33, sz := 1, ze := some [.nilsl], bytes := 24 } := by kernel_rfl -- [][]api.Trace
theorem ty28 : tyT Try.prog 28 = some { d := Go.TypeDesc.struct #[{ name := "Glyphs", type := 25, offset := 0, embedded := false, tag := "", pkgPath := "", byteOffset := 0 }, { name := "Pages", type := 26, offset := 1, embedded := false, tag := "", pkgPath := "", byteOffset := 24 }, { name := "Cells", type := 27, offset := 2, embedded := false, tag := "", pkgPath := "", byteOffset := 48 }], sz := 3, ze := some [.nilsl, .nilsl, .nilsl], bytes := 72 } := by kernel_rfl -- struct { Glyphs []api.Glyph; Pages [][]string; Cells [][]api.Trace }
theorem ty29 : tyT Try.prog 29 = some { d := Go.TypeDesc.struct #[{ name := "Glyphs", type := 25, offset := 0, embedded := false, tag := "", pkgPath := "", byteOffset := 0 }, { name := "Pages", type := 26, offset := 1, embedded := false, tag := "", pkgPath := "", byteOffset := 24 }, { name := "Cells", type := 27, offset := 2, embedded := false, tag := "", pkgPath := "", byteOffset := 48 }], sz := 3, ze := some [.nilsl, .nilsl, .nilsl], bytes := 72 } := by kernel_rfl -- api.Board
theorem ty30 : tyT Try.prog 30 = some { d := Go.TypeDesc.func #[23, 3, 3, 3, 3] #[29] false, sz := 1, ze := some [.nilfn], bytes := 8 } := by kernel_rfl -- func(*maculaturekit.Dice, int, int, int, int) api.Board
theorem ty31 : tyT Try.prog 31 = some { d := Go.TypeDesc.func #[29] #[29] false, sz := 1, ze := some [.nilfn], bytes := 8 } := by kernel_rfl -- func(api.Board) api.Board
theorem ty32 : tyT Try.prog 32 = some { d := Go.TypeDesc.func #[3] #[3] false, sz := 1, ze := some [.nilfn], bytes := 8 } := by kernel_rfl -- func(int) int
theorem ty33 : tyT Try.prog 33 = some { d := Go.TypeDesc.slice 35, sz := 1, ze := some [.nilsl], bytes := 24 } := by kernel_rfl -- []api.Trace
theorem ty34 : tyT Try.prog 34 = some { d := Go.TypeDesc.struct #[{ name := "Seen", type := 3, offset := 0, embedded := false, tag := "", pkgPath := "", byteOffset := 0 }, { name := "Bare", type := 3, offset := 1, embedded := false, tag := "", pkgPath := "", byteOffset := 8 }], sz := 2, ze := some [.int .i64 0, .int .i64 0], bytes := 16 } := by kernel_rfl -- struct { Seen int; Bare int }
theorem ty35 : tyT Try.prog 35 = some { d := Go.TypeDesc.struct #[{ name := "Seen", type := 3, offset := 0, embedded := false, tag := "", pkgPath := "", byteOffset := 0 }, { name := "Bare", type := 3, offset := 1, embedded := false, tag := "", pkgPath := "", byteOffset := 8 }], sz := 2, ze := some [.int .i64 0, .int .i64 0], bytes := 16 } := by kernel_rfl -- api.Trace
theorem ty36 : tyT Try.prog 36 = some { d := Go.TypeDesc.func #[3] #[4] false, sz := 1, ze := some [.nilfn], bytes := 8 } := by kernel_rfl -- func(int) bool
theorem ty37 : tyT Try.prog 37 = some { d := Go.TypeDesc.func #[22] #[3] true, sz := 1, ze := some [.nilfn], bytes := 8 } := by kernel_rfl -- func(...int) int
theorem ty38 : tyT Try.prog 38 = some { d := Go.TypeDesc.slice 44, sz := 1, ze := some [.nilsl], bytes := 24 } := by kernel_rfl -- []api.Lay
theorem ty39 : tyT Try.prog 39 = some { d := Go.TypeDesc.int (Go.IntKind.i64), sz := 1, ze := some [.int .i64 0], bytes := 8 } := by kernel_rfl -- api.Errno
theorem ty41 : tyT Try.prog 41 = some { d := Go.TypeDesc.func #[29] #[38, 39] false, sz := 1, ze := some [.nilfn], bytes := 8 } := by kernel_rfl -- func(api.Board) ([]api.Lay, api.Errno)
theorem ty42 : tyT Try.prog 42 = some { d := Go.TypeDesc.func #[38, 44] #[4] false, sz := 1, ze := some [.nilfn], bytes := 8 } := by kernel_rfl -- func([]api.Lay, api.Lay) bool
theorem ty43 : tyT Try.prog 43 = some { d := Go.TypeDesc.struct #[{ name := "Page", type := 3, offset := 0, embedded := false, tag := "", pkgPath := "", byteOffset := 0 }, { name := "Turned", type := 4, offset := 1, embedded := false, tag := "", pkgPath := "", byteOffset := 8 }, { name := "Down", type := 3, offset := 2, embedded := false, tag := "", pkgPath := "", byteOffset := 16 }, { name := "Right", type := 3, offset := 3, embedded := false, tag := "", pkgPath := "", byteOffset := 24 }], sz := 4, ze := some [.int .i64 0, .bool false, .int .i64 0, .int .i64 0], bytes := 32 } := by kernel_rfl -- struct { Page int; Turned bool; Down int; Right int }
theorem ty44 : tyT Try.prog 44 = some { d := Go.TypeDesc.struct #[{ name := "Page", type := 3, offset := 0, embedded := false, tag := "", pkgPath := "", byteOffset := 0 }, { name := "Turned", type := 4, offset := 1, embedded := false, tag := "", pkgPath := "", byteOffset := 8 }, { name := "Down", type := 3, offset := 2, embedded := false, tag := "", pkgPath := "", byteOffset := 16 }, { name := "Right", type := 3, offset := 3, embedded := false, tag := "", pkgPath := "", byteOffset := 24 }], sz := 4, ze := some [.int .i64 0, .bool false, .int .i64 0, .int .i64 0], bytes := 32 } := by kernel_rfl -- api.Lay
theorem ty45 : tyT Try.prog 45 = some { d := Go.TypeDesc.func #[3] #[38] false, sz := 1, ze := some [.nilfn], bytes := 8 } := by kernel_rfl -- func(int) []api.Lay
theorem ty46 : tyT Try.prog 46 = some { d := Go.TypeDesc.slice 22, sz := 1, ze := some [.nilsl], bytes := 24 } := by kernel_rfl -- [][]int
theorem ty48 : tyT Try.prog 48 = some { d := Go.TypeDesc.func #[29, 44] #[46, 39] false, sz := 1, ze := some [.nilfn], bytes := 8 } := by kernel_rfl -- func(api.Board, api.Lay) ([][]int, api.Errno)
theorem ty49 : tyT Try.prog 49 = some { d := Go.TypeDesc.func #[] #[4] false, sz := 1, ze := some [.nilfn], bytes := 8 } := by kernel_rfl -- func() bool
theorem ty50 : tyT Try.prog 50 = some { d := Go.TypeDesc.func #[22] #[4] false, sz := 1, ze := some [.nilfn], bytes := 8 } := by kernel_rfl -- func([]int) bool
theorem ty51 : tyT Try.prog 51 = some { d := Go.TypeDesc.slice 9, sz := 1, ze := some [.nilsl], bytes := 24 } := by kernel_rfl -- []string
theorem ty53 : tyT Try.prog 53 = some { d := Go.TypeDesc.func #[29, 3] #[51, 3, 44, 39] false, sz := 1, ze := some [.nilfn], bytes := 8 } := by kernel_rfl -- func(api.Board, int) ([]string, int, api.Lay, api.Errno)
theorem ty54 : tyT Try.prog 54 = some { d := Go.TypeDesc.func #[51, 51] #[3] false, sz := 1, ze := some [.nilfn], bytes := 8 } := by kernel_rfl -- func([]string, []string) int
theorem ty55 : tyT Try.prog 55 = some { d := Go.TypeDesc.struct #[{ name := "Name", type := 9, offset := 0, embedded := false, tag := "", pkgPath := "", byteOffset := 0 }, { name := "Strokes", type := 3, offset := 1, embedded := false, tag := "", pkgPath := "", byteOffset := 16 }], sz := 2, ze := some [.str [], .int .i64 0], bytes := 24 } := by kernel_rfl -- struct { Name string; Strokes int }
theorem ty56 : tyT Try.prog 56 = some { d := Go.TypeDesc.struct #[{ name := "Name", type := 9, offset := 0, embedded := false, tag := "", pkgPath := "", byteOffset := 0 }, { name := "Strokes", type := 3, offset := 1, embedded := false, tag := "", pkgPath := "", byteOffset := 16 }], sz := 2, ze := some [.str [], .int .i64 0], bytes := 24 } := by kernel_rfl -- api.Glyph
theorem ty57 : tyT Try.prog 57 = some { d := Go.TypeDesc.func #[3, 3] #[46] false, sz := 1, ze := some [.nilfn], bytes := 8 } := by kernel_rfl -- func(int, int) [][]int
theorem ty59 : tyT Try.prog 59 = some { d := Go.TypeDesc.func #[3] #[3, 39] false, sz := 1, ze := some [.nilfn], bytes := 8 } := by kernel_rfl -- func(int) (int, api.Errno)
theorem ty60 : tyT Try.prog 60 = some { d := Go.TypeDesc.func #[25, 3] #[9] false, sz := 1, ze := some [.nilfn], bytes := 8 } := by kernel_rfl -- func([]api.Glyph, int) string
theorem ty61 : tyT Try.prog 61 = some { d := Go.TypeDesc.func #[29, 44, 3, 3] #[3, 39] false, sz := 1, ze := some [.nilfn], bytes := 8 } := by kernel_rfl -- func(api.Board, api.Lay, int, int) (int, api.Errno)
theorem ty62 : tyT Try.prog 62 = some { d := Go.TypeDesc.func #[29] #[33] false, sz := 1, ze := some [.nilfn], bytes := 8 } := by kernel_rfl -- func(api.Board) []api.Trace
theorem ty63 : tyT Try.prog 63 = some { d := Go.TypeDesc.func #[29, 38] #[46] false, sz := 1, ze := some [.nilfn], bytes := 8 } := by kernel_rfl -- func(api.Board, []api.Lay) [][]int
theorem ty64 : tyT Try.prog 64 = some { d := Go.TypeDesc.func #[29, 3, 3] #[3, 39] false, sz := 1, ze := some [.nilfn], bytes := 8 } := by kernel_rfl -- func(api.Board, int, int) (int, api.Errno)
theorem ty66 : tyT Try.prog 66 = some { d := Go.TypeDesc.func #[29] #[3, 3, 3, 39] false, sz := 1, ze := some [.nilfn], bytes := 8 } := by kernel_rfl -- func(api.Board) (int, int, int, api.Errno)
theorem ty67 : tyT Try.prog 67 = some { d := Go.TypeDesc.func #[51] #[51] false, sz := 1, ze := some [.nilfn], bytes := 8 } := by kernel_rfl -- func([]string) []string
theorem ty68 : tyT Try.prog 68 = some { d := Go.TypeDesc.func #[22, 22] #[4] false, sz := 1, ze := some [.nilfn], bytes := 8 } := by kernel_rfl -- func([]int, []int) bool
theorem ty69 : tyT Try.prog 69 = some { d := Go.TypeDesc.func #[29] #[46, 39] false, sz := 1, ze := some [.nilfn], bytes := 8 } := by kernel_rfl -- func(api.Board) ([][]int, api.Errno)
theorem ty70 : tyT Try.prog 70 = some { d := Go.TypeDesc.func #[46, 46] #[4] false, sz := 1, ze := some [.nilfn], bytes := 8 } := by kernel_rfl -- func([][]int, [][]int) bool
theorem ty72 : tyT Try.prog 72 = some { d := Go.TypeDesc.func #[29] #[44, 3, 39] false, sz := 1, ze := some [.nilfn], bytes := 8 } := by kernel_rfl -- func(api.Board) (api.Lay, int, api.Errno)
theorem ty73 : tyT Try.prog 73 = some { d := Go.TypeDesc.func #[23, 3] #[44] false, sz := 1, ze := some [.nilfn], bytes := 8 } := by kernel_rfl -- func(*maculaturekit.Dice, int) api.Lay
theorem ty74 : tyT Try.prog 74 = some { d := Go.TypeDesc.func #[23, 29, 44, 44] #[29] false, sz := 1, ze := some [.nilfn], bytes := 8 } := by kernel_rfl -- func(*maculaturekit.Dice, api.Board, api.Lay, api.Lay) api.Board
theorem ty75 : tyT Try.prog 75 = some { d := Go.TypeDesc.func #[29, 44, 3, 3] #[3] false, sz := 1, ze := some [.nilfn], bytes := 8 } := by kernel_rfl -- func(api.Board, api.Lay, int, int) int
theorem ty77 : tyT Try.prog 77 = some { d := Go.TypeDesc.func #[29, 3, 3] #[3, 3, 39] false, sz := 1, ze := some [.nilfn], bytes := 8 } := by kernel_rfl -- func(api.Board, int, int) (int, int, api.Errno)
theorem ty79 : tyT Try.prog 79 = some { d := Go.TypeDesc.func #[29] #[22, 39] false, sz := 1, ze := some [.nilfn], bytes := 8 } := by kernel_rfl -- func(api.Board) ([]int, api.Errno)
theorem ty80 : tyT Try.prog 80 = some { d := Go.TypeDesc.slice 4, sz := 1, ze := some [.nilsl], bytes := 24 } := by kernel_rfl -- []bool
theorem ty81 : tyT Try.prog 81 = some { d := Go.TypeDesc.func #[29, 3] #[3, 39] false, sz := 1, ze := some [.nilfn], bytes := 8 } := by kernel_rfl -- func(api.Board, int) (int, api.Errno)
theorem ty82 : tyT Try.prog 82 = some { d := Go.TypeDesc.func #[] #[29] false, sz := 1, ze := some [.nilfn], bytes := 8 } := by kernel_rfl -- func() api.Board
theorem ty83 : tyT Try.prog 83 = some { d := Go.TypeDesc.func #[29] #[39] false, sz := 1, ze := some [.nilfn], bytes := 8 } := by kernel_rfl -- func(api.Board) api.Errno
theorem ty84 : tyT Try.prog 84 = some { d := Go.TypeDesc.func #[3, 3, 3] #[44] false, sz := 1, ze := some [.nilfn], bytes := 8 } := by kernel_rfl -- func(int, int, int) api.Lay
theorem ty85 : tyT Try.prog 85 = some { d := Go.TypeDesc.func #[38, 38] #[4] false, sz := 1, ze := some [.nilfn], bytes := 8 } := by kernel_rfl -- func([]api.Lay, []api.Lay) bool
theorem ty86 : tyT Try.prog 86 = some { d := Go.TypeDesc.func #[51, 51] #[4] false, sz := 1, ze := some [.nilfn], bytes := 8 } := by kernel_rfl -- func([]string, []string) bool
theorem ty87 : tyT Try.prog 87 = some { d := Go.TypeDesc.int (Go.IntKind.u64), sz := 1, ze := some [.int .u64 0], bytes := 8 } := by kernel_rfl -- uint64
theorem ty88 : tyT Try.prog 88 = some { d := Go.TypeDesc.struct #[{ name := "rest", type := 22, offset := 0, embedded := false, tag := "", pkgPath := "maculature/maculaturekit", byteOffset := 0 }, { name := "last", type := 87, offset := 1, embedded := false, tag := "", pkgPath := "maculature/maculaturekit", byteOffset := 24 }], sz := 2, ze := some [.nilsl, .int .u64 0], bytes := 32 } := by kernel_rfl -- struct { rest []int; last uint64 }
theorem ty89 : tyT Try.prog 89 = some { d := Go.TypeDesc.struct #[{ name := "rest", type := 22, offset := 0, embedded := false, tag := "", pkgPath := "maculature/maculaturekit", byteOffset := 0 }, { name := "last", type := 87, offset := 1, embedded := false, tag := "", pkgPath := "maculature/maculaturekit", byteOffset := 24 }], sz := 2, ze := some [.nilsl, .int .u64 0], bytes := 32 } := by kernel_rfl -- maculaturekit.Dice
theorem ty90 : tyT Try.prog 90 = some { d := Go.TypeDesc.func #[] #[87] false, sz := 1, ze := some [.nilfn], bytes := 8 } := by kernel_rfl -- func() uint64
theorem ty91 : tyT Try.prog 91 = some { d := Go.TypeDesc.int (Go.IntKind.u64), sz := 1, ze := some [.int .u64 0], bytes := 8 } := by kernel_rfl -- uint
theorem ty92 : tyT Try.prog 92 = some { d := Go.TypeDesc.map 21 102, sz := 1, ze := some [.nilmap], bytes := 8 } := by kernel_rfl -- map[int32]offset.ink
theorem ty93 : tyT Try.prog 93 = some { d := Go.TypeDesc.struct #[{ name := "Board", type := 29, offset := 0, embedded := true, tag := "", pkgPath := "", byteOffset := 0 }, { name := "strokes", type := 92, offset := 3, embedded := false, tag := "", pkgPath := "maculature/offset", byteOffset := 72 }], sz := 4, ze := some [.nilsl, .nilsl, .nilsl, .nilmap], bytes := 80 } := by kernel_rfl -- struct { api.Board; strokes map[int32]offset.ink }
theorem ty94 : tyT Try.prog 94 = some { d := Go.TypeDesc.struct #[{ name := "Board", type := 29, offset := 0, embedded := true, tag := "", pkgPath := "", byteOffset := 0 }, { name := "strokes", type := 92, offset := 3, embedded := false, tag := "", pkgPath := "maculature/offset", byteOffset := 72 }], sz := 4, ze := some [.nilsl, .nilsl, .nilsl, .nilmap], bytes := 80 } := by kernel_rfl -- offset.board
theorem ty96 : tyT Try.prog 96 = some { d := Go.TypeDesc.func #[29] #[94, 39] false, sz := 1, ze := some [.nilfn], bytes := 8 } := by kernel_rfl -- func(api.Board) (offset.board, api.Errno)
theorem ty97 : tyT Try.prog 97 = some { d := Go.TypeDesc.slice 105, sz := 1, ze := some [.nilsl], bytes := 24 } := by kernel_rfl -- []offset.face
theorem ty99 : tyT Try.prog 99 = some { d := Go.TypeDesc.func #[] #[38, 97] false, sz := 1, ze := some [.nilfn], bytes := 8 } := by kernel_rfl -- func() ([]api.Lay, []offset.face)
theorem ty100 : tyT Try.prog 100 = some { d := Go.TypeDesc.func #[44] #[39] false, sz := 1, ze := some [.nilfn], bytes := 8 } := by kernel_rfl -- func(api.Lay) api.Errno
theorem ty101 : tyT Try.prog 101 = some { d := Go.TypeDesc.func #[105] #[46] false, sz := 1, ze := some [.nilfn], bytes := 8 } := by kernel_rfl -- func(offset.face) [][]int
theorem ty102 : tyT Try.prog 102 = some { d := Go.TypeDesc.int (Go.IntKind.i64), sz := 1, ze := some [.int .i64 0], bytes := 8 } := by kernel_rfl -- offset.ink
theorem ty103 : tyT Try.prog 103 = some { d := Go.TypeDesc.array 4 102, sz := 4, ze := some [.int .i64 0, .int .i64 0, .int .i64 0, .int .i64 0], bytes := 32 } := by kernel_rfl -- [4]offset.ink
theorem ty104 : tyT Try.prog 104 = some { d := Go.TypeDesc.array 3 103, sz := 12, ze := some [.int .i64 0, .int .i64 0, .int .i64 0, .int .i64 0, .int .i64 0, .int .i64 0, .int .i64 0, .int .i64 0, .int .i64 0, .int .i64 0, .int .i64 0, .int .i64 0], bytes := 96 } := by kernel_rfl -- [3][4]offset.ink
theorem ty105 : tyT Try.prog 105 = some { d := Go.TypeDesc.array 3 103, sz := 12, ze := some [.int .i64 0, .int .i64 0, .int .i64 0, .int .i64 0, .int .i64 0, .int .i64 0, .int .i64 0, .int .i64 0, .int .i64 0, .int .i64 0, .int .i64 0, .int .i64 0], bytes := 96 } := by kernel_rfl -- offset.face
theorem ty106 : tyT Try.prog 106 = some { d := Go.TypeDesc.func #[44] #[105] false, sz := 1, ze := some [.nilfn], bytes := 8 } := by kernel_rfl -- func(api.Lay) offset.face
theorem ty107 : tyT Try.prog 107 = some { d := Go.TypeDesc.struct #[{ name := "rows", type := 51, offset := 0, embedded := false, tag := "", pkgPath := "maculature/offset", byteOffset := 0 }, { name := "letters", type := 3, offset := 1, embedded := false, tag := "", pkgPath := "maculature/offset", byteOffset := 24 }, { name := "way", type := 44, offset := 2, embedded := false, tag := "", pkgPath := "maculature/offset", byteOffset := 32 }], sz := 6, ze := some [.nilsl, .int .i64 0, .int .i64 0, .bool false, .int .i64 0, .int .i64 0], bytes := 64 } := by kernel_rfl -- struct { rows []string; letters int; way api.Lay }
theorem ty108 : tyT Try.prog 108 = some { d := Go.TypeDesc.struct #[{ name := "rows", type := 51, offset := 0, embedded := false, tag := "", pkgPath := "maculature/offset", byteOffset := 0 }, { name := "letters", type := 3, offset := 1, embedded := false, tag := "", pkgPath := "maculature/offset", byteOffset := 24 }, { name := "way", type := 44, offset := 2, embedded := false, tag := "", pkgPath := "maculature/offset", byteOffset := 32 }], sz := 6, ze := some [.nilsl, .int .i64 0, .int .i64 0, .bool false, .int .i64 0, .int .i64 0], bytes := 64 } := by kernel_rfl -- offset.emended
theorem ty109 : tyT Try.prog 109 = some { d := Go.TypeDesc.func #[108] #[3] false, sz := 1, ze := some [.nilfn], bytes := 8 } := by kernel_rfl -- func(offset.emended) int
theorem ty110 : tyT Try.prog 110 = some { d := Go.TypeDesc.struct #[{ name := "best", type := 108, offset := 0, embedded := false, tag := "", pkgPath := "maculature/offset", byteOffset := 0 }, { name := "faults", type := 3, offset := 6, embedded := false, tag := "", pkgPath := "maculature/offset", byteOffset := 64 }, { name := "some", type := 4, offset := 7, embedded := false, tag := "", pkgPath := "maculature/offset", byteOffset := 72 }, { name := "count", type := 109, offset := 8, embedded := false, tag := "", pkgPath := "maculature/offset", byteOffset := 80 }], sz := 9, ze := some [.nilsl, .int .i64 0, .int .i64 0, .bool false, .int .i64 0, .int .i64 0, .int .i64 0, .bool false, .nilfn], bytes := 88 } := by kernel_rfl -- struct { best offset.emended; faults int; some bool; count func(offset.emended) int }
theorem ty111 : tyT Try.prog 111 = some { d := Go.TypeDesc.struct #[{ name := "best", type := 108, offset := 0, embedded := false, tag := "", pkgPath := "maculature/offset", byteOffset := 0 }, { name := "faults", type := 3, offset := 6, embedded := false, tag := "", pkgPath := "maculature/offset", byteOffset := 64 }, { name := "some", type := 4, offset := 7, embedded := false, tag := "", pkgPath := "maculature/offset", byteOffset := 72 }, { name := "count", type := 109, offset := 8, embedded := false, tag := "", pkgPath := "maculature/offset", byteOffset := 80 }], sz := 9, ze := some [.nilsl, .int .i64 0, .int .i64 0, .bool false, .int .i64 0, .int .i64 0, .int .i64 0, .bool false, .nilfn], bytes := 88 } := by kernel_rfl -- offset.fewest[maculature/offset.emended]
theorem ty112 : tyT Try.prog 112 = some { d := Go.TypeDesc.func #[160] #[] false, sz := 1, ze := some [.nilfn], bytes := 8 } := by kernel_rfl -- func(func(api.Lay, offset.face) bool)
theorem ty113 : tyT Try.prog 113 = some { d := Go.TypeDesc.func #[160] #[] false, sz := 1, ze := some [.nilfn], bytes := 8 } := by kernel_rfl -- iter.Seq2[maculature/api.Lay,maculature/offset.face]
theorem ty114 : tyT Try.prog 114 = some { d := Go.TypeDesc.func #[3] #[113] false, sz := 1, ze := some [.nilfn], bytes := 8 } := by kernel_rfl -- func(int) iter.Seq2[maculature/api.Lay,maculature/offset.face]
theorem ty116 : tyT Try.prog 116 = some { d := Go.TypeDesc.func #[44] #[108, 4] false, sz := 1, ze := some [.nilfn], bytes := 8 } := by kernel_rfl -- func(api.Lay) (offset.emended, bool)
theorem ty117 : tyT Try.prog 117 = some { d := Go.TypeDesc.func #[108] #[] false, sz := 1, ze := some [.nilfn], bytes := 8 } := by kernel_rfl -- func(offset.emended)
theorem ty118 : tyT Try.prog 118 = some { d := Go.TypeDesc.func #[22] #[22] false, sz := 1, ze := some [.nilfn], bytes := 8 } := by kernel_rfl -- func([]int) []int
theorem ty119 : tyT Try.prog 119 = some { d := Go.TypeDesc.func #[] #[102] false, sz := 1, ze := some [.nilfn], bytes := 8 } := by kernel_rfl -- func() offset.ink
theorem ty120 : tyT Try.prog 120 = some { d := Go.TypeDesc.int (Go.IntKind.i64), sz := 1, ze := some [.int .i64 0], bytes := 8 } := by kernel_rfl -- light.strokes
theorem ty121 : tyT Try.prog 121 = some { d := Go.TypeDesc.func #[] #[120] false, sz := 1, ze := some [.nilfn], bytes := 8 } := by kernel_rfl -- func() light.strokes
theorem ty122 : tyT Try.prog 122 = some { d := Go.TypeDesc.func #[23, 3] #[25] false, sz := 1, ze := some [.nilfn], bytes := 8 } := by kernel_rfl -- func(*maculaturekit.Dice, int) []api.Glyph
theorem ty123 : tyT Try.prog 123 = some { d := Go.TypeDesc.func #[3, 3] #[3] false, sz := 1, ze := some [.nilfn], bytes := 8 } := by kernel_rfl -- func(int, int) int
theorem ty124 : tyT Try.prog 124 = some { d := Go.TypeDesc.func #[23, 25, 3, 3] #[51] false, sz := 1, ze := some [.nilfn], bytes := 8 } := by kernel_rfl -- func(*maculaturekit.Dice, []api.Glyph, int, int) []string
theorem ty125 : tyT Try.prog 125 = some { d := Go.TypeDesc.func #[3, 46] #[3] false, sz := 1, ze := some [.nilfn], bytes := 8 } := by kernel_rfl -- func(int, [][]int) int
theorem ty126 : tyT Try.prog 126 = some { d := Go.TypeDesc.func #[3, 3] #[4] false, sz := 1, ze := some [.nilfn], bytes := 8 } := by kernel_rfl -- func(int, int) bool
theorem ty127 : tyT Try.prog 127 = some { d := Go.TypeDesc.func #[44, 3, 3] #[102] false, sz := 1, ze := some [.nilfn], bytes := 8 } := by kernel_rfl -- func(api.Lay, int, int) offset.ink
theorem ty128 : tyT Try.prog 128 = some { d := Go.TypeDesc.array 2 3, sz := 2, ze := some [.int .i64 0, .int .i64 0], bytes := 16 } := by kernel_rfl -- [2]int
theorem ty129 : tyT Try.prog 129 = some { d := Go.TypeDesc.map 102 3, sz := 1, ze := some [.nilmap], bytes := 8 } := by kernel_rfl -- map[offset.ink]int
theorem ty130 : tyT Try.prog 130 = some { d := Go.TypeDesc.func #[128] #[3] false, sz := 1, ze := some [.nilfn], bytes := 8 } := by kernel_rfl -- func([2]int) int
theorem ty131 : tyT Try.prog 131 = some { d := Go.TypeDesc.struct #[{ name := "best", type := 128, offset := 0, embedded := false, tag := "", pkgPath := "maculature/offset", byteOffset := 0 }, { name := "faults", type := 3, offset := 2, embedded := false, tag := "", pkgPath := "maculature/offset", byteOffset := 16 }, { name := "some", type := 4, offset := 3, embedded := false, tag := "", pkgPath := "maculature/offset", byteOffset := 24 }, { name := "count", type := 130, offset := 4, embedded := false, tag := "", pkgPath := "maculature/offset", byteOffset := 32 }], sz := 5, ze := some [.int .i64 0, .int .i64 0, .int .i64 0, .bool false, .nilfn], bytes := 40 } := by kernel_rfl -- struct { best [2]int; faults int; some bool; count func([2]int) int }
theorem ty132 : tyT Try.prog 132 = some { d := Go.TypeDesc.struct #[{ name := "best", type := 128, offset := 0, embedded := false, tag := "", pkgPath := "maculature/offset", byteOffset := 0 }, { name := "faults", type := 3, offset := 2, embedded := false, tag := "", pkgPath := "maculature/offset", byteOffset := 16 }, { name := "some", type := 4, offset := 3, embedded := false, tag := "", pkgPath := "maculature/offset", byteOffset := 24 }, { name := "count", type := 130, offset := 4, embedded := false, tag := "", pkgPath := "maculature/offset", byteOffset := 32 }], sz := 5, ze := some [.int .i64 0, .int .i64 0, .int .i64 0, .bool false, .nilfn], bytes := 40 } := by kernel_rfl -- offset.fewest[[2]int]
theorem ty133 : tyT Try.prog 133 = some { d := Go.TypeDesc.func #[128] #[] false, sz := 1, ze := some [.nilfn], bytes := 8 } := by kernel_rfl -- func([2]int)
theorem ty134 : tyT Try.prog 134 = some { d := Go.TypeDesc.map 105 4, sz := 1, ze := some [.nilmap], bytes := 8 } := by kernel_rfl -- map[offset.face]bool
theorem ty135 : tyT Try.prog 135 = some { d := Go.TypeDesc.func #[44] #[3] false, sz := 1, ze := some [.nilfn], bytes := 8 } := by kernel_rfl -- func(api.Lay) int
theorem ty136 : tyT Try.prog 136 = some { d := Go.TypeDesc.struct #[{ name := "best", type := 44, offset := 0, embedded := false, tag := "", pkgPath := "maculature/offset", byteOffset := 0 }, { name := "faults", type := 3, offset := 4, embedded := false, tag := "", pkgPath := "maculature/offset", byteOffset := 32 }, { name := "some", type := 4, offset := 5, embedded := false, tag := "", pkgPath := "maculature/offset", byteOffset := 40 }, { name := "count", type := 135, offset := 6, embedded := false, tag := "", pkgPath := "maculature/offset", byteOffset := 48 }], sz := 7, ze := some [.int .i64 0, .bool false, .int .i64 0, .int .i64 0, .int .i64 0, .bool false, .nilfn], bytes := 56 } := by kernel_rfl -- struct { best api.Lay; faults int; some bool; count func(api.Lay) int }
theorem ty137 : tyT Try.prog 137 = some { d := Go.TypeDesc.struct #[{ name := "best", type := 44, offset := 0, embedded := false, tag := "", pkgPath := "maculature/offset", byteOffset := 0 }, { name := "faults", type := 3, offset := 4, embedded := false, tag := "", pkgPath := "maculature/offset", byteOffset := 32 }, { name := "some", type := 4, offset := 5, embedded := false, tag := "", pkgPath := "maculature/offset", byteOffset := 40 }, { name := "count", type := 135, offset := 6, embedded := false, tag := "", pkgPath := "maculature/offset", byteOffset := 48 }], sz := 7, ze := some [.int .i64 0, .bool false, .int .i64 0, .int .i64 0, .int .i64 0, .bool false, .nilfn], bytes := 56 } := by kernel_rfl -- offset.fewest[maculature/api.Lay]
theorem ty138 : tyT Try.prog 138 = some { d := Go.TypeDesc.func #[] #[113] false, sz := 1, ze := some [.nilfn], bytes := 8 } := by kernel_rfl -- func() iter.Seq2[maculature/api.Lay,maculature/offset.face]
theorem ty139 : tyT Try.prog 139 = some { d := Go.TypeDesc.func #[44] #[] false, sz := 1, ze := some [.nilfn], bytes := 8 } := by kernel_rfl -- func(api.Lay)
theorem ty140 : tyT Try.prog 140 = some { d := Go.TypeDesc.func #[29, 3, 3, 3] #[3] false, sz := 1, ze := some [.nilfn], bytes := 8 } := by kernel_rfl -- func(api.Board, int, int, int) int
theorem ty141 : tyT Try.prog 141 = some { d := Go.TypeDesc.func #[35] #[4] false, sz := 1, ze := some [.nilfn], bytes := 8 } := by kernel_rfl -- func(api.Trace) bool
theorem ty142 : tyT Try.prog 142 = some { d := Go.TypeDesc.func #[27, 144] #[4] false, sz := 1, ze := some [.nilfn], bytes := 8 } := by kernel_rfl -- func([][]api.Trace, func([]api.Trace) bool) bool
theorem ty143 : tyT Try.prog 143 = some { d := Go.TypeDesc.func #[33, 141] #[4] false, sz := 1, ze := some [.nilfn], bytes := 8 } := by kernel_rfl -- func([]api.Trace, func(api.Trace) bool) bool
theorem ty144 : tyT Try.prog 144 = some { d := Go.TypeDesc.func #[33] #[4] false, sz := 1, ze := some [.nilfn], bytes := 8 } := by kernel_rfl -- func([]api.Trace) bool
theorem ty145 : tyT Try.prog 145 = some { d := Go.TypeDesc.func #[] #[22] false, sz := 1, ze := some [.nilfn], bytes := 8 } := by kernel_rfl -- func() []int
theorem ty146 : tyT Try.prog 146 = some { d := Go.TypeDesc.func #[22, 3] #[4] false, sz := 1, ze := some [.nilfn], bytes := 8 } := by kernel_rfl -- func([]int, int) bool
theorem ty147 : tyT Try.prog 147 = some { d := Go.TypeDesc.func #[35, 35, 35, 35] #[29] false, sz := 1, ze := some [.nilfn], bytes := 8 } := by kernel_rfl -- func(api.Trace, api.Trace, api.Trace, api.Trace) api.Board
theorem ty148 : tyT Try.prog 148 = some { d := Go.TypeDesc.struct #[{ name := "e", type := 39, offset := 0, embedded := false, tag := "", pkgPath := "maculature/offset", byteOffset := 0 }], sz := 1, ze := some [.int .i64 0], bytes := 8 } := by kernel_rfl -- struct { e api.Errno }
theorem ty149 : tyT Try.prog 149 = some { d := Go.TypeDesc.struct #[{ name := "e", type := 39, offset := 0, embedded := false, tag := "", pkgPath := "maculature/offset", byteOffset := 0 }], sz := 1, ze := some [.int .i64 0], bytes := 8 } := by kernel_rfl -- offset.fault
theorem ty151 : tyT Try.prog 151 = some { d := Go.TypeDesc.func #[39] #[] false, sz := 1, ze := some [.nilfn], bytes := 8 } := by kernel_rfl -- func(api.Errno)
theorem ty152 : tyT Try.prog 152 = some { d := Go.TypeDesc.func #[155] #[39] false, sz := 1, ze := some [.nilfn], bytes := 8 } := by kernel_rfl -- func(api.Sheet) api.Errno
theorem ty153 : tyT Try.prog 153 = some { d := Go.TypeDesc.slice 184, sz := 1, ze := some [.nilsl], bytes := 24 } := by kernel_rfl -- [][]api.Photo
theorem ty154 : tyT Try.prog 154 = some { d := Go.TypeDesc.struct #[{ name := "Glyphs", type := 25, offset := 0, embedded := false, tag := "", pkgPath := "", byteOffset := 0 }, { name := "Lights", type := 46, offset := 1, embedded := false, tag := "", pkgPath := "", byteOffset := 24 }, { name := "Cells", type := 153, offset := 2, embedded := false, tag := "", pkgPath := "", byteOffset := 48 }], sz := 3, ze := some [.nilsl, .nilsl, .nilsl], bytes := 72 } := by kernel_rfl -- struct { Glyphs []api.Glyph; Lights [][]int; Cells [][]api.Photo }
theorem ty155 : tyT Try.prog 155 = some { d := Go.TypeDesc.struct #[{ name := "Glyphs", type := 25, offset := 0, embedded := false, tag := "", pkgPath := "", byteOffset := 0 }, { name := "Lights", type := 46, offset := 1, embedded := false, tag := "", pkgPath := "", byteOffset := 24 }, { name := "Cells", type := 153, offset := 2, embedded := false, tag := "", pkgPath := "", byteOffset := 48 }], sz := 3, ze := some [.nilsl, .nilsl, .nilsl], bytes := 72 } := by kernel_rfl -- api.Sheet
theorem ty156 : tyT Try.prog 156 = some { d := Go.TypeDesc.func #[3, 3] #[39] false, sz := 1, ze := some [.nilfn], bytes := 8 } := by kernel_rfl -- func(int, int) api.Errno
theorem ty157 : tyT Try.prog 157 = some { d := Go.TypeDesc.func #[51] #[] false, sz := 1, ze := some [.nilfn], bytes := 8 } := by kernel_rfl -- func([]string)
theorem ty158 : tyT Try.prog 158 = some { d := Go.TypeDesc.func #[27] #[] false, sz := 1, ze := some [.nilfn], bytes := 8 } := by kernel_rfl -- func([][]api.Trace)
theorem ty159 : tyT Try.prog 159 = some { d := Go.TypeDesc.func #[105, 3, 3] #[4] false, sz := 1, ze := some [.nilfn], bytes := 8 } := by kernel_rfl -- func(offset.face, int, int) bool
theorem ty160 : tyT Try.prog 160 = some { d := Go.TypeDesc.func #[44, 105] #[4] false, sz := 1, ze := some [.nilfn], bytes := 8 } := by kernel_rfl -- func(api.Lay, offset.face) bool
theorem ty161 : tyT Try.prog 161 = some { d := Go.TypeDesc.slice 162, sz := 1, ze := some [.nilsl], bytes := 24 } := by kernel_rfl -- [][]uint8
theorem ty162 : tyT Try.prog 162 = some { d := Go.TypeDesc.slice 5, sz := 1, ze := some [.nilsl], bytes := 24 } := by kernel_rfl -- []uint8
theorem ty164 : tyT Try.prog 164 = some { d := Go.TypeDesc.func #[44, 3, 3] #[3, 3, 4] false, sz := 1, ze := some [.nilfn], bytes := 8 } := by kernel_rfl -- func(api.Lay, int, int) (int, int, bool)
theorem ty166 : tyT Try.prog 166 = some { d := Go.TypeDesc.func #[44, 3, 3] #[5, 4] false, sz := 1, ze := some [.nilfn], bytes := 8 } := by kernel_rfl -- func(api.Lay, int, int) (uint8, bool)
theorem ty167 : tyT Try.prog 167 = some { d := Go.TypeDesc.pointer 111, sz := 1, ze := some [.nilptr], bytes := 8 } := by kernel_rfl -- *offset.fewest[maculature/offset.emended]
theorem ty168 : tyT Try.prog 168 = some { d := Go.TypeDesc.array 6 102, sz := 6, ze := some [.int .i64 0, .int .i64 0, .int .i64 0, .int .i64 0, .int .i64 0, .int .i64 0], bytes := 48 } := by kernel_rfl -- [6]offset.ink
theorem ty169 : tyT Try.prog 169 = some { d := Go.TypeDesc.func #[3] #[22] false, sz := 1, ze := some [.nilfn], bytes := 8 } := by kernel_rfl -- func(int) []int
theorem ty170 : tyT Try.prog 170 = some { d := Go.TypeDesc.func #[44, 102] #[102] false, sz := 1, ze := some [.nilfn], bytes := 8 } := by kernel_rfl -- func(api.Lay, offset.ink) offset.ink
theorem ty171 : tyT Try.prog 171 = some { d := Go.TypeDesc.chan (Go.ChanDir.both) 4, sz := 1, ze := some [.any], bytes := 8 } := by kernel_rfl -- chan bool
theorem ty172 : tyT Try.prog 172 = some { d := Go.TypeDesc.func #[105, 105] #[4] false, sz := 1, ze := some [.nilfn], bytes := 8 } := by kernel_rfl -- func(offset.face, offset.face) bool
theorem ty173 : tyT Try.prog 173 = some { d := Go.TypeDesc.pointer 132, sz := 1, ze := some [.nilptr], bytes := 8 } := by kernel_rfl -- *offset.fewest[[2]int]
theorem ty174 : tyT Try.prog 174 = some { d := Go.TypeDesc.pointer 137, sz := 1, ze := some [.nilptr], bytes := 8 } := by kernel_rfl -- *offset.fewest[maculature/api.Lay]
theorem ty175 : tyT Try.prog 175 = some { d := Go.TypeDesc.func #[27, 144] #[3] false, sz := 1, ze := some [.nilfn], bytes := 8 } := by kernel_rfl -- func([][]api.Trace, func([]api.Trace) bool) int
theorem ty176 : tyT Try.prog 176 = some { d := Go.TypeDesc.func #[33, 141] #[3] false, sz := 1, ze := some [.nilfn], bytes := 8 } := by kernel_rfl -- func([]api.Trace, func(api.Trace) bool) int
theorem ty177 : tyT Try.prog 177 = some { d := Go.TypeDesc.func #[22, 3] #[3] false, sz := 1, ze := some [.nilfn], bytes := 8 } := by kernel_rfl -- func([]int, int) int
theorem ty178 : tyT Try.prog 178 = some { d := Go.TypeDesc.array 3 152, sz := 3, ze := some [.nilfn, .nilfn, .nilfn], bytes := 24 } := by kernel_rfl -- [3]func(api.Sheet) api.Errno
theorem ty180 : tyT Try.prog 180 = some { d := Go.TypeDesc.func #[102] #[102] false, sz := 1, ze := some [.nilfn], bytes := 8 } := by kernel_rfl -- func(offset.ink) offset.ink
theorem ty181 : tyT Try.prog 181 = some { d := Go.TypeDesc.array 2 180, sz := 2, ze := some [.nilfn, .nilfn], bytes := 16 } := by kernel_rfl -- [2]func(offset.ink) offset.ink
theorem ty182 : tyT Try.prog 182 = some { d := Go.TypeDesc.func #[25, 183] #[4] false, sz := 1, ze := some [.nilfn], bytes := 8 } := by kernel_rfl -- func([]api.Glyph, func(api.Glyph) bool) bool
theorem ty183 : tyT Try.prog 183 = some { d := Go.TypeDesc.func #[56] #[4] false, sz := 1, ze := some [.nilfn], bytes := 8 } := by kernel_rfl -- func(api.Glyph) bool
theorem ty184 : tyT Try.prog 184 = some { d := Go.TypeDesc.slice 186, sz := 1, ze := some [.nilsl], bytes := 24 } := by kernel_rfl -- []api.Photo
theorem ty185 : tyT Try.prog 185 = some { d := Go.TypeDesc.struct #[{ name := "Light", type := 3, offset := 0, embedded := false, tag := "", pkgPath := "", byteOffset := 0 }, { name := "Seen", type := 3, offset := 1, embedded := false, tag := "", pkgPath := "", byteOffset := 8 }, { name := "Bare", type := 3, offset := 2, embedded := false, tag := "", pkgPath := "", byteOffset := 16 }], sz := 3, ze := some [.int .i64 0, .int .i64 0, .int .i64 0], bytes := 24 } := by kernel_rfl -- struct { Light int; Seen int; Bare int }
theorem ty186 : tyT Try.prog 186 = some { d := Go.TypeDesc.struct #[{ name := "Light", type := 3, offset := 0, embedded := false, tag := "", pkgPath := "", byteOffset := 0 }, { name := "Seen", type := 3, offset := 1, embedded := false, tag := "", pkgPath := "", byteOffset := 8 }, { name := "Bare", type := 3, offset := 2, embedded := false, tag := "", pkgPath := "", byteOffset := 16 }], sz := 3, ze := some [.int .i64 0, .int .i64 0, .int .i64 0], bytes := 24 } := by kernel_rfl -- api.Photo
theorem ty187 : tyT Try.prog 187 = some { d := Go.TypeDesc.func #[155, 184, 186] #[39] false, sz := 1, ze := some [.nilfn], bytes := 8 } := by kernel_rfl -- func(api.Sheet, []api.Photo, api.Photo) api.Errno
theorem ty188 : tyT Try.prog 188 = some { d := Go.TypeDesc.func #[25, 183] #[3] false, sz := 1, ze := some [.nilfn], bytes := 8 } := by kernel_rfl -- func([]api.Glyph, func(api.Glyph) bool) int
theorem ty190 : tyT Try.prog 190 = some { d := Go.TypeDesc.func #[155, 184, 186] #[] false, sz := 1, ze := some [.nilfn], bytes := 8 } := by kernel_rfl -- func(api.Sheet, []api.Photo, api.Photo)
theorem ty191 : tyT Try.prog 191 = some { d := Go.TypeDesc.func #[184, 192] #[4] false, sz := 1, ze := some [.nilfn], bytes := 8 } := by kernel_rfl -- func([]api.Photo, func(api.Photo) bool) bool
theorem ty192 : tyT Try.prog 192 = some { d := Go.TypeDesc.func #[186] #[4] false, sz := 1, ze := some [.nilfn], bytes := 8 } := by kernel_rfl -- func(api.Photo) bool
theorem ty193 : tyT Try.prog 193 = some { d := Go.TypeDesc.func #[120] #[4] false, sz := 1, ze := some [.nilfn], bytes := 8 } := by kernel_rfl -- func(light.strokes) bool
theorem ty194 : tyT Try.prog 194 = some { d := Go.TypeDesc.func #[184, 192] #[3] false, sz := 1, ze := some [.nilfn], bytes := 8 } := by kernel_rfl -- func([]api.Photo, func(api.Photo) bool) int
theorem ty195 : tyT Try.prog 195 = some { d := Go.TypeDesc.func #[] #[9] false, sz := 1, ze := some [.nilfn], bytes := 8 } := by kernel_rfl -- func() string
theorem ty196 : tyT Try.prog 196 = some { d := Go.TypeDesc.struct #[{ name := "_interface", type := 17, offset := 0, embedded := false, tag := "", pkgPath := "runtime", byteOffset := 0 }, { name := "concrete", type := 17, offset := 1, embedded := false, tag := "", pkgPath := "runtime", byteOffset := 8 }, { name := "asserted", type := 17, offset := 2, embedded := false, tag := "", pkgPath := "runtime", byteOffset := 16 }, { name := "missingMethod", type := 9, offset := 3, embedded := false, tag := "", pkgPath := "runtime", byteOffset := 24 }], sz := 4, ze := some [.nilptr, .nilptr, .nilptr, .str []], bytes := 40 } := by kernel_rfl -- struct { _interface *abi.Type; concrete *abi.Type; asserted *abi.Type; missingMethod string }
theorem ty197 : tyT Try.prog 197 = some { d := Go.TypeDesc.struct #[{ name := "_interface", type := 17, offset := 0, embedded := false, tag := "", pkgPath := "runtime", byteOffset := 0 }, { name := "concrete", type := 17, offset := 1, embedded := false, tag := "", pkgPath := "runtime", byteOffset := 8 }, { name := "asserted", type := 17, offset := 2, embedded := false, tag := "", pkgPath := "runtime", byteOffset := 16 }, { name := "missingMethod", type := 9, offset := 3, embedded := false, tag := "", pkgPath := "runtime", byteOffset := 24 }], sz := 4, ze := some [.nilptr, .nilptr, .nilptr, .str []], bytes := 40 } := by kernel_rfl -- runtime.TypeAssertionError
theorem ty198 : tyT Try.prog 198 = some { d := Go.TypeDesc.array 0 16, sz := 0, ze := some [], bytes := 0 } := by kernel_rfl -- [0]*runtime.PanicNilError
theorem ty199 : tyT Try.prog 199 = some { d := Go.TypeDesc.struct #[{ name := "_", type := 198, offset := 0, embedded := false, tag := "", pkgPath := "runtime", byteOffset := 0 }], sz := 0, ze := some [], bytes := 0 } := by kernel_rfl -- struct { _ [0]*runtime.PanicNilError }
theorem ty200 : tyT Try.prog 200 = some { d := Go.TypeDesc.struct #[{ name := "_", type := 198, offset := 0, embedded := false, tag := "", pkgPath := "runtime", byteOffset := 0 }], sz := 0, ze := some [], bytes := 0 } := by kernel_rfl -- runtime.PanicNilError
theorem ty201 : tyT Try.prog 201 = some { d := Go.TypeDesc.func #[] #[3] false, sz := 1, ze := some [.nilfn], bytes := 8 } := by kernel_rfl -- func() int
theorem ty202 : tyT Try.prog 202 = some { d := Go.TypeDesc.int (Go.IntKind.u32), sz := 1, ze := some [.int .u32 0], bytes := 4 } := by kernel_rfl -- uint32
theorem ty203 : tyT Try.prog 203 = some { d := Go.TypeDesc.int (Go.IntKind.u8), sz := 1, ze := some [.int .u8 0], bytes := 1 } := by kernel_rfl -- abi.TFlag
theorem ty204 : tyT Try.prog 204 = some { d := Go.TypeDesc.int (Go.IntKind.u8), sz := 1, ze := some [.int .u8 0], bytes := 1 } := by kernel_rfl -- abi.Kind
theorem ty205 : tyT Try.prog 205 = some { d := Go.TypeDesc.func #[211, 211] #[4] false, sz := 1, ze := some [.nilfn], bytes := 8 } := by kernel_rfl -- func(unsafe.Pointer, unsafe.Pointer) bool
theorem ty206 : tyT Try.prog 206 = some { d := Go.TypeDesc.pointer 5, sz := 1, ze := some [.nilptr], bytes := 8 } := by kernel_rfl -- *uint8
theorem ty207 : tyT Try.prog 207 = some { d := Go.TypeDesc.int (Go.IntKind.i32), sz := 1, ze := some [.int .i32 0], bytes := 4 } := by kernel_rfl -- abi.NameOff
theorem ty208 : tyT Try.prog 208 = some { d := Go.TypeDesc.int (Go.IntKind.i32), sz := 1, ze := some [.int .i32 0], bytes := 4 } := by kernel_rfl -- abi.TypeOff
theorem ty209 : tyT Try.prog 209 = some { d := Go.TypeDesc.struct #[{ name := "Size_", type := 12, offset := 0, embedded := false, tag := "", pkgPath := "", byteOffset := 0 }, { name := "PtrBytes", type := 12, offset := 1, embedded := false, tag := "", pkgPath := "", byteOffset := 8 }, { name := "Hash", type := 202, offset := 2, embedded := false, tag := "", pkgPath := "", byteOffset := 16 }, { name := "TFlag", type := 203, offset := 3, embedded := false, tag := "", pkgPath := "", byteOffset := 20 }, { name := "Align_", type := 5, offset := 4, embedded := false, tag := "", pkgPath := "", byteOffset := 21 }, { name := "FieldAlign_", type := 5, offset := 5, embedded := false, tag := "", pkgPath := "", byteOffset := 22 }, { name := "Kind_", type := 204, offset := 6, embedded := false, tag := "", pkgPath := "", byteOffset := 23 }, { name := "Equal", type := 205, offset := 7, embedded := false, tag := "", pkgPath := "", byteOffset := 24 }, { name := "GCData", type := 206, offset := 8, embedded := false, tag := "", pkgPath := "", byteOffset := 32 }, { name := "Str", type := 207, offset := 9, embedded := false, tag := "", pkgPath := "", byteOffset := 40 }, { name := "PtrToThis", type := 208, offset := 10, embedded := false, tag := "", pkgPath := "", byteOffset := 44 }], sz := 11, ze := some [.int .u64 0, .int .u64 0, .int .u32 0, .int .u8 0, .int .u8 0, .int .u8 0, .int .u8 0, .nilfn, .nilptr, .int .i32 0, .int .i32 0], bytes := 48 } := by kernel_rfl -- struct { Size_ uintptr; PtrBytes uintptr; Hash uint32; TFlag abi.TFlag; Align_ uint8; FieldAlign_ uint8; Kind_ abi.Kind; Equal func(unsafe.Pointer, unsafe.Pointer) bool; GCData *uint8; Str abi.NameOff; PtrToThis abi.TypeOff }
theorem ty210 : tyT Try.prog 210 = some { d := Go.TypeDesc.struct #[{ name := "Size_", type := 12, offset := 0, embedded := false, tag := "", pkgPath := "", byteOffset := 0 }, { name := "PtrBytes", type := 12, offset := 1, embedded := false, tag := "", pkgPath := "", byteOffset := 8 }, { name := "Hash", type := 202, offset := 2, embedded := false, tag := "", pkgPath := "", byteOffset := 16 }, { name := "TFlag", type := 203, offset := 3, embedded := false, tag := "", pkgPath := "", byteOffset := 20 }, { name := "Align_", type := 5, offset := 4, embedded := false, tag := "", pkgPath := "", byteOffset := 21 }, { name := "FieldAlign_", type := 5, offset := 5, embedded := false, tag := "", pkgPath := "", byteOffset := 22 }, { name := "Kind_", type := 204, offset := 6, embedded := false, tag := "", pkgPath := "", byteOffset := 23 }, { name := "Equal", type := 205, offset := 7, embedded := false, tag := "", pkgPath := "", byteOffset := 24 }, { name := "GCData", type := 206, offset := 8, embedded := false, tag := "", pkgPath := "", byteOffset := 32 }, { name := "Str", type := 207, offset := 9, embedded := false, tag := "", pkgPath := "", byteOffset := 40 }, { name := "PtrToThis", type := 208, offset := 10, embedded := false, tag := "", pkgPath := "", byteOffset := 44 }], sz := 11, ze := some [.int .u64 0, .int .u64 0, .int .u32 0, .int .u8 0, .int .u8 0, .int .u8 0, .int .u8 0, .nilfn, .nilptr, .int .i32 0, .int .i32 0], bytes := 48 } := by kernel_rfl -- abi.Type
theorem ty211 : tyT Try.prog 211 = some { d := Go.TypeDesc.unsafePointer, sz := 1, ze := some [.nilptr], bytes := 8 } := by kernel_rfl -- unsafe.Pointer
theorem call2 : callable Try.prog 2 = True := eq_true ⟨_, Try.func2, rfl, rfl⟩
theorem call3 : callable Try.prog 3 = True := eq_true ⟨_, Try.func3, rfl, rfl⟩
theorem call4 : callable Try.prog 4 = True := eq_true ⟨_, Try.func4, rfl, rfl⟩
theorem call5 : callable Try.prog 5 = True := eq_true ⟨_, Try.func5, rfl, rfl⟩
theorem call6 : callable Try.prog 6 = True := eq_true ⟨_, Try.func6, rfl, rfl⟩
theorem call7 : callable Try.prog 7 = True := eq_true ⟨_, Try.func7, rfl, rfl⟩
theorem call8 : callable Try.prog 8 = True := eq_true ⟨_, Try.func8, rfl, rfl⟩
theorem call9 : callable Try.prog 9 = True := eq_true ⟨_, Try.func9, rfl, rfl⟩
theorem call10 : callable Try.prog 10 = True := eq_true ⟨_, Try.func10, rfl, rfl⟩
theorem call11 : callable Try.prog 11 = True := eq_true ⟨_, Try.func11, rfl, rfl⟩
theorem call12 : callable Try.prog 12 = True := eq_true ⟨_, Try.func12, rfl, rfl⟩
theorem call13 : callable Try.prog 13 = True := eq_true ⟨_, Try.func13, rfl, rfl⟩
theorem call14 : callable Try.prog 14 = True := eq_true ⟨_, Try.func14, rfl, rfl⟩
theorem call15 : callable Try.prog 15 = True := eq_true ⟨_, Try.func15, rfl, rfl⟩
theorem call16 : callable Try.prog 16 = True := eq_true ⟨_, Try.func16, rfl, rfl⟩
theorem call17 : callable Try.prog 17 = True := eq_true ⟨_, Try.func17, rfl, rfl⟩
theorem call18 : callable Try.prog 18 = True := eq_true ⟨_, Try.func18, rfl, rfl⟩
theorem call19 : callable Try.prog 19 = True := eq_true ⟨_, Try.func19, rfl, rfl⟩
theorem call20 : callable Try.prog 20 = True := eq_true ⟨_, Try.func20, rfl, rfl⟩
theorem call21 : callable Try.prog 21 = True := eq_true ⟨_, Try.func21, rfl, rfl⟩
theorem call22 : callable Try.prog 22 = True := eq_true ⟨_, Try.func22, rfl, rfl⟩
theorem call23 : callable Try.prog 23 = True := eq_true ⟨_, Try.func23, rfl, rfl⟩
theorem call24 : callable Try.prog 24 = True := eq_true ⟨_, Try.func24, rfl, rfl⟩
theorem call25 : callable Try.prog 25 = True := eq_true ⟨_, Try.func25, rfl, rfl⟩
theorem call26 : callable Try.prog 26 = True := eq_true ⟨_, Try.func26, rfl, rfl⟩
theorem call27 : callable Try.prog 27 = True := eq_true ⟨_, Try.func27, rfl, rfl⟩
theorem call28 : callable Try.prog 28 = True := eq_true ⟨_, Try.func28, rfl, rfl⟩
theorem call29 : callable Try.prog 29 = True := eq_true ⟨_, Try.func29, rfl, rfl⟩
theorem call30 : callable Try.prog 30 = True := eq_true ⟨_, Try.func30, rfl, rfl⟩
theorem call31 : callable Try.prog 31 = True := eq_true ⟨_, Try.func31, rfl, rfl⟩
theorem call32 : callable Try.prog 32 = True := eq_true ⟨_, Try.func32, rfl, rfl⟩
theorem call33 : callable Try.prog 33 = True := eq_true ⟨_, Try.func33, rfl, rfl⟩
theorem call34 : callable Try.prog 34 = True := eq_true ⟨_, Try.func34, rfl, rfl⟩
theorem call35 : callable Try.prog 35 = True := eq_true ⟨_, Try.func35, rfl, rfl⟩
theorem call36 : callable Try.prog 36 = True := eq_true ⟨_, Try.func36, rfl, rfl⟩
theorem call37 : callable Try.prog 37 = True := eq_true ⟨_, Try.func37, rfl, rfl⟩
theorem call38 : callable Try.prog 38 = True := eq_true ⟨_, Try.func38, rfl, rfl⟩
theorem call39 : callable Try.prog 39 = True := eq_true ⟨_, Try.func39, rfl, rfl⟩
theorem call40 : callable Try.prog 40 = True := eq_true ⟨_, Try.func40, rfl, rfl⟩
theorem call41 : callable Try.prog 41 = True := eq_true ⟨_, Try.func41, rfl, rfl⟩
theorem call42 : callable Try.prog 42 = True := eq_true ⟨_, Try.func42, rfl, rfl⟩
theorem call43 : callable Try.prog 43 = True := eq_true ⟨_, Try.func43, rfl, rfl⟩
theorem call44 : callable Try.prog 44 = True := eq_true ⟨_, Try.func44, rfl, rfl⟩
theorem call45 : callable Try.prog 45 = True := eq_true ⟨_, Try.func45, rfl, rfl⟩
theorem call46 : callable Try.prog 46 = True := eq_true ⟨_, Try.func46, rfl, rfl⟩
theorem call47 : callable Try.prog 47 = True := eq_true ⟨_, Try.func47, rfl, rfl⟩
theorem call48 : callable Try.prog 48 = True := eq_true ⟨_, Try.func48, rfl, rfl⟩
theorem call49 : callable Try.prog 49 = True := eq_true ⟨_, Try.func49, rfl, rfl⟩
theorem call50 : callable Try.prog 50 = True := eq_true ⟨_, Try.func50, rfl, rfl⟩
theorem call51 : callable Try.prog 51 = True := eq_true ⟨_, Try.func51, rfl, rfl⟩
theorem call52 : callable Try.prog 52 = True := eq_true ⟨_, Try.func52, rfl, rfl⟩
theorem call53 : callable Try.prog 53 = True := eq_true ⟨_, Try.func53, rfl, rfl⟩
theorem call54 : callable Try.prog 54 = True := eq_true ⟨_, Try.func54, rfl, rfl⟩
theorem call55 : callable Try.prog 55 = True := eq_true ⟨_, Try.func55, rfl, rfl⟩
theorem call56 : callable Try.prog 56 = True := eq_true ⟨_, Try.func56, rfl, rfl⟩
theorem call57 : callable Try.prog 57 = True := eq_true ⟨_, Try.func57, rfl, rfl⟩
theorem call58 : callable Try.prog 58 = True := eq_true ⟨_, Try.func58, rfl, rfl⟩
theorem call59 : callable Try.prog 59 = True := eq_true ⟨_, Try.func59, rfl, rfl⟩
theorem call60 : callable Try.prog 60 = True := eq_true ⟨_, Try.func60, rfl, rfl⟩
theorem call61 : callable Try.prog 61 = True := eq_true ⟨_, Try.func61, rfl, rfl⟩
theorem call62 : callable Try.prog 62 = True := eq_true ⟨_, Try.func62, rfl, rfl⟩
theorem call63 : callable Try.prog 63 = True := eq_true ⟨_, Try.func63, rfl, rfl⟩
theorem call64 : callable Try.prog 64 = True := eq_true ⟨_, Try.func64, rfl, rfl⟩
theorem call65 : callable Try.prog 65 = True := eq_true ⟨_, Try.func65, rfl, rfl⟩
theorem call66 : callable Try.prog 66 = True := eq_true ⟨_, Try.func66, rfl, rfl⟩
theorem call67 : callable Try.prog 67 = True := eq_true ⟨_, Try.func67, rfl, rfl⟩
theorem call68 : callable Try.prog 68 = True := eq_true ⟨_, Try.func68, rfl, rfl⟩
theorem call69 : callable Try.prog 69 = True := eq_true ⟨_, Try.func69, rfl, rfl⟩
theorem call70 : callable Try.prog 70 = True := eq_true ⟨_, Try.func70, rfl, rfl⟩
theorem call71 : callable Try.prog 71 = True := eq_true ⟨_, Try.func71, rfl, rfl⟩
theorem call72 : callable Try.prog 72 = True := eq_true ⟨_, Try.func72, rfl, rfl⟩
theorem call73 : callable Try.prog 73 = True := eq_true ⟨_, Try.func73, rfl, rfl⟩
theorem call74 : callable Try.prog 74 = True := eq_true ⟨_, Try.func74, rfl, rfl⟩
theorem call75 : callable Try.prog 75 = True := eq_true ⟨_, Try.func75, rfl, rfl⟩
theorem call76 : callable Try.prog 76 = True := eq_true ⟨_, Try.func76, rfl, rfl⟩
theorem call77 : callable Try.prog 77 = True := eq_true ⟨_, Try.func77, rfl, rfl⟩
theorem call78 : callable Try.prog 78 = True := eq_true ⟨_, Try.func78, rfl, rfl⟩
theorem call79 : callable Try.prog 79 = True := eq_true ⟨_, Try.func79, rfl, rfl⟩
theorem call80 : callable Try.prog 80 = True := eq_true ⟨_, Try.func80, rfl, rfl⟩
theorem call81 : callable Try.prog 81 = True := eq_true ⟨_, Try.func81, rfl, rfl⟩
theorem call82 : callable Try.prog 82 = True := eq_true ⟨_, Try.func82, rfl, rfl⟩
theorem call83 : callable Try.prog 83 = True := eq_true ⟨_, Try.func83, rfl, rfl⟩
theorem call84 : callable Try.prog 84 = True := eq_true ⟨_, Try.func84, rfl, rfl⟩
theorem call85 : callable Try.prog 85 = True := eq_true ⟨_, Try.func85, rfl, rfl⟩
theorem call86 : callable Try.prog 86 = True := eq_true ⟨_, Try.func86, rfl, rfl⟩
theorem call87 : callable Try.prog 87 = True := eq_true ⟨_, Try.func87, rfl, rfl⟩
theorem call88 : callable Try.prog 88 = True := eq_true ⟨_, Try.func88, rfl, rfl⟩
theorem call89 : callable Try.prog 89 = True := eq_true ⟨_, Try.func89, rfl, rfl⟩
theorem call90 : callable Try.prog 90 = True := eq_true ⟨_, Try.func90, rfl, rfl⟩
theorem call91 : callable Try.prog 91 = True := eq_true ⟨_, Try.func91, rfl, rfl⟩
theorem call92 : callable Try.prog 92 = True := eq_true ⟨_, Try.func92, rfl, rfl⟩
theorem call93 : callable Try.prog 93 = True := eq_true ⟨_, Try.func93, rfl, rfl⟩
theorem call94 : callable Try.prog 94 = True := eq_true ⟨_, Try.func94, rfl, rfl⟩
theorem call95 : callable Try.prog 95 = True := eq_true ⟨_, Try.func95, rfl, rfl⟩
theorem call96 : callable Try.prog 96 = True := eq_true ⟨_, Try.func96, rfl, rfl⟩
theorem call97 : callable Try.prog 97 = True := eq_true ⟨_, Try.func97, rfl, rfl⟩
theorem call98 : callable Try.prog 98 = True := eq_true ⟨_, Try.func98, rfl, rfl⟩
theorem call99 : callable Try.prog 99 = True := eq_true ⟨_, Try.func99, rfl, rfl⟩
theorem call100 : callable Try.prog 100 = True := eq_true ⟨_, Try.func100, rfl, rfl⟩
theorem call101 : callable Try.prog 101 = True := eq_true ⟨_, Try.func101, rfl, rfl⟩
theorem call102 : callable Try.prog 102 = True := eq_true ⟨_, Try.func102, rfl, rfl⟩
theorem call103 : callable Try.prog 103 = True := eq_true ⟨_, Try.func103, rfl, rfl⟩
theorem call104 : callable Try.prog 104 = True := eq_true ⟨_, Try.func104, rfl, rfl⟩
theorem call105 : callable Try.prog 105 = True := eq_true ⟨_, Try.func105, rfl, rfl⟩
theorem call106 : callable Try.prog 106 = True := eq_true ⟨_, Try.func106, rfl, rfl⟩
theorem call107 : callable Try.prog 107 = True := eq_true ⟨_, Try.func107, rfl, rfl⟩
theorem call108 : callable Try.prog 108 = True := eq_true ⟨_, Try.func108, rfl, rfl⟩
theorem call109 : callable Try.prog 109 = True := eq_true ⟨_, Try.func109, rfl, rfl⟩
theorem call110 : callable Try.prog 110 = True := eq_true ⟨_, Try.func110, rfl, rfl⟩
theorem call111 : callable Try.prog 111 = True := eq_true ⟨_, Try.func111, rfl, rfl⟩
theorem call112 : callable Try.prog 112 = True := eq_true ⟨_, Try.func112, rfl, rfl⟩
theorem call113 : callable Try.prog 113 = True := eq_true ⟨_, Try.func113, rfl, rfl⟩
theorem call114 : callable Try.prog 114 = True := eq_true ⟨_, Try.func114, rfl, rfl⟩
theorem call115 : callable Try.prog 115 = True := eq_true ⟨_, Try.func115, rfl, rfl⟩
theorem call116 : callable Try.prog 116 = True := eq_true ⟨_, Try.func116, rfl, rfl⟩
theorem call117 : callable Try.prog 117 = True := eq_true ⟨_, Try.func117, rfl, rfl⟩
theorem call118 : callable Try.prog 118 = True := eq_true ⟨_, Try.func118, rfl, rfl⟩
theorem call119 : callable Try.prog 119 = True := eq_true ⟨_, Try.func119, rfl, rfl⟩
theorem call120 : callable Try.prog 120 = True := eq_true ⟨_, Try.func120, rfl, rfl⟩
theorem call121 : callable Try.prog 121 = True := eq_true ⟨_, Try.func121, rfl, rfl⟩
theorem call122 : callable Try.prog 122 = True := eq_true ⟨_, Try.func122, rfl, rfl⟩
theorem call123 : callable Try.prog 123 = True := eq_true ⟨_, Try.func123, rfl, rfl⟩
theorem call124 : callable Try.prog 124 = True := eq_true ⟨_, Try.func124, rfl, rfl⟩
theorem call125 : callable Try.prog 125 = True := eq_true ⟨_, Try.func125, rfl, rfl⟩
theorem call126 : callable Try.prog 126 = True := eq_true ⟨_, Try.func126, rfl, rfl⟩
theorem call127 : callable Try.prog 127 = True := eq_true ⟨_, Try.func127, rfl, rfl⟩
theorem call128 : callable Try.prog 128 = True := eq_true ⟨_, Try.func128, rfl, rfl⟩
theorem call129 : callable Try.prog 129 = True := eq_true ⟨_, Try.func129, rfl, rfl⟩
theorem call130 : callable Try.prog 130 = True := eq_true ⟨_, Try.func130, rfl, rfl⟩
theorem call131 : callable Try.prog 131 = True := eq_true ⟨_, Try.func131, rfl, rfl⟩
theorem call132 : callable Try.prog 132 = True := eq_true ⟨_, Try.func132, rfl, rfl⟩
attribute [go_sem] ty1 ty2 ty3 ty4 ty5 ty6 ty7 ty8 ty9 ty10 ty11 ty12 ty13 ty14 ty15 ty16 ty17 ty18 ty19 ty20 ty21 ty22 ty23 ty24 ty25 ty26 ty27 ty28 ty29 ty30 ty31 ty32 ty33 ty34 ty35 ty36 ty37 ty38 ty39 ty41 ty42 ty43 ty44 ty45 ty46 ty48 ty49 ty50 ty51 ty53 ty54 ty55 ty56 ty57 ty59 ty60 ty61 ty62 ty63 ty64 ty66 ty67 ty68 ty69 ty70 ty72 ty73 ty74 ty75 ty77 ty79 ty80 ty81 ty82 ty83 ty84 ty85 ty86 ty87 ty88 ty89 ty90 ty91 ty92 ty93 ty94 ty96 ty97 ty99 ty100 ty101 ty102 ty103 ty104 ty105 ty106 ty107 ty108 ty109 ty110 ty111 ty112 ty113 ty114 ty116 ty117 ty118 ty119 ty120 ty121 ty122 ty123 ty124 ty125 ty126 ty127 ty128 ty129 ty130 ty131 ty132 ty133 ty134 ty135 ty136 ty137 ty138 ty139 ty140 ty141 ty142 ty143 ty144 ty145 ty146 ty147 ty148 ty149 ty151 ty152 ty153 ty154 ty155 ty156 ty157 ty158 ty159 ty160 ty161 ty162 ty164 ty166 ty167 ty168 ty169 ty170 ty171 ty172 ty173 ty174 ty175 ty176 ty177 ty178 ty180 ty181 ty182 ty183 ty184 ty185 ty186 ty187 ty188 ty190 ty191 ty192 ty193 ty194 ty195 ty196 ty197 ty198 ty199 ty200 ty201 ty202 ty203 ty204 ty205 ty206 ty207 ty208 ty209 ty210 ty211  call2 call3 call4 call5 call6 call7 call8 call9 call10 call11 call12 call13 call14 call15 call16 call17 call18 call19 call20 call21 call22 call23 call24 call25 call26 call27 call28 call29 call30 call31 call32 call33 call34 call35 call36 call37 call38 call39 call40 call41 call42 call43 call44 call45 call46 call47 call48 call49 call50 call51 call52 call53 call54 call55 call56 call57 call58 call59 call60 call61 call62 call63 call64 call65 call66 call67 call68 call69 call70 call71 call72 call73 call74 call75 call76 call77 call78 call79 call80 call81 call82 call83 call84 call85 call86 call87 call88 call89 call90 call91 call92 call93 call94 call95 call96 call97 call98 call99 call100 call101 call102 call103 call104 call105 call106 call107 call108 call109 call110 call111 call112 call113 call114 call115 call116 call117 call118 call119 call120 call121 call122 call123 call124 call125 call126 call127 call128 call129 call130 call131 call132 
attribute [go_sem] Try.results2 Try.results3 Try.results4 Try.results5 Try.results6 Try.results7 Try.results8 Try.results9 Try.results10 Try.results11 Try.results12 Try.results13 Try.results14 Try.results15 Try.results16 Try.results17 Try.results18 Try.results19 Try.results20 Try.results21 Try.results22 Try.results23 Try.results24 Try.results25 Try.results26 Try.results27 Try.results28 Try.results29 Try.results30 Try.results31 Try.results32 Try.results33 Try.results34 Try.results35 Try.results36 Try.results37 Try.results38 Try.results39 Try.results40 Try.results41 Try.results42 Try.results43 Try.results44 Try.results45 Try.results46 Try.results47 Try.results48 Try.results49 Try.results50 Try.results51 Try.results52 Try.results53 Try.results54 Try.results55 Try.results56 Try.results57 Try.results58 Try.results59 Try.results60 Try.results61 Try.results62 Try.results63 Try.results64 Try.results65 Try.results66 Try.results67 Try.results68 Try.results69 Try.results70 Try.results71 Try.results72 Try.results73 Try.results74 Try.results75 Try.results76 Try.results77 Try.results78 Try.results79 Try.results80 Try.results81 Try.results82 Try.results83 Try.results84 Try.results85 Try.results86 Try.results87 Try.results88 Try.results89 Try.results90 Try.results91 Try.results92 Try.results93 Try.results94 Try.results95 Try.results96 Try.results97 Try.results98 Try.results99 Try.results100 Try.results101 Try.results102 Try.results103 Try.results104 Try.results105 Try.results106 Try.results107 Try.results108 Try.results109 Try.results110 Try.results111 Try.results112 Try.results113 Try.results114 Try.results115 Try.results116 Try.results117 Try.results118 Try.results119 Try.results120 Try.results121 Try.results122 Try.results123 Try.results124 Try.results125 Try.results126 Try.results127 Try.results128 Try.results129 Try.results130 Try.results131 Try.results132 
attribute [go_sem ↓] reduceIte
attribute [go_sem] reduceCtorEq Int.reduceGT Int.reduceGE Int.reduceEq Int.reduceBEq Int.reduceBNe not_true_eq_false Nat.reduceEqDiff Nat.reduceMod Int.reduceLT Int.reduceLE Int.reduceToNat Int.toNat_natCast Nat.mul_one Int.reduceNeg IntKind.bits Int.natCast_nonneg Int.cast_ofNat_Int
theorem mixed : Try.prog.follows .mixedOrders = true := by kernel_rfl
end Go.Mac

/-! FnA -/
/- FnA: encoders of data, first contracts. -/
namespace Go.Mac
open Go Go.Conc Go.Proofs
set_option maxRecDepth 4000

/-- A slice that is written no more. -/
def sliceOf {α : Type} (f : α → List AV) (l : List α) : AV := .psl (l.flatMap f) l.length

def cInt (n : Int) : List AV := [.int .i64 n]
@[simp] theorem cInt_len (n : Int) : (cInt n).length = 1 := rfl
abbrev ints (l : List Int) : AV := sliceOf cInt l

theorem rows_at {α : Type} {f : α → List AV} {n : Nat} (hf : ∀ x, (f x).length = n) {l : List α} {i : Nat} (h : i < l.length) : (l.flatMap f).drop (((i : Nat) : Int).toNat * n) = f l[i] ++ (l.drop (i + 1)).flatMap f := by
  rw [Int.toNat_natCast]; exact drop_rows hf l i h
theorem rows_le {α : Type} {f : α → List AV} {n : Nat} (hf : ∀ x, (f x).length = n) {l : List α} {i : Nat} (h : i < l.length) : (((i : Nat) : Int).toNat * n ≤ (l.flatMap f).length) = True := by
  rw [Int.toNat_natCast, length_rows hf]; exact eq_true (Nat.mul_le_mul_right n (Nat.le_of_lt h))
theorem row1 {α : Type} {f : α → List AV} (hf : ∀ x, (f x).length = 1) {l : List α} {i : Nat} (h : i < l.length) : (l.flatMap f).drop i = f l[i] ++ (l.drop (i + 1)).flatMap f := by
  have := drop_rows hf l i h; rwa [Nat.mul_one] at this
theorem row1_le {α : Type} {f : α → List AV} (hf : ∀ x, (f x).length = 1) {l : List α} {i : Nat} (h : i < l.length) : (i ≤ (l.flatMap f).length) = True := by
  rw [length_rows hf, Nat.mul_one]; exact eq_true (Nat.le_of_lt h)
theorem rowN {α : Type} {f : α → List AV} {n : Nat} (hf : ∀ x, (f x).length = n) {l : List α} {i : Nat} (h : i < l.length) : (l.flatMap f).drop (i * n) = f l[i] ++ (l.drop (i + 1)).flatMap f := drop_rows hf l i h
theorem rowN_le {α : Type} {f : α → List AV} {n : Nat} (hf : ∀ x, (f x).length = n) {l : List α} {i : Nat} (h : i < l.length) : (i * n ≤ (l.flatMap f).length) = True := by
  rw [length_rows hf]; exact eq_true (Nat.mul_le_mul_right n (Nat.le_of_lt h))

theorem wrap_succ {i : Nat} (h : i < 9223372036854775807) : IntKind.i64.wrap ((i : Int) + 1) = ((i + 1 : Nat) : Int) := by rw [wrap64 (by omega) (by omega)]; simp
theorem nat_not_neg (i : Nat) : ((i : Int) < 0) = False := eq_false (by omega)
attribute [go_sem] nat_not_neg sliceOf
theorem nat_nonneg (i : Nat) : (0 ≤ (i : Int)) = True := eq_true (by omega)
theorem nat_lt {i j : Nat} (h : i < j) : ((i : Int) < (j : Int)) = True := eq_true (by omega)


/-- Lists of the same length that are the same up to a place. -/
theorem take_eq_succ {α : Type} [DecidableEq α] {a b : List α} {i : Nat} (hi : i < a.length) (hj : i < b.length) (h : a.take i = b.take i) : (a.take (i + 1) = b.take (i + 1)) = (a[i] = b[i]) := by
  apply propext
  rw [List.take_add_one, List.take_add_one, List.getElem?_eq_getElem hi, List.getElem?_eq_getElem hj, h]
  exact ⟨fun e => by have := List.append_cancel_left e; simpa using this, fun e => by rw [e]⟩

theorem eqInts_ok (a b : List Int) (hla : a.length < 9223372036854775807) : PureA Try.prog 41 [ints a, ints b] (.bool (a == b)) := by
  refine PureA.of_wpp { cut := [13] } 29 mixed Try.func41 (by kernel_rfl) rfl (by kernel_rfl) (rfl) fun h j hB => ?_
  simp only [junk_succ, junk_zero, List.cons_append, List.nil_append, List.length_cons, List.length_nil, Nat.reduceAdd]
  simp (implicitDefEqProofs := false) (dsimp := false) only [go_sem, ints]
  refine WP.loopI (fun (x : Nat × Bool) s => x.1 ≤ a.length ∧ (x.2 = true ↔ a.length = b.length ∧ a.take x.1 = b.take x.1) ∧ s.sl.length = 31 ∧ s.df = [] ∧ s.gh = {} ∧ s.hp = h ∧ evA s.sl (.tmp 0) = ints a ∧ evA s.sl (.tmp 1) = ints b ∧ evA s.sl (.tmp 5) = .bool x.2 ∧ evA s.sl (.tmp 6) = .int .i64 x.1) (fun x => a.length - x.1) (0, a.length == b.length) ?_ ?_
  · simp (implicitDefEqProofs := false) (dsimp := false) only [go_sem, ints]
    refine ⟨Nat.zero_le _, ?_⟩
    rw [Bool.eq_iff_iff]; simp; omega
  · rintro ⟨i, q⟩ ⟨sl, df, hp, gh⟩ ⟨h1, hq, h2, rfl, rfl, rfl, h3, h4, h5, h6⟩
    simp only at h1 hq h2 h3 h4 h5 h6
    obtain ⟨j, rfl⟩ := slots_lit h2; clear h2; simp only [junk_succ, junk_zero, evA_tmp, nth_16, nth_four, nth_one, nth_zero, Nat.zero_add, Nat.reduceAdd] at  h3 h4 h5 h6 ⊢
    refine wp_ok (so := { cut := [13] }) mixed _ (by kernel_rfl) ?_
    cases q with
    | false =>
      simp (implicitDefEqProofs := false) (dsimp := false) only [go_sem, h3, h4, h5, h6, ints]
      symm
      rw [beq_eq_false_iff_ne]
      rintro rfl
      simp at hq
    | true =>
      obtain ⟨e1, e2⟩ := hq.1 rfl
      by_cases hi : i < a.length
      · have hib : i < b.length := by omega
        simp (implicitDefEqProofs := false) (dsimp := false) only [go_sem, h3, h4, h5, h6, ints, row1 cInt_len hi, row1 cInt_len hib, row1_le cInt_len hi, row1_le cInt_len hib, cInt, nat_lt hi, nat_lt hib, decide_true, wrap_succ (show i < 9223372036854775807 by omega)]
        refine ⟨(i + 1, a[i] == b[i]), ⟨hi, ?_, rfl, rfl⟩, by simp only; omega⟩
        rw [beq_iff_eq, take_eq_succ hi hib e2]
        simp [e1]
      · have hs : ((i : Int) < (a.length : Int)) = False := eq_false (by omega)
        simp (implicitDefEqProofs := false) (dsimp := false) only [go_sem, h3, h4, h5, h6, ints, hs, decide_false]
        have : i = a.length := by omega
        subst this
        rw [List.take_length, e1, List.take_length] at e2
        simp [e2]
end Go.Mac

/-! FnB -/
/- FnB: contracts of strokes. -/
namespace Go.Mac
open Go Go.Conc Go.Proofs
set_option maxRecDepth 4000


theorem valid_ok (n : Int) : PureA Try.prog 74 [.int .i64 n] (.bool (decide (0 ≤ n) && decide (n ≤ 63))) := by
  refine PureA.of_wpp { cut := [5] } 8 mixed Try.func74 (by kernel_rfl) rfl (by kernel_rfl) (rfl) fun h j hB => ?_
  simp only [junk_succ, junk_zero, List.cons_append, List.nil_append, List.length_cons, List.length_nil, Nat.reduceAdd]
  simp (implicitDefEqProofs := false) (dsimp := false) only [go_sem]
  refine ⟨fun hc => ?_, fun hc => ?_⟩
  · have : 0 ≤ n := hc
    simp [this]
  · have : ¬ 0 ≤ n := by simpa using hc
    simp [this]

/-- Strokes in a mirror. -/
def mirB (n : Int) : Int := orK .i64 (orK .i64 (andNotK .i64 n 15) (shlK .i64 (andK .i64 n 5) 1)) (shrK .i64 (andK .i64 n 10) 1)
theorem mirror_ok (n : Int) : PureA Try.prog 75 [.int .i64 n] (.int .i64 (mirB n)) := by
  refine PureA.of_wpp {} 12 mixed Try.func75 (by kernel_rfl) rfl (by kernel_rfl) (rfl) fun h j hB => ?_
  simp only [junk_succ, junk_zero, List.cons_append, List.nil_append, List.length_cons, List.length_nil, Nat.reduceAdd]
  simp (implicitDefEqProofs := false) (dsimp := false) only [go_sem]
  rfl

theorem same_ok (n : Int) : PureA Try.prog 120 [.int .i64 n] (.int .i64 n) := by
  refine PureA.of_wpp {} 3 mixed Try.func120 (by kernel_rfl) rfl (by kernel_rfl) (rfl) fun h j hB => ?_
  simp only [junk_succ, junk_zero, List.cons_append, List.nil_append, List.length_cons, List.length_nil, Nat.reduceAdd]
  simp (implicitDefEqProofs := false) (dsimp := false) only [go_sem]

/-- The error of a number of things. -/
def sizedB (n m : Int) : Int := if n < 1 then 7 else if m < n then 6 else 0
theorem sized_ok (n m : Int) : PureA Try.prog 100 [.int .i64 n, .int .i64 m] (.int .i64 (sizedB n m)) := by
  refine PureA.of_wpp {} 10 mixed Try.func100 (by kernel_rfl) rfl (by kernel_rfl) (rfl) fun h j hB => ?_
  simp only [junk_succ, junk_zero, List.cons_append, List.nil_append, List.length_cons, List.length_nil, Nat.reduceAdd]
  simp (implicitDefEqProofs := false) (dsimp := false) only [go_sem]
  refine ⟨fun h1 => ?_, fun h1 => ⟨fun h2 => ?_, fun h2 => ?_⟩⟩
  · simp [sizedB, h1]
  · have h1' : ¬ n < 1 := by simpa using h1
    have h2' : m < n := h2
    simp [sizedB, h1', h2']
  · have h1' : ¬ n < 1 := by simpa using h1
    have h2' : ¬ m < n := by simpa using h2
    simp [sizedB, h1', h2']

/-- Strokes turned by half, the first ones alone. -/
def turnAt : Nat → Int
  | 0 => 8 | 1 => 4 | 2 => 2 | 3 => 1 | 4 => 32 | _ => 16
def turnAcc (n : Int) : Nat → Int
  | 0 => 0
  | i + 1 => if andK .i64 (shrK .i64 n i) 1 = 1 then orK .i64 (turnAcc n i) (turnAt i) else turnAcc n i
def turnB (n : Int) : Int := turnAcc n 6
theorem turned_ok (n : Int) : PureA Try.prog 73 [.int .i64 n] (.int .i64 (turnB n)) := by
  refine PureA.of_wpp {} 20 mixed Try.func73 (by kernel_rfl) rfl (by kernel_rfl) (rfl) fun h j hB => ?_
  simp only [junk_succ, junk_zero, List.cons_append, List.nil_append, List.length_cons, List.length_nil, Nat.reduceAdd]
  simp (implicitDefEqProofs := false) (dsimp := false) only [go_sem]
  refine WP.loopI (fun (i : Nat) s => i ≤ 6 ∧ s.sl.length = 21 ∧ s.df = [] ∧ s.gh = {} ∧ s.hp = h ∧ evA s.sl (.tmp 0) = .int .i64 n ∧ evA s.sl (.tmp 3) = .int .i64 (turnAcc n i) ∧ evA s.sl (.tmp 6) = .agg [.int .i64 8, .int .i64 4, .int .i64 2, .int .i64 1, .int .i64 32, .int .i64 16] ∧ evA s.sl (.tmp 7) = .int .i64 i) (fun i => 6 - i) 0 ?_ ?_
  · simp (implicitDefEqProofs := false) (dsimp := false) only [go_sem]
    rfl
  · rintro i ⟨sl, df, hp, gh⟩ ⟨h1, h2, rfl, rfl, rfl, h3, h4, h5, h6⟩
    simp only at h2 h3 h4 h5 h6
    obtain ⟨j, rfl⟩ := slots_lit h2; clear h2; simp only [junk_succ, junk_zero, evA_tmp, nth_16, nth_four, nth_one, nth_zero, Nat.zero_add, Nat.reduceAdd] at  h3 h4 h5 h6 ⊢
    refine wp_ok (so := {}) mixed _ (by kernel_rfl) ?_
    by_cases hi : i < 6
    · have hx : [AV.int IntKind.i64 8, AV.int IntKind.i64 4, AV.int IntKind.i64 2, AV.int IntKind.i64 1, AV.int IntKind.i64 32, AV.int IntKind.i64 16].getD i .any = .int .i64 (turnAt i) := by
        match i, hi with
        | 0, _ => rfl | 1, _ => rfl | 2, _ => rfl | 3, _ => rfl | 4, _ => rfl | 5, _ => rfl
      have hs : ((i : Int) < 6) = True := eq_true (by omega)
      simp (implicitDefEqProofs := false) (dsimp := false) only [go_sem, h3, h4, h5, h6, hs, hi, hx, decide_true, wrap_succ (show i < 9223372036854775807 by omega)]
      refine ⟨fun hc => ⟨i + 1, ⟨by omega, ?_, rfl⟩, by omega⟩, fun hc => ⟨i + 1, ⟨by omega, ?_, rfl⟩, by omega⟩⟩
      · simp only [turnAcc, hc, if_true]
      · have hc' : ¬ andK .i64 (shrK .i64 n i) 1 = 1 := by simpa using hc
        simp only [turnAcc, hc', if_false]
    · have hs : ((i : Int) < 6) = False := eq_false (by omega)
      simp (implicitDefEqProofs := false) (dsimp := false) only [go_sem, h3, h4, h5, h6, hs, decide_false]
      have : i = 6 := by omega
      subst this
      rfl
end Go.Mac

/-! FnC -/
/- FnC: data of boards; contracts of ways, letters, faces. -/
namespace Go.Mac
open Go Go.Conc Go.Proofs
set_option maxRecDepth 4000

structure Glyph where
  name : List UInt8
  strokes : Int
  deriving DecidableEq
structure Trace where
  seen : Int
  bare : Int
  deriving DecidableEq
structure Board where
  glyphs : List Glyph
  pages : List (List (List UInt8))
  cells : List (List Trace)
  deriving DecidableEq
structure Lay where
  page : Int
  turned : Bool
  down : Int
  right : Int
  deriving DecidableEq

def cStr (s : List UInt8) : List AV := [.str s]
def cGlyph (g : Glyph) : List AV := [.str g.name, .int .i64 g.strokes]
def cTrace (t : Trace) : List AV := [.int .i64 t.seen, .int .i64 t.bare]
def cLay (l : Lay) : List AV := [.int .i64 l.page, .bool l.turned, .int .i64 l.down, .int .i64 l.right]
def cPage (p : List (List UInt8)) : List AV := [sliceOf cStr p]
def cTraces (r : List Trace) : List AV := [sliceOf cTrace r]
@[simp] theorem cStr_len (n) : (cStr n).length = 1 := rfl
@[simp] theorem cGlyph_len (n) : (cGlyph n).length = 2 := rfl
@[simp] theorem cTrace_len (n) : (cTrace n).length = 2 := rfl
@[simp] theorem cPage_len (n) : (cPage n).length = 1 := rfl
@[simp] theorem cTraces_len (n) : (cTraces n).length = 1 := rfl
def brdA (b : Board) : List AV := [sliceOf cGlyph b.glyphs, sliceOf cPage b.pages, sliceOf cTraces b.cells]
/-- A board at work, with the strokes of its letters. -/
def bdA (b : Board) (m : List (Int × Int)) : List AV := [sliceOf cGlyph b.glyphs, sliceOf cPage b.pages, sliceOf cTraces b.cells, .pmap (m.map fun p => .int .i32 p.1) (m.map fun p => .int .i64 p.2)]

theorem hasPage_ok (b : Board) (m : List (Int × Int)) (n : Int) : PureA Try.prog 67 [.agg (bdA b m), .int .i64 n] (.bool (decide (0 ≤ n) && decide (n < b.pages.length))) := by
  refine PureA.of_wpp { cut := [7] } 13 mixed Try.func67 (by kernel_rfl) rfl (by kernel_rfl) (rfl) fun h j hB => ?_
  simp only [junk_succ, junk_zero, List.cons_append, List.nil_append, List.length_cons, List.length_nil, Nat.reduceAdd]
  simp (implicitDefEqProofs := false) (dsimp := false) only [go_sem, bdA]
  refine ⟨fun hc => ?_, fun hc => ?_⟩
  · simp [hc]
  · have : ¬ 0 ≤ n := by simpa using hc
    simp [this]

/-- Strokes as 'light' mirrors them. -/
def mirroredB (n : Int) : Int := if 0 ≤ n ∧ n ≤ 63 then mirB n else 0
def mirrorErr (n : Int) : Int := if 0 ≤ n ∧ n ≤ 63 then 0 else 1
theorem Mirror_ok (n : Int) : PureA Try.prog 31 [.int .i64 n] (.tup [.int .i64 (mirroredB n), .int .i64 (mirrorErr n)]) := by
  refine PureA.of_wpp {} 8 mixed Try.func31 (by kernel_rfl) rfl (by kernel_rfl) (rfl) fun h j hB => ?_
  simp only [junk_succ, junk_zero, List.cons_append, List.nil_append, List.length_cons, List.length_nil, Nat.reduceAdd]
  simp (implicitDefEqProofs := false) (dsimp := false) only [go_sem]
  (first | refine CallsA.use (valid_ok n) ?_ | refine QuietCalls.use (valid_ok n) ?_)
  simp (implicitDefEqProofs := false) (dsimp := false) only [go_sem]
  refine ⟨fun hc => ?_, fun hc => ?_⟩
  · have : ¬ (0 ≤ n ∧ n ≤ 63) := by simp at hc; omega
    simp [mirroredB, mirrorErr, this]
  · (first | refine CallsA.use (mirror_ok n) ?_ | refine QuietCalls.use (mirror_ok n) ?_)
    simp (implicitDefEqProofs := false) (dsimp := false) only [go_sem]
    have : 0 ≤ n ∧ n ≤ 63 := by simpa using hc
    simp [mirroredB, mirrorErr, this]

theorem mirrored_ok (n : Int) : PureA Try.prog 121 [.int .i64 n] (.int .i64 (mirroredB n)) := by
  refine PureA.of_wpp {} 10 mixed Try.func121 (by kernel_rfl) rfl (by kernel_rfl) (rfl) fun h j hB => ?_
  simp only [junk_succ, junk_zero, List.cons_append, List.nil_append, List.length_cons, List.length_nil, Nat.reduceAdd]
  simp (implicitDefEqProofs := false) (dsimp := false) only [go_sem]
  (first | refine CallsA.use (Mirror_ok n) ?_ | refine QuietCalls.use (Mirror_ok n) ?_)
  simp (implicitDefEqProofs := false) (dsimp := false) only [go_sem]

/-- Strokes as a way shows them. -/
def asB (l : Lay) (n : Int) : Int := mirroredB (if l.turned then turnB n else n)
theorem as_ok (l : Lay) (n : Int) : PureA Try.prog 109 [.agg (cLay l), .int .i64 n] (.int .i64 (asB l n)) := by
  refine PureA.of_wpp {} 14 mixed Try.func109 (by kernel_rfl) rfl (by kernel_rfl) (rfl) fun h j hB => ?_
  simp only [junk_succ, junk_zero, List.cons_append, List.nil_append, List.length_cons, List.length_nil, Nat.reduceAdd]
  obtain ⟨pg, tu, dn, rt⟩ := l
  cases tu
  · simp (implicitDefEqProofs := false) (dsimp := false) only [go_sem, cLay]
    (first | refine CallsA.use (same_ok n) ?_ | refine QuietCalls.use (same_ok n) ?_)
    simp (implicitDefEqProofs := false) (dsimp := false) only [go_sem]
    (first | refine CallsA.use (mirrored_ok _) ?_ | refine QuietCalls.use (mirrored_ok _) ?_)
    simp (implicitDefEqProofs := false) (dsimp := false) only [go_sem]
    rfl
  · simp (implicitDefEqProofs := false) (dsimp := false) only [go_sem, cLay]
    (first | refine CallsA.use (turned_ok n) ?_ | refine QuietCalls.use (turned_ok n) ?_)
    simp (implicitDefEqProofs := false) (dsimp := false) only [go_sem]
    (first | refine CallsA.use (mirrored_ok _) ?_ | refine QuietCalls.use (mirrored_ok _) ?_)
    simp (implicitDefEqProofs := false) (dsimp := false) only [go_sem]
    rfl

/-- The row and the column of the letter that a way shows in a cell. -/
def letterB (p : List (List UInt8)) (l : Lay) (row col : Int) : Int × Int × Bool :=
  let high : Int := p.length
  let wide : Int := (p.headD []).length
  let r := row - l.down
  let c := col - l.right
  if r < 0 ∨ high ≤ r ∨ c < 0 ∨ wide ≤ c then (0, 0, false)
  else if l.turned then (high - 1 - r, c, true) else (r, wide - 1 - c, true)

def tup3 (x : Int × Int × Bool) : AV := .tup [.int .i64 x.1, .int .i64 x.2.1, .bool x.2.2]

theorem letterB_out {p : List (List UInt8)} {l : Lay} {row col : Int} (h : row - l.down < 0 ∨ (p.length : Int) ≤ row - l.down ∨ col - l.right < 0 ∨ ((p.headD []).length : Int) ≤ col - l.right) : letterB p l row col = (0, 0, false) := if_pos h
theorem letterB_in {p : List (List UInt8)} {l : Lay} {row col : Int} (h : ¬ (row - l.down < 0 ∨ (p.length : Int) ≤ row - l.down ∨ col - l.right < 0 ∨ ((p.headD []).length : Int) ≤ col - l.right)) : letterB p l row col = if l.turned then ((p.length : Int) - 1 - (row - l.down), col - l.right, true) else (row - l.down, ((p.headD []).length : Int) - 1 - (col - l.right), true) := if_neg h

theorem letter_ok (b : Board) (m : List (Int × Int)) (l : Lay) (row col : Int) (p : Nat) (hp : l.page = p) (hpl : p < b.pages.length) (h0 : 0 < b.pages[p].length) (hr : -1000 ≤ row ∧ row ≤ 1000) (hc : -1000 ≤ col ∧ col ≤ 1000) (hd : -1000 ≤ l.down ∧ l.down ≤ 1000) (hrt : -1000 ≤ l.right ∧ l.right ≤ 1000) (hh : b.pages[p].length ≤ 1000) (hw : (b.pages[p].headD []).length ≤ 1000) : PureA Try.prog 106 [.agg (bdA b m), .agg (cLay l), .int .i64 row, .int .i64 col] (tup3 (letterB b.pages[p] l row col)) := by
  refine PureA.of_wpp { cut := [39, 44, 48] } 61 mixed Try.func106 (by kernel_rfl) rfl (by kernel_rfl) (rfl) fun h j hB => ?_
  simp only [junk_succ, junk_zero, List.cons_append, List.nil_append, List.length_cons, List.length_nil, Nat.reduceAdd]
  obtain ⟨pg, tu, dn, rt⟩ := l
  simp only at hp hd hrt
  subst hp
  obtain ⟨row0, rows, e0⟩ : ∃ r0 rs, b.pages[p] = r0 :: rs := by
    cases hq : b.pages[p] with
    | nil => rw [hq] at h0; simp at h0
    | cons a t => exact ⟨a, t, rfl⟩
  rw [e0] at h0 hh hw ⊢
  simp only [List.headD_cons, List.length_cons] at h0 hh hw
  have w1 : IntKind.i64.wrap (row - dn) = row - dn := wrap64 (by omega) (by omega)
  have w2 : IntKind.i64.wrap (col - rt) = col - rt := wrap64 (by omega) (by omega)
  have z0 : (0 < ((rows.length : Int) + 1)) = True := eq_true (by omega)
  simp (implicitDefEqProofs := false) (dsimp := false) only [go_sem, bdA, cLay, row1 cPage_len hpl, row1_le cPage_len hpl, hpl, cPage, e0, w1, w2, cStr, List.flatMap_cons]
  have out := letterB_out (p := row0 :: rows) (l := ⟨p, tu, dn, rt⟩) (row := row) (col := col)
  have inn := letterB_in (p := row0 :: rows) (l := ⟨p, tu, dn, rt⟩) (row := row) (col := col)
  simp only [List.headD_cons, List.length_cons] at out inn
  refine ⟨by omega, by omega, fun c1 => ?_, fun c1 => ⟨fun c2 => ?_, fun c2 => ⟨fun c3 => ?_, fun c3 => ⟨fun c4 => ?_, fun c4 => ⟨fun c5 => ?_, fun c5 => ?_⟩⟩⟩⟩⟩
  · rw [out (by omega)]; rfl
  · rw [out (by omega)]; rfl
  · rw [out (by omega)]; rfl
  · rw [out (by omega)]; rfl
  · rw [inn (by omega), wrap64 (n := (((rows.length + 1 : Nat) : Int) - 1)) (by omega) (by omega), wrap64 (n := ((rows.length + 1 : Nat) : Int) - 1 - (row - dn)) (by omega) (by omega)]
    simp [tup3, c5]
  · rw [inn (by omega), wrap64 (n := ((row0.length : Int) - 1)) (by omega) (by omega), wrap64 (n := (row0.length : Int) - 1 - (col - rt)) (by omega) (by omega)]
    simp [tup3, c5]
end Go.Mac

/-! FnD -/
/- FnD: the map of strokes; what a way shows; faces. -/
namespace Go.Mac
open Go Go.Conc Go.Proofs
set_option maxRecDepth 4000

theorem eqA_int {P : Program} {t : TypeId} {f : TF} {k k0 : IntKind} {a b : Int} {n : Nat} (ht : tyT P t = some f) (hd : f.d = .int k0) : eqA P (n + 1) t (.int k a) (.int k b) = some (a == b) := by
  obtain ⟨i, h1, h2, h3, h4, _⟩ := tyT_some ht
  have hu : P.underlying t = some (.int k0) := by rw [h2, hd]
  simp only [eqA, hu, if_true]

theorem findA_int {P : Program} {t : TypeId} {f : TF} {k k0 : IntKind} {α : Type} {g : α → Int} {c : Int} (ht : tyT P t = some f) (hd : f.d = .int k0) : ∀ {m : List α} {i : Nat}, findA P t (.int k c) (m.map fun p => .int k (g p)) i = some ((m.findIdx? fun p => c == g p).map (· + i))
  | [], i => rfl
  | p :: m, i => by
    simp only [List.map_cons, findA, eqA_int (n := 5) ht hd, List.findIdx?_cons]
    cases hc : (c == g p) with
    | true => simp
    | false =>
      simp only [findA_int (m := m) ht hd, Bool.false_eq_true, if_false, Option.map_map]
      congr 2
      funext x
      simp only [Function.comp]
      omega

/-- The strokes of a letter; 0 for what is no letter. -/
def inkB (m : List (Int × Int)) (c : Int) : Int :=
  match m.find? (fun p => c == p.1) with
  | some p => p.2
  | none => 0

theorem gotA_ink {c : Int} : ∀ {m : List (Int × Int)}, gotA ((m.findIdx? fun p => c == p.1).map (· + 0)) (m.map fun p => .int .i64 p.2) (.int .i64 0) = .int .i64 (inkB m c)
  | [] => rfl
  | p :: m => by
    simp only [List.findIdx?_cons, inkB, List.find?_cons]
    cases hc : (c == p.1) with
    | true => rfl
    | false =>
      have := gotA_ink (c := c) (m := m)
      simp only [Bool.false_eq_true, if_false]
      simp only [inkB] at this
      rw [← this]
      cases hi : m.findIdx? (fun p => c == p.1) <;> simp [gotA]

theorem fits102 : zeroFits Try.prog 102 = true := by kernel_rfl
theorem look92 {m : List (Int × Int)} {c : Int} {h : List Blk} : lookupE Try.prog 92 (.pmap (m.map fun p => .int .i32 p.1) (m.map fun p => .int .i64 p.2)) (.int .i32 c) false h = some (True, .int .i64 (inkB m c), h) := by
  simp only [lookupE, ty92, ty21, ty102, mapOf, findA_int (g := fun p : Int × Int => p.1) ty21 rfl, fits102, eqA_int (n := 5) ty21 rfl, beq_self_eq_true, zeroA, aggD, and_self, Bool.false_eq_true, if_false, List.getD_cons_zero, gotA_ink]

/-- A page of the right form. -/
structure okPage (p : List (List UInt8)) : Prop where
  pos : 0 < p.length
  most : p.length ≤ 3
  wide : ∀ row ∈ p, row.length = (p.headD []).length
  wpos : 0 < (p.headD []).length
  wmost : (p.headD []).length ≤ 4

theorem okPage.row {p : List (List UInt8)} (h : okPage p) {r : Nat} (hr : r < p.length) : p[r].length = (p.headD []).length := h.wide _ (List.getElem_mem hr)

def charAt (p : List (List UInt8)) (r c : Int) : Int := ((p.getD r.toNat []).getD c.toNat 0).toNat

/-- What a way shows in a cell. -/
def shownB (m : List (Int × Int)) (p : List (List UInt8)) (l : Lay) (row col : Int) : Int :=
  let x := letterB p l row col
  if x.2.2 then asB l (inkB m (charAt p x.1 x.2.1)) else 0

theorem letterB_cases {p : List (List UInt8)} (l : Lay) (row col : Int) : letterB p l row col = (0, 0, false) ∨ ∃ r c : Nat, letterB p l row col = ((r : Int), (c : Int), true) ∧ r < p.length ∧ c < (p.headD []).length := by
  by_cases h : row - l.down < 0 ∨ (p.length : Int) ≤ row - l.down ∨ col - l.right < 0 ∨ ((p.headD []).length : Int) ≤ col - l.right
  · exact .inl (letterB_out h)
  · right
    rw [letterB_in h]
    split
    · exact ⟨((p.length : Int) - 1 - (row - l.down)).toNat, (col - l.right).toNat, by rw [Int.toNat_of_nonneg (by omega), Int.toNat_of_nonneg (by omega)], by omega, by omega⟩
    · exact ⟨(row - l.down).toNat, (((p.headD []).length : Int) - 1 - (col - l.right)).toNat, by rw [Int.toNat_of_nonneg (by omega), Int.toNat_of_nonneg (by omega)], by omega, by omega⟩

theorem wrap32 {n : Int} (h : -2147483648 ≤ n) (h' : n ≤ 2147483647) : IntKind.i32.wrap n = n := by
  have e : IntKind.i32.wrap n = if n % 4294967296 ≥ 2147483648 then n % 4294967296 - 4294967296 else n % 4294967296 := by
    simp [IntKind.wrap, IntKind.bits, IntKind.signed]
  rw [e]
  split <;> omega
theorem wrap_byte (b : UInt8) : IntKind.i32.wrap (b.toNat : Int) = b.toNat := by have := b.toNat_lt; exact wrap32 (by omega) (by omega)

theorem shown_ok (b : Board) (m : List (Int × Int)) (l : Lay) (row col : Int) (p : Nat) (hp : l.page = p) (hpl : p < b.pages.length) (ok : okPage b.pages[p]) (hr : -1000 ≤ row ∧ row ≤ 1000) (hc : -1000 ≤ col ∧ col ≤ 1000) (hd : -1000 ≤ l.down ∧ l.down ≤ 1000) (hrt : -1000 ≤ l.right ∧ l.right ≤ 1000) : PureA Try.prog 81 [.agg (bdA b m), .agg (cLay l), .int .i64 row, .int .i64 col] (.int .i64 (shownB m b.pages[p] l row col)) := by
  refine PureA.of_wpp {} 37 mixed Try.func81 (by kernel_rfl) rfl (by kernel_rfl) (rfl) fun h j hB => ?_
  simp only [junk_succ, junk_zero, List.cons_append, List.nil_append, List.length_cons, List.length_nil, Nat.reduceAdd]
  have c1 := letter_ok b m l row col p hp hpl ok.pos hr hc hd hrt (by have := ok.most; omega) (by have := ok.wmost; omega)
  obtain ⟨pg, tu, dn, rt⟩ := l
  simp only at hp hd hrt
  subst hp
  simp (implicitDefEqProofs := false) (dsimp := false) only [go_sem, bdA, cLay]
  (first | refine CallsA.use (c1) ?_ | refine QuietCalls.use (c1) ?_)
  rcases letterB_cases (p := b.pages[p]) ⟨p, tu, dn, rt⟩ row col with e | ⟨r, c, e, hr', hc'⟩
  · simp (implicitDefEqProofs := false) (dsimp := false) only [go_sem, e, tup3]
    simp [shownB, e]
  · have hw := ok.row hr'
    have hcc : c < b.pages[p][r].length := by omega
    simp (implicitDefEqProofs := false) (dsimp := false) only [go_sem, e, tup3, row1 cPage_len hpl, row1_le cPage_len hpl, hpl, cPage, row1 cStr_len hr', row1_le cStr_len hr', hr', cStr, List.getElem?_eq_getElem hcc, wrap_byte, look92]
    refine ⟨by omega, by omega, ?_⟩
    (first | refine CallsA.use (as_ok ⟨p, tu, dn, rt⟩ _) ?_ | refine QuietCalls.use (as_ok ⟨p, tu, dn, rt⟩ _) ?_)
    simp (implicitDefEqProofs := false) (dsimp := false) only [go_sem, shownB, e, charAt]
    simp [hr', hcc]

/-- Cells of the right form. -/
structure okCells (cs : List (List Trace)) : Prop where
  pos : 0 < cs.length
  most : cs.length ≤ 3
  wide : ∀ row ∈ cs, row.length = (cs.headD []).length
  wpos : 0 < (cs.headD []).length
  wmost : (cs.headD []).length ≤ 4
theorem okCells.row {cs : List (List Trace)} (h : okCells cs) {r : Nat} (hr : r < cs.length) : cs[r].length = (cs.headD []).length := h.wide _ (List.getElem_mem hr)

/-- Twelve numbers, the first 'n' of them from a rule. -/
def part12 (f : Nat → Int) (n : Nat) : List Int := (List.range 12).map fun k => if k < n then f k else 0
def nums12 (l : List Int) : List AV := l.map fun n => .int .i64 n
theorem part12_len (f : Nat → Int) (n : Nat) : (part12 f n).length = 12 := by simp [part12]
theorem nums12_len (l : List Int) : (nums12 l).length = l.length := by simp [nums12]
theorem part12_zero (f : Nat → Int) : nums12 (part12 f 0) = [.int .i64 0, .int .i64 0, .int .i64 0, .int .i64 0, .int .i64 0, .int .i64 0, .int .i64 0, .int .i64 0, .int .i64 0, .int .i64 0, .int .i64 0, .int .i64 0] := rfl
theorem part12_set (f : Nat → Int) {n : Nat} (hn : n < 12) : (nums12 (part12 f n)).set n (.int .i64 (f n)) = nums12 (part12 f (n + 1)) := by
  unfold nums12 part12
  apply List.ext_getElem?
  intro k
  by_cases hk : k < 12
  · by_cases h : n = k
    · subst h
      simp [List.getElem?_set, hk]
    · simp only [List.getElem?_set, h, if_false, List.getElem?_map, List.getElem?_range hk, Option.map_some]
      by_cases h1 : k < n
      · simp [h1, show k < n + 1 by omega]
      · simp [h1, show ¬ k < n + 1 by omega]
  · rw [List.getElem?_eq_none (by simp; omega), List.getElem?_eq_none (by simp; omega)]
theorem setMany_from {α : Type} : ∀ (vs l t : List α), vs.length ≤ t.length → setMany (l ++ t) l.length vs = l ++ vs ++ t.drop vs.length
  | [], l, t, _ => by simp [setMany]
  | v :: vs, l, [], h => by simp at h
  | v :: vs, l, x :: t, h => by
    have := setMany_from vs (l ++ [v]) t (by simp at h; omega)
    simp only [setMany, List.length_cons, List.drop_succ_cons]
    rw [List.set_append_right _ _ (Nat.le_refl _), Nat.sub_self, List.set_cons_zero]
    simp only [List.length_append, List.length_singleton, List.append_assoc, List.singleton_append] at this
    rw [this]
    simp
theorem setMany_whole {α : Type} {vs t : List α} (h : vs.length = t.length) : setMany t 0 vs = vs := by
  have := setMany_from vs [] t (by omega)
  simp only [List.nil_append, List.length_nil] at this
  rw [this, List.drop_eq_nil_of_le (by omega), List.append_nil]
theorem n12_len (f : Nat → Int) (n : Nat) : (nums12 (part12 f n)).length = 12 := by simp [nums12, part12]
theorem n12_take (f : Nat → Int) (n : Nat) : (nums12 (part12 f n)).take 12 = nums12 (part12 f n) := List.take_of_length_le (by rw [n12_len]; omega)
theorem nums_leaf (l : List Int) : (nums12 l).all leafA = true := by simp [nums12, leafA]
theorem n12_all (f g : Nat → Int) (n k : Nat) : setMany (nums12 (part12 f n)) 0 (nums12 (part12 g k)) = nums12 (part12 g k) := setMany_whole (by rw [n12_len, n12_len])
theorem part12_skip {f : Nat → Int} {n n' : Nat} (h : n ≤ n') (hf : ∀ k, n ≤ k → k < n' → f k = 0) : part12 f n = part12 f n' := by
  unfold part12
  refine List.map_congr_left fun k _ => ?_
  by_cases h1 : k < n
  · simp [h1, show k < n' by omega]
  · by_cases h2 : k < n'
    · simp [h1, h2, hf k (by omega) h2]
    · simp [h1, h2]

/-- All that a way shows, row by row. -/
def faceAt (m : List (Int × Int)) (p : List (List UInt8)) (cs : List (List Trace)) (l : Lay) (k : Nat) : Int :=
  if k / 4 < cs.length ∧ k % 4 < (cs.headD []).length then shownB m p l (k / 4 : Nat) (k % 4 : Nat) else 0
def faceB (m : List (Int × Int)) (p : List (List UInt8)) (cs : List (List Trace)) (l : Lay) : List Int := part12 (faceAt m p cs l) 12

theorem face_ok (b : Board) (m : List (Int × Int)) (l : Lay) (p : Nat) (hp : l.page = p) (hpl : p < b.pages.length) (ok : okPage b.pages[p]) (okc : okCells b.cells) (hd : -1000 ≤ l.down ∧ l.down ≤ 1000) (hrt : -1000 ≤ l.right ∧ l.right ≤ 1000) : PureA Try.prog 66 [.agg (bdA b m), .agg (cLay l)] (.agg (nums12 (faceB m b.pages[p] b.cells l))) := by
  refine PureA.of_wpp { tail := [(8, 8)] } 35 mixed Try.func66 (by kernel_rfl) rfl (by kernel_rfl) (rfl) fun h j hB => ?_
  simp only [junk_succ, junk_zero, List.cons_append, List.nil_append, List.length_cons, List.length_nil, Nat.reduceAdd]
  obtain ⟨pg, tu, dn, rt⟩ := l
  simp only at hp hd hrt
  subst hp
  simp (implicitDefEqProofs := false) (dsimp := false) only [go_sem, bdA, cLay]
  refine WP.loopI (fun (i : Nat) s => i ≤ b.cells.length ∧ s.sl.length = 37 ∧ s.df = [] ∧ s.gh = {} ∧ s.hp = h ++ [.cells 0 (bdA b m), .cells 0 (cLay ⟨p, tu, dn, rt⟩), .cells 0 (nums12 (part12 (fun _ => 0) 0)), .cells 0 (nums12 (part12 (faceAt m b.pages[p] b.cells ⟨p, tu, dn, rt⟩) (4 * i)))] ∧ evA s.sl (.tmp 2) = .ptr ⟨h.length, 0⟩ 0 ∧ evA s.sl (.tmp 3) = .ptr ⟨h.length + 1, 0⟩ 0 ∧ evA s.sl (.tmp 4) = .ptr ⟨h.length + 2, 0⟩ 0 ∧ evA s.sl (.tmp 5) = .ptr ⟨h.length + 3, 0⟩ 0 ∧ evA s.sl (.tmp 11) = .int .i64 b.cells.length ∧ evA s.sl (.tmp 12) = .int .i64 i) (fun i => b.cells.length - i) 0 ?_ ?_
  · simp (implicitDefEqProofs := false) (dsimp := false) only [go_sem, bdA, cLay, part12_zero, Nat.mul_zero, Nat.zero_le]
  · rintro i ⟨sl, df, hp, gh⟩ ⟨h1, h2, rfl, rfl, rfl, h3, h4, h5, h6, h7, h8⟩
    simp only at h1 h2 h3 h4 h5 h6 h7 h8
    obtain ⟨j, rfl⟩ := slots_lit h2; clear h2; simp only [junk_succ, junk_zero, evA_tmp, nth_16, nth_four, nth_one, nth_zero, Nat.zero_add, Nat.reduceAdd] at  h3 h4 h5 h6 h7 h8 ⊢
    refine wp_ok (so := { tail := [(8, 8)] }) mixed _ (by kernel_rfl) ?_
    by_cases hi : i < b.cells.length
    · have hw := okc.row hi
      simp (implicitDefEqProofs := false) (dsimp := false) only [go_sem, h3, h4, h5, h6, h7, h8, bdA, cLay, nat_lt hi, decide_true, row1 cTraces_len hi, row1_le cTraces_len hi, hi, cTraces]
      refine WP.loopI (fun (c : Nat) s => c ≤ (b.cells.headD []).length ∧ s.sl.length = 37 ∧ s.df = [] ∧ s.gh = {} ∧ s.hp = h ++ [.cells 0 (bdA b m), .cells 0 (cLay ⟨p, tu, dn, rt⟩), .cells 0 (nums12 (part12 (fun _ => 0) 0)), .cells 0 (nums12 (part12 (faceAt m b.pages[p] b.cells ⟨p, tu, dn, rt⟩) (4 * i + c)))] ∧ evA s.sl (.tmp 2) = .ptr ⟨h.length, 0⟩ 0 ∧ evA s.sl (.tmp 3) = .ptr ⟨h.length + 1, 0⟩ 0 ∧ evA s.sl (.tmp 4) = .ptr ⟨h.length + 2, 0⟩ 0 ∧ evA s.sl (.tmp 5) = .ptr ⟨h.length + 3, 0⟩ 0 ∧ evA s.sl (.tmp 11) = .int .i64 b.cells.length ∧ evA s.sl (.tmp 12) = .int .i64 i ∧ evA s.sl (.tmp 6) = .int .i64 i ∧ evA s.sl (.tmp 21) = .int .i64 (b.cells.headD []).length ∧ evA s.sl (.tmp 22) = .int .i64 c) (fun c => (b.cells.headD []).length - c) 0 ?_ ?_
      · simp (implicitDefEqProofs := false) (dsimp := false) only [go_sem, bdA, cLay, Nat.zero_le, hw]
      · rintro c ⟨sl, df, hp, gh⟩ ⟨k1, k2, rfl, rfl, rfl, k3, k4, k5, k6, k7, k8, k9, k10, k11⟩
        simp only at k1 k2 k3 k4 k5 k6 k7 k8 k9 k10 k11
        obtain ⟨j, rfl⟩ := slots_lit k2; clear k2; simp only [junk_succ, junk_zero, evA_tmp, nth_16, nth_four, nth_one, nth_zero, Nat.zero_add, Nat.reduceAdd] at  k3 k4 k5 k6 k7 k8 k9 k10 k11 ⊢
        refine wp_ok (so := { tail := [(8, 8)] }) mixed _ (by kernel_rfl) ?_
        by_cases hc : c < (b.cells.headD []).length
        · simp (implicitDefEqProofs := false) (dsimp := false) only [go_sem, k3, k4, k5, k6, k7, k8, k9, k10, k11, bdA, cLay, nat_lt hc, decide_true]
          have q1 := okc.most
          have q2 := okc.wmost
          (first | refine CallsA.use (shown_ok b m ⟨p, tu, dn, rt⟩ i c p rfl hpl ok (by omega) (by omega) hd hrt) ?_ | refine QuietCalls.use (shown_ok b m ⟨p, tu, dn, rt⟩ i c p rfl hpl ok (by omega) (by omega) hd hrt) ?_)
          simp (implicitDefEqProofs := false) (dsimp := false) only [go_sem]
          have e : shownB m b.pages[p] ⟨p, tu, dn, rt⟩ i c = faceAt m b.pages[p] b.cells ⟨p, tu, dn, rt⟩ (4 * i + c) := by
            unfold faceAt
            rw [show (4 * i + c) / 4 = i by omega, show (4 * i + c) % 4 = c by omega, if_pos ⟨hi, hc⟩]
          rw [e, show i * 4 + c = 4 * i + c by omega, n12_len, part12_set _ (show 4 * i + c < 12 by omega)]
          exact ⟨by omega, by omega, by omega, c + 1, ⟨by omega, ⟨rfl, rfl, rfl⟩, wrap_succ (by omega)⟩, by omega⟩
        · have hs : ((c : Int) < ((b.cells.headD []).length : Int)) = False := eq_false (by omega)
          simp (implicitDefEqProofs := false) (dsimp := false) only [go_sem, k3, k4, k5, k6, k7, k8, k9, k10, k11, bdA, cLay, hs, decide_false]
          have q1 := okc.most
          have q2 := okc.wmost
          refine ⟨i + 1, ⟨by omega, ?_, wrap_succ (by omega)⟩, by omega⟩
          rw [part12_skip (n := 4 * i + c) (n' := 4 * (i + 1)) (by omega)]
          intro k hk hk'
          unfold faceAt
          rw [if_neg (by omega)]
    · have hs : ((i : Int) < (b.cells.length : Int)) = False := eq_false (by omega)
      simp (implicitDefEqProofs := false) (dsimp := false) only [go_sem, h3, h4, h5, h6, h7, h8, bdA, cLay, hs, decide_false, n12_len, n12_take, nums_leaf, n12_all, Nat.le_refl]
      have : i = b.cells.length := by omega
      subst this
      unfold faceB
      rw [part12_skip (n := 4 * b.cells.length) (n' := 12) (by have := okc.most; omega)]
      intro k hk _
      unfold faceAt
      rw [if_neg (by omega)]
end Go.Mac

/-! FnE -/
/- FnE: right cells, misfits. -/
namespace Go.Mac
open Go Go.Conc Go.Proofs
set_option maxRecDepth 4000

theorem okCells.at {cs : List (List Trace)} (h : okCells cs) {r c : Nat} (hr : r < cs.length) (hc : c < (cs.headD []).length) : c < cs[r].length := by rw [h.row hr]; exact hc

/-- Does a face fit a cell? -/
def fitsB (n : Int) (t : Trace) : Bool := andK .i64 n t.seen == t.seen && andK .i64 n t.bare == 0

def traceAt (cs : List (List Trace)) (r c : Nat) : Trace := (cs.getD r []).getD c ⟨0, 0⟩
theorem traceAt_eq {cs : List (List Trace)} {r c : Nat} (hr : r < cs.length) (hc : c < cs[r].length) : traceAt cs r c = cs[r][c] := by simp [traceAt, List.getD, hr, hc]

theorem nums12_at {f : List Int} {k : Nat} (hf : f.length = 12) (hk : k < 12) : (nums12 f).drop k = .int .i64 (f.getD k 0) :: (nums12 f).drop (k + 1) := by
  have : k < (nums12 f).length := by rw [nums12_len]; omega
  rw [List.drop_eq_getElem_cons this]
  congr 1
  simp [nums12, List.getD, hf, hk]

theorem right_ok (b : Board) (m : List (Int × Int)) (f : List Int) (hf : f.length = 12) (okc : okCells b.cells) (r c : Nat) (hr : r < b.cells.length) (hc : c < (b.cells.headD []).length) : PureA Try.prog 103 [.agg (bdA b m), .agg (nums12 f), .int .i64 r, .int .i64 c] (.bool (fitsB (f.getD (4 * r + c) 0) (traceAt b.cells r c))) := by
  refine PureA.of_wpp { cut := [30] } 37 mixed Try.func103 (by kernel_rfl) rfl (by kernel_rfl) (rfl) fun h j hB => ?_
  simp only [junk_succ, junk_zero, List.cons_append, List.nil_append, List.length_cons, List.length_nil, Nat.reduceAdd]
  have q1 := okc.most
  have q2 := okc.wmost
  have hcc := okc.at hr hc
  have h12 : (nums12 f).length = 12 := by rw [nums12_len, hf]
  simp (implicitDefEqProofs := false) (dsimp := false) only [go_sem, bdA, row1 cTraces_len hr, row1_le cTraces_len hr, hr, cTraces, rowN cTrace_len hcc, rowN_le cTrace_len hcc, hcc, cTrace, nums12_at (k := r * 4 + c) hf (by omega)]
  rw [traceAt_eq hr hcc, show r * 4 + c = 4 * r + c by omega]
  refine ⟨by omega, by omega, by omega, by omega, fun h1 => ⟨by omega, by omega, ?_⟩, fun h1 => ?_⟩
  · simp only [fitsB, h1, beq_self_eq_true, Bool.true_and]
  · simp only [fitsB, h1, Bool.false_and]

/-- Where a face does not fit, row by row: the cells before a place. -/
def misAt (f : List Int) (cs : List (List Trace)) (k : Nat) : List (Int × Int) :=
  if fitsB (f.getD k 0) (traceAt cs (k / 4) (k % 4)) then [] else [(((k / 4 : Nat) : Int), ((k % 4 : Nat) : Int))]
def misTo (f : List Int) (cs : List (List Trace)) (n : Nat) : List (Int × Int) :=
  (List.range n).flatMap fun k => if k % 4 < (cs.headD []).length then misAt f cs k else []
def misB (f : List Int) (cs : List (List Trace)) : List (Int × Int) := misTo f cs (4 * cs.length)
theorem misTo_succ (f : List Int) (cs : List (List Trace)) (n : Nat) : misTo f cs (n + 1) = misTo f cs n ++ if n % 4 < (cs.headD []).length then misAt f cs n else [] := by
  simp [misTo, List.range_succ]
theorem misTo_skip {f : List Int} {cs : List (List Trace)} {n : Nat} : ∀ {m : Nat}, (∀ k, n ≤ k → k < n + m → ¬ k % 4 < (cs.headD []).length) → misTo f cs (n + m) = misTo f cs n
  | 0, _ => rfl
  | m + 1, h => by
    rw [← Nat.add_assoc, misTo_succ, if_neg (h (n + m) (by omega) (by omega)), List.append_nil]
    exact misTo_skip fun k h1 h2 => h k h1 (by omega)

def cPair (p : Int × Int) : List AV := [.psl [.int .i64 p.1, .int .i64 p.2] 2]
@[simp] theorem cPair_len (p) : (cPair p).length = 1 := rfl

theorem misTo_len (f : List Int) (cs : List (List Trace)) : ∀ n, (misTo f cs n).length ≤ n
  | 0 => Nat.le_refl _
  | n + 1 => by
    rw [misTo_succ, List.length_append]
    have := misTo_len f cs n
    have h2 : (if n % 4 < (cs.headD []).length then misAt f cs n else []).length ≤ 1 := by
      split
      · unfold misAt; split <;> simp
      · simp
    omega
theorem nums_take {f : List Int} (hf : f.length = 12) : (nums12 f).take 12 = nums12 f := List.take_of_length_le (by rw [nums12_len, hf]; omega)
theorem below_psl {α : Type} {f : α → List AV} (h : ∀ x, (f x).all (below 0) = true) (l : List α) : below 0 (sliceOf f l) = true := by
  simp only [sliceOf, below, belowL_all, List.all_flatMap, h]
  simp
theorem rows_all {α : Type} {f : α → List AV} (hf : ∀ x, (f x).length = 1) (l : List α) : (l.flatMap f).take l.length = l.flatMap f :=
  List.take_of_length_le (by rw [length_rows hf]; omega)
theorem rows_length {α : Type} {f : α → List AV} (hf : ∀ x, (f x).length = 1) (l : List α) : (l.flatMap f).length = l.length := by rw [length_rows hf]; omega

theorem misfits_ok (b : Board) (m : List (Int × Int)) (f : List Int) (hf : f.length = 12) (okc : okCells b.cells) : PureA Try.prog 65 [.agg (bdA b m), .agg (nums12 f)] (sliceOf cPair (misB f b.cells)) := by
  refine PureA.of_wps [4] { shut := [34, 35] } 38 mixed Try.func65 (by kernel_rfl) rfl (by kernel_rfl) (below_psl (fun _ => rfl) _) fun h j hB => ?_
  simp only [junk_succ, junk_zero, List.cons_append, List.nil_append, List.length_cons, List.length_nil, Nat.reduceAdd]
  have q1 := okc.most
  have q2 := okc.wmost
  simp (implicitDefEqProofs := false) (dsimp := false) only [go_sem, bdA]
  refine WPI.turn (Turns.nilSlot (d := 5) (sz := 1) ?_) ?_
  · simp (implicitDefEqProofs := false) (dsimp := false) only [go_sem]
  refine WP.loopI (fun (i : Nat) s => i ≤ b.cells.length ∧ s.sl.length = 40 ∧ s.df = [] ∧ s.gh = {} ∧ s.hp = h ++ [.cells 0 (bdA b m), .cells 0 (nums12 f), .cells (misTo f b.cells (4 * i)).length ((misTo f b.cells (4 * i)).flatMap cPair)] ∧ evA s.sl (.tmp 2) = .ptr ⟨h.length, 0⟩ 0 ∧ evA s.sl (.tmp 3) = .ptr ⟨h.length + 1, 0⟩ 0 ∧ evA s.sl (.tmp 5) = .sl ⟨h.length + 2, (misTo f b.cells (4 * i)).length⟩ 1 0 (misTo f b.cells (4 * i)).length ∧ evA s.sl (.tmp 11) = .int .i64 b.cells.length ∧ evA s.sl (.tmp 12) = .int .i64 i) (fun i => b.cells.length - i) 0 ?_ ?_
  · simp (implicitDefEqProofs := false) (dsimp := false) only [go_sem, bdA, Nat.mul_zero, Nat.zero_le, List.set_cons_succ, List.set_cons_zero]
    simp [misTo]
  · rintro i ⟨sl, df, hp, gh⟩ ⟨h1, h2, rfl, rfl, rfl, h3, h4, h5, h6, h7⟩
    simp only at h1 h2 h3 h4 h5 h6 h7
    obtain ⟨j, rfl⟩ := slots_lit h2; clear h2; simp only [junk_succ, junk_zero, evA_tmp, nth_16, nth_four, nth_one, nth_zero, Nat.zero_add, Nat.reduceAdd] at  h3 h4 h5 h6 h7 ⊢
    refine wp_ok (so := { shut := [34, 35] }) mixed _ (by kernel_rfl) ?_
    by_cases hi : i < b.cells.length
    · have hw := okc.row hi
      simp (implicitDefEqProofs := false) (dsimp := false) only [go_sem, h3, h4, h5, h6, h7, bdA, nat_lt hi, decide_true, row1 cTraces_len hi, row1_le cTraces_len hi, hi, cTraces]
      refine WP.loopI (fun (c : Nat) s => c ≤ (b.cells.headD []).length ∧ s.sl.length = 40 ∧ s.df = [] ∧ s.gh = {} ∧ s.hp = h ++ [.cells 0 (bdA b m), .cells 0 (nums12 f), .cells (misTo f b.cells (4 * i + c)).length ((misTo f b.cells (4 * i + c)).flatMap cPair)] ∧ evA s.sl (.tmp 2) = .ptr ⟨h.length, 0⟩ 0 ∧ evA s.sl (.tmp 3) = .ptr ⟨h.length + 1, 0⟩ 0 ∧ evA s.sl (.tmp 5) = .sl ⟨h.length + 2, (misTo f b.cells (4 * i + c)).length⟩ 1 0 (misTo f b.cells (4 * i + c)).length ∧ evA s.sl (.tmp 11) = .int .i64 b.cells.length ∧ evA s.sl (.tmp 12) = .int .i64 i ∧ evA s.sl (.tmp 6) = .int .i64 i ∧ evA s.sl (.tmp 21) = .int .i64 (b.cells.headD []).length ∧ evA s.sl (.tmp 22) = .int .i64 c) (fun c => (b.cells.headD []).length - c) 0 ?_ ?_
      · simp (implicitDefEqProofs := false) (dsimp := false) only [go_sem, bdA, Nat.zero_le, hw]
      · rintro c ⟨sl, df, hp, gh⟩ ⟨k1, k2, rfl, rfl, rfl, k3, k4, k5, k6, k7, k8, k9, k10⟩
        simp only at k1 k2 k3 k4 k5 k6 k7 k8 k9 k10
        obtain ⟨j, rfl⟩ := slots_lit k2; clear k2; simp only [junk_succ, junk_zero, evA_tmp, nth_16, nth_four, nth_one, nth_zero, Nat.zero_add, Nat.reduceAdd] at  k3 k4 k5 k6 k7 k8 k9 k10 ⊢
        refine wp_ok (so := { shut := [34, 35] }) mixed _ (by kernel_rfl) ?_
        by_cases hc : c < (b.cells.headD []).length
        · have e : misTo f b.cells (4 * i + (c + 1)) = misTo f b.cells (4 * i + c) ++ if fitsB (f.getD (4 * i + c) 0) (traceAt b.cells i c) then [] else [((i : Int), (c : Int))] := by
            rw [← Nat.add_assoc, misTo_succ]
            simp only [misAt, show (4 * i + c) / 4 = i by omega, show (4 * i + c) % 4 = c by omega, hc, if_true]
          simp (implicitDefEqProofs := false) (dsimp := false) only [go_sem, k3, k4, k5, k6, k7, k8, k9, k10, bdA, nat_lt hc, decide_true, nums12_len, hf, nums_take hf, Nat.le_refl]
          (first | refine CallsA.use (right_ok b m f hf okc i c hi hc) ?_ | refine QuietCalls.use (right_ok b m f hf okc i c hi hc) ?_)
          cases hq : fitsB (f.getD (4 * i + c) 0) (traceAt b.cells i c) with
          | true =>
            simp (implicitDefEqProofs := false) (dsimp := false) only [go_sem]
            refine ⟨c + 1, ?_⟩
            rw [e, hq, wrap_succ (by omega)]
            refine ⟨⟨by omega, ?_⟩, by omega⟩
            simp [bdA, sliceOf]
          | false =>
            simp (implicitDefEqProofs := false) (dsimp := false) only [go_sem]
            have hn := misTo_len f b.cells (4 * i + c)
            refine ⟨⟨rows_length cPair_len _, by omega⟩, c + 1, ?_⟩
            rw [e, hq, wrap_succ (by omega)]
            refine ⟨⟨by omega, ?_⟩, by omega⟩
            simp [cPair, bdA, sliceOf]
        · have hs : ((c : Int) < ((b.cells.headD []).length : Int)) = False := eq_false (by omega)
          simp (implicitDefEqProofs := false) (dsimp := false) only [go_sem, k3, k4, k5, k6, k7, k8, k9, k10, bdA, hs, decide_false]
          refine ⟨i + 1, ?_⟩
          rw [show 4 * (i + 1) = 4 * i + c + (4 - c) by omega, misTo_skip (n := 4 * i + c) (m := 4 - c) (by intro k _ _; omega), wrap_succ (by omega)]
          refine ⟨⟨by omega, ?_⟩, by omega⟩
          simp
    · have hs : ((i : Int) < (b.cells.length : Int)) = False := eq_false (by omega)
      simp (implicitDefEqProofs := false) (dsimp := false) only [go_sem, h3, h4, h5, h6, h7, bdA, hs, decide_false, rows_all cPair_len]
      have : i = b.cells.length := by omega
      subst this
      rfl
end Go.Mac

/-! FnF -/
/- FnF: ways, one by one. -/
namespace Go.Mac
open Go Go.Conc Go.Proofs
set_option maxRecDepth 4000

theorem bdA_below (b : Board) (m : List (Int × Int)) : belowL 0 (bdA b m) = true := by
  have h1 := below_psl (f := cGlyph) (fun _ => rfl) b.glyphs
  have h2 := below_psl (f := cPage) (fun p => by have := below_psl (f := cStr) (fun _ => rfl) p; simp [cPage, this]) b.pages
  have h3 := below_psl (f := cTraces) (fun p => by have := below_psl (f := cTrace) (fun _ => rfl) p; simp [cTraces, this]) b.cells
  simp only [bdA, belowL, h1, h2, h3, Bool.and_true, Bool.true_and]
  simp [below, belowL_all, Function.comp_def]

def waysA (b : Board) (m : List (Int × Int)) (page : Int) : AV := .fn (.func 104) [] [.pptr [.int .i64 page], .pptr (bdA b m)]

theorem laysOf_ok (b : Board) (m : List (Int × Int)) (page : Int) : PureA Try.prog 69 [.agg (bdA b m), .int .i64 page] (waysA b m page) := by
  refine PureA.of_wpp { hand := [1] } 4 mixed Try.func69 (by kernel_rfl) rfl (by kernel_rfl) (by simp only [waysA, below, belowL, bdA_below, Bool.and_true]) fun h j hB => ?_
  simp only [junk_succ, junk_zero, List.cons_append, List.nil_append, List.length_cons, List.length_nil, Nat.reduceAdd]
  simp (implicitDefEqProofs := false) (dsimp := false) only [go_sem, bdA]
  refine wp_shut [2, 3] (so := { }) mixed _ (by kernel_rfl) ?_
  simp (implicitDefEqProofs := false) (dsimp := false) only [go_sem]
  simp [waysA, bdA, sliceOf]

def layN (p : Int) (n : Nat) : Lay := ⟨p, decide (9 ≤ n), ((n % 9 / 3 : Nat) : Int) - 1, ((n % 3 : Nat) : Int) - 1⟩
def wayA (m : List (Int × Int)) (pg : List (List UInt8)) (cs : List (List Trace)) (l : Lay) : List AV := [.agg (cLay l), .agg (nums12 (faceB m pg cs l))]
def ways18 (m : List (Int × Int)) (pg : List (List UInt8)) (cs : List (List Trace)) (p : Int) : List (List AV) := (List.range 18).map fun n => wayA m pg cs (layN p n)
theorem ways18_len (m : List (Int × Int)) (pg : List (List UInt8)) (cs : List (List Trace)) (p : Int) : (ways18 m pg cs p).length = 18 := by simp [ways18]

theorem loopAr_append {h : List Blk} {n : Nm} (b : List Blk) (hn : n.id < h.length) : loopAr (h ++ b) n = loopAr h n := by simp only [loopAr, List.getElem?_append_left hn]

theorem laysOf1_ok (b : Board) (m : List (Int × Int)) (p : Nat) (hpl : p < b.pages.length) (ok : okPage b.pages[p]) (okc : okCells b.cells) : IterA Try.prog 104 [.pptr [.int .i64 p], .pptr (bdA b m)] (ways18 m b.pages[p] b.cells p) := by
  intro n L J S hg hJ hS hY h h0
  have hl18 := ways18_len m b.pages[p] b.cells p
  refine CallsA.of_wpe [] { tail := [(4, 5)] } 25 mixed Try.func104 (by kernel_rfl) rfl (by kernel_rfl) fun j hB hA => ?_; simp only [junk_succ, junk_zero, List.cons_append, List.nil_append, List.length_cons, List.length_nil, Nat.reduceAdd]
  simp (implicitDefEqProofs := false) (dsimp := false) only [go_sem, bdA]
  refine WP.loopI (fun (k : Nat) s => k ≤ 18 ∧ s.sl.length = 28 ∧ s.df = [] ∧ s.gh = {} ∧ (∃ h1 own, s.hp = h1 ++ own ∧ J k h1) ∧ evA s.sl (.tmp 0) = .yield n ∧ evA s.sl (.tmp 1) = .pptr [.int .i64 p] ∧ evA s.sl (.tmp 2) = .pptr (bdA b m) ∧ evA s.sl (.tmp 6) = .int .i64 k) (fun k => 18 - k) 0 ?_ ?_
  · simp (implicitDefEqProofs := false) (dsimp := false) only [go_sem, bdA, Nat.zero_le]
    exact ⟨h, [], by simp, h0⟩
  · rintro k ⟨sl, df, hp, gh⟩ ⟨h1, h2, rfl, rfl, ⟨hl, own, rfl, hj⟩, h3, h4, h5, h6⟩
    simp only at h1 h2 h3 h4 h5 h6
    obtain ⟨j, rfl⟩ := slots_lit h2; clear h2; simp only [junk_succ, junk_zero, evA_tmp, nth_16, nth_four, nth_one, nth_zero, Nat.zero_add, Nat.reduceAdd] at  h3 h4 h5 h6 ⊢
    refine wp_ok (so := { tail := [(4, 5)] }) mixed _ (by kernel_rfl) ?_
    by_cases hk : k < 18
    · have hs : ((k : Int) < 18) = True := eq_true (by omega)
      have e1 : IntKind.i64.wrap (((k : Int).tmod 9).tdiv 3) = ((k % 9 / 3 : Nat) : Int) := by
        rw [show ((k : Int).tmod 9).tdiv 3 = ((k % 9 / 3 : Nat) : Int) by rw [show (k : Int).tmod 9 = ((k % 9 : Nat) : Int) from rfl]; rfl]
        exact wrap64 (by omega) (by omega)
      have e2 : IntKind.i64.wrap (((k % 9 / 3 : Nat) : Int) - 1) = ((k % 9 / 3 : Nat) : Int) - 1 := wrap64 (by omega) (by omega)
      have e3 : IntKind.i64.wrap ((k : Int).tmod 3 - 1) = ((k % 3 : Nat) : Int) - 1 := by
        rw [show (k : Int).tmod 3 = ((k % 3 : Nat) : Int) from rfl]
        exact wrap64 (by omega) (by omega)
      have e4 : decide ((k : Int) ≥ 9) = decide (9 ≤ k) := decide_eq_decide.2 (by omega)
      obtain ⟨g1, g2, g3, g4⟩ := hJ k hl hj
      simp (implicitDefEqProofs := false) (dsimp := false) only [go_sem, h3, h4, h5, h6, bdA, hs, decide_true, e1, e2, e3, e4]
      (first | refine CallsA.use (face_ok b m (layN p k) p rfl hpl ok okc (by simp only [layN]; omega) (by simp only [layN]; omega)) ?_ | refine QuietCalls.use (face_ok b m (layN p k) p rfl hpl ok okc (by simp only [layN]; omega) (by simp only [layN]; omega)) ?_)
      simp (implicitDefEqProofs := false) (dsimp := false) only [go_sem]
      refine ⟨hg, ?_, ?_⟩
      · rw [loopAr_append _ (by omega), g4 (by omega)]
        simp [ways18, wayA]
      · have hy := hY k hl (own ++ [.cells 0 (cLay (layN p k))]) (by omega) hj
        rw [show (ways18 m b.pages[p] b.cells p)[k]'(by omega) = wayA m b.pages[p] b.cells (layN p k) by simp [ways18]] at hy
        refine YieldA.mono hy ?_
        rintro e h' ⟨q, h2, rfl, rfl, hq⟩
        cases q with
        | true =>
          simp (implicitDefEqProofs := false) (dsimp := false) only [go_sem, bdA]
          exact ⟨k + 1, ⟨by omega, ⟨h2, _, rfl, hq⟩, wrap_succ (by omega)⟩, by omega⟩
        | false =>
          simp (implicitDefEqProofs := false) (dsimp := false) only [go_sem]
          obtain ⟨r1, r2⟩ := hS _ hq
          have r3 := (hJ 0 h h0).1
          refine ⟨_, L, rfl, by omega, by simp [below, belowL], ?_, rfl, .inr ?_⟩
          · rw [List.take_left' r1]; exact r2
          · rw [List.take_left' r1]; exact hq
    · have hs : ((k : Int) < 18) = False := eq_false (by omega)
      simp (implicitDefEqProofs := false) (dsimp := false) only [go_sem, h3, h4, h5, h6, bdA, hs, decide_false]
      have e18 : k = 18 := by omega
      subst e18
      obtain ⟨r1, r2, _⟩ := hJ _ _ hj
      have r3 := (hJ 0 h h0).1
      refine ⟨_, L, rfl, by omega, by simp [below, belowL], ?_, rfl, .inl ?_⟩
      · rw [List.take_left' r1]; exact r2
      · rw [List.take_left' r1, hl18]; exact hj
end Go.Mac

/-! FnG -/
/- FnG: checks of boards: errors as panics; pages and cells. -/
namespace Go.Mac
open Go Go.Conc Go.Proofs
set_option maxRecDepth 4000

/-- What a failed check panics with. -/
def faultA (e : Int) : AV := .iface 149 (.agg [.int .i64 e])
/-- How a check ends: it gives nothing, or panics with an error. -/
def FaultP (e : Int) (h : List Blk) (r : AEnd) (h' : List Blk) : Prop := (e = 0 ∧ r = .ret (.tup []) ∧ h' = h) ∨ (e ≠ 0 ∧ r = .panic (faultA e) ∧ ∃ k, h' = h ++ k)
/-- A check. -/
def FaultC (f : FuncId) (args : List AV) (e : Int) : Prop := ∀ h, CallsA Try.prog f args h (FaultP e h)
theorem FaultP.panic {e e' : Int} {h k : List Blk} (h0 : e' ≠ 0) (h1 : e' = e) : FaultP e h (.panic (.iface 149 (.agg [.int .i64 e']))) (h ++ k) := by
  subst h1; exact .inr ⟨h0, rfl, k, rfl⟩
theorem FaultP.panic0 {e e' : Int} {h : List Blk} (h0 : e' ≠ 0) (h1 : e' = e) : FaultP e h (.panic (.iface 149 (.agg [.int .i64 e']))) h := by
  subst h1; exact .inr ⟨h0, rfl, [], (List.append_nil _).symm⟩
theorem FaultC.use {f : FuncId} {args : List AV} {e : Int} {h : List Blk} {Post : AEnd → List Blk → Prop} (c : FaultC f args e) (h2 : e ≠ 0 → ∀ k, Post (.panic (faultA e)) (h ++ k)) (h1 : e = 0 → Post (.ret (.tup [])) h) : CallsA Try.prog f args h Post :=
  (c h).mono fun r h' q => by
    rcases q with ⟨q1, rfl, rfl⟩ | ⟨q1, rfl, k, rfl⟩
    · exact h1 q1
    · exact h2 q1 k
/-- The end of a check that has found nothing. -/
theorem fault_fine {h k : List Blk} {e : Int} (hb : h.all (belowBlk h.length) = true) (he : e = 0) : ∃ v n, AV.tup [] = v ∧ h.length ≤ n ∧ below n v = true ∧ ((h ++ k).take n).all (belowBlk n) = true ∧ FaultP e h (.ret v) ((h ++ k).take n) := by
  refine ⟨_, h.length, rfl, Nat.le_refl _, rfl, ?_, .inl ⟨he, rfl, ?_⟩⟩ <;> rw [List.take_left]
  exact hb
theorem fault_fine0 {h : List Blk} {e : Int} (hb : h.all (belowBlk h.length) = true) (he : e = 0) : ∃ v n, AV.tup [] = v ∧ h.length ≤ n ∧ below n v = true ∧ (h.take n).all (belowBlk n) = true ∧ FaultP e h (.ret v) (h.take n) := by
  have := fault_fine (k := []) hb he; simpa using this
attribute [go_sem] faultA

theorem must_ok (e : Int) : FaultC 98 [.int .i64 e] e := by
  intro h
  refine CallsA.of_wpe [] {} 6 mixed Try.func98 (by kernel_rfl) rfl (by kernel_rfl) fun j hB hA => ?_; simp only [junk_succ, junk_zero, List.cons_append, List.nil_append, List.length_cons, List.length_nil, Nat.reduceAdd]
  simp (implicitDefEqProofs := false) (dsimp := false) only [go_sem]
  refine ⟨fun hc => FaultP.panic0 (by simpa using hc) rfl, fun hc => fault_fine0 hB (by simpa using hc)⟩

/-- Is a letter one of a map's? -/
def hasB (m : List (Int × Int)) (c : Int) : Bool := m.any fun p => c == p.1
theorem look92k {m : List (Int × Int)} {c : Int} {h : List Blk} : lookupE Try.prog 92 (.pmap (m.map fun p => .int .i32 p.1) (m.map fun p => .int .i64 p.2)) (.int .i32 c) true h = some (True, .tup [.int .i64 (inkB m c), .bool (hasB m c)], h) := by
  simp only [lookupE, ty92, ty21, ty102, mapOf, findA_int (g := fun p : Int × Int => p.1) ty21 rfl, fits102, eqA_int (n := 5) ty21 rfl, beq_self_eq_true, zeroA, aggD, and_self, Bool.false_eq_true, if_false, if_true, List.getD_cons_zero, gotA_ink]
  simp [hasB, List.findIdx?_isSome]

/-- The error of a row's letters. -/
def charsErr (m : List (Int × Int)) : List UInt8 → Int
  | [] => 0
  | b :: l => if hasB m b.toNat then charsErr m l else 2
def rowsErr (m : List (Int × Int)) (wide : Nat) : List (List UInt8) → Int
  | [] => 0
  | row :: l => if sizedB row.length 4 ≠ 0 then sizedB row.length 4 else if row.length ≠ wide then 9 else if charsErr m row ≠ 0 then 2 else rowsErr m wide l
def pageErr (m : List (Int × Int)) (p : List (List UInt8)) : Int := if sizedB p.length 3 ≠ 0 then sizedB p.length 3 else rowsErr m (p.headD []).length p
theorem charsErr_no {m : List (Int × Int)} {b : UInt8} {l : List UInt8} (h : hasB m b.toNat = false) : charsErr m (b :: l) = 2 := by simp [charsErr, h]
theorem rowsErr_char {m : List (Int × Int)} {w : Nat} {row : List UInt8} {l : List (List UInt8)} (h0 : sizedB row.length 4 = 0) (h1 : row.length = w) (h2 : charsErr m row ≠ 0) : rowsErr m w (row :: l) = 2 := by
  simp only [rowsErr, h0, ne_eq, not_true_eq_false, if_false, h1, h2, not_false_eq_true, if_true]
  rw [← h1, h0]; simp
theorem rowsErr_fine {m : List (Int × Int)} {w : Nat} {row : List UInt8} {l : List (List UInt8)} (h0 : sizedB row.length 4 = 0) (h1 : row.length = w) (h2 : charsErr m row = 0) : rowsErr m w (row :: l) = rowsErr m w l := by
  unfold rowsErr; rw [if_neg (by simp [h0]), if_neg (by simp [h1]), if_neg (by simp [h2])]
  cases l <;> rfl
theorem sizedB_zero {n m : Int} (h : sizedB n m = 0) : 1 ≤ n ∧ n ≤ m := by
  unfold sizedB at h
  split at h
  · cases h
  · split at h
    · cases h
    · omega
/-- Letters that one byte can stand for. -/
def lowKeys (m : List (Int × Int)) : Prop := ∀ p ∈ m, 0 ≤ p.1 ∧ p.1 < 128
theorem hasB_high {m : List (Int × Int)} (h : lowKeys m) {c : Int} (hc : 128 ≤ c) : hasB m c = false := by
  unfold hasB
  rw [List.any_eq_false]
  intro p hp
  have := h p hp
  simp; omega

theorem drop_get {α : Type} {l : List α} {i : Nat} (h : i < l.length) : l.drop i = l[i] :: l.drop (i + 1) := List.drop_eq_getElem_cons h

theorem str_len1 (p : List (List UInt8)) : (p.flatMap cStr).length = p.length := rows_length (fun _ => rfl) p
theorem str_get0 {p : List (List UInt8)} (h : 0 < p.length) : (p.flatMap cStr).getD 0 .any = .str (p.headD []) := by
  cases p with
  | nil => simp at h
  | cons a l => rfl

theorem dec_low {s : List UInt8} {x : Nat} (hx : x < s.length) (h : s[x].toNat < 128) : Utf8.decode ⟨s.toArray⟩ x = (s[x].toNat, 1) := by
  have hz : x < (⟨s.toArray⟩ : ByteArray).size := by simpa [ByteArray.size] using hx
  exact decode_ascii ⟨s.toArray⟩ x hz h
theorem dec_high {s : List UInt8} {x : Nat} (hx : x < s.length) (h : 128 ≤ s[x].toNat) : 128 ≤ (Utf8.decode ⟨s.toArray⟩ x).1 := by
  have hz : x < (⟨s.toArray⟩ : ByteArray).size := by simpa [ByteArray.size] using hx
  exact (decode_high ⟨s.toArray⟩ x hz h).1

theorem checkPage_ok (b : Board) (m : List (Int × Int)) (hm : lowKeys m) (p : List (List UInt8)) : FaultC 101 [.agg (bdA b m), sliceOf cStr p] (pageErr m p) := by
  intro h
  refine CallsA.of_wpe [] {} 46 mixed Try.func101 (by kernel_rfl) rfl (by kernel_rfl) fun j hB hA => ?_; simp only [junk_succ, junk_zero, List.cons_append, List.nil_append, List.length_cons, List.length_nil, Nat.reduceAdd]
  simp (implicitDefEqProofs := false) (dsimp := false) only [go_sem, bdA]
  (first | refine CallsA.use (sized_ok _ _) ?_ | refine QuietCalls.use (sized_ok _ _) ?_)
  simp (implicitDefEqProofs := false) (dsimp := false) only [go_sem]
  refine FaultC.use (must_ok _) (fun e1 k => ?_) (fun e0 => ?_)
  · simp (implicitDefEqProofs := false) (dsimp := false) only [go_sem]
    exact .panic e1 (by simp [pageErr, e1])
  have e0' := sizedB_zero e0
  simp (implicitDefEqProofs := false) (dsimp := false) only [go_sem]
  refine WP.loopI (fun (i : Nat) s => (i ≤ p.length ∧ rowsErr m (p.headD []).length (p.drop i) = pageErr m p) ∧ s.sl.length = 48 ∧ s.df = [] ∧ s.gh = {} ∧ (∃ k, s.hp = h ++ .cells 0 (bdA b m) :: k) ∧ evA s.sl (.tmp 1) = sliceOf cStr p ∧ evA s.sl (.tmp 2) = .ptr ⟨h.length, 0⟩ 0 ∧ evA s.sl (.tmp 14) = sliceOf cStr p ∧ evA s.sl (.tmp 15) = .int .i64 p.length ∧ evA s.sl (.tmp 16) = .int .i64 i) (fun (i : Nat) => p.length - i) (0) ?_ ?_
  · simp (implicitDefEqProofs := false) (dsimp := false) only [go_sem, bdA, Nat.zero_le]
    simp [pageErr, e0]
  · rintro i ⟨sl, df, hp, gh⟩ ⟨ab, al, rfl, rfl, ah, a1, a2, a14, a15, a16⟩
    simp only at ab al ah a1 a2 a14 a15 a16
    obtain ⟨j, rfl⟩ := slots_lit al; clear al; simp only [junk_succ, junk_zero, evA_tmp, nth_16, nth_four, nth_one, nth_zero, Nat.zero_add, Nat.reduceAdd] at  a1 a2 a14 a15 a16 ⊢
    refine wp_ok (so := {}) mixed _ (by kernel_rfl) ?_
    obtain ⟨k, rfl⟩ := ah
    obtain ⟨ab, aq⟩ := ab
    by_cases hi : i < p.length
    · rw [drop_get hi] at aq
      simp (implicitDefEqProofs := false) (dsimp := false) only [go_sem, a1, a2, a14, a15, a16, bdA, nat_lt hi, decide_true, row1 cStr_len hi, row1_le cStr_len hi, hi, cStr]
      (first | refine CallsA.use (sized_ok _ _) ?_ | refine QuietCalls.use (sized_ok _ _) ?_)
      simp (implicitDefEqProofs := false) (dsimp := false) only [go_sem]
      refine FaultC.use (must_ok _) (fun f1 k2 => ?_) (fun f0 => ?_)
      · simp (implicitDefEqProofs := false) (dsimp := false) only [go_sem]
        exact .panic f1 (by rw [← aq]; simp [rowsErr, f1])
      have f0' := sizedB_zero f0
      simp (implicitDefEqProofs := false) (dsimp := false) only [go_sem, str_get0 (show 0 < p.length by omega), str_len1, show (1 ≤ p.length) = True from eq_true (by omega)]
      refine ⟨⟨by omega, by omega⟩, fun c9 => ?_, fun c9 => ?_⟩
      · refine FaultC.use (must_ok _) (fun g1 k2 => ?_) (fun g0 => by cases g0)
        simp (implicitDefEqProofs := false) (dsimp := false) only [go_sem]
        have c9' : p[i].length ≠ (p.headD []).length := by
          intro e
          rw [e] at c9
          simp at c9
        exact .panic g1 (by rw [← aq]; simp only [rowsErr, f0, c9', ne_eq, not_true_eq_false, not_false_eq_true, if_true, if_false])
      · refine WP.loopI (fun (x : Nat) s => (x ≤ p[i].length ∧ charsErr m (p[i].drop x) = charsErr m p[i]) ∧ s.sl.length = 48 ∧ s.df = [] ∧ s.gh = {} ∧ (s.hp = h ++ .cells 0 (bdA b m) :: (k ++ [.iter p[i] x])) ∧ evA s.sl (.tmp 1) = sliceOf cStr p ∧ evA s.sl (.tmp 2) = .ptr ⟨h.length, 0⟩ 0 ∧ evA s.sl (.tmp 14) = sliceOf cStr p ∧ evA s.sl (.tmp 15) = .int .i64 p.length ∧ evA s.sl (.tmp 16) = .int .i64 i ∧ evA s.sl (.tmp 33) = .ptr ⟨h.length + (k.length + 1), 0⟩ 0) (fun (x : Nat) => p[i].length - x) (0) ?_ ?_
        · simp (implicitDefEqProofs := false) (dsimp := false) only [go_sem, bdA, Nat.zero_le]
        · rintro x ⟨sl, df, hp, gh⟩ ⟨cb, cl, rfl, rfl, rfl, c1, c2, c14, c15, c16, c33⟩
          simp only at cb cl c1 c2 c14 c15 c16 c33
          obtain ⟨j, rfl⟩ := slots_lit cl; clear cl; simp only [junk_succ, junk_zero, evA_tmp, nth_16, nth_four, nth_one, nth_zero, Nat.zero_add, Nat.reduceAdd] at  c1 c2 c14 c15 c16 c33 ⊢
          refine wp_ok (so := {}) mixed _ (by kernel_rfl) ?_
          obtain ⟨cb, cq⟩ := cb
          have c9' : p[i].length = (p.headD []).length := by
            have := c9
            simp only [bne_eq_false_iff_eq] at this
            omega
          by_cases hx : x < p[i].length
          · rw [drop_get hx] at cq
            by_cases hlow : p[i][x].toNat < 128
            · simp (implicitDefEqProofs := false) (dsimp := false) only [go_sem, c1, c2, c14, c15, c16, c33, bdA, hx, dec_low hx hlow, look92k]
              cases hk : hasB m p[i][x].toNat with
              | true =>
                simp (implicitDefEqProofs := false) (dsimp := false) only [go_sem]
                refine ⟨x + 1, ⟨⟨by omega, ?_⟩, rfl⟩, by omega⟩
                rw [← cq]
                simp [charsErr, hk]
              | false =>
                simp (implicitDefEqProofs := false) (dsimp := false) only [go_sem]
                refine FaultC.use (must_ok _) (fun g1 k2 => ?_) (fun g0 => by cases g0)
                simp (implicitDefEqProofs := false) (dsimp := false) only [go_sem]
                refine .panic g1 ?_
                rw [charsErr_no hk] at cq
                rw [← aq, rowsErr_char f0 c9' (by rw [← cq]; decide)]
            · have hd := dec_high hx (by omega)
              have hk := hasB_high hm (c := ((Utf8.decode ⟨p[i].toArray⟩ x).1 : Int)) (by omega)
              have hk2 := hasB_high hm (c := (p[i][x].toNat : Int)) (by omega)
              simp (implicitDefEqProofs := false) (dsimp := false) only [go_sem, c1, c2, c14, c15, c16, c33, bdA, hx, look92k, hk]
              refine FaultC.use (must_ok _) (fun g1 k2 => ?_) (fun g0 => by cases g0)
              simp (implicitDefEqProofs := false) (dsimp := false) only [go_sem]
              refine .panic g1 ?_
              rw [charsErr_no hk2] at cq
              rw [← aq, rowsErr_char f0 c9' (by rw [← cq]; decide)]
          · simp (implicitDefEqProofs := false) (dsimp := false) only [go_sem, c1, c2, c14, c15, c16, c33, bdA, hx]
            rw [List.drop_eq_nil_of_le (by omega)] at cq
            refine ⟨i + 1, ⟨⟨by omega, ?_⟩, wrap_succ (by omega)⟩, by omega⟩
            rw [← aq, rowsErr_fine f0 c9' cq.symm]
    · have hs : ((i : Int) < (p.length : Int)) = False := eq_false (by omega)
      simp (implicitDefEqProofs := false) (dsimp := false) only [go_sem, a1, a2, a14, a15, a16, hs, decide_false]
      rw [List.drop_eq_nil_of_le (by omega)] at aq
      exact fault_fine hB aq.symm

/-- The error of what is seen in a cell. -/
def traceErr (t : Trace) : Int := if t.seen < 0 ∨ t.bare < 0 ∨ 63 < t.seen ∨ 63 < t.bare then 1 else if andK .i64 t.seen t.bare ≠ 0 then 9 else 0
def tracesErr : List Trace → Int
  | [] => 0
  | t :: l => if traceErr t ≠ 0 then traceErr t else tracesErr l
def cellRowsErr (wide : Nat) : List (List Trace) → Int
  | [] => 0
  | row :: l => if sizedB row.length 4 ≠ 0 then sizedB row.length 4 else if row.length ≠ wide then 9 else if tracesErr row ≠ 0 then tracesErr row else cellRowsErr wide l
def cellsErr (cs : List (List Trace)) : Int := if sizedB cs.length 3 ≠ 0 then sizedB cs.length 3 else cellRowsErr (cs.headD []).length cs
theorem tracesErr_no {t : Trace} {l : List Trace} (h : traceErr t ≠ 0) : tracesErr (t :: l) = traceErr t := by simp [tracesErr, h]
theorem tracesErr_fine {t : Trace} {l : List Trace} (h : traceErr t = 0) : tracesErr (t :: l) = tracesErr l := by simp [tracesErr, h]
theorem cellRowsErr_trace {w : Nat} {row : List Trace} {l : List (List Trace)} (h0 : sizedB row.length 4 = 0) (h1 : row.length = w) (h2 : tracesErr row ≠ 0) : cellRowsErr w (row :: l) = tracesErr row := by
  unfold cellRowsErr; rw [if_neg (by simp [h0]), if_neg (by simp [h1]), if_pos h2]
theorem cellRowsErr_fine {w : Nat} {row : List Trace} {l : List (List Trace)} (h0 : sizedB row.length 4 = 0) (h1 : row.length = w) (h2 : tracesErr row = 0) : cellRowsErr w (row :: l) = cellRowsErr w l := by
  conv => lhs; unfold cellRowsErr
  rw [if_neg (by simp [h0]), if_neg (by simp [h1]), if_neg (by simp [h2])]

theorem cells_len1 (p : List (List Trace)) : (p.flatMap cTraces).length = p.length := rows_length (fun _ => rfl) p
theorem cells_get0 {p : List (List Trace)} (h : 0 < p.length) : (p.flatMap cTraces).getD 0 .any = sliceOf cTrace (p.headD []) := by
  cases p with
  | nil => simp at h
  | cons a l => rfl

theorem min_neg {a b : Int} : (List.foldl (fun x y => if y < x then y else x) a [b] < 0) = (a < 0 ∨ b < 0) := by
  simp only [List.foldl_cons, List.foldl_nil]; apply propext; split <;> omega
theorem max_big {a b : Int} : (List.foldl (fun x y => if y > x then y else x) a [b] > 63) = (63 < a ∨ 63 < b) := by
  simp only [List.foldl_cons, List.foldl_nil]; apply propext; split <;> omega

theorem checkCells_ok (p : List (List Trace)) : FaultC 102 [sliceOf cTraces p] (cellsErr p) := by
  intro h
  refine CallsA.of_wpe [] { cut := [40] } 57 mixed Try.func102 (by kernel_rfl) rfl (by kernel_rfl) fun j hB hA => ?_; simp only [junk_succ, junk_zero, List.cons_append, List.nil_append, List.length_cons, List.length_nil, Nat.reduceAdd]
  simp (implicitDefEqProofs := false) (dsimp := false) only [go_sem, bdA]
  (first | refine CallsA.use (sized_ok _ _) ?_ | refine QuietCalls.use (sized_ok _ _) ?_)
  simp (implicitDefEqProofs := false) (dsimp := false) only [go_sem]
  refine FaultC.use (must_ok _) (fun e1 k => ?_) (fun e0 => ?_)
  · simp (implicitDefEqProofs := false) (dsimp := false) only [go_sem]
    exact .panic e1 (by simp [cellsErr, e1])
  have e0' := sizedB_zero e0
  simp (implicitDefEqProofs := false) (dsimp := false) only [go_sem]
  refine WP.loopI (fun (i : Nat) s => (i ≤ p.length ∧ cellRowsErr (p.headD []).length (p.drop i) = cellsErr p) ∧ s.sl.length = 58 ∧ s.df = [] ∧ s.gh = {} ∧ (∃ k, s.hp = h ++ k) ∧ evA s.sl (.tmp 0) = sliceOf cTraces p ∧ evA s.sl (.tmp 10) = sliceOf cTraces p ∧ evA s.sl (.tmp 11) = .int .i64 p.length ∧ evA s.sl (.tmp 12) = .int .i64 i) (fun (i : Nat) => p.length - i) (0) ?_ ?_
  · simp (implicitDefEqProofs := false) (dsimp := false) only [go_sem, Nat.zero_le]
    simp [cellsErr, e0]
  · rintro i ⟨sl, df, hp, gh⟩ ⟨ab, al, rfl, rfl, ah, a0, a10, a11, a12⟩
    simp only at ab al ah a0 a10 a11 a12
    obtain ⟨j, rfl⟩ := slots_lit al; clear al; simp only [junk_succ, junk_zero, evA_tmp, nth_16, nth_four, nth_one, nth_zero, Nat.zero_add, Nat.reduceAdd] at  a0 a10 a11 a12 ⊢
    refine wp_ok (so := { cut := [40] }) mixed _ (by kernel_rfl) ?_
    obtain ⟨k, rfl⟩ := ah
    obtain ⟨ab, aq⟩ := ab
    by_cases hi : i < p.length
    · rw [drop_get hi] at aq
      simp (implicitDefEqProofs := false) (dsimp := false) only [go_sem, a0, a10, a11, a12, nat_lt hi, decide_true, row1 cTraces_len hi, row1_le cTraces_len hi, hi, cTraces]
      (first | refine CallsA.use (sized_ok _ _) ?_ | refine QuietCalls.use (sized_ok _ _) ?_)
      simp (implicitDefEqProofs := false) (dsimp := false) only [go_sem]
      refine FaultC.use (must_ok _) (fun f1 k2 => ?_) (fun f0 => ?_)
      · simp (implicitDefEqProofs := false) (dsimp := false) only [go_sem]
        exact .panic f1 (by rw [← aq]; simp [cellRowsErr, f1])
      have f0' := sizedB_zero f0
      simp (implicitDefEqProofs := false) (dsimp := false) only [go_sem, cells_get0 (show 0 < p.length by omega), cells_len1, show (1 ≤ p.length) = True from eq_true (by omega)]
      refine ⟨⟨by omega, by omega⟩, fun c9 => ?_, fun c9 => ?_⟩
      · refine FaultC.use (must_ok _) (fun g1 k2 => ?_) (fun g0 => by cases g0)
        simp (implicitDefEqProofs := false) (dsimp := false) only [go_sem]
        have c9' : p[i].length ≠ (p.headD []).length := by
          intro e
          rw [e] at c9
          simp at c9
        exact .panic g1 (by rw [← aq]; simp only [cellRowsErr, f0, c9', ne_eq, not_true_eq_false, not_false_eq_true, if_true, if_false])
      · refine WP.loopI (fun (x : Nat) s => (x ≤ p[i].length ∧ tracesErr (p[i].drop x) = tracesErr p[i]) ∧ s.sl.length = 58 ∧ s.df = [] ∧ s.gh = {} ∧ (∃ k, s.hp = h ++ k) ∧ evA s.sl (.tmp 0) = sliceOf cTraces p ∧ evA s.sl (.tmp 10) = sliceOf cTraces p ∧ evA s.sl (.tmp 11) = .int .i64 p.length ∧ evA s.sl (.tmp 12) = .int .i64 i ∧ evA s.sl (.tmp 28) = sliceOf cTrace p[i] ∧ evA s.sl (.tmp 29) = .int .i64 p[i].length ∧ evA s.sl (.tmp 30) = .int .i64 x) (fun (x : Nat) => p[i].length - x) (0) ?_ ?_
        · simp (implicitDefEqProofs := false) (dsimp := false) only [go_sem, Nat.zero_le]
        · rintro x ⟨sl, df, hp, gh⟩ ⟨cb, cl, rfl, rfl, ch, c0, c10, c11, c12, c28, c29, c30⟩
          simp only at cb cl ch c0 c10 c11 c12 c28 c29 c30
          obtain ⟨j, rfl⟩ := slots_lit cl; clear cl; simp only [junk_succ, junk_zero, evA_tmp, nth_16, nth_four, nth_one, nth_zero, Nat.zero_add, Nat.reduceAdd] at  c0 c10 c11 c12 c28 c29 c30 ⊢
          refine wp_ok (so := { cut := [40] }) mixed _ (by kernel_rfl) ?_
          obtain ⟨k3, rfl⟩ := ch
          obtain ⟨cb, cq⟩ := cb
          have c9' : p[i].length = (p.headD []).length := by
            have := c9
            simp only [bne_eq_false_iff_eq] at this
            omega
          by_cases hx : x < p[i].length
          · rw [drop_get hx] at cq
            simp (implicitDefEqProofs := false) (dsimp := false) only [go_sem, c0, c10, c11, c12, c28, c29, c30, nat_lt hx, decide_true, rowN cTrace_len hx, rowN_le cTrace_len hx, hx, cTrace, min_neg, max_big]
            refine ⟨fun c1 => ?_, fun c1 => ⟨fun c2 => ?_, fun c2 => ?_⟩⟩
            · refine FaultC.use (must_ok _) (fun g1 k2 => ?_) (fun g0 => by cases g0)
              simp (implicitDefEqProofs := false) (dsimp := false) only [go_sem]
              have e : traceErr p[i][x] = 1 := if_pos (by omega)
              rw [tracesErr_no (by rw [e]; decide), e] at cq
              exact .panic g1 (by rw [← aq, cellRowsErr_trace f0 c9' (by rw [← cq]; decide), cq])
            · refine FaultC.use (must_ok _) (fun g1 k2 => ?_) (fun g0 => by cases g0)
              simp (implicitDefEqProofs := false) (dsimp := false) only [go_sem]
              have e : traceErr p[i][x] = 1 := if_pos (by omega)
              rw [tracesErr_no (by rw [e]; decide), e] at cq
              exact .panic g1 (by rw [← aq, cellRowsErr_trace f0 c9' (by rw [← cq]; decide), cq])
            · have e : traceErr p[i][x] = if andK .i64 p[i][x].seen p[i][x].bare ≠ 0 then 9 else 0 := if_neg (by simp at c1 c2; omega)
              refine ⟨fun c3 => ?_, fun c3 => ?_⟩
              · refine FaultC.use (must_ok _) (fun g1 k2 => ?_) (fun g0 => by cases g0)
                simp (implicitDefEqProofs := false) (dsimp := false) only [go_sem]
                rw [if_pos (by simpa using c3)] at e
                rw [tracesErr_no (by rw [e]; decide), e] at cq
                exact .panic g1 (by rw [← aq, cellRowsErr_trace f0 c9' (by rw [← cq]; decide), cq])
              · rw [if_neg (by simpa using c3)] at e
                rw [tracesErr_fine e] at cq
                exact ⟨x + 1, ⟨⟨by omega, cq⟩, wrap_succ (by omega)⟩, by omega⟩
          · have hs : ((x : Int) < (p[i].length : Int)) = False := eq_false (by omega)
            simp (implicitDefEqProofs := false) (dsimp := false) only [go_sem, c0, c10, c11, c12, c28, c29, c30, hs, decide_false]
            rw [List.drop_eq_nil_of_le (by omega)] at cq
            refine ⟨i + 1, ⟨⟨by omega, ?_⟩, wrap_succ (by omega)⟩, by omega⟩
            rw [← aq, cellRowsErr_fine f0 c9' cq.symm]
    · have hs : ((i : Int) < (p.length : Int)) = False := eq_false (by omega)
      simp (implicitDefEqProofs := false) (dsimp := false) only [go_sem, a0, a10, a11, a12, hs, decide_false]
      rw [List.drop_eq_nil_of_le (by omega)] at aq
      exact fault_fine hB aq.symm
end Go.Mac

/-! FnH -/
/- FnH: glyphs; what 'light' checks of a sheet that has glyphs alone. -/
namespace Go.Mac
open Go Go.Conc Go.Proofs
set_option maxRecDepth 4000

/-- A call that gives a value and leaves the blocks alone. -/
def QuietAt (f : FuncId) (args : List AV) (h : List Blk) (v : AV) : Prop := CallsA Try.prog f args h fun e h' => e = .ret v ∧ h' = h
theorem QuietAt.use {f : FuncId} {args : List AV} {v : AV} {h : List Blk} {Post : AEnd → List Blk → Prop} (c : QuietAt f args h v) (hp : Post (.ret v) h) : CallsA Try.prog f args h Post :=
  CallsA.mono c fun e h' q => by rw [q.1, q.2]; exact hp
theorem QuietAt.of {f : FuncId} {args : List AV} {v : AV} (c : PureA Try.prog f args v) (h : List Blk) : QuietAt f args h v := c h
/-- The end of a function that leaves the blocks alone. -/
theorem quiet_fine {h k : List Blk} {v : AV} (hb : h.all (belowBlk h.length) = true) (hv : below h.length v = true) : ∃ v' n, v = v' ∧ h.length ≤ n ∧ below n v' = true ∧ ((h ++ k).take n).all (belowBlk n) = true ∧ AEnd.ret v' = .ret v ∧ (h ++ k).take n = h := by
  refine ⟨_, h.length, rfl, Nat.le_refl _, hv, ?_, rfl, ?_⟩ <;> rw [List.take_left]
  exact hb
theorem quiet_fine0 {h : List Blk} {v : AV} (hb : h.all (belowBlk h.length) = true) (hv : below h.length v = true) : ∃ v' n, v = v' ∧ h.length ≤ n ∧ below n v' = true ∧ (h.take n).all (belowBlk n) = true ∧ AEnd.ret v' = .ret v ∧ h.take n = h := by
  have := quiet_fine (k := []) hb hv; simpa using this

/-- The place of the first one that is asked for, from a place on. -/
def idxFrom {α : Type} (p : α → Bool) : List α → Nat → Int
  | [], _ => -1
  | x :: l, i => if p x then i else idxFrom p l (i + 1)
theorem idxFrom_any {α : Type} {p : α → Bool} : ∀ {l : List α} {i : Nat}, decide (idxFrom p l i ≥ 0) = l.any p
  | [], i => by simp [idxFrom]
  | x :: l, i => by
    by_cases hp : p x = true
    · have h0 : ((i : Nat) : Int) ≥ 0 := by omega
      simp [idxFrom, hp, h0]
    · have hq : p x = false := by simpa using hp
      simp only [idxFrom, List.any_cons, hq, Bool.false_eq_true, if_false, Bool.false_or]
      exact idxFrom_any

theorem indexGlyph_ok (l : List Glyph) (hl : l.length < 9223372036854775807) (g : FuncId) (hc : callable Try.prog g = True) (cap : List AV) (p : Glyph → Bool) (h : List Blk) (hF : ∀ x ∈ l, QuietAt g (.agg (cGlyph x) :: cap) h (.bool (p x))) :
    QuietAt 126 [sliceOf cGlyph l, .fn (.func g) [] cap] h (.int .i64 (idxFrom p l 0)) := by
  unfold QuietAt
  refine CallsA.of_wpe [] {} 17 mixed Try.func126 (by kernel_rfl) rfl (by kernel_rfl) fun j hB hA => ?_; simp only [junk_succ, junk_zero, List.cons_append, List.nil_append, List.length_cons, List.length_nil, Nat.reduceAdd]
  simp (implicitDefEqProofs := false) (dsimp := false) only [go_sem]
  refine WP.loopI (fun (i : Nat) s => (i ≤ l.length ∧ idxFrom p (l.drop i) i = idxFrom p l 0) ∧ s.sl.length = 19 ∧ s.df = [] ∧ s.gh = {} ∧ (s.hp = h) ∧ evA s.sl (.tmp 0) = sliceOf cGlyph l ∧ evA s.sl (.tmp 1) = .fn (.func g) [] cap ∧ evA s.sl (.tmp 7) = .int .i64 l.length ∧ evA s.sl (.tmp 8) = .int .i64 i) (fun (i : Nat) => l.length - i) (0) ?_ ?_
  · simp (implicitDefEqProofs := false) (dsimp := false) only [go_sem, Nat.zero_le]
  · rintro i ⟨sl, df, hp, gh⟩ ⟨ab, al, rfl, rfl, rfl, a0, a1, a7, a8⟩
    simp only at ab al a0 a1 a7 a8
    obtain ⟨j, rfl⟩ := slots_lit al; clear al; simp only [junk_succ, junk_zero, evA_tmp, nth_16, nth_four, nth_one, nth_zero, Nat.zero_add, Nat.reduceAdd] at  a0 a1 a7 a8 ⊢
    refine wp_ok (so := {}) mixed _ (by kernel_rfl) ?_
    obtain ⟨ab, aq⟩ := ab
    by_cases hi : i < l.length
    · rw [drop_get hi] at aq
      simp (implicitDefEqProofs := false) (dsimp := false) only [go_sem, a0, a1, a7, a8, nat_lt hi, decide_true, rowN cGlyph_len hi, rowN_le cGlyph_len hi, hi, cGlyph, hc]
      refine QuietAt.use (hF _ (List.getElem_mem hi)) ?_
      cases hp : p l[i] with
      | true =>
        simp (implicitDefEqProofs := false) (dsimp := false) only [go_sem]
        rw [show (i : Int) = idxFrom p l 0 by rw [← aq]; simp [idxFrom, hp]]
        exact quiet_fine0 hB rfl
      | false =>
        simp (implicitDefEqProofs := false) (dsimp := false) only [go_sem]
        refine ⟨i + 1, ⟨⟨by omega, ?_⟩, wrap_succ (by omega)⟩, by omega⟩
        rw [← aq]; simp [idxFrom, hp]
    · have hs : ((i : Int) < (l.length : Int)) = False := eq_false (by omega)
      simp (implicitDefEqProofs := false) (dsimp := false) only [go_sem, a0, a1, a7, a8, hs, decide_false]
      rw [List.drop_eq_nil_of_le (by omega)] at aq
      rw [← aq]
      exact quiet_fine0 hB rfl

theorem containsGlyph_ok (l : List Glyph) (hl : l.length < 9223372036854775807) (g : FuncId) (hc : callable Try.prog g = True) (cap : List AV) (p : Glyph → Bool) (h : List Blk) (hF : ∀ x ∈ l, QuietAt g (.agg (cGlyph x) :: cap) h (.bool (p x))) :
    QuietAt 122 [sliceOf cGlyph l, .fn (.func g) [] cap] h (.bool (l.any p)) := by
  unfold QuietAt
  refine CallsA.of_wpe [] {} 7 mixed Try.func122 (by kernel_rfl) rfl (by kernel_rfl) fun j hB hA => ?_; simp only [junk_succ, junk_zero, List.cons_append, List.nil_append, List.length_cons, List.length_nil, Nat.reduceAdd]
  simp (implicitDefEqProofs := false) (dsimp := false) only [go_sem]
  refine QuietAt.use (indexGlyph_ok l hl g hc cap p h hF) ?_
  simp (implicitDefEqProofs := false) (dsimp := false) only [go_sem, idxFrom_any]
  exact quiet_fine0 hB rfl

theorem sameStrokes_ok (x g : Glyph) (n : Nat) (h : List Blk) (hn : h[n]? = some (.cells 0 (cGlyph g))) : QuietAt 123 [.agg (cGlyph x), .ptr ⟨n, 0⟩ 0] h (.bool (x.strokes == g.strokes)) := by
  unfold QuietAt
  have hlt : n < h.length := (List.getElem?_eq_some_iff.1 hn).1
  refine CallsA.of_wpe [] {} 7 mixed Try.func123 (by kernel_rfl) rfl (by kernel_rfl) fun j hB hA => ?_; simp only [junk_succ, junk_zero, List.cons_append, List.nil_append, List.length_cons, List.length_nil, Nat.reduceAdd]
  simp (implicitDefEqProofs := false) (dsimp := false) only [go_sem, cGlyph]
  have hn2 : ∀ k, (h ++ k)[n]? = some (.cells 0 (cGlyph g)) := fun k => by rw [List.getElem?_append_left hlt]; exact hn
  simp (implicitDefEqProofs := false) (dsimp := false) only [go_sem, hn2, cGlyph]
  exact quiet_fine hB rfl

def lastName (l : List Glyph) : List UInt8 := (l.getLastD ⟨[], 0⟩).name
/-- The error of glyphs, some of them being behind us. -/
def gliErr (before : List Glyph) : List Glyph → Int
  | [] => 0
  | g :: l => if g.name.length ≠ 1 ∨ Op.bytesLess g.name [97] = true ∨ (Op.bytesLess g.name [122] || g.name == [122]) = false then 2
    else if before ≠ [] ∧ (Op.bytesLess g.name (lastName before) || g.name == lastName before) = true then 5
    else if g.strokes < 1 ∨ 63 < g.strokes then 1
    else if before.any (fun x => x.strokes == g.strokes) then 4
    else gliErr (before ++ [g]) l
def glyphsErr (gs : List Glyph) : Int := if gs.length = 0 then 7 else if 6 < gs.length then 6 else gliErr [] gs
def sheetA (gs : List Glyph) : AV := .agg [sliceOf cGlyph gs, .psl [.nilsl] 1, .nilsl]

theorem take_rows {α β : Type} {f : α → List β} {n : Nat} (hf : ∀ x, (f x).length = n) : ∀ (l : List α) (i : Nat), (l.flatMap f).take (i * n) = (l.take i).flatMap f
  | [], i => by simp
  | x :: l, 0 => by simp
  | x :: l, i + 1 => by
    simp only [List.flatMap_cons, List.take_succ_cons]
    rw [show (i + 1) * n = n + i * n by rw [Nat.succ_mul]; omega, List.take_append, hf x]
    rw [show n + i * n - n = i * n by omega, List.take_of_length_le (by rw [hf x]; omega), take_rows hf l i]
theorem call_f123 : callable Try.prog 123 = True := eq_true ⟨_, Try.func123, rfl, rfl⟩

theorem checkGlyphs_ok (gs : List Glyph) : PureA Try.prog 117 [sheetA gs] (.int .i64 (glyphsErr gs)) := by
  refine PureA.of_wpp { cut := [33, 38, 46, 61] } 70 mixed Try.func117 (by kernel_rfl) rfl (by kernel_rfl) (rfl) fun h j hB => ?_
  simp only [junk_succ, junk_zero, List.cons_append, List.nil_append, List.length_cons, List.length_nil, Nat.reduceAdd]
  simp (implicitDefEqProofs := false) (dsimp := false) only [go_sem, sheetA]
  refine ⟨fun c0 => ?_, fun c0 => ⟨fun c1 => ?_, fun c1 => ?_⟩⟩
  · have : gs.length = 0 := by simpa using c0
    simp [glyphsErr, this]
  · have h0 : gs.length ≠ 0 := by intro e; rw [e] at c0; simp at c0
    simp only [glyphsErr, h0, if_false]; rw [if_pos (by omega)]
  have hne : gs.length ≠ 0 := by intro e; rw [e] at c0; simp at c0
  have eg : gliErr [] gs = glyphsErr gs := by simp only [glyphsErr, hne, if_false]; rw [if_neg (by omega)]
  refine WP.loopI (fun (i : Nat) s => (i ≤ gs.length ∧ gliErr (gs.take i) (gs.drop i) = glyphsErr gs ∧ (lastName (gs.take i)).length ≤ 1) ∧ s.sl.length = 71 ∧ s.df = [] ∧ s.gh = {} ∧ (∃ k, s.hp = h ++ .cells 0 [sliceOf cGlyph gs, .psl [.nilsl] 1, .nilsl] :: k) ∧ evA s.sl (.tmp 1) = .ptr ⟨h.length, 0⟩ 0 ∧ evA s.sl (.tmp 17) = sliceOf cGlyph gs ∧ evA s.sl (.tmp 18) = .int .i64 gs.length ∧ evA s.sl (.tmp 19) = .int .i64 i) (fun (i : Nat) => gs.length - i) (0) ?_ ?_
  · simp (implicitDefEqProofs := false) (dsimp := false) only [go_sem, Nat.zero_le]
    exact ⟨eg, by simp [lastName]⟩
  · rintro i ⟨sl, df, hp, gh⟩ ⟨ab, al, rfl, rfl, ah, a1, a17, a18, a19⟩
    simp only at ab al ah a1 a17 a18 a19
    obtain ⟨j, rfl⟩ := slots_lit al; clear al; simp only [junk_succ, junk_zero, evA_tmp, nth_16, nth_four, nth_one, nth_zero, Nat.zero_add, Nat.reduceAdd] at  a1 a17 a18 a19 ⊢
    refine wp_ok (so := { cut := [33, 38, 46, 61] }) mixed _ (by kernel_rfl) ?_
    obtain ⟨k, rfl⟩ := ah
    obtain ⟨ab, aq, hlen⟩ := ab
    by_cases hi : i < gs.length
    · rw [drop_get hi] at aq
      have htl : (gs.take i).length = i := by simp; omega
      have hne : gs.take i = [] ↔ i = 0 := by rw [← List.length_eq_zero_iff, htl]
      simp (implicitDefEqProofs := false) (dsimp := false) only [go_sem, a1, a17, a18, a19, nat_lt hi, decide_true, rowN cGlyph_len hi, rowN_le cGlyph_len hi, hi, cGlyph, length_rows cGlyph_len, take_rows cGlyph_len, Nat.sub_zero]
      refine ⟨by omega, ⟨by omega, by omega⟩, fun d1 => ?_, fun d1 => ⟨?_, fun d2 => ?_, fun d2 => ⟨?_, fun d3 => ?_, fun d3 => ⟨fun d4 => ?_, fun d4 => ?_⟩⟩⟩⟩
      · have : gs[i].name.length ≠ 1 := by intro e; rw [e] at d1; simp at d1
        rw [← aq, gliErr, if_pos (.inl this)]
      · have : gs[i].name.length = 1 := by simp at d1; omega
        omega
      · rw [← aq, gliErr, if_pos (.inr (.inl d2))]
      · have : gs[i].name.length = 1 := by simp at d1; omega
        omega
      · rw [← aq, gliErr, if_pos (.inr (.inr (by simpa using d3)))]
      · have hl1 : gs[i].name.length = 1 := by simp at d1; omega
        have w : IntKind.i64.wrap ((i : Int) - 1) = ((i - 1 : Nat) : Int) := by rw [wrap64 (by omega) (by omega)]; omega
        have hi1 : i - 1 < (gs.take i).length := by omega
        have hlast : (gs.take i)[i - 1].name = lastName (gs.take i) := by
          unfold lastName
          rw [List.getLastD_eq_getLast?, List.getLast?_eq_getElem?, htl, List.getElem?_eq_getElem hi1]; rfl
        have p2 : ¬ (gs[i].name.length ≠ 1 ∨ Op.bytesLess gs[i].name [97] = true ∨ (Op.bytesLess gs[i].name [122] || gs[i].name == [122]) = false) := by
          rintro (e | e | e)
          · exact e hl1
          · rw [d2] at e; cases e
          · rw [e] at d3; cases d3
        simp (implicitDefEqProofs := false) (dsimp := false) only [go_sem, w, rowN cGlyph_len hi1, rowN_le cGlyph_len hi1, cGlyph, htl, hlast]
        refine ⟨⟨by omega, by omega⟩, by omega, fun d5 => ?_, fun d5 => ?_⟩
        · rw [← aq, gliErr, if_neg p2, if_pos ⟨by rw [ne_eq, hne]; omega, d5⟩]
        have Q5 : ¬ (gs.take i ≠ [] ∧ (Op.bytesLess gs[i].name (lastName (gs.take i)) || gs[i].name == lastName (gs.take i)) = true) := by
          rintro ⟨_, e⟩
          rw [d5] at e; cases e
        refine ⟨fun d6 => ?_, fun d6 => ⟨fun d7 => ?_, fun d7 => ?_⟩⟩
        · rw [← aq, gliErr, if_neg p2, if_neg Q5, if_pos (.inl d6)]
        · rw [← aq, gliErr, if_neg p2, if_neg Q5, if_pos (.inr d7)]
        · rw [show (AV.psl ((gs.take i).flatMap cGlyph) i) = sliceOf cGlyph (gs.take i) by rw [sliceOf, htl]]
          refine QuietAt.use (containsGlyph_ok (gs.take i) (by omega) _ call_f123 _ (fun x => x.strokes == gs[i].strokes) _ fun x _ => sameStrokes_ok x gs[i] _ _ (by rw [hget]; simp [cGlyph])) ?_
          cases d8 : (gs.take i).any fun x => x.strokes == gs[i].strokes with
          | true =>
            simp (implicitDefEqProofs := false) (dsimp := false) only [go_sem]
            rw [← aq, gliErr, if_neg p2, if_neg Q5, if_neg (by omega), if_pos d8]
          | false =>
            simp (implicitDefEqProofs := false) (dsimp := false) only [go_sem]
            refine ⟨i + 1, ⟨⟨by omega, ?_, ?_⟩, wrap_succ (by omega)⟩, by omega⟩
            · rw [← aq]
              conv => rhs; rw [gliErr, if_neg p2, if_neg Q5, if_neg (by omega), if_neg (by rw [d8]; decide)]
              rw [List.take_add_one, List.getElem?_eq_getElem hi]; rfl
            · rw [List.take_add_one, List.getElem?_eq_getElem hi]
              simp only [lastName, Option.toList_some, List.getLastD_concat]; omega
      · have hl1 : gs[i].name.length = 1 := by simp at d1; omega
        have p2 : ¬ (gs[i].name.length ≠ 1 ∨ Op.bytesLess gs[i].name [97] = true ∨ (Op.bytesLess gs[i].name [122] || gs[i].name == [122]) = false) := by
          rintro (e | e | e)
          · exact e hl1
          · rw [d2] at e; cases e
          · rw [e] at d3; cases d3
        have Q5 : ¬ (gs.take i ≠ [] ∧ (Op.bytesLess gs[i].name (lastName (gs.take i)) || gs[i].name == lastName (gs.take i)) = true) := by
          rintro ⟨e, _⟩
          exact e (hne.2 (by omega))
        refine ⟨fun d6 => ?_, fun d6 => ⟨fun d7 => ?_, fun d7 => ?_⟩⟩
        · rw [← aq, gliErr, if_neg p2, if_neg Q5, if_pos (.inl d6)]
        · rw [← aq, gliErr, if_neg p2, if_neg Q5, if_pos (.inr d7)]
        · rw [show (AV.psl ((gs.take i).flatMap cGlyph) i) = sliceOf cGlyph (gs.take i) by rw [sliceOf, htl]]
          refine QuietAt.use (containsGlyph_ok (gs.take i) (by omega) _ call_f123 _ (fun x => x.strokes == gs[i].strokes) _ fun x _ => sameStrokes_ok x gs[i] _ _ (by rw [hget]; simp [cGlyph])) ?_
          cases d8 : (gs.take i).any fun x => x.strokes == gs[i].strokes with
          | true =>
            simp (implicitDefEqProofs := false) (dsimp := false) only [go_sem]
            rw [← aq, gliErr, if_neg p2, if_neg Q5, if_neg (by omega), if_pos d8]
          | false =>
            simp (implicitDefEqProofs := false) (dsimp := false) only [go_sem]
            refine ⟨i + 1, ⟨⟨by omega, ?_, ?_⟩, wrap_succ (by omega)⟩, by omega⟩
            · rw [← aq]
              conv => rhs; rw [gliErr, if_neg p2, if_neg Q5, if_neg (by omega), if_neg (by rw [d8]; decide)]
              rw [List.take_add_one, List.getElem?_eq_getElem hi]; rfl
            · rw [List.take_add_one, List.getElem?_eq_getElem hi]
              simp only [lastName, Option.toList_some, List.getLastD_concat]; omega
    · have hs : ((i : Int) < (gs.length : Int)) = False := eq_false (by omega)
      simp (implicitDefEqProofs := false) (dsimp := false) only [go_sem, a1, a17, a18, a19, hs, decide_false]
      rw [List.drop_eq_nil_of_le (by omega)] at aq
      exact aq

theorem checkLights_ok (gs : List Glyph) : PureA Try.prog 118 [sheetA gs] (.int .i64 0) := by
  refine PureA.of_wpp { cut := [38] } 48 mixed Try.func118 (by kernel_rfl) rfl (by kernel_rfl) (rfl) fun h j hB => ?_
  simp only [junk_succ, junk_zero, List.cons_append, List.nil_append, List.length_cons, List.length_nil, Nat.reduceAdd]
  simp (implicitDefEqProofs := false) (dsimp := false) only [go_sem, sheetA]
  refine WP.loopI (fun (i : Nat) s => (i ≤ 1) ∧ s.sl.length = 49 ∧ s.df = [] ∧ s.gh = {} ∧ (s.hp = h ++ [.cells 0 [sliceOf cGlyph gs, .psl [.nilsl] 1, .nilsl]]) ∧ evA s.sl (.tmp 18) = .psl [.nilsl] 1 ∧ evA s.sl (.tmp 19) = .int .i64 1 ∧ evA s.sl (.tmp 20) = .int .i64 i) (fun (i : Nat) => 1 - i) (0) ?_ ?_
  · simp (implicitDefEqProofs := false) (dsimp := false) only [go_sem, Nat.zero_le]
  · rintro i ⟨sl, df, hp, gh⟩ ⟨ab, al, rfl, rfl, rfl, a18, a19, a20⟩
    simp only at ab al a18 a19 a20
    obtain ⟨j, rfl⟩ := slots_lit al; clear al; simp only [junk_succ, junk_zero, evA_tmp, nth_16, nth_four, nth_one, nth_zero, Nat.zero_add, Nat.reduceAdd] at  a18 a19 a20 ⊢
    refine wp_ok (so := { cut := [38] }) mixed _ (by kernel_rfl) ?_
    by_cases hi : i = 0
    · subst hi
      simp (implicitDefEqProofs := false) (dsimp := false) only [go_sem, a18, a19, a20]
      refine WP.loopI (fun (x : Nat) s => (x = 0) ∧ s.sl.length = 49 ∧ s.df = [] ∧ s.gh = {} ∧ (s.hp = h ++ [.cells 0 [sliceOf cGlyph gs, .psl [.nilsl] 1, .nilsl]]) ∧ evA s.sl (.tmp 18) = .psl [.nilsl] 1 ∧ evA s.sl (.tmp 19) = .int .i64 1 ∧ evA s.sl (.tmp 20) = .int .i64 0 ∧ evA s.sl (.tmp 24) = .nilsl ∧ evA s.sl (.tmp 25) = .int .i64 0 ∧ evA s.sl (.tmp 26) = .int .i64 0) (fun (x : Nat) => 0) (0) ?_ ?_
      · simp (implicitDefEqProofs := false) (dsimp := false) only [go_sem, a18, a19, a20]
      · rintro x ⟨sl, df, hp, gh⟩ ⟨cb, cl, rfl, rfl, rfl, c18, c19, c20, c24, c25, c26⟩
        simp only at cb cl c18 c19 c20 c24 c25 c26
        obtain ⟨j, rfl⟩ := slots_lit cl; clear cl; simp only [junk_succ, junk_zero, evA_tmp, nth_16, nth_four, nth_one, nth_zero, Nat.zero_add, Nat.reduceAdd] at  c18 c19 c20 c24 c25 c26 ⊢
        refine wp_ok (so := { cut := [38] }) mixed _ (by kernel_rfl) ?_
        simp (implicitDefEqProofs := false) (dsimp := false) only [go_sem, c18, c19, c20, c24, c25, c26]
        exact ⟨1, by decide⟩
    · have : i = 1 := by omega
      subst this
      simp (implicitDefEqProofs := false) (dsimp := false) only [go_sem, a18, a19, a20]

theorem checkCells0_ok (gs : List Glyph) : PureA Try.prog 119 [sheetA gs] (.int .i64 0) := by
  refine PureA.of_wpp {} 39 mixed Try.func119 (by kernel_rfl) rfl (by kernel_rfl) (rfl) fun h j hB => ?_
  simp only [junk_succ, junk_zero, List.cons_append, List.nil_append, List.length_cons, List.length_nil, Nat.reduceAdd]
  simp (implicitDefEqProofs := false) (dsimp := false) only [go_sem, sheetA]
  refine WP.loopI (fun (i : Nat) s => (i = 0) ∧ s.sl.length = 40 ∧ s.df = [] ∧ s.gh = {} ∧ (s.hp = h ++ [.cells 0 [sliceOf cGlyph gs, .psl [.nilsl] 1, .nilsl]]) ∧ evA s.sl (.tmp 1) = .ptr ⟨h.length, 0⟩ 0 ∧ evA s.sl (.tmp 13) = .nilsl ∧ evA s.sl (.tmp 14) = .int .i64 0 ∧ evA s.sl (.tmp 15) = .int .i64 0) (fun (i : Nat) => 0) (0) ?_ ?_
  · simp (implicitDefEqProofs := false) (dsimp := false) only [go_sem]
  · rintro i ⟨sl, df, hp, gh⟩ ⟨ab, al, rfl, rfl, rfl, a1, a13, a14, a15⟩
    simp only at ab al a1 a13 a14 a15
    obtain ⟨j, rfl⟩ := slots_lit al; clear al; simp only [junk_succ, junk_zero, evA_tmp, nth_16, nth_four, nth_one, nth_zero, Nat.zero_add, Nat.reduceAdd] at  a1 a13 a14 a15 ⊢
    refine wp_ok (so := {}) mixed _ (by kernel_rfl) ?_
    simp (implicitDefEqProofs := false) (dsimp := false) only [go_sem, a1, a13, a14, a15]

theorem lightCheck_ok (gs : List Glyph) : PureA Try.prog 99 [sheetA gs] (.int .i64 (glyphsErr gs)) := by
  refine PureA.of_wpp {} 16 mixed Try.func99 (by kernel_rfl) rfl (by kernel_rfl) (rfl) fun h j hB => ?_
  simp only [junk_succ, junk_zero, List.cons_append, List.nil_append, List.length_cons, List.length_nil, Nat.reduceAdd]
  simp (implicitDefEqProofs := false) (dsimp := false) only [go_sem, sheetA]
  refine WP.loopI (fun (i : Nat) s => (i ≤ 3 ∧ (0 < i → glyphsErr gs = 0)) ∧ s.sl.length = 17 ∧ s.df = [] ∧ s.gh = {} ∧ (s.hp = h ++ [.cells 0 [sliceOf cGlyph gs, .psl [.nilsl] 1, .nilsl]]) ∧ evA s.sl (.tmp 1) = .ptr ⟨h.length, 0⟩ 0 ∧ evA s.sl (.tmp 6) = .agg [.fn (.func 117) [] [], .fn (.func 118) [] [], .fn (.func 119) [] []] ∧ evA s.sl (.tmp 7) = .int .i64 i) (fun (i : Nat) => 3 - i) (0) ?_ ?_
  · simp (implicitDefEqProofs := false) (dsimp := false) only [go_sem]
  · rintro i ⟨sl, df, hp, gh⟩ ⟨ab, al, rfl, rfl, rfl, a1, a6, a7⟩
    simp only at ab al a1 a6 a7
    obtain ⟨j, rfl⟩ := slots_lit al; clear al; simp only [junk_succ, junk_zero, evA_tmp, nth_16, nth_four, nth_one, nth_zero, Nat.zero_add, Nat.reduceAdd] at  a1 a6 a7 ⊢
    refine wp_ok (so := {}) mixed _ (by kernel_rfl) ?_
    obtain ⟨ab, aq⟩ := ab
    by_cases h0 : i = 0
    · subst h0
      simp (implicitDefEqProofs := false) (dsimp := false) only [go_sem, a1, a6, a7, Int.cast_ofNat_Int, Nat.zero_mul]
      (first | refine CallsA.use (checkGlyphs_ok gs) ?_ | refine QuietCalls.use (checkGlyphs_ok gs) ?_)
      simp (implicitDefEqProofs := false) (dsimp := false) only [go_sem]
      intro c1
      exact ⟨1, ⟨⟨by omega, fun _ => by simpa using c1⟩, rfl⟩, by omega⟩
    · have e0 := aq (by omega)
      by_cases h1 : i = 1
      · subst h1
        simp (implicitDefEqProofs := false) (dsimp := false) only [go_sem, a1, a6, a7]
        (first | refine CallsA.use (checkLights_ok gs) ?_ | refine QuietCalls.use (checkLights_ok gs) ?_)
        simp (implicitDefEqProofs := false) (dsimp := false) only [go_sem]
        exact ⟨2, ⟨⟨by omega, fun _ => e0⟩, rfl⟩, by omega⟩
      · by_cases h2 : i = 2
        · subst h2
          simp (implicitDefEqProofs := false) (dsimp := false) only [go_sem, a1, a6, a7]
          (first | refine CallsA.use (checkCells0_ok gs) ?_ | refine QuietCalls.use (checkCells0_ok gs) ?_)
          simp (implicitDefEqProofs := false) (dsimp := false) only [go_sem]
          exact ⟨3, ⟨⟨by omega, fun _ => e0⟩, rfl⟩, by omega⟩
        · have : i = 3 := by omega
          subst this
          simp (implicitDefEqProofs := false) (dsimp := false) only [go_sem, a1, a6, a7]
          exact e0.symm
end Go.Mac


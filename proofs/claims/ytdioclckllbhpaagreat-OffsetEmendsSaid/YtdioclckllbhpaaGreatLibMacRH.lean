/- A part of the logic and of the contracts of the functions that the statement reaches; the statement itself is proved in the last text. -/
import Derived.Test.YtdioclckllbhpaaGreatLibMacRG

set_option linter.all false
set_option linter.unusedVariables false
set_option linter.unusedSimpArgs false
set_option linter.unnecessarySimpa false
namespace Go.Mac
open Go Go.Conc
def unmark : List Blk → List ADef → Option (List Blk)
  | h, [] => some h
  | h, .mark n :: df => match h[n.id]? with
    | some .defd => if n.gen = 0 then unmark (h.set n.id .dead) df else none
    | _ => none
  | _, .call .. :: _ => none
section
variable {P : Program} {main : Bool} {Stop : Cx → Goroutine → World → Prop}
theorem Go'.unmark {cs : List Frame} {c : Cx} {h' : List Blk} {fr : Frame} (hm : ∀ ds, ({ fr with defers := ds } : Frame).mode ≠ .run) : ∀ {df : List ADef} {ds : List Deferred} {h : List Blk} {w : World}, DRL c df ds → HR c w h → Mac.unmark h df = some h' →
    (∀ w', HR c w' h' → Go' P main Stop c (G { fr with defers := [] } cs) w') → Go' P main Stop c (G { fr with defers := ds } cs) w
  | [], ds, h, w, hd, hH, hu, hk => by
    have : ds = [] := hd
    subst this
    simp only [Mac.unmark, Option.some.injEq] at hu
    subst hu
    exact hk w hH
  | .call f cap args :: df, ds, h, w, hd, hH, hu, hk => by cases hu
  | .mark n :: df, ds, h, w, hd, hH, hu, hk => by
    obtain ⟨d, ds', rfl, hd1, hd2⟩ := hd
    simp only [Mac.unmark] at hu
    split at hu
    · rename_i hb
      split at hu
      · rename_i hg
        refine Go'.of_step rfl fun w1 r => ?_
        have hH1 := hH.rely r
        have hlt : n.id < c.own.length := by rw [← hH.len]; exact (List.getElem?_eq_some_iff.1 hb).1
        have he : c.own[n.id]? = some c.own[n.id] := by simp [hlt]
        obtain ⟨h0, b, k, h1, h2, h3⟩ := hH1.blk _ _ _ he hb
        have hdd : d = { target := .collected b, args := #[] } := by
          have hd1' : c.At n fun s => ∃ b k, s = some (b, k) ∧ d = { target := .collected b, args := #[] } := hd1
          obtain ⟨b', k', q1, q2⟩ := At_some hd1' he (by omega)
          rw [h1] at q1
          cases q1
          exact q2
        subst hdd
        have hok : Ok P c w1.heap.size (Instr.takeDeferred b) w1 (fun q => q = .ok [] { w1 with heap := w1.heap.setIfInBounds b (.deferred none) }) := by
          unfold Instr.takeDeferred
          refine Ok.then (a := .deferred (some [])) ⟨.inl h2, _, h3, trivial, rfl, rfl⟩ ?_
          refine Ok.then' (R := fun _ w' => w' = { w1 with heap := w1.heap.setIfInBounds b (.deferred none) }) ⟨.inl h2, rfl, ⟨_, h3, trivial⟩, ⟨_, _, rfl, rfl⟩⟩ fun _ w' e => ?_
          subst e
          exact ok_pure rfl
        obtain ⟨q, ev, kp⟩ := Ok.spec #[] hok (Nat.le_refl _)
        rw [q] at ev kp
        have hst : stepG P main (G { fr with defers := ({ target := .collected b, args := #[] } : Deferred) :: ds' } cs) w1 = .go (G { fr with defers := ds' } cs) { w1 with heap := w1.heap.setIfInBounds b (.deferred none) } (seen P fr.fn ((Instr.takeDeferred b).events P w1 #[])) := by
          have hm' := hm (({ target := .collected b, args := #[] } : Deferred) :: ds')
          have hu : stepG P main (G { fr with defers := ({ target := .collected b, args := #[] } : Deferred) :: ds' } cs) w1 = unwind P main { fr with defers := ({ target := .collected b, args := #[] } : Deferred) :: ds' } cs none w1 := by
            simp only [G, stepG]
          rw [hu]
          simp only [unwind, Sem.runT_eq, q, GStep.after]
          simp [G]
        refine ⟨_, _, _, c, hst, rfl, ⟨kp, fun _ h => .inl h, fun _ _ h => .inl h, fun _ _ h => h, fun x hx => ?_, fun _ h => .inl h, fun _ h => .inl h, fun _ h => h, rfl, rfl, rfl⟩, ?_⟩
        · rcases ev x (mem_seen hx) with h | h
          · simp at h
          · exact h
        have hHd : HR c { w1 with heap := w1.heap.setIfInBounds b (.deferred none) } (h.set n.id .dead) :=
          hH1.update he hb rfl h1 h2 (by simp) (fun y hy => by simp [Ne.symm hy]) trivial
        exact Go'.unmark hm hd2 hHd hu hk
      · cases hu
    · cases hu
end
def bodyE (P : Program) (fn : Func) (n0 : Nat) (Post : AEnd → List Blk → Prop) : AExit → AS → Prop
  | .normal, s | .ret, s => s.gh = {} ∧ ∃ h1, unmark s.hp s.df = some h1 ∧ ∃ v n, resA P fn s.sl h1 = some v ∧ n0 ≤ n ∧ below n v = true ∧ (h1.take n).all (belowBlk n) = true ∧ Post (.ret v) (h1.take n)
  | .panic v, s => s.gh = {} ∧ ∃ h1, unmark s.hp s.df = some h1 ∧ Post (.panic v) h1
  | _, _ => False
theorem CallsA.of_bodyE {P : Program} {f : FuncId} {fn : Func} {code : Code} {args : List AV} {h : List Blk} {Post : AEnd → List Blk → Prop} (hf : P.funcs[f]? = some fn) (hb : fn.body = some code)
    (hw : h.all (belowBlk h.length) = true → belowL h.length args = true → WP P ⟨f, false, h.length⟩ code (Mac.turnQ h.length (bodyE P fn h.length Post)) { sl := args ++ List.replicate (fn.ntmps - args.length) (.tup []), df := [], hp := h }) : CallsA P f args h Post := by
  intro main Stop cs c w vargs kind hk hv hH htodo hcont
  have hbel : h.all (belowBlk h.length) = true := List.all_eq_true.2 fun b hb => by obtain ⟨i, hi⟩ := List.mem_iff_getElem?.1 hb; exact hH.below hi
  have harg : belowL h.length args = true := by rw [hH.len]; exact VRL.below _ _ hv
  have hent : Frame.enter P f vargs kind = at' (Frame.enter P f vargs kind) (vargs ++ Array.replicate (fn.ntmps - vargs.size) undef) [] ([.code code] ++ []) := by
    simp [Frame.enter, at', hf, hb]
  rw [hent]
  have hsz : vargs.size = args.length := by have := hv.length; simpa using this
  have hrep : ∀ n, VRL c (List.replicate n (.tup [])) (List.replicate n undef) := by
    intro n
    induction n with
    | zero => rfl
    | succ n ih => exact ⟨_, _, rfl, ⟨[], rfl, rfl⟩, ih⟩
  have hsr : SR c.com.out c w { sl := args ++ List.replicate (fn.ntmps - args.length) (.tup []), df := [], hp := h } (vargs ++ Array.replicate (fn.ntmps - vargs.size) undef) [] :=
    ⟨by simp only [Array.toList_append, Array.toList_replicate]; rw [hsz]; exact hv.append (hrep _), rfl, hH, ⟨[], rfl, rfl⟩, htodo⟩
  refine (hw hbel harg).turnQ main Stop (Frame.enter P f vargs kind) [] cs c.com.out c w _ [] ⟨rfl, fun _ => rfl⟩ hk hsr ?_
  intro e s' c' w' tmps' ds' q r xT
  have x : Ext c c' := xT.ofT (by rw [← hH.len]; exact Nat.le_refl _)
  have ret : ∀ (todo todo' : List Item), (∀ w1, stepG P main (G (at' (Frame.enter P f vargs kind) tmps' ds' todo) cs) w1 = .go (G { at' (Frame.enter P f vargs kind) tmps' ds' todo' with mode := .returning } cs) w1 #[]) →
      (s'.gh = {} ∧ ∃ h1, unmark s'.hp s'.df = some h1 ∧ ∃ v n, resA P fn s'.sl h1 = some v ∧ h.length ≤ n ∧ Mac.below n v = true ∧ (h1.take n).all (belowBlk n) = true ∧ Post (.ret v) (h1.take n)) →
      Go' P main Stop c' (G (at' (Frame.enter P f vargs kind) tmps' ds' todo) cs) w' := by
    rintro todo todo' hstep ⟨hgh, h1, hun, v, n, hres, hn, hbv, hbh, hp⟩
    have hg := neutral_of r.gh hgh
    refine Go'.idle rfl rfl hstep ?_
    have hfrm : ({ at' (Frame.enter P f vargs kind) tmps' ds' todo' with mode := .returning } : Frame) = { ({ at' (Frame.enter P f vargs kind) tmps' [] todo' with mode := .returning } : Frame) with defers := ds' } := rfl
    rw [hfrm]
    refine Go'.unmark (fr := { at' (Frame.enter P f vargs kind) tmps' [] todo' with mode := .returning }) (fun ds => by simp) r.df r.hp hun fun w2 hH2 => ?_
    obtain ⟨V, hV, hok⟩ := ok_results (P := P) r.sl hH2 hres
    have hle : c.own.length ≤ n := by rw [← hH.len]; exact hn
    have hgh2 : Gh c' (c'.take n) := ⟨rfl, fun _ h => h, fun _ _ h => .inl h, fun _ _ h => h⟩
    refine .ghost hgh2 ?_
    exact hcont (.ret v) _ (c'.take n) w2 _ hp (hH2.take hbh) (x.take hle) hg.1 hg.2
      ⟨rfl, rfl, rfl, rfl, fn, V, hf, VR.take v V hbv hV, fun w1 r1 => Ok.congr (c := c') (c' := c'.take n) rfl rfl (hok w1 ⟨r1.size, r1.mine, r1.imm, r1.os, r1.output, r1.tape, r1.chans⟩)⟩
  cases e with
  | normal => exact ret [] [] (fun w1 => by simp [G, stepG, stepG.exec, at', Frame.enter]) q
  | ret => exact fun k' => ret (.code .ret :: k') (.code .ret :: k') (fun w1 => by simp [G, stepG, stepG.exec, at', Frame.enter]) q
  | exit id => exact q.elim
  | goto l => exact q.elim
  | panic v =>
    intro V todo hV
    obtain ⟨hgh, h1, hun, hp⟩ := q
    have hg := neutral_of r.gh hgh
    have hfrm : ({ at' (Frame.enter P f vargs kind) tmps' ds' todo with mode := .panicking [{ v := V, recovered := false }] } : Frame) = { ({ at' (Frame.enter P f vargs kind) tmps' [] todo with mode := .panicking [{ v := V, recovered := false }] } : Frame) with defers := ds' } := rfl
    rw [hfrm]
    refine Go'.unmark (fr := { at' (Frame.enter P f vargs kind) tmps' [] todo with mode := .panicking [{ v := V, recovered := false }] }) (fun ds => by simp) r.df r.hp hun fun w2 hH2 => ?_
    exact hcont (.panic v) _ c' w2 _ hp hH2 x hg.1 hg.2 ⟨rfl, rfl, rfl, fn, V, hf, hV, rfl⟩
def ModeA (c : Cx) : Option AV → FrameMode → Prop
  | none, m => m = .returning
  | some v, m => ∃ V, VR c v V ∧ m = .panicking [{ v := V, recovered := false }]
def RecA (P : Program) (g : FuncId) (args : List AV) (h : List Blk) (rec : Option AV) (Post : List Blk → Prop) : Prop :=
  ∀ (main : Bool) (Stop : Cx → Goroutine → World → Prop) (fr : Frame) (cs : List Frame) (c : Cx) (w : World) (vargs : Array Value), ModeA c rec fr.mode → VRL c args vargs.toList → HR c w h → c.com.todo = [] →
    (∀ h' c' w', Post h' → HR c' w' h' → Ext c c' → c'.com.out = c.com.out → c'.com.todo = [] → Go' P main Stop c' (G { fr with mode := .returning } cs) w') →
    Go' P main Stop c (G (Frame.enter P g vargs .deferred) (fr :: cs)) w
def recQ (n0 : Nat) (Post : List Blk → Prop) : AExit → AS → Prop
  | .normal, s | .ret, s => s.df = [] ∧ s.gh = {} ∧ (s.hp.take n0).all (belowBlk n0) = true ∧ Post (s.hp.take n0)
  | _, _ => False
theorem RecA.of_body {P : Program} {g : FuncId} {fn : Func} {id : Nat} {ops : Array Oper} {rest : Code} {o : Oper} {dst : Tmp} {args : List AV} {h : List Blk} {rec : Option AV} {Post : List Blk → Prop} (hf : P.funcs[g]? = some fn) (hb : fn.body = some (.seq (.region id ops false) rest)) (hres : fn.results = #[])
    (ho : ops[0]? = some o) (hop : o.op = .call { callee := .builtin .recover, args := #[], argTypes := #[] }) (hog : o.guard = none) (hod : o.dst = some dst)
    (hw : h.all (belowBlk h.length) = true → WPI P ⟨g, false, h.length⟩ [.inRegion ops (List.range' 1 (ops.size - 1)), .code rest] (recQ h.length Post) { sl := (args ++ List.replicate (fn.ntmps - args.length) (AV.tup [])).set dst (rec.getD .niliface), df := [], hp := h }) : RecA P g args h rec Post := by
  intro main Stop fr cs c w vargs hmode hv hH htodo hcont
  have hbel : h.all (belowBlk h.length) = true := List.all_eq_true.2 fun b hb => by obtain ⟨i, hi⟩ := List.mem_iff_getElem?.1 hb; exact hH.below hi
  generalize hfr0 : Frame.enter P g vargs .deferred = b0
  have hkind : b0.kind = .deferred := by rw [← hfr0]; rfl
  have hro : b0.roundOf = none := by rw [← hfr0]; rfl
  have hfn : b0.fn = g := by rw [← hfr0]; rfl
  have hb0 : b0 = at' b0 (vargs ++ Array.replicate (fn.ntmps - vargs.size) undef) [] [.code (.seq (.region id ops false) rest)] := by
    rw [← hfr0]; simp [Frame.enter, at', hf, hb]
  rw [hb0]
  have hsz : vargs.size = args.length := by have := hv.length; simpa using this
  have hrep : ∀ n, VRL c (List.replicate n (.tup [])) (List.replicate n undef) := by
    intro n
    induction n with
    | zero => rfl
    | succ n ih => exact ⟨_, _, rfl, ⟨[], rfl, rfl⟩, ih⟩
  have hsl : VRL c (args ++ List.replicate (fn.ntmps - args.length) (.tup [])) (vargs ++ Array.replicate (fn.ntmps - vargs.size) undef).toList := by
    simp only [Array.toList_append, Array.toList_replicate]; rw [hsz]; exact hv.append (hrep _)
  have hops : List.range ops.size = 0 :: List.range' 1 (ops.size - 1) := by
    have : 0 < ops.size := (Array.getElem?_eq_some_iff.1 ho).1
    rw [List.range_eq_range', show ops.size = (ops.size - 1) + 1 by omega, List.range'_succ]
    simp
  refine Go'.idle (g' := G (at' b0 (vargs ++ Array.replicate (fn.ntmps - vargs.size) undef) [] [.code (.region id ops false), .code rest]) (fr :: cs)) rfl rfl (fun w1 => by simp [G, stepG, stepG.exec, at']) ?_
  refine Go'.idle (g' := G (at' b0 (vargs ++ Array.replicate (fn.ntmps - vargs.size) undef) [] [.inRegion ops (0 :: List.range' 1 (ops.size - 1)), .code rest]) (fr :: cs)) rfl rfl (fun w1 => by simp [G, stepG, stepG.exec, at', hops]) ?_
  have hcase : ∃ (R : Value) (fr2 : Frame), VR c (rec.getD .niliface) R ∧ (∃ m, fr2 = { fr with mode := m } ∧ (m = .returning ∨ ∃ V, m = .panicking [{ v := V, recovered := true }])) ∧
      ∀ w1, stepG P main (G (at' b0 (vargs ++ Array.replicate (fn.ntmps - vargs.size) undef) [] [.inRegion ops (0 :: List.range' 1 (ops.size - 1)), .code rest]) (fr :: cs)) w1 =
        .go (G (at' b0 (putV (vargs ++ Array.replicate (fn.ntmps - vargs.size) undef) o.dst R) [] [.inRegion ops (List.range' 1 (ops.size - 1)), .code rest]) (fr2 :: cs)) w1 #[] := by
    have hstep : ∀ w1, stepG P main (G (at' b0 (vargs ++ Array.replicate (fn.ntmps - vargs.size) undef) [] [.inRegion ops (0 :: List.range' 1 (ops.size - 1)), .code rest]) (fr :: cs)) w1 =
        stepG.apply P true (at' b0 (vargs ++ Array.replicate (fn.ntmps - vargs.size) undef) [] [.inRegion ops (0 :: List.range' 1 (ops.size - 1)), .code rest]) (fr :: cs) none (execOp (at' b0 (vargs ++ Array.replicate (fn.ntmps - vargs.size) undef) [] [.inRegion ops (0 :: List.range' 1 (ops.size - 1)), .code rest]).eval o) w1 :=
      fun w1 => stepG_opA ho (by simp [Region.wanted, hog]) (by rw [hop]; rfl)
    have hfin : ∀ V, (at' b0 (vargs ++ Array.replicate (fn.ntmps - vargs.size) undef) [] [.inRegion ops (0 :: List.range' 1 (ops.size - 1)), .code rest]).finish V =
        at' b0 (putV (vargs ++ Array.replicate (fn.ntmps - vargs.size) undef) o.dst V) [] [.inRegion ops (List.range' 1 (ops.size - 1)), .code rest] := fun V => by rw [finish_at', ho]; rfl
    generalize hfb : at' b0 (vargs ++ Array.replicate (fn.ntmps - vargs.size) undef) [] [.inRegion ops (0 :: List.range' 1 (ops.size - 1)), .code rest] = fb at hstep hfin
    have k1 : fb.kind = .deferred := by rw [← hfb]; exact hkind
    have k2 : fb.roundOf = none := by rw [← hfb]; exact hro
    have hrun : ∀ w1, (execOp fb.eval o).runT P w1 #[] = (.ok .recover w1, #[]) := by
      intro w1
      simp only [execOp, hop, resolve]
      rfl
    cases rec with
    | none =>
      have hm : fr.mode = .returning := hmode
      refine ⟨.nilIface, fr, rfl, ⟨.returning, by rw [← hm], .inl rfl⟩, fun w1 => ?_⟩
      rw [hstep, ← hfin]
      have htr : tryRecover fb (fr :: cs) = none := by unfold tryRecover; rw [k1]; simp only [hm]
      simp only [stepG.apply, if_true, hrun, k1, k2, htr, GStep.after]
      simp [G, seen]
    | some v =>
      obtain ⟨V, hV, hm⟩ := hmode
      refine ⟨V, { fr with mode := .panicking [{ v := V, recovered := true }] }, hV, ⟨_, rfl, .inr ⟨V, rfl⟩⟩, fun w1 => ?_⟩
      rw [hstep, ← hfin]
      have htr : tryRecover fb (fr :: cs) = some (V, { fr with mode := .panicking [{ v := V, recovered := true }] } :: cs) := by unfold tryRecover; rw [k1]; simp only [hm]
      simp only [stepG.apply, if_true, hrun, k1, k2, htr, GStep.after]
      simp [G, seen]
  obtain ⟨R, fr2, hR, ⟨m, rfl, hm⟩, hst⟩ := hcase
  refine Go'.idle rfl rfl hst ?_
  have hsr : SR c.com.out c w { sl := (args ++ List.replicate (fn.ntmps - args.length) (AV.tup [])).set dst (rec.getD .niliface), df := [], hp := h } (putV (vargs ++ Array.replicate (fn.ntmps - vargs.size) undef) o.dst R) [] := by
    refine ⟨?_, rfl, hH, ⟨[], rfl, rfl⟩, htodo⟩
    have := hsl.put o.dst hR
    rw [hod] at this ⊢
    exact this
  refine hw hbel main Stop b0 [] ({ fr with mode := m } :: cs) c.com.out c w _ [] ⟨hfn, fun _ => hro⟩ (by rw [hkind]; simp) hsr ?_
  intro e s' c' w' tmps' ds' q r xT
  have x : Ext c c' := xT.ofT (by rw [← hH.len]; exact Nat.le_refl _)
  have ret : ∀ (todo todo' : List Item), (∀ w1, stepG P main (G (at' b0 tmps' ds' todo) ({ fr with mode := m } :: cs)) w1 = .go (G { at' b0 tmps' ds' todo' with mode := .returning } ({ fr with mode := m } :: cs)) w1 #[]) →
      (s'.df = [] ∧ s'.gh = {} ∧ (s'.hp.take h.length).all (belowBlk h.length) = true ∧ Post (s'.hp.take h.length)) → Go' P main Stop c' (G (at' b0 tmps' ds' todo) ({ fr with mode := m } :: cs)) w' := by
    rintro todo todo' hstep ⟨hdf, hgh, hbh, hp⟩
    have hg := neutral_of r.gh hgh
    have hds : ds' = [] := by have := r.df; rw [hdf] at this; exact this
    subst hds
    refine Go'.idle rfl rfl hstep ?_
    have hst2 : ∀ w1, stepG P main (G { at' b0 tmps' [] todo' with mode := .returning } ({ fr with mode := m } :: cs)) w1 = .go (G { fr with mode := .returning } cs) w1 #[] := by
      intro w1
      have hr : (results fn tmps').runT P w1 #[] = (.ok (.tuple #[]) w1, #[]) := by unfold results; rw [hres, Array.mapM_eq_mapM_toList]; rfl
      rcases hm with rfl | ⟨V, rfl⟩
      · simp [G, stepG, unwind, at', hfn, hf, hr, doReturn, hkind, GStep.after, seen, -Sem.runT_eq]
      · simp [G, stepG, unwind, at', hfn, hf, hr, doReturn, hkind, GStep.after, seen, -Sem.runT_eq]
    refine Go'.idle rfl rfl hst2 ?_
    have hgh2 : Gh c' (c'.take h.length) := ⟨rfl, fun _ h => h, fun _ _ h => .inl h, fun _ _ h => h⟩
    refine .ghost hgh2 ?_
    exact hcont _ (c'.take h.length) w' hp (r.hp.take hbh) (x.take (by rw [← hH.len]; exact Nat.le_refl _)) hg.1 hg.2
  cases e with
  | normal => exact ret [] [] (fun w1 => by simp [G, stepG, stepG.exec, at', hro]) q
  | ret => exact fun k' => ret (.code .ret :: k') (.code .ret :: k') (fun w1 => by simp [G, stepG, stepG.exec, at', hro]) q
  | exit id => exact q.elim
  | goto l => exact q.elim
  | panic v => exact q.elim
def bodyR (P : Program) (fn : Func) (n0 : Nat) (Post : AEnd → List Blk → Prop) : AExit → AS → Prop
  | .normal, s | .ret, s => s.gh = {} ∧ ∃ g cap, s.df = [.call (.func g) cap []] ∧ callable P g ∧ RecA P g cap s.hp none fun h1 => ∃ v n, resA P fn s.sl h1 = some v ∧ n0 ≤ n ∧ below n v = true ∧ (h1.take n).all (belowBlk n) = true ∧ Post (.ret v) (h1.take n)
  | .panic x, s => s.gh = {} ∧ ∃ g cap, s.df = [.call (.func g) cap []] ∧ callable P g ∧ RecA P g cap s.hp (some x) fun h1 => ∃ v n, resA P fn s.sl h1 = some v ∧ n0 ≤ n ∧ below n v = true ∧ (h1.take n).all (belowBlk n) = true ∧ Post (.ret v) (h1.take n)
  | _, _ => False
theorem CallsA.of_bodyR {P : Program} {f : FuncId} {fn : Func} {code : Code} {args : List AV} {h : List Blk} {Post : AEnd → List Blk → Prop} (hf : P.funcs[f]? = some fn) (hb : fn.body = some code)
    (hw : h.all (belowBlk h.length) = true → belowL h.length args = true → WP P ⟨f, false, h.length⟩ code (Mac.turnQ h.length (bodyR P fn h.length Post)) { sl := args ++ List.replicate (fn.ntmps - args.length) (.tup []), df := [], hp := h }) : CallsA P f args h Post := by
  intro main Stop cs c w vargs kind hk hv hH htodo hcont
  have hbel : h.all (belowBlk h.length) = true := List.all_eq_true.2 fun b hb => by obtain ⟨i, hi⟩ := List.mem_iff_getElem?.1 hb; exact hH.below hi
  have harg : belowL h.length args = true := by rw [hH.len]; exact VRL.below _ _ hv
  have hent : Frame.enter P f vargs kind = at' (Frame.enter P f vargs kind) (vargs ++ Array.replicate (fn.ntmps - vargs.size) undef) [] ([.code code] ++ []) := by
    simp [Frame.enter, at', hf, hb]
  rw [hent]
  have hsz : vargs.size = args.length := by have := hv.length; simpa using this
  have hrep : ∀ n, VRL c (List.replicate n (.tup [])) (List.replicate n undef) := by
    intro n
    induction n with
    | zero => rfl
    | succ n ih => exact ⟨_, _, rfl, ⟨[], rfl, rfl⟩, ih⟩
  have hsr : SR c.com.out c w { sl := args ++ List.replicate (fn.ntmps - args.length) (.tup []), df := [], hp := h } (vargs ++ Array.replicate (fn.ntmps - vargs.size) undef) [] :=
    ⟨by simp only [Array.toList_append, Array.toList_replicate]; rw [hsz]; exact hv.append (hrep _), rfl, hH, ⟨[], rfl, rfl⟩, htodo⟩
  refine (hw hbel harg).turnQ main Stop (Frame.enter P f vargs kind) [] cs c.com.out c w _ [] ⟨rfl, fun _ => rfl⟩ hk hsr ?_
  intro e s' c' w' tmps' ds' q r xT
  have x : Ext c c' := xT.ofT (by rw [← hH.len]; exact Nat.le_refl _)
  have out : ∀ (rec : Option AV) (todo : List Item) (m : FrameMode), ModeA c' rec m → (s'.gh = {} ∧ ∃ g cap, s'.df = [.call (.func g) cap []] ∧ callable P g ∧ RecA P g cap s'.hp rec fun h1 => ∃ v n, resA P fn s'.sl h1 = some v ∧ h.length ≤ n ∧ Mac.below n v = true ∧ (h1.take n).all (belowBlk n) = true ∧ Post (.ret v) (h1.take n)) →
      Go' P main Stop c' (G { at' (Frame.enter P f vargs kind) tmps' ds' todo with mode := m } cs) w' := by
    rintro rec todo m hm ⟨hgh, g, cap, hdf, ⟨fg, hg1, hg2, hg3⟩, hrec⟩
    have hn := neutral_of r.gh hgh
    have hd := r.df
    rw [hdf] at hd
    obtain ⟨d, ds2, rfl, ⟨l1, l2, rfl, hl1, hl2⟩, hnil⟩ := hd
    have hnil' : ds2 = [] := hnil
    subst hnil'
    have hl2' : l2 = [] := hl2
    subst hl2'
    have hnr : m ≠ .run := by
      cases rec with
      | none => have : m = .returning := hm; rw [this]; simp
      | some v => obtain ⟨V, _, e⟩ := hm; rw [e]; simp
    have hst : ∀ w1, stepG P main (G { at' (Frame.enter P f vargs kind) tmps' [({ target := .fn (.func g) l1.toArray, args := [].toArray } : Deferred)] todo with mode := m } cs) w1 =
        .go (G (Frame.enter P g l1.toArray .deferred) ({ at' (Frame.enter P f vargs kind) tmps' [] todo with mode := m } :: cs)) w1 #[] := by
      intro w1
      have hu : stepG P main (G { at' (Frame.enter P f vargs kind) tmps' [({ target := .fn (.func g) l1.toArray, args := [].toArray } : Deferred)] todo with mode := m } cs) w1 =
          unwind P main { at' (Frame.enter P f vargs kind) tmps' [({ target := .fn (.func g) l1.toArray, args := [].toArray } : Deferred)] todo with mode := m } cs none w1 := by
        simp only [G, stepG]
      rw [hu]
      have hrun : (invoke (.fn (.func g) l1.toArray) [].toArray).runT P w1 #[] = (.ok (.enter g l1.toArray) w1, #[]) := by
        have he : invoke (.fn (.func g) l1.toArray) [].toArray = callFunc g ([].toArray ++ l1.toArray) := rfl
        rw [he, show ([] : List Value).toArray ++ l1.toArray = l1.toArray by simp]
        unfold callFunc
        show Sem.runT P (match P.funcs[g]? with
          | none => _
          | some fn => _) w1 #[] = _
        rw [hg1]
        have hbn : fg.body.isNone = false := by cases hbb : fg.body with | none => rw [hbb] at hg3; cases hg3 | some _ => rfl
        simp only [hg2, Bool.false_eq_true, if_false, hbn]
        rfl
      simp only [unwind, at']
      simp only [callDeferred]
      rw [if_neg (by simp), hrun]
      simp [GStep.after, seen, G]
    refine Go'.idle rfl rfl hst ?_
    refine hrec main Stop { at' (Frame.enter P f vargs kind) tmps' [] todo with mode := m } cs c' w' l1.toArray hm hl1 r.hp hn.2 fun h1 c2 w2 hp hH2 x2 o1 o2 => ?_
    obtain ⟨v, n, hres, hnn, hbv, hbh, hpost⟩ := hp
    obtain ⟨V, hV, hok⟩ := ok_results (P := P) (r.sl.ext x2) hH2 hres
    have hle : c.own.length ≤ n := by rw [← hH.len]; exact hnn
    have hgh2 : Gh c2 (c2.take n) := ⟨rfl, fun _ h => h, fun _ _ h => .inl h, fun _ _ h => h⟩
    refine .ghost hgh2 ?_
    exact hcont (.ret v) _ (c2.take n) w2 { at' (Frame.enter P f vargs kind) tmps' [] todo with mode := .returning } hpost (hH2.take hbh) ((x.trans x2).take hle) (o1.trans hn.1) o2
      ⟨rfl, rfl, rfl, rfl, fn, V, hf, VR.take v V hbv hV, fun w1 r1 => Ok.congr (c := c2) (c' := c2.take n) rfl rfl (hok w1 ⟨r1.size, r1.mine, r1.imm, r1.os, r1.output, r1.tape, r1.chans⟩)⟩
  cases e with
  | normal => exact Go'.idle rfl rfl (fun w1 => by simp [G, stepG, stepG.exec, at', Frame.enter]) (out none [] .returning rfl q)
  | ret => exact fun k' => Go'.idle rfl rfl (fun w1 => by simp [G, stepG, stepG.exec, at', Frame.enter]) (out none (.code .ret :: k') .returning rfl q)
  | exit id => exact q.elim
  | goto l => exact q.elim
  | panic v => exact fun V todo hV => out (some v) todo _ ⟨V, hV, rfl⟩ q
section
variable {P : Program} {fk : FK} {Q : AExit → AS → Prop} {s : AS} {ops : Array Oper} {i : Nat} {rest : List Nat} {o : Oper}
theorem WPI.defer {f : Operand} {ats : Array TypeId} {g : FuncId} {cap : List AV} (hrnd : fk.rnd = false) (ho : ops[i]? = some o) (hop : o.op = .defer { callee := .value f, args := #[], argTypes := ats }) (hog : o.guard = none) (hf : evA s.sl f = .fn (.func g) [] cap)
    (h : WPI P fk [.inRegion ops rest] Q { s with sl := putA s.sl o.dst (.tup []), df := .call (.func g) cap [] :: s.df }) : WPI P fk [.inRegion ops (i :: rest)] Q s := by
  intro main Stop b k cs base c w tmps ds h1 h2 h3 h4
  generalize hfr : at' b tmps ds (.inRegion ops (i :: rest) :: k) = fr
  have hρ : VR c (evA s.sl f) (fr.eval f) := by rw [← hfr]; exact VR_evA h3.sl b ds _ f
  rw [hf] at hρ
  obtain ⟨L1, L2, hF, hL1, hL2⟩ := hρ
  have hL1' : L1 = [] := hL1
  subst hL1'
  have hro : b.roundOf = none := h1.2 hrnd
  have hst : ∀ w1, stepG P main (G fr cs) w1 = .go (G (at' b (putV tmps o.dst undef) (({ target := .fn (.func g) L2.toArray, args := #[] } : Deferred) :: ds) (.inRegion ops rest :: k)) cs) w1 #[] := by
    intro w1
    have hs : stepG P main (G fr cs) w1 = stepG.apply P true fr cs none (execOp fr.eval o) w1 := by
      rw [← hfr]
      simp only [G, stepG, at', stepG.exec, ho, Option.map_some, Region.wanted, hog, Option.getD_some, if_true, stepG.oper, Frame.oper?, hro]
    rw [hs]
    have hrun : (execOp fr.eval o).runT P w1 #[] = (.ok (.defer { target := .fn (.func g) L2.toArray, args := #[] }) w1, #[]) := by
      simp only [execOp, hop, resolve, hF, Deferred.ofValue]
      simp
    have hkind : (fr.kind == CallKind.early) = false := by rw [← hfr]; simpa [at'] using h2
    have htd : fr.todo = .inRegion ops (i :: rest) :: k := by rw [← hfr]; rfl
    have hfin : ({ fr with defers := ({ target := .fn (.func g) L2.toArray, args := #[] } : Deferred) :: fr.defers } : Frame).finish undef = at' b (putV tmps o.dst undef) (({ target := .fn (.func g) L2.toArray, args := #[] } : Deferred) :: ds) (.inRegion ops rest :: k) := by
      have := finish_at' b tmps (({ target := .fn (.func g) L2.toArray, args := #[] } : Deferred) :: ds) ops i rest k undef
      rw [ho] at this
      rw [← hfr]
      exact this
    simp only [stepG.apply, if_true, hrun, hkind, Bool.false_eq_true, if_false, GStep.after, hfin]
    simp [G, seen]
  rw [List.singleton_append, hfr]
  refine Go'.idle (by rfl) rfl hst ?_
  exact h main Stop b k cs base c w _ _ h1 h2 ⟨h3.sl.put o.dst ⟨[], rfl, rfl⟩, ⟨_, _, rfl, ⟨L2, [], rfl, hL2, rfl⟩, h3.df⟩, h3.hp, h3.gh⟩ h4
end
end Go.Mac

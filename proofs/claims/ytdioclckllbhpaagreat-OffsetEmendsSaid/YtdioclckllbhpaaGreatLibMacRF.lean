/- A part of the logic and of the contracts of the functions that the statement reaches; the statement itself is proved in the last text. -/
import Derived.Test.YtdioclckllbhpaaGreatLibMacS

set_option linter.all false
set_option linter.unusedVariables false
set_option linter.unusedSimpArgs false
set_option linter.unnecessarySimpa false
namespace Go.Mac
open Go Go.Conc
def setParams : List AV → List Tmp → List AV → List AV
  | sl, t :: ts, a :: as => setParams (sl.set t a) ts as
  | sl, _, _ => sl
theorem VRL.params {c : Cx} : ∀ {ts : List Tmp} {as : List AV} {vs : List Value} {sl : List AV} {tm : Array Value}, VRL c sl tm.toList → VRL c as vs → VRL c (setParams sl ts as) ((ts.zip vs).foldl (fun tmps (t, a) => tmps.setIfInBounds t a) tm).toList
  | [], _, _, _, _, h, _ => by simpa [setParams] using h
  | t :: ts, [], _, _, _, h, h' => by cases h'; simpa [setParams] using h
  | t :: ts, a :: as, _, sl, tm, h, h' => by
    obtain ⟨v, vs, rfl, h1, h2⟩ := h'
    simp only [setParams, List.zip_cons_cons, List.foldl_cons]
    exact VRL.params (by simp only [Array.toList_setIfInBounds]; exact h.set t h1) h2
theorem roundTmps_list (r : Loop) (vargs : Array Value) : roundTmps r vargs = (r.params.toList.zip vargs.toList).foldl (fun tmps (t, a) => tmps.setIfInBounds t a) r.tmps := by
  unfold roundTmps
  rw [← Array.foldl_toList, Array.toList_zip]
def roundEnd (n : Nm) (n0 : Nat) (Post : AEnd → List Blk → Prop) (jump : Option Code) (s : AS) : Prop :=
  s.df = [] ∧ s.gh = {} ∧ n.id < n0 ∧ ∃ st pend fn sl ps a b, s.hp[n.id]? = some (.loop st pend fn sl ps a b) ∧
    (s.hp.take n0).all (belowBlk n0) = true ∧ Post (.ret (.bool jump.isNone)) ((s.hp.set n.id (.loop (if jump.isNone then .ready else .done) jump fn sl ps a b)).take n0)
def roundQ (n : Nm) (n0 : Nat) (Post : AEnd → List Blk → Prop) : AExit → AS → Prop
  | .normal, s => roundEnd n n0 Post none s
  | .exit id, s => roundEnd n n0 Post (some (.exit id)) s
  | .goto l, s => roundEnd n n0 Post (some (.goto l)) s
  | .ret, s => roundEnd n n0 Post (some .ret) s
  | .panic v, s => s.df = [] ∧ s.gh = {} ∧ Post (.panic v) s.hp
theorem neutral_of {base : List (Nat × Value)} {c : Cx} {s : Gst} (h : CR base c s) (hg : s = {}) : c.com.out = base ∧ c.com.todo = [] := by
  obtain ⟨⟨M, h1, h2⟩, h3⟩ := h
  rw [hg] at h2 h3
  cases h2
  exact ⟨by simpa using h1, h3⟩
theorem Cx.LoopAt.ext {c c' : Cx} {w w' : World} {h : List Blk} {n : Nm} {l : Nat} {r : Loop} {st : LoopState} {pend : Option Code} {fn : FuncId} {sl : List AV} {ps : Array Tmp} {a b : Code} (hl : c.LoopAt w n l r) (hx : Ext c c') (hH : HR c' w' h) (hb : h[n.id]? = some (.loop st pend fn sl ps a b)) :
    ∃ r', c'.LoopAt w' n l r' ∧ r'.state = st ∧ r'.pending = pend ∧ r'.fn = fn ∧ r'.params = ps ∧ r'.assign = a ∧ r'.body = b ∧ VRL c' sl r'.tmps.toList := by
  obtain ⟨l', r', hat, e⟩ := hH.loopAt hb hl.1
  obtain ⟨g, ⟨e0, k, h1, h2, h3⟩, _⟩ := hl
  obtain ⟨_, ⟨e1, k1, h4, h5, h6⟩, _⟩ := id hat
  obtain ⟨e2, h7, h8, h9⟩ := hx.own _ _ h1
  rw [h4] at h7
  cases h7
  have := h9 (by rw [h2, h5])
  rw [h3, h6] at this
  cases this
  exact ⟨r', hat, e⟩
theorem HR.loopSet {c : Cx} {w : World} {h : List Blk} {n : Nm} {l : Nat} {r r' : Loop} {st st' : LoopState} {pend pend' : Option Code} {fn : FuncId} {sl : List AV} {ps : Array Tmp} {a b : Code} (x : HR c w h) (hl : c.LoopAt w n l r) (hb : h[n.id]? = some (.loop st pend fn sl ps a b))
    (hr : r' = { r with state := st', pending := pend' }) (hs : r.fn = fn ∧ r.params = ps ∧ r.assign = a ∧ r.body = b ∧ VRL c sl r.tmps.toList) :
    HR c { w with heap := w.heap.setIfInBounds l (.loop r') } (h.set n.id (.loop st' pend' fn sl ps a b)) := by
  obtain ⟨_, ⟨e, k, h1, h2, h3⟩, h4, h5⟩ := hl
  have hlt := (Array.getElem?_eq_some_iff.1 h5).1
  refine x.update h1 hb rfl h3 h4 (by simp) (fun b hb => by simp [Ne.symm hb]) ⟨h2, l, k, r.tmps, r.defers, h3, h4, ?_, hs.2.2.2.2⟩
  subst hr
  simp [hlt, ← hs.1, ← hs.2.1, ← hs.2.2.1, ← hs.2.2.2.1]
theorem YieldA.of_round {P : Program} {n : Nm} {args : List AV} {h : List Blk} {Post : AEnd → List Blk → Prop} {pend : Option Code} {fn : FuncId} {slots : List AV} {params : Array Tmp} {assign body : Code} (hfs : (P.funcs[fn]?).isSome = true) (hb : h[n.id]? = some (.loop .ready pend fn slots params assign body)) (hg : n.gen = 0)
    (hw : WP P ⟨fn, true, h.length⟩ assign (fun e s1 => match e with
      | .normal => s1.df = [] ∧ ∃ p2 f2 sl2 ps2 a2 b2, s1.hp[n.id]? = some (.loop .ready p2 f2 sl2 ps2 a2 b2) ∧ WP P ⟨fn, true, h.length⟩ body (Mac.turnQ h.length (roundQ n h.length Post)) { s1 with hp := s1.hp.set n.id (.loop .busy p2 f2 sl2 ps2 a2 b2) }
      | _ => False) { sl := setParams slots params.toList args, df := [], hp := h }) : YieldA P n args h Post := by
  intro main Stop fr cs c w vargs l r hv hH htodo hat hcont
  obtain ⟨r', hat', e1, e2, e3, e4, e5, e6, e7⟩ := hat.ext (Ext.refl c) hH hb
  have hrr : r' = r := by
    have h1 := hat.2.2.2
    have h2 := hat'.2.2.2
    rw [h1] at h2
    simpa using h2.symm
  subst hrr
  generalize hfr : Frame.round l r'.fn (roundTmps r' vargs) r'.assign r'.body .normal = b0
  have hkind : b0.kind ≠ .early := by rw [← hfr]; simp [Frame.round]
  have hkn : b0.kind = .normal := by rw [← hfr]; rfl
  have hro : b0.roundOf = some l := by rw [← hfr]; rfl
  have hfn : b0.fn = fn := by rw [← hfr, ← e3]; rfl
  have hb0 : b0 = at' b0 (roundTmps r' vargs) [] ([.code assign] ++ [.beginRound, .code body]) := by rw [← hfr, ← e5, ← e6]; rfl
  rw [hb0]
  have hnl : n.id < h.length := (List.getElem?_eq_some_iff.1 hb).1
  have hsr : SR c.com.out c w { sl := setParams slots params.toList args, df := [], hp := h } (roundTmps r' vargs) [] :=
    ⟨by rw [roundTmps_list, e4]; exact VRL.params e7 hv, rfl, hH, ⟨[], rfl, rfl⟩, htodo⟩
  refine hw main Stop b0 [.beginRound, .code body] (fr :: cs) c.com.out c w _ [] ⟨hfn, fun q => by cases q⟩ hkind hsr ?_
  intro e s1 c1 w1 tmps1 ds1 q r1 x1T
  have x1 : Ext c c1 := x1T.ofT (by rw [← hH.len]; exact Nat.le_refl _)
  cases e with
  | exit id => exact q.elim
  | goto l => exact q.elim
  | ret => exact q.elim
  | panic v => exact q.elim
  | normal =>
    obtain ⟨hdf, p2, f2, sl2, ps2, a2, b2, hb2, hbody⟩ := q
    have hds : ds1 = [] := by have := r1.df; rw [hdf] at this; exact this
    subst hds
    refine Go'.of_step rfl fun w2 ry => ?_
    have hH2 := r1.hp.rely ry
    obtain ⟨r2, hat2, g1, g2, g3, g4, g5, g6, g7⟩ := hat.ext x1 hH2 hb2
    have hok : Ok P c1 w2.heap.size (do (at' b0 tmps1 [] [.beginRound, .code body]).roundOf.elim (stuck "beginRound: no round") Instr.beginRound; pure .skip : Sem Next) w2 (fun q => q = .ok .skip { w2 with heap := w2.heap.setIfInBounds l (.loop { r2 with state := .busy }) }) := by
      have hro' : (at' b0 tmps1 [] [.beginRound, .code body]).roundOf = some l := hro
      simp only [hro', Option.elim_some]
      refine Ok.then' (R := fun _ w' => w' = { w2 with heap := w2.heap.setIfInBounds l (.loop { r2 with state := .busy }) }) ?_ fun _ w' e => by subst e; exact ok_pure rfl
      unfold Instr.beginRound Instr.getLoop
      refine Ok.then (a := r2) ?_ ?_
      · refine Ok.then (a := .loop r2) ⟨.inl hat2.2.2.1, .loop r2, hat2.2.2.2, trivial, rfl, rfl⟩ ?_
        exact ok_pure rfl
      · refine Ok.then' (R := fun _ w' => w' = { w2 with heap := w2.heap.setIfInBounds l (.loop { r2 with state := .busy }) }) ⟨.inl hat2.2.2.1, rfl, ⟨.loop r2, hat2.2.2.2, trivial⟩, ⟨_, _, rfl, rfl⟩⟩ fun _ w' e => ?_
        subst e
        rw [g1]
        exact ok_pure ⟨_, _, rfl, rfl⟩
    obtain ⟨qr, ev, kp⟩ := Ok.spec #[] hok (Nat.le_refl _)
    rw [qr] at ev kp
    have hkind' : ((at' b0 tmps1 [] [.beginRound, .code body]).kind == CallKind.early) = false := by simpa [at'] using hkind
    have hst : stepG P main (G (at' b0 tmps1 [] [.beginRound, .code body]) (fr :: cs)) w2 = .go (G (at' b0 tmps1 [] ([.code body] ++ [])) (fr :: cs)) { w2 with heap := w2.heap.setIfInBounds l (.loop { r2 with state := .busy }) }
        (seen P b0.fn ((do (at' b0 tmps1 [] [.beginRound, .code body]).roundOf.elim (stuck "beginRound: no round") Instr.beginRound; pure .skip : Sem Next).events P w2 #[])) := by
      have hstepG : stepG P main (G (at' b0 tmps1 [] [.beginRound, .code body]) (fr :: cs)) w2 = stepG.apply P true (at' b0 tmps1 [] [.beginRound, .code body]) (fr :: cs) none (do (at' b0 tmps1 [] [.beginRound, .code body]).roundOf.elim (stuck "beginRound: no round") Instr.beginRound; pure .skip) w2 := rfl
      rw [hstepG]
      generalize (do (at' b0 tmps1 [] [.beginRound, .code body]).roundOf.elim (stuck "beginRound: no round") Instr.beginRound; pure .skip : Sem Next) = se at qr
      have htd : (at' b0 tmps1 [] [.beginRound, .code body]).todo = [.beginRound, .code body] := rfl
      simp only [stepG.apply, htd, Sem.runT_eq, qr, hkind', if_true, GStep.after, Bool.false_eq_true, if_false]
      simp [G, Frame.finish, at']
    have hHs := hH2.loopSet (st' := .busy) (pend' := p2) (r' := { r2 with state := .busy }) hat2 hb2 (by rw [← g2]) ⟨g3, g4, g5, g6, g7⟩
    refine ⟨_, _, _, c1, hst, rfl, ⟨kp, fun _ h => .inl h, fun _ _ h => .inl h, fun _ _ h => h, fun x hx => ?_, fun _ h => .inl h, fun _ h => .inl h, fun _ h => h, rfl, rfl, rfl⟩, ?_⟩
    · rcases ev x (mem_seen hx) with h | h
      · simp at h
      · exact h
    have hsr2 : SR c.com.out c1 { w2 with heap := w2.heap.setIfInBounds l (.loop { r2 with state := .busy }) } { s1 with hp := s1.hp.set n.id (.loop .busy p2 f2 sl2 ps2 a2 b2) } tmps1 [] := ⟨r1.sl, by rw [hdf]; rfl, hHs, r1.gh⟩
    refine hbody.turnQ main Stop b0 [] (fr :: cs) c.com.out c1 _ tmps1 [] ⟨hfn, fun q => by cases q⟩ hkind hsr2 ?_
    intro e s3 c3 w3 tmps3 ds3 q3 r3 x3T
    have x3 : Ext c c3 := (x1.toT (h.length)).transT x3T |>.ofT (by rw [← hH.len]; exact Nat.le_refl _)
    have fin : ∀ (jump : Option Code) (todo : List Item), (∀ w4, stepG P main (G (at' b0 tmps3 ds3 todo) (fr :: cs)) w4 = (let (r, es) := (Instr.endRound l jump).runT P w4 #[]
        GStep.after (seen P b0.fn es) <| match r with
        | .ok v w => doReturn P main (at' b0 tmps3 ds3 todo) (fr :: cs) none v w
        | .halt _ w => .ended (.stuck "range over a function: no such loop" ((at' b0 tmps3 ds3 todo).pos P)) w)) →
        roundEnd n h.length Post jump s3 → Go' P main Stop c3 (G (at' b0 tmps3 ds3 todo) (fr :: cs)) w3 := by
      intro jump todo hstep hend
      obtain ⟨hdf3, hgh3, hn3, st3, p3, f3, sl3, ps3, a3, b3, hb3, hbel, hpost⟩ := hend
      have hn := neutral_of r3.gh hgh3
      refine Go'.of_step rfl fun w4 ry4 => ?_
      have hH4 := r3.hp.rely ry4
      obtain ⟨r4, hat4, k1, k2, k3, k4, k5, k6, k7⟩ := hat.ext x3 hH4 hb3
      have hok4 : Ok P c3 w4.heap.size (Instr.endRound l jump) w4 (fun q => q = .ok (.bool jump.isNone) { w4 with heap := w4.heap.setIfInBounds l (.loop { r4 with state := if jump.isNone then .ready else .done, pending := jump }) }) := by
        unfold Instr.endRound Instr.getLoop
        refine Ok.then (a := r4) ?_ ?_
        · refine Ok.then (a := .loop r4) ⟨.inl hat4.2.2.1, .loop r4, hat4.2.2.2, trivial, rfl, rfl⟩ ?_
          exact ok_pure rfl
        · refine Ok.then' (R := fun _ w' => w' = { w4 with heap := w4.heap.setIfInBounds l (.loop { r4 with state := if jump.isNone then .ready else .done, pending := jump }) }) ⟨.inl hat4.2.2.1, rfl, ⟨.loop r4, hat4.2.2.2, trivial⟩, ⟨_, _, rfl, rfl⟩⟩ fun _ w' e => ?_
          subst e
          exact ok_pure rfl
      obtain ⟨qr4, ev4, kp4⟩ := Ok.spec #[] hok4 (Nat.le_refl _)
      rw [qr4] at ev4 kp4
      have hst4 : stepG P main (G (at' b0 tmps3 ds3 todo) (fr :: cs)) w4 = .go (G (fr.finish (.bool jump.isNone)) cs) { w4 with heap := w4.heap.setIfInBounds l (.loop { r4 with state := if jump.isNone then .ready else .done, pending := jump }) } (seen P b0.fn ((Instr.endRound l jump).events P w4 #[])) := by
        rw [hstep w4]
        have hk' : (at' b0 tmps3 ds3 todo).kind = .normal := hkn
        simp only [Sem.runT_eq, qr4, doReturn, hk', GStep.after, G]
        simp
      have hHs4 := (hH4.loopSet (st' := if jump.isNone then .ready else .done) (pend' := jump) (r' := { r4 with state := if jump.isNone then .ready else .done, pending := jump }) hat4 hb3 rfl ⟨k3, k4, k5, k6, k7⟩)
      have hle : c.own.length ≤ h.length := by rw [← hH.len]; exact Nat.le_refl _
      refine ⟨_, _, _, c3.take h.length, hst4, rfl, ⟨kp4, fun _ h => .inl h, fun _ _ h => .inl h, fun _ _ h => h, fun x hx => ?_, fun _ h => .inl h, fun _ h => .inl h, fun _ h => h, rfl, rfl, rfl⟩, ?_⟩
      · rcases ev4 x (mem_seen hx) with h | h
        · simp at h
        · exact h
      refine hcont (.ret (.bool jump.isNone)) _ (c3.take h.length) _ hpost (hHs4.take ?_) (x3.take hle) hn.1 hn.2 _ rfl
      rw [List.take_set]
      refine List.all_eq_true.2 fun x hx => ?_
      rcases List.mem_or_eq_of_mem_set hx with hx | rfl
      · exact List.all_eq_true.1 hbel x hx
      · have : (s3.hp.take h.length)[n.id]? = some (.loop st3 p3 f3 sl3 ps3 a3 b3) := by rw [List.getElem?_take_of_lt hn3]; exact hb3
        have hx := List.all_eq_true.1 hbel _ (List.mem_of_getElem? this)
        exact hx
    have hds3 : ds3 = [] ∨ True := .inr trivial
    cases e with
    | normal => exact fin none [] (fun w4 => by simp only [G, stepG, stepG.exec, at', hro]; rfl) q3
    | exit id => exact fun k' hk => fin (some (.exit id)) _ (fun w4 => by
        have hx : exitTo id k' = none := by rw [hk]; rfl
        simp only [G, stepG, stepG.exec, at', hro, hx, Option.elim_none]; rfl) q3
    | goto lb => exact fun k' hk => fin (some (.goto lb)) _ (fun w4 => by
        have hx : gotoIn lb k' = none := by rw [hk]; rfl
        simp only [G, stepG, stepG.exec, at', hro, hx, Option.elim_none]; rfl) q3
    | ret => exact fun k' => fin (some .ret) _ (fun w4 => by simp only [G, stepG, stepG.exec, at', hro]; rfl) q3
    | panic v =>
      intro V todo hV
      obtain ⟨hdf3, hgh3, hpost⟩ := q3
      have hn := neutral_of r3.gh hgh3
      have hds : ds3 = [] := by have := r3.df; rw [hdf3] at this; exact this
      subst hds
      have hst : ∀ w4, stepG P main (G { at' b0 tmps3 [] todo with mode := .panicking [{ v := V, recovered := false }] } (fr :: cs)) w4 = .go (G (fr.raise [{ v := V, recovered := false }]) cs) w4 #[] := by
        intro w4
        have hc : ({ at' b0 tmps3 [] todo with mode := .panicking [{ v := V, recovered := false }] } : Frame).catches P = false := by
          obtain ⟨fn', hfn'⟩ := Option.isSome_iff_exists.1 hfs
          simp [Frame.catches, at', hfn, hfn']
        generalize hfp : ({ at' b0 tmps3 [] todo with mode := .panicking [{ v := V, recovered := false }] } : Frame) = fp at hc
        have h1 : fp.defers = [] := by rw [← hfp]; rfl
        have h2 : fp.mode = .panicking [{ v := V, recovered := false }] := by rw [← hfp]
        simp [G, stepG, unwind, h1, h2, hc]
      refine Go'.idle rfl rfl hst ?_
      exact hcont (.panic v) _ c3 w3 hpost r3.hp x3 hn.1 hn.2 V hV
end Go.Mac

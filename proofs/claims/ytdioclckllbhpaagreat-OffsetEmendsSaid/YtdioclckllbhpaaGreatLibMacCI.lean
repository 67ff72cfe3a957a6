/- A part of the logic and of the contracts of the functions that the statement reaches; the statement itself is proved in the last text. -/
import Derived.Conc.Quits
import Derived.Test.YtdioclckllbhpaaGreatLibMacCH

set_option linter.all false
set_option linter.unusedVariables false
set_option linter.unusedSimpArgs false
set_option linter.unnecessarySimpa false
namespace Go.Mac
open Go Go.Conc
def childOf (P : Program) (g : FuncId) (cap : Array Value) : Goroutine :=
  { frame := { (default : Frame) with fn := P.funcs.size, defers := [{ target := .fn (.func g) cap, args := #[] }], mode := .panicking [goexitEntry] }, callers := [], status := .running, dying := none }
def SendA (P : Program) (g : FuncId) (cap : List AV) (h : List Blk) (O : List (Nm × Value)) : Prop :=
  ∀ (c : Cx) (w : World) (vcap : Array Value), VRL c cap vcap.toList → HR c w h → c.com.todo = [] → MR c O c.com.out → Go' P false (fun _ _ _ => False) c (childOf P g vcap) w
def shareB : Blk → Blk
  | .chan g => .chan g
  | .role _ => .role false
  | _ => .dead
theorem MR.exists {c : Cx} {w : World} {h : List Blk} (hH : HR c w h) : ∀ {O : List (Nm × Value)}, (∀ m ∈ O, h[m.1.id]? = some (.chan m.1.gen)) → ∃ M, MR c O M ∧ M.length = O.length ∧ ∀ m ∈ M, c.com.chans m.1
  | [], _ => ⟨[], rfl, rfl, by simp⟩
  | m :: O, hm => by
    obtain ⟨M, h1, h2, h3⟩ := MR.exists hH fun x hx => hm x (List.mem_cons_of_mem _ hx)
    have hb := hm m List.mem_cons_self
    have hlt : m.1.id < c.own.length := by rw [← hH.len]; exact (List.getElem?_eq_some_iff.1 hb).1
    have he : c.own[m.1.id]? = some c.own[m.1.id] := by simp [hlt]
    obtain ⟨h0, b, k, hs, hc⟩ := hH.blk _ _ _ he hb
    refine ⟨(b, m.2) :: M, ⟨b, M, rfl, ⟨_, he, by omega, fun _ => ⟨k, hs⟩⟩, h1⟩, by simp [h2], ?_⟩
    intro x hx
    rcases List.mem_cons.1 hx with rfl | hx
    · exact hc
    · exact h3 x hx
theorem MRL.append {c : Cx} : ∀ {A : List (List (Nm × Value))} {T : List (List (Nat × Value))} {a : List (Nm × Value)} {t : List (Nat × Value)}, MRL c A T → MR c a t → MRL c (A ++ [a]) (T ++ [t])
  | [], _, _, t, h, h' => by cases h; exact ⟨t, [], rfl, h', rfl⟩
  | _ :: _, _, _, _, ⟨x, l', e, h1, h2⟩, h' => by subst e; exact ⟨x, _, rfl, h1, MRL.append h2 h'⟩
theorem DR.same {c c' : Cx} (x : Same c c') {a : ADef} {d : Deferred} (h : DR c a d) : DR c' a d := by
  cases a with
  | call f cap args => obtain ⟨l1, l2, e, h1, h2⟩ := h; exact ⟨l1, l2, e, h1.same x, h2.same x⟩
  | mark n =>
    have h' : c.At n fun s => ∃ b k, s = some (b, k) ∧ d = { target := .collected b, args := #[] } := h
    exact h'.same x
theorem DRL.same {c c' : Cx} (x : Same c c') : ∀ {as : List ADef} {ds : List Deferred}, DRL c as ds → DRL c' as ds
  | [], _, h => h
  | _ :: _, _, h => by obtain ⟨d, ds, e, h1, h2⟩ := h; exact ⟨d, ds, e, h1.same x, DRL.same x h2⟩
theorem MR.same {c c' : Cx} (x : Same c c') : ∀ {ms : List (Nm × Value)} {l : List (Nat × Value)}, MR c ms l → MR c' ms l
  | [], _, h => h
  | _ :: _, _, ⟨r, l', e, h1, h2⟩ => ⟨r, l', e, h1.same x, MR.same x h2⟩
theorem MRL.same {c c' : Cx} (x : Same c c') : ∀ {ms : List (List (Nm × Value))} {l : List (List (Nat × Value))}, MRL c ms l → MRL c' ms l
  | [], _, h => h
  | _ :: _, _, ⟨r, l', e, h1, h2⟩ => ⟨r, l', e, h1.same x, MRL.same x h2⟩
theorem HR.com {c : Cx} {w : World} {h : List Blk} (x : HR c w h) {m : Com} (e1 : m.main = c.com.main) (e2 : m.chans = c.com.chans) : HR { c with com := m } w h where
  len := x.len
  blk i e b h1 h2 := by
    have xx : Ext c { c with com := m } := ⟨fun _ e h => ⟨e, h, Nat.le_refl _, fun _ => rfl⟩, fun _ _ h => h, e1⟩
    exact BR.grow xx (fun r hr => by show m.chans r; rw [e2]; exact hr) (fun _ h => h) (fun _ _ => rfl) (x.blk i e b h1 h2)
  apart := x.apart
  mine := x.mine
  imm := x.imm
  chan r hr := x.chan r (by have : m.chans r := hr; rw [e2] at this; exact this)
section
variable {P : Program} {fk : FK} {Q : AExit → AS → Prop} {s : AS} {ops : Array Oper} {i : Nat} {rest : List Nat} {o : Oper}
theorem WPI.go {f : Operand} {ats : Array TypeId} {g : FuncId} {cap : List AV} {ri : Nat} (O : List (Nm × Value)) (hro : s.hp[ri]? = some (.role true)) (ho : ops[i]? = some o) (hop : o.op = .go { callee := .value f, args := #[], argTypes := ats }) (hog : o.guard = none) (hf : evA s.sl f = .fn (.func g) [] cap)
    (hO : O ≠ []) (hch : ∀ m ∈ O, s.hp[m.1.id]? = some (.chan m.1.gen)) (hs : SendA P g cap (s.hp.map shareB) O)
    (h : WPI P fk [.inRegion ops rest] Q { s with sl := putA s.sl o.dst (.tup []), gh := { s.gh with todo := s.gh.todo ++ [O] } }) : WPI P fk [.inRegion ops (i :: rest)] Q s := by
  intro main Stop b k cs base c w tmps ds h1 h2 h3 h4
  generalize hfr : at' b tmps ds (.inRegion ops (i :: rest) :: k) = fr
  have hρ : VR c (evA s.sl f) (fr.eval f) := by rw [← hfr]; exact VR_evA h3.sl b ds _ f
  rw [hf] at hρ
  obtain ⟨L1, L2, hF, hL1, hL2⟩ := hρ
  have hL1' : L1 = [] := hL1
  subst hL1'
  have hH := h3.hp
  have hrole : c.com.main = true := by
    have hlt : ri < c.own.length := by rw [← hH.len]; exact (List.getElem?_eq_some_iff.1 hro).1
    exact hH.blk ri c.own[ri] _ (by simp [hlt]) hro
  have hst : ∀ w1, stepG P main (G fr cs) w1 = .spawn (G (at' b (putV tmps o.dst undef) ds (.inRegion ops rest :: k)) cs) (childOf P g L2.toArray) w1 #[] := by
    intro w1
    have hs : stepG P main (G fr cs) w1 = stepG.apply P true fr cs none (execOp fr.eval o) w1 := by
      rw [← hfr]
      exact stepG_opA ho (by simp [Region.wanted, hog]) (by rw [hop]; rfl)
    rw [hs]
    have hrun : (execOp fr.eval o).runT P w1 #[] = (.ok (.spawn { target := .fn (.func g) L2.toArray, args := #[] }) w1, #[]) := by
      simp only [execOp, hop, resolve, hF, Deferred.ofValue]
      simp
    have hkind : (fr.kind == CallKind.early) = false := by rw [← hfr]; simpa [at'] using h2
    have hfin : fr.finish undef = at' b (putV tmps o.dst undef) ds (.inRegion ops rest :: k) := by rw [← hfr, finish_at', ho]; rfl
    simp only [stepG.apply, if_true, hrun, hkind, Bool.false_eq_true, if_false, GStep.after, hfin]
    simp [G, seen, childOf]
  rw [List.singleton_append, hfr]
  obtain ⟨M, m1, m2, m3⟩ := MR.exists hH hch
  have hM : M ≠ [] := by
    intro e
    rw [e] at m2
    exact hO (List.length_eq_zero_iff.1 m2.symm)
  let cc : Cx := { c with mine := fun _ => False, com := { main := false, chans := c.com.chans, out := M, todo := [] } }
  have hsame : Same c cc := ⟨rfl, fun _ _ h => h⟩
  have hHc : ∀ w1, RL c w w1 → HR cc w1 (s.hp.map shareB) := fun w1 r => by
    have hH1 := hH.rely r
    have lv : ∀ (b : Blk), (shareB b).live = true → ∃ g, b = .chan g := by
      intro b hb
      cases b <;> simp [shareB, Blk.live] at hb ⊢
    refine ⟨by simp [hH1.len, cc], ?_, ?_, fun b hb => hb.elim, fun b o hb => ⟨fun q => q, (hH1.imm b o hb).2⟩, fun r hr => ⟨fun q => q, (hH1.chan r hr).2⟩⟩
    · intro j e b' hj hb'
      rw [List.getElem?_map] at hb'
      cases hbj : s.hp[j]? with
      | none => rw [hbj] at hb'; cases hb'
      | some b0 =>
        rw [hbj] at hb'
        simp only [Option.map_some, Option.some.injEq] at hb'
        subst hb'
        have := hH1.blk j e b0 hj hbj
        cases b0 <;> first | trivial | exact this | rfl
    · intro j1 j2 e1 e2 b1 b2 y1 y2 hne g1 g2 g3 g4 l1 l2 s1 s2
      rw [List.getElem?_map] at g3 g4
      cases hb1 : s.hp[j1]? with
      | none => rw [hb1] at g3; cases g3
      | some b10 =>
        cases hb2 : s.hp[j2]? with
        | none => rw [hb2] at g4; cases g4
        | some b20 =>
          rw [hb1] at g3
          rw [hb2] at g4
          simp only [Option.map_some, Option.some.injEq] at g3 g4
          subst g3 g4
          obtain ⟨gg1, rfl⟩ := lv _ l1
          obtain ⟨gg2, rfl⟩ := lv _ l2
          exact hH1.apart j1 j2 e1 e2 _ _ y1 y2 hne g1 g2 hb1 hb2 rfl rfl s1 s2
  refine .spawn (cc := cc) (c' := { c with com := { c.com with todo := c.com.todo ++ [M] } }) (child := childOf P g L2.toArray) hrole rfl rfl rfl hst ⟨rfl, rfl, rfl, rfl, rfl, rfl, rfl⟩ ⟨fun b hb => hb, fun b o hb => ⟨hb, (hH.imm b o hb).1⟩, fun r hr => hr, rfl, hM, rfl, m3⟩ ?_ ?_
  · exact hs cc w L2.toArray (hL2.same hsame) (hHc w (RL.refl _ _)) rfl (m1.same hsame)
  · have hs2 : Same c { c with com := { c.com with todo := c.com.todo ++ [M] } } := ⟨rfl, fun _ _ h => h⟩
    refine h main Stop b k cs base { c with com := { c.com with todo := c.com.todo ++ [M] } } w _ ds h1 h2 ⟨?_, ?_, ?_, ?_⟩ ?_
    · exact (h3.sl.put o.dst (v := .tup []) (V := undef) ⟨[], rfl, rfl⟩).same hs2
    · exact h3.df.same hs2
    · exact hH.com rfl rfl
    · obtain ⟨⟨M0, q1, q2⟩, q3⟩ := h3.gh
      exact ⟨⟨M0, q1, q2.same hs2⟩, (q3.same hs2).append (m1.same hs2)⟩
    · intro e s' c2 w2 t2 d2 q r y
      exact h4 e s' c2 w2 t2 d2 q r ⟨y.own, y.imm, y.main⟩
theorem chan_seat {c : Cx} {w : World} {h : List Blk} (hH : HR c w h) {n : Nm} (hb : h[n.id]? = some (.chan n.gen)) {V : Value} (hV : VR c (.chan n) V) : ∃ r, V = .chan (some r) ∧ c.com.chans r ∧ c.At n fun s => ∃ k, s = some (r, k) := by
  have hlt : n.id < c.own.length := by rw [← hH.len]; exact (List.getElem?_eq_some_iff.1 hb).1
  have he : c.own[n.id]? = some c.own[n.id] := by simp [hlt]
  obtain ⟨h0, b, k, hs, hc⟩ := hH.blk _ _ _ he hb
  obtain ⟨b', k', q1, q2⟩ := At_some hV.2 he (by omega)
  rw [hs] at q1
  cases q1
  exact ⟨b, q2, hc, _, he, by omega, fun _ => ⟨k, hs⟩⟩
theorem At_uniq {c : Cx} {n : Nm} {r r' : Nat} (h : c.At n fun s => ∃ k, s = some (r, k)) (h' : c.At n fun s => ∃ k, s = some (r', k)) (hg : ∀ e, c.own[n.id]? = some e → n.gen = e.gen) : r = r' := by
  obtain ⟨e, he, _, p⟩ := h
  obtain ⟨e', he', _, p'⟩ := h'
  rw [he] at he'
  cases he'
  obtain ⟨k, hk⟩ := p (hg e he)
  obtain ⟨k', hk'⟩ := p' (hg e he)
  rw [hk] at hk'
  cases hk'
  rfl
theorem chan_gen {c : Cx} {w : World} {h : List Blk} (hH : HR c w h) {n : Nm} (hb : h[n.id]? = some (.chan n.gen)) : ∀ e, c.own[n.id]? = some e → n.gen = e.gen := fun e he => (hH.blk _ _ _ he hb).1.symm
theorem WPI.send {ch x : Operand} {n : Nm} {bv : Bool} {out : List (Nm × Value)} {ri : Nat} (hro : s.hp[ri]? = some (.role false)) (ho : ops[i]? = some o) (hop : o.op = .send ch x) (hog : o.guard = none) (hc : evA s.sl ch = .chan n) (hx : evA s.sl x = .bool bv)
    (hout : s.gh.out = (n, .bool bv) :: out) (hne : out ≠ []) (hlive : s.hp[n.id]? = some (.chan n.gen))
    (h : WPI P fk [.inRegion ops rest] Q { s with sl := putA s.sl o.dst (.tup []), gh := { s.gh with out := out } }) : WPI P fk [.inRegion ops (i :: rest)] Q s := by
  intro main Stop b k cs base c w tmps ds h1 h2 h3 h4
  generalize hfr : at' b tmps ds (.inRegion ops (i :: rest) :: k) = fr
  have hρ : ∀ x, VR c (evA s.sl x) (fr.eval x) := fun x => by rw [← hfr]; exact VR_evA h3.sl b ds _ x
  have hH := h3.hp
  have hrole : c.com.main = false := by
    have hlt : ri < c.own.length := by rw [← hH.len]; exact (List.getElem?_eq_some_iff.1 hro).1
    exact hH.blk ri c.own[ri] _ (by simp [hlt]) hro
  have hcv := hρ ch
  rw [hc] at hcv
  obtain ⟨r, hr, hch, hat⟩ := chan_seat hH hlive hcv
  have hxv : fr.eval x = .bool bv := by have := hρ x; rw [hx] at this; exact this
  obtain ⟨⟨M0, q1, q2⟩, q3⟩ := h3.gh
  rw [hout] at q2
  obtain ⟨r', M, rfl, q4, q5⟩ := q2
  have hrr : r = r' := At_uniq hat q4 (chan_gen hH hlive)
  subst hrr
  have hMne : M ++ base ≠ [] := by
    cases out with
    | nil => exact absurd rfl hne
    | cons m ms => obtain ⟨_, _, e, _⟩ := q5; rw [e]; simp
  have hst : ∀ w1, stepG P main (G fr cs) w1 = .comm (G fr cs) #[⟨.chan (some r), some (.bool bv), .tuple #[]⟩] true .send w1 #[] := by
    intro w1
    have hs : stepG P main (G fr cs) w1 = stepG.apply P true fr cs none (execOp fr.eval o) w1 := by
      rw [← hfr]
      exact stepG_opA ho (by simp [Region.wanted, hog]) (by rw [hop]; rfl)
    rw [hs]
    have hrun : (execOp fr.eval o).runT P w1 #[] = (.ok (.comm #[⟨.chan (some r), some (.bool bv), .tuple #[]⟩] true .send) w1, #[]) := by
      simp only [execOp, hop, hr, hxv]
      rfl
    have hkind : (fr.kind == CallKind.early) = false := by rw [← hfr]; simpa [at'] using h2
    simp only [stepG.apply, if_true, hrun, hkind, Bool.false_eq_true, if_false, GStep.after]
    simp [G, seen]
  rw [List.singleton_append, hfr]
  let c2 : Cx := { c with com := { c.com with out := M ++ base } }
  have hs2 : Same c c2 := ⟨rfl, fun _ _ h => h⟩
  have hfin : (G fr cs).finishComm P #[⟨.chan (some r), some (.bool bv), .tuple #[]⟩] .send 0 undef false = G (at' b (putV tmps o.dst undef) ds (.inRegion ops rest :: k)) cs := by
    have : fr.finish undef = at' b (putV tmps o.dst undef) ds (.inRegion ops rest :: k) := by rw [← hfr, finish_at', ho]; rfl
    simp [Goroutine.finishComm, commResult, G, this]
  refine .send (c' := c2) (g' := G fr cs) (r := r) (v := .bool bv) (z := .tuple #[]) (rest := M ++ base) hrole rfl rfl hst (by rw [q1]; rfl) hch ⟨rfl, rfl, rfl, rfl, rfl, rfl, rfl⟩ (fun _ => ?_) (fun e => absurd e hMne)
  rw [hfin]
  refine h main Stop b k cs base c2 w _ ds h1 h2 ⟨(h3.sl.put o.dst (v := .tup []) (V := undef) ⟨[], rfl, rfl⟩).same hs2, h3.df.same hs2, hH.com rfl rfl, ⟨M, rfl, q5.same hs2⟩, q3.same hs2⟩ ?_
  intro e s' c3 w3 t3 d3 q r3 y
  exact h4 e s' c3 w3 t3 d3 q r3 ⟨y.own, y.imm, y.main⟩
end
theorem quits_end {P : Program} {b : Frame} {g : FuncId} {fn : Func} {ops : Array Oper} {tmps : Array Value} (hf : P.funcs[g]? = some fn) (hres : fn.results = #[]) (hfn : b.fn = g) (hro : b.roundOf = none) (hk : b.kind = .deferred) :
    QuitsIn P 4 (G (at' b tmps [] [.inRegion ops []]) [{ (default : Frame) with fn := P.funcs.size, defers := [], mode := .panicking [goexitEntry] }]) := by
  refine QuitsIn.ctl rfl (g' := G (at' b tmps [] []) [{ (default : Frame) with fn := P.funcs.size, defers := [], mode := .panicking [goexitEntry] }]) (fun w => by simp [G, stepG, stepG.exec, at']) ?_
  refine QuitsIn.ctl rfl (g' := G { at' b tmps [] [] with mode := .returning } [{ (default : Frame) with fn := P.funcs.size, defers := [], mode := .panicking [goexitEntry] }]) (fun w => by simp [G, stepG, stepG.exec, at', hro]) ?_
  refine QuitsIn.ctl rfl (g' := G { (default : Frame) with fn := P.funcs.size, defers := [], mode := .panicking [goexitEntry] } []) (fun w => ?_) ?_
  · have hr : (results fn tmps).runT P w #[] = (.ok (.tuple #[]) w, #[]) := by unfold results; rw [hres, Array.mapM_eq_mapM_toList]; rfl
    simp [G, stepG, unwind, at', hfn, hf, hr, doReturn, hk, GStep.after, seen, goexitEntry, -Sem.runT_eq]
  · refine QuitsIn.ctl rfl (g' := { frame := { (default : Frame) with fn := P.funcs.size, defers := [], mode := .panicking [goexitEntry] }, callers := [], status := .finished, dying := none }) (fun w => ?_) ?_
    · have hc : ({ (default : Frame) with fn := P.funcs.size, defers := [], mode := .panicking [goexitEntry] } : Frame).catches P = false := by
        unfold Frame.catches
        simp only [Array.getElem?_size]
        rfl
      simp only [G, stepG, unwind, hc, Bool.false_eq_true, if_false]
      rfl
    · rfl
theorem SendA.of_body {P : Program} {g : FuncId} {fn : Func} {c0 : Code} {id : Nat} {ops : Array Oper} {o0 o1 : Oper} {t : TypeId} {f : TF} {a d : Tmp} {cap : List AV} {h : List Blk} {O : List (Nm × Value)} {n : Nm} {ri : Nat} (hf : P.funcs[g]? = some fn) (hname : (fn.name == "runtime.NumGoroutine") = false) (hb : fn.body = some (.seq c0 (.region id ops false))) (hres : fn.results = #[])
    (hops : ops = #[o0, o1]) (ho0 : o0.op = .load t (.tmp a)) (hd0 : o0.dst = some d) (hg0 : o0.guard = none) (ho1 : o1.op = .send (.tmp d) (.const (.bool true))) (hg1 : o1.guard = none) (hd1 : o1.dst = none) (ht : tyT P t = some f) (hfd : aggD f.d = false)
    (hw : WP P ⟨g, false, h.length⟩ c0 (fun e s => match e with
      | .normal => s.df = [] ∧ s.gh.out = [(n, .bool true)] ∧ s.hp[n.id]? = some (.chan n.gen) ∧ s.hp[ri]? = some (.role false) ∧ d < s.sl.length ∧ ∃ cs, cellsAt s.hp (evA s.sl (.tmp a)) = some (.chan n :: cs)
      | _ => False) { sl := cap ++ List.replicate (fn.ntmps - cap.length) (.tup []), df := [], hp := h, gh := { out := O } }) : SendA P g cap h O := by
  intro c w vcap hv hH htodo hM
  generalize hfr0 : Frame.enter P g vcap .deferred = b0
  have hkind : b0.kind = .deferred := by rw [← hfr0]; rfl
  have hro : b0.roundOf = none := by rw [← hfr0]; rfl
  have hfn : b0.fn = g := by rw [← hfr0]; rfl
  have hb0 : b0 = at' b0 (vcap ++ Array.replicate (fn.ntmps - vcap.size) undef) [] [.code (.seq c0 (.region id ops false))] := by
    rw [← hfr0]; simp [Frame.enter, at', hf, hb]
  let fr1 : Frame := { (default : Frame) with fn := P.funcs.size, defers := [], mode := .panicking [goexitEntry] }
  have hst0 : ∀ w1, stepG P false (childOf P g vcap) w1 = .go (G b0 [fr1]) w1 #[] := by
    intro w1
    have hu : stepG P false (childOf P g vcap) w1 = unwind P false { (default : Frame) with fn := P.funcs.size, defers := [{ target := .fn (.func g) vcap, args := #[] }], mode := .panicking [goexitEntry] } [] none w1 := rfl
    rw [hu]
    have hrun : (invoke (.fn (.func g) vcap) #[]).runT P w1 #[] = (.ok (.enter g vcap) w1, #[]) := by
      have he : invoke (.fn (.func g) vcap) #[] = callFunc g (#[] ++ vcap) := rfl
      rw [he, show (#[] : Array Value) ++ vcap = vcap by simp]
      unfold callFunc
      show Sem.runT P (match P.funcs[g]? with
        | none => _
        | some fn => _) w1 #[] = _
      rw [hf]
      have hbn : fn.body.isNone = false := by rw [hb]; rfl
      simp only [hname, Bool.false_eq_true, if_false, hbn]
      rfl
    simp only [unwind, callDeferred]
    rw [if_neg (by simp), hrun, ← hfr0]
    simp [GStep.after, seen, G, fr1]
  refine Go'.idle rfl rfl hst0 ?_
  rw [hb0]
  have hsz : vcap.size = cap.length := by have := hv.length; simpa using this
  have hrep : ∀ n, VRL c (List.replicate n (.tup [])) (List.replicate n undef) := by
    intro n
    induction n with
    | zero => rfl
    | succ n ih => exact ⟨_, _, rfl, ⟨[], rfl, rfl⟩, ih⟩
  have hsr : SR [] c w { sl := cap ++ List.replicate (fn.ntmps - cap.length) (.tup []), df := [], hp := h, gh := { out := O } } (vcap ++ Array.replicate (fn.ntmps - vcap.size) undef) [] :=
    ⟨by simp only [Array.toList_append, Array.toList_replicate]; rw [hsz]; exact hv.append (hrep _), rfl, hH, ⟨_, by simp, hM⟩, htodo⟩
  refine Go'.idle (g' := G (at' b0 (vcap ++ Array.replicate (fn.ntmps - vcap.size) undef) [] ([.code c0] ++ [.code (.region id ops false)])) [fr1]) rfl rfl (fun w1 => by simp [G, stepG, stepG.exec, at']) ?_
  refine hw false _ b0 _ [fr1] [] c w _ [] ⟨hfn, fun _ => hro⟩ (by rw [hkind]; simp) hsr ?_
  intro e s2 c2 w2 t2 d2 q r2 x2
  cases e with
  | exit id => exact q.elim
  | goto l => exact q.elim
  | ret => exact q.elim
  | panic v => exact q.elim
  | normal =>
  obtain ⟨hdf, hout, hlive, hrl, hdl, cs, hcs⟩ := q
  have hds : d2 = [] := by have := r2.df; rw [hdf] at this; exact this
  subst hds
  refine Go'.idle (g' := G (at' b0 t2 [] ([.inRegion ops [0, 1]])) [fr1]) rfl rfl (fun w1 => by simp [G, stepG, stepG.exec, at', hops]; rfl) ?_
  have hi0 : ops[0]? = some o0 := by rw [hops]; rfl
  have hi1 : ops[1]? = some o1 := by rw [hops]; rfl
  refine Go'.of_step rfl fun w3 ry => ?_
  have r3 := r2.rely ry
  rw [stepG_opA hi0 (by simp [Region.wanted, hg0]) (by rw [ho0]; rfl)]
  generalize hfr : at' b0 t2 [] [.inRegion ops [0, 1]] = fr
  have hρ : ∀ x, VR c2 (evA s2.sl x) (fr.eval x) := fun x => by rw [← hfr]; exact VR_evA r3.sl b0 [] _ x
  have hload : opW P o0.op (evA s2.sl) s2.hp (fun v h' => v = .chan n ∧ h' = s2.hp) := by
    rw [ho0]
    simp only [opW, loadW, ht, hcs, hfd]
    simp [readA, hfd]
  obtain ⟨⟨nx, V, w4, c4, v, h4, e4, hgiv, ⟨rfl, rfl⟩, hV, hH4, hT⟩, ev, kp⟩ := Ok.spec #[] (opW_ok hload hρ r3.hp) (Nat.le_refl _)
  rw [e4] at kp ev
  have hkd : (fr.kind == CallKind.early) = false := by rw [← hfr]; show (b0.kind == CallKind.early) = false; rw [hkind]; rfl
  have hfin : fr.finish V = at' b0 (putV t2 (some d) V) [] [.inRegion ops [1]] := by rw [← hfr, finish_at', hi0, Option.bind_some, hd0]
  have hstep : stepG.apply P true fr [fr1] none (execOp fr.eval o0) w3 = .go (G (at' b0 (putV t2 (some d) V) [] [.inRegion ops [1]]) [fr1]) w4 (seen P fr.fn ((execOp fr.eval o0).events P w3 #[])) := by
    rw [← hfin]
    cases nx <;> simp only [givenBy, Option.some.injEq, reduceCtorEq] at hgiv
    · subst hgiv; simp [stepG.apply, e4, hkd, GStep.after, G]
    · subst hgiv; simp [stepG.apply, e4, hkd, GStep.after, G]
  refine ⟨_, w4, _, c4, hstep, rfl, ⟨kp, hT.mine, hT.imm, hT.ext.imm, fun x hx => ?_, fun b hb => .inr (hH4.low hb), fun r hr => .inl (by rw [hT.com] at hr; exact hr), fun r hr => by rw [hT.com]; exact hr, by rw [hT.com], by rw [hT.com], by rw [hT.com]⟩, ?_⟩
  · rcases ev x (mem_seen hx) with h | h
    · simp at h
    · exact h
  have hrole : c4.com.main = false := by
    have hlt : ri < c4.own.length := by rw [← hH4.len]; exact (List.getElem?_eq_some_iff.1 hrl).1
    exact hH4.blk ri c4.own[ri] _ (by simp [hlt]) hrl
  obtain ⟨r, hr, hch, hat⟩ := chan_seat hH4 hlive hV
  obtain ⟨⟨M0, q1, q2⟩, q3⟩ := r3.gh.ext hT.ext (by rw [hT.com]) (by rw [hT.com])
  rw [hout] at q2
  obtain ⟨r', M, rfl, q4, q5⟩ := q2
  have hM' : M = [] := q5
  subst hM'
  have hrr : r = r' := At_uniq hat q4 (chan_gen hH4 hlive)
  subst hrr
  have hlen : d < t2.size := by have hq := r2.sl.length; rw [Array.length_toList] at hq; rw [hq]; exact hdl
  generalize hfr2 : at' b0 (putV t2 (some d) V) [] [.inRegion ops [1]] = fr2
  have hev : fr2.eval (.tmp d) = .chan (some r) := by
    rw [← hfr2, ← hr]
    simp [Frame.eval, at', putV, hlen]
  have hst2 : ∀ w1, stepG P false (G fr2 [fr1]) w1 = .comm (G fr2 [fr1]) #[⟨.chan (some r), some (.bool true), .tuple #[]⟩] true .send w1 #[] := by
    intro w1
    have hs : stepG P false (G fr2 [fr1]) w1 = stepG.apply P true fr2 [fr1] none (execOp fr2.eval o1) w1 := by
      rw [← hfr2]
      exact stepG_opA hi1 (by simp [Region.wanted, hg1]) (by rw [ho1]; rfl)
    rw [hs]
    have hrun : (execOp fr2.eval o1).runT P w1 #[] = (.ok (.comm #[⟨.chan (some r), some (.bool true), .tuple #[]⟩] true .send) w1, #[]) := by
      simp only [execOp, ho1, hev]
      rfl
    have hkd2 : (fr2.kind == CallKind.early) = false := by rw [← hfr2]; show (b0.kind == CallKind.early) = false; rw [hkind]; rfl
    simp only [stepG.apply, if_true, hrun, hkd2, Bool.false_eq_true, if_false, GStep.after]
    simp [G, seen]
  have hfin2 : (G fr2 [fr1]).finishComm P #[⟨.chan (some r), some (.bool true), .tuple #[]⟩] .send 0 undef false = G (at' b0 (putV t2 (some d) V) [] [.inRegion ops []]) [fr1] := by
    have : fr2.finish undef = at' b0 (putV t2 (some d) V) [] [.inRegion ops []] := by rw [← hfr2, finish_at', hi1, Option.bind_some, hd1]; rfl
    simp [Goroutine.finishComm, commResult, G, this]
  refine .send (c' := { c4 with com := { c4.com with out := [] } }) (g' := G fr2 [fr1]) (r := r) (v := .bool true) (z := .tuple #[]) (rest := []) hrole rfl rfl hst2 (by rw [q1]; rfl) hch ⟨rfl, rfl, rfl, rfl, rfl, rfl, rfl⟩ (fun hne => absurd rfl hne) (fun _ => ⟨4, ?_⟩)
  rw [hfin2]
  exact quits_end hf hres hfn hro hkind
end Go.Mac

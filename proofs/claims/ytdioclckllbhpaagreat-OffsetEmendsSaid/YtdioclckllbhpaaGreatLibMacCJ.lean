/- A part of the logic and of the contracts of the functions that the statement reaches; the statement itself is proved in the last text. -/
import Derived.Conc.Events
import Derived.Test.YtdioclckllbhpaaGreatLibMacCI

set_option linter.all false
set_option linter.unusedVariables false
set_option linter.unusedSimpArgs false
set_option linter.unnecessarySimpa false
namespace Go.Mac
open Go Go.Conc
def restA (rest : List (Nm × Value)) : List (List (Nm × Value)) := if rest = [] then [] else [rest]
theorem MRL.split {c : Cx} : ∀ {A : List (List (Nm × Value))} {T1 T2 : List (List (Nat × Value))} {X : List (Nat × Value)}, MRL c A (T1 ++ X :: T2) → ∃ A1 a A2, A = A1 ++ a :: A2 ∧ MRL c A1 T1 ∧ MR c a X ∧ MRL c A2 T2
  | [], T1, _, _, h => by have h' : T1 ++ _ :: _ = [] := h; simp at h'
  | a :: A, [], T2, X, ⟨x, l', e, h1, h2⟩ => by
    simp only [List.nil_append, List.cons.injEq] at e
    obtain ⟨rfl, rfl⟩ := e
    exact ⟨[], a, A, rfl, rfl, h1, h2⟩
  | a :: A, t :: T1, T2, X, ⟨x, l', e, h1, h2⟩ => by
    simp only [List.cons_append, List.cons.injEq] at e
    obtain ⟨rfl, rfl⟩ := e
    obtain ⟨A1, b, A2, rfl, g1, g2, g3⟩ := MRL.split h2
    exact ⟨a :: A1, b, A2, rfl, ⟨_, _, rfl, h1, g1⟩, g2, g3⟩
theorem MRL.app {c : Cx} : ∀ {A B : List (List (Nm × Value))} {T U : List (List (Nat × Value))}, MRL c A T → MRL c B U → MRL c (A ++ B) (T ++ U)
  | [], _, _, _, h, h' => by cases h; exact h'
  | _ :: _, _, _, _, ⟨x, l', e, h1, h2⟩, h' => by subst e; exact ⟨x, _, rfl, h1, MRL.app h2 h'⟩
theorem MRL.rest {c : Cx} {ar : List (Nm × Value)} {rest : List (Nat × Value)} (h : MR c ar rest) : MRL c (restA ar) (restOf rest) := by
  cases ar with
  | nil => have : rest = [] := h; subst this; rfl
  | cons m ms =>
    obtain ⟨r, l', rfl, h1, h2⟩ := h
    simp only [restA, restOf, List.cons_ne_nil, if_false]
    exact ⟨_, _, rfl, ⟨r, l', rfl, h1, h2⟩, rfl⟩
theorem MRL.mem {c : Cx} : ∀ {A : List (List (Nm × Value))} {T : List (List (Nat × Value))}, MRL c A T → ∀ ms ∈ T, ∃ a ∈ A, MR c a ms
  | [], _, h, ms, hm => by cases h; cases hm
  | a :: A, _, ⟨x, l', e, h1, h2⟩, ms, hm => by
    subst e
    rcases List.mem_cons.1 hm with rfl | hm
    · exact ⟨a, List.mem_cons_self, h1⟩
    · obtain ⟨b, hb, hr⟩ := MRL.mem h2 ms hm
      exact ⟨b, List.mem_cons_of_mem _ hb, hr⟩
theorem zeroValue_runT {P : Program} {e : TypeId} {ie : TypeInfo} {Z : Value} (h : P.info? e = some ie) (hz : ie.zero = some Z) (w : World) (es : Array Event) : (zeroValue e).runT P w es = (.ok Z w, es) := by
  have ht : (typeInfo e).runT P w es = (.ok ie w, es) := by
    unfold typeInfo
    show Sem.runT P ((match P.info? e with | some i => _ | none => _ : Sem TypeInfo)) w es = _
    rw [h]
    rfl
  unfold zeroValue
  show Sem.runT P ((typeInfo e).bind _) w es = _
  rw [Sem.runT_bind', ht]
  simp only [hz]
  rfl
section
variable {P : Program} {fk : FK} {Q : AExit → AS → Prop} {s : AS} {ops : Array Oper} {i : Nat} {rest : List Nat} {o : Oper}
theorem WPI.select {x0 x1 : Operand} {e0 e1 : TypeId} {f0 f1 : TF} {n0 n1 : Nm} {ri d : Nat} (hro : s.hp[ri]? = some (.role true)) (ho : ops[i]? = some o) (hop : o.op = .select #[⟨x0, none, e0⟩, ⟨x1, none, e1⟩] true) (hog : o.guard = none) (hod : o.dst = some d)
    (hx0 : evA s.sl x0 = .chan n0) (hx1 : evA s.sl x1 = .chan n1) (h0 : s.hp[n0.id]? = some (.chan n0.gen)) (h1 : s.hp[n1.id]? = some (.chan n1.gen)) (hne : n0.id ≠ n1.id)
    (ht0 : tyT P e0 = some f0) (ht1 : tyT P e1 = some f1) (hz0 : f0.d = .bool) (hz1 : f1.d = .bool) (hzz0 : f0.ze = some [.bool false]) (hzz1 : f1.ze = some [.bool false]) (hf0 : zeroFits P e0 = true) (hf1 : zeroFits P e1 = true)
    (hnil : s.gh.todo ≠ []) (hall : ∀ ms ∈ s.gh.todo, ∃ n b r, ms = (n, .bool b) :: r ∧ (n = n0 ∨ n = n1))
    (h : ∀ T1 n b r T2, s.gh.todo = T1 ++ ((n, .bool b) :: r) :: T2 →
      (n = n0 → WPI P fk [.inRegion ops rest] Q { s with sl := s.sl.set d (.tup [.int .i64 0, .bool true, .bool b, .bool false]), gh := { s.gh with todo := T1 ++ restA r ++ T2 } }) ∧
      (n = n1 → WPI P fk [.inRegion ops rest] Q { s with sl := s.sl.set d (.tup [.int .i64 1, .bool true, .bool false, .bool b]), gh := { s.gh with todo := T1 ++ restA r ++ T2 } })) : WPI P fk [.inRegion ops (i :: rest)] Q s := by
  intro main Stop b k cs base c w tmps ds g1 g2 h3 h4
  generalize hfr : at' b tmps ds (.inRegion ops (i :: rest) :: k) = fr
  have hρ : ∀ x, VR c (evA s.sl x) (fr.eval x) := fun x => by rw [← hfr]; exact VR_evA h3.sl b ds _ x
  have hH := h3.hp
  have hrole : c.com.main = true := by
    have hlt : ri < c.own.length := by rw [← hH.len]; exact (List.getElem?_eq_some_iff.1 hro).1
    exact hH.blk ri c.own[ri] _ (by simp [hlt]) hro
  have hv0 := hρ x0
  rw [hx0] at hv0
  have hv1 := hρ x1
  rw [hx1] at hv1
  obtain ⟨r0, hr0, hc0, ha0⟩ := chan_seat hH h0 hv0
  obtain ⟨r1, hr1, hc1, ha1⟩ := chan_seat hH h1 hv1
  have hrr : r0 ≠ r1 := by
    have l0 : n0.id < c.own.length := by rw [← hH.len]; exact (List.getElem?_eq_some_iff.1 h0).1
    have l1 : n1.id < c.own.length := by rw [← hH.len]; exact (List.getElem?_eq_some_iff.1 h1).1
    obtain ⟨k0, q0⟩ := At_some ha0 (e := c.own[n0.id]) (by simp [l0]) (chan_gen hH h0 _ (by simp [l0])).symm
    obtain ⟨k1, q1⟩ := At_some ha1 (e := c.own[n1.id]) (by simp [l1]) (chan_gen hH h1 _ (by simp [l1])).symm
    exact hH.apart n0.id n1.id _ _ _ _ _ _ hne (by simp [l0]) (by simp [l1]) h0 h1 rfl rfl q0 q1
  have zb : ∀ {e : TypeId} {f : TF}, tyT P e = some f → f.d = .bool → f.ze = some [.bool false] → zeroFits P e = true → ∀ (w1 : World) (es : Array Event), (zeroValue e).runT P w1 es = (.ok (.bool false) w1, es) := by
    intro e f ht hd hz hfz w1 es
    obtain ⟨ie, i1, i2, i3, i4, _⟩ := tyT_some ht
    rw [hz] at i4
    cases hie : ie.zero with
    | none => rw [hie] at i4; cases i4
    | some Z =>
      have hok := ok_zeroA (P := P) (c := c) (w := w1) (n0 := 0) ht hz hfz
      obtain ⟨⟨V, q1, q2⟩, _⟩ := Ok.spec (P := P) (c := c) (n0 := 0) #[] hok (Nat.zero_le _)
      have hVb : V = .bool false := by
        have : zeroA f [.bool false] = .bool false := by simp [zeroA, hd, aggD]
        rw [this] at q2
        exact q2
      subst hVb
      have hr := zeroValue_runT (P := P) i1 hie w1 es
      have hr2 := zeroValue_runT (P := P) i1 hie w1 #[]
      have : Z = .bool false := by
        have h3 : (zeroValue e).run P w1 = .ok Z w1 := by
          have := congrArg Prod.fst hr2
          rw [Sem.runT_eq] at this
          exact this
        rw [q1] at h3
        simpa using h3.symm
      subst this
      exact hr
  let cases2 : Array CommCase := #[⟨.chan (some r0), none, .bool false⟩, ⟨.chan (some r1), none, .bool false⟩]
  have hst : ∀ w1, stepG P main (G fr cs) w1 = .comm (G fr cs) cases2 true .select w1 #[] := by
    intro w1
    have hs : stepG P main (G fr cs) w1 = stepG.apply P true fr cs none (execOp fr.eval o) w1 := by
      rw [← hfr]
      exact stepG_opA ho (by simp [Region.wanted, hog]) (by rw [hop]; rfl)
    rw [hs]
    have hrun : (execOp fr.eval o).runT P w1 #[] = (.ok (.comm cases2 true .select) w1, #[]) := by
      simp only [execOp, hop]
      rw [Array.mapM_eq_mapM_toList]
      have hmap : ∀ (y : Sem (List CommCase)) (w : World) (es : Array Event), (List.toArray <$> y).runT P w es = match y.runT P w es with
        | (.ok a w', es') => ((Sem.pure a.toArray : Sem (Array CommCase))).runT P w' es'
        | (.halt h w', es') => (.halt h w', es') := fun y w es => by
        show (y.bind _).runT P w es = _
        rw [Sem.runT_bind']
        cases Sem.runT P y w es with
        | mk r es' => cases r <;> rfl
      simp only [List.mapM_cons, List.mapM_nil, bind, pure, Sem.runT_bind', hmap, zb ht0 hz0 hzz0 hf0, zb ht1 hz1 hzz1 hf1, hr0, hr1, cases2]
      rfl
    have hkind : (fr.kind == CallKind.early) = false := by rw [← hfr]; simpa [at'] using g2
    simp only [stepG.apply, if_true, hrun, hkind, Bool.false_eq_true, if_false, GStep.after]
    simp [G, seen]
  have hrecvs : Recvs c cases2 := by
    refine ⟨?_, ?_⟩
    · intro kc hk
      simp only [cases2, List.mem_toArray, List.mem_cons, List.not_mem_nil, or_false] at hk
      rcases hk with rfl | rfl
      · exact ⟨rfl, r0, rfl, hc0⟩
      · exact ⟨rfl, r1, rfl, hc1⟩
    · intro p q x y hx hy hxy
      have hp : p = 0 ∨ p = 1 := by have := (Array.getElem?_eq_some_iff.1 hx).1; simp [cases2] at this; omega
      have hq : q = 0 ∨ q = 1 := by have := (Array.getElem?_eq_some_iff.1 hy).1; simp [cases2] at this; omega
      rcases hp with rfl | rfl <;> rcases hq with rfl | rfl <;> simp [cases2] at hx hy <;> subst hx hy <;> simp at hxy
      · rfl
      · exact absurd hxy hrr
      · exact absurd hxy.symm hrr
      · rfl
  have htd := h3.gh.todo
  have hall' : ∀ ms ∈ c.com.todo, ∃ r v rest, ms = (r, v) :: rest ∧ ∃ k ∈ cases2, k.chan = .chan (some r) := by
    intro ms hms
    obtain ⟨a, ha, hr⟩ := htd.mem ms hms
    obtain ⟨n, bv, ar, rfl, hn⟩ := hall a ha
    obtain ⟨r, l', rfl, q1, q2⟩ := hr
    refine ⟨r, _, l', rfl, ?_⟩
    rcases hn with rfl | rfl
    · have : r0 = r := At_uniq ha0 q1 (chan_gen hH h0)
      subst this
      exact ⟨⟨.chan (some r0), none, .bool false⟩, by simp [cases2], rfl⟩
    · have : r1 = r := At_uniq ha1 q1 (chan_gen hH h1)
      subst this
      exact ⟨⟨.chan (some r1), none, .bool false⟩, by simp [cases2], rfl⟩
  rw [List.singleton_append, hfr]
  have hnil' : c.com.todo ≠ [] := by
    intro e
    rw [e] at htd
    cases hA : s.gh.todo with
    | nil => exact hnil hA
    | cons a A => rw [hA] at htd; obtain ⟨_, _, e2, _⟩ := htd; cases e2
  have hfin : ∀ V, fr.finish V = at' b (putV tmps o.dst V) ds (.inRegion ops rest :: k) := fun V => by rw [← hfr, finish_at', ho]; rfl
  refine .recv (cases := cases2) (shape := .select) (g' := G fr cs) hrole rfl rfl hst hrecvs hnil' hall' (fun _ _ T => { c with com := { c.com with todo := T } }) (fun _ _ _ => ⟨rfl, rfl, rfl, rfl, rfl, rfl, rfl⟩) ?_
  intro kk r v z T1 T2 rst hk hT
  rw [hT] at htd
  obtain ⟨A1, a, A2, hA, m1, m2, m3⟩ := htd.split
  obtain ⟨n, bv, ar, rfl, hn⟩ := hall a (by rw [hA]; simp)
  obtain ⟨r', l', e, q1, q2⟩ := m2
  simp only [List.cons.injEq, Prod.mk.injEq] at e
  obtain ⟨⟨rfl, rfl⟩, rfl⟩ := e
  let c2 : Cx := { c with com := { c.com with todo := T1 ++ restOf rst ++ T2 } }
  have hs2 : Same c c2 := ⟨rfl, fun _ _ h => h⟩
  have hgh : CR base c2 { s.gh with todo := A1 ++ restA ar ++ A2 } := by
    obtain ⟨⟨M0, p1, p2⟩, _⟩ := h3.gh
    exact ⟨⟨M0, p1, p2.same hs2⟩, ((m1.same hs2).app (MRL.rest q2 |>.same hs2)).app (m3.same hs2)⟩
  have go : ∀ (AVr : AV) (V : Value), VR c AVr V → WPI P fk [.inRegion ops rest] Q { s with sl := s.sl.set d AVr, gh := { s.gh with todo := A1 ++ restA ar ++ A2 } } → Go' P main Stop c2 (G (at' b (putV tmps o.dst V) ds (.inRegion ops rest :: k)) cs) w := by
    intro AVr V hV hw
    have hsl : VRL c (s.sl.set d AVr) (putV tmps o.dst V).toList := by
      have := h3.sl.put o.dst hV
      rw [hod] at this ⊢
      exact this
    refine hw main Stop b k cs base c2 w _ ds g1 g2 ⟨hsl.same hs2, h3.df.same hs2, hH.com rfl rfl, hgh⟩ ?_
    intro e s' c3 w3 t3 d3 q r3 y
    exact h4 e s' c3 w3 t3 d3 q r3 ⟨y.own, y.imm, y.main⟩
  have hkk : kk = 0 ∨ kk = 1 := by have := (Array.getElem?_eq_some_iff.1 hk).1; simp [cases2] at this; omega
  rcases hkk with rfl | rfl
  · have hrv : r = r0 := by simp [cases2] at hk; exact hk.1.symm
    subst hrv
    have hnn : n = n0 := by
      rcases hn with hn | rfl
      · exact hn
      · exact absurd (At_uniq ha1 q1 (chan_gen hH h1)).symm hrr
    have hres : (G fr cs).finishComm P cases2 .select (0 : Nat) (.bool bv) true = G (at' b (putV tmps o.dst (.tuple #[goInt 0, .bool true, .bool bv, .bool false])) ds (.inRegion ops rest :: k)) cs := by
      rw [← hfin]
      simp [Goroutine.finishComm, commResult, G, cases2]
    rw [hres]
    exact go (.tup [.int .i64 0, .bool true, .bool bv, .bool false]) _ ⟨_, rfl, by simp [VRL_cons_cons, VR, goInt]⟩ ((h A1 n bv ar A2 hA).1 hnn)
  · have hrv : r = r1 := by simp [cases2] at hk; exact hk.1.symm
    subst hrv
    have hnn : n = n1 := by
      rcases hn with rfl | hn
      · exact absurd (At_uniq ha0 q1 (chan_gen hH h0)) hrr
      · exact hn
    have hres : (G fr cs).finishComm P cases2 .select (1 : Nat) (.bool bv) true = G (at' b (putV tmps o.dst (.tuple #[goInt 1, .bool true, .bool false, .bool bv])) ds (.inRegion ops rest :: k)) cs := by
      rw [← hfin]
      simp [Goroutine.finishComm, commResult, G, cases2]
    rw [hres]
    exact go (.tup [.int .i64 1, .bool true, .bool false, .bool bv]) _ ⟨_, rfl, by simp [VRL_cons_cons, VR, goInt]⟩ ((h A1 n bv ar A2 hA).2 hnn)
end
end Go.Mac

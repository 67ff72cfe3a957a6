/- A part of the logic and of the contracts of the functions that the statement reaches; the statement itself is proved in the last text. -/
import Derived.Test.YtdioclckllbhpaaGreatLibMacOE

set_option linter.all false
set_option linter.unusedVariables false
set_option linter.unusedSimpArgs false
set_option linter.unnecessarySimpa false
namespace Go.Mac
open Go Go.Conc
def guardB (t want : Bool) (yes no : Prop) : Prop :=
  match t, want with
  | true, true => yes
  | false, false => yes
  | true, false => no
  | false, true => no
def guardV (v : AV) (want : Bool) (yes no : Prop) : Prop :=
  match v with
  | .bool t => guardB t want yes no
  | .tup [] => no
  | _ => False
@[congr] theorem guardV_congr {v v' : AV} {want : Bool} {yes no : Prop} (e : v = v') : guardV v want yes no = guardV v' want yes no := by rw [e]
theorem guardV_tt {yes no : Prop} : guardV (.bool true) true yes no = yes := rfl
theorem guardV_ff {yes no : Prop} : guardV (.bool false) false yes no = yes := rfl
theorem guardV_tf {yes no : Prop} : guardV (.bool true) false yes no = no := rfl
theorem guardV_ft {yes no : Prop} : guardV (.bool false) true yes no = no := rfl
theorem guardV_out {want : Bool} {yes no : Prop} : guardV (.tup []) want yes no = no := rfl
def guardW (ops : Array Oper) (o : Oper) (sl : List AV) (yes no : Prop) : Prop :=
  match o.guard with
  | none => yes
  | some (j, want) => match (ops[j]?).bind (·.dst) with
    | some d => guardV (evA sl (.tmp d)) want yes no
    | none => False
theorem guardB_yes {t want : Bool} {yes no : Prop} (h : guardB t want yes no) (he : t = want) : yes := by cases t <;> cases want <;> first | exact h | cases he
theorem guardB_no {t want : Bool} {yes no : Prop} (h : guardB t want yes no) (he : ¬ t = want) : no := by cases t <;> cases want <;> first | exact h | exact absurd rfl he
theorem guardB_of {t want : Bool} {yes no : Prop} (h1 : t = want → yes) (h2 : ¬ t = want → no) : guardB t want yes no := by cases t <;> cases want <;> simp_all [guardB]
def condB (t : Bool) (a b : Prop) : Prop := (t = true → a) ∧ (t = false → b)
theorem condB_true {a b : Prop} : condB true a b = a := by simp [condB]
theorem condB_false {a b : Prop} : condB false a b = b := by simp [condB]
def condV (v : AV) (a b : Prop) : Prop :=
  match v with
  | .bool t => condB t a b
  | _ => False
@[congr] theorem condV_congr {v v' : AV} {a b : Prop} (e : v = v') : condV v a b = condV v' a b := by rw [e]
theorem condV_bool {t : Bool} {a b : Prop} : condV (.bool t) a b = condB t a b := rfl
theorem condB_var {t : Bool} {a b : Prop} : condB t a b = ((t = true → a) ∧ (t = false → b)) := rfl
theorem evA_out {sl : List AV} {d : Tmp} (h : evA sl (.tmp d) = .tup []) : sl[d]? = some (.tup []) := by
  cases hd : sl[d]? with
  | none => simp [evA, List.getD, hd] at h
  | some a => simp [evA, List.getD, hd] at h; rw [h]
theorem evA_bool {sl : List AV} {d : Tmp} {t : Bool} (h : evA sl (.tmp d) = .bool t) : sl[d]? = some (.bool t) := by
  cases hd : sl[d]? with
  | none => simp [evA, List.getD, hd] at h
  | some a => simp [evA, List.getD, hd] at h; rw [h]
def withVH (v : AV) (h : List Blk) (K : AV → List Blk → Prop) : Prop := K v h
theorem withVH_eq {v : AV} {h : List Blk} {K : AV → List Blk → Prop} : withVH v h K = K v h := rfl
@[congr] theorem withVH_congr {v v' : AV} {h h' : List Blk} {K : AV → List Blk → Prop} (e1 : v = v') (e2 : h = h') : withVH v h K = withVH v' h' K := by rw [e1, e2]
def callable (P : Program) (g : FuncId) : Prop :=
  ∃ fn, P.funcs[g]? = some fn ∧ (fn.name == "runtime.NumGoroutine") = false ∧ fn.body.isSome = true
def retQ (K : AExit → AS → Prop) (s : AS) (next : AV → List Blk → Prop) : AEnd → List Blk → Prop
  | .ret v, h' => next v h'
  | .panic v, h' => K (.panic v) { s with hp := h' }
def loopAr (h : List Blk) (n : Nm) : Option Nat :=
  match h[n.id]? with
  | some (.loop _ _ _ _ params _ _) => some params.size
  | _ => none
def callW (P : Program) (f : AV) (args : List AV) (h : List Blk) (Post : AEnd → List Blk → Prop) : Prop :=
  match f with
  | .fn (.func g) first cap => callable P g ∧ CallsA P g (first ++ args ++ cap) h Post
  | .yield n => n.gen = 0 ∧ loopAr h n = some args.length ∧ YieldA P n args h Post
  | _ => False
def panicW (K : AExit → AS → Prop) (s : AS) (x : AV) : Prop :=
  match x with
  | .iface t v => K (.panic (.iface t v)) s
  | _ => False
structure Opt where
  shut : List Tmp := []
  cut : List Tmp := []
  tail : List (Nat × Nat) := []
  hand : List Nat := []
def sealed (so : Opt) (o : Oper) : Bool :=
  match o.dst with
  | some d => so.shut.contains d
  | none => false
def cuts (so : Opt) (o : Oper) : Bool :=
  match o.dst with
  | some d => so.cut.contains d
  | none => false
def cutV (b : Bool) (v : AV) (h : List Blk) (K : AV → List Blk → Prop) : Prop :=
  match b, v with
  | true, .bool t => condB t (K (.bool true) h) (K (.bool false) h)
  | true, _ => False
  | false, _ => K v h
@[congr] theorem cutV_congr {b b' : Bool} {v v' : AV} {h h' : List Blk} {K : AV → List Blk → Prop} (e1 : b = b') (e2 : v = v') (e3 : h = h') : cutV b v h K = cutV b' v' h' K := by rw [e1, e2, e3]
theorem cutV_false {v : AV} {h : List Blk} {K : AV → List Blk → Prop} : cutV false v h K = K v h := by cases v <;> rfl
theorem cutV_bool {t : Bool} {h : List Blk} {K : AV → List Blk → Prop} : cutV true (.bool t) h K = condB t (K (.bool true) h) (K (.bool false) h) := rfl
theorem cutV_ok {b : Bool} {v : AV} {h : List Blk} {K : AV → List Blk → Prop} (q : cutV b v h K) : K v h := by
  unfold cutV at q
  split at q
  · rename_i t
    cases t
    · exact q.2 rfl
    · exact q.1 rfl
  · exact q.elim
  · exact q
def stepW (P : Program) (so : Opt) (o : Oper) (s : AS) (K : AExit → AS → Prop) (next : AV → List Blk → Prop) : Prop :=
  match o.op with
  | .call cl => match cl.callee with
    | .value f => s.gh.todo = [] ∧ callW P (evA s.sl f) (cl.args.toList.map (evA s.sl)) s.hp (retQ K s next)
    | .builtin .panic => panicW K s ((cl.args.toList.map (evA s.sl)).getD 0 .any)
    | _ => stepK (opE P o.op (evA s.sl) s.hp) next
  | .panic x => panicW K s (evA s.sl x)
  | .defer _ => False
  | .buildSlice t len parts => match sealed so o with
    | true => stepK (buildSealE P t len (parts.toList.map fun p => (p.1, evA s.sl p.2)) s.hp) next
    | false => stepK (opE P o.op (evA s.sl) s.hp) next
  | op => stepK (opE P op (evA s.sl) s.hp) next
def runL (P : Program) (so : Opt) (ops : Array Oper) : List Oper → (AExit → AS → Prop) → AS → Prop
  | [], K, s => K .normal s
  | o :: rest, K, s => guardW ops o s.sl
        (stepW P so o s K fun v h' => withVH v h' fun v h' => cutV (cuts so o) v h' fun v h' => runL P so ops rest K { s with sl := putA s.sl o.dst v, hp := h' })
        (runL P so ops rest K { s with sl := putA s.sl o.dst (.tup []) })
section
variable {P : Program} {fk : FK} {so : Opt}
theorem WPI.panic {K : AExit → AS → Prop} {s : AS} {ops : Array Oper} {i : Nat} {rest : List Nat} {o : Oper} {t : TypeId} {v : AV} (ho : ops[i]? = some o) (hw : ∀ c tmps, VRL c s.sl tmps.toList → Region.wanted o (yielded ops tmps) = true) (hd : isDefer o.op = false)
    (hop : ∀ (c : Cx) (w : World) (ρ : Operand → Value), (∀ x, VR c (evA s.sl x) (ρ x)) → ∃ V, VR c (.iface t v) V ∧ ∀ w es, (execOp ρ o).runT P w es = (.halt (.panic V) w, es))
    (hk : K (.panic (.iface t v)) s) : WPI P fk [.inRegion ops (i :: rest)] K s := by
  intro main Stop b k cs base c w tmps ds h1 h2 h3 h4
  generalize hfr : at' b tmps ds (.inRegion ops (i :: rest) :: k) = fr
  have hρ : ∀ x, VR c (evA s.sl x) (fr.eval x) := fun x => by rw [← hfr]; exact VR_evA h3.sl b ds _ x
  obtain ⟨V, hV, hrun⟩ := hop c w fr.eval hρ
  have hkind : (fr.kind == CallKind.early) = false := by rw [← hfr]; simpa [at'] using h2
  have htodo : fr.todo = .inRegion ops (i :: rest) :: k := by rw [← hfr]; rfl
  have hst : ∀ w1, stepG P main (G fr cs) w1 = .go (G (fr.raise [{ v := V, recovered := false }]) cs) w1 #[] := by
    intro w1
    rw [← hfr, stepG_opA ho (hw c tmps h3.sl) hd, hfr]
    have he := hrun w1 #[]
    simp only [stepG.apply, htodo, if_true, he, hkind, Bool.false_eq_true, if_false]
    simp [GStep.after, G, seen]
  have hra : fr.raise [{ v := V, recovered := false }] = { at' b tmps ds (.inRegion ops (i :: rest) :: k) with mode := .panicking [{ v := V, recovered := false }] } := by rw [← hfr]; rfl
  rw [List.singleton_append, hfr]
  refine Go'.idle rfl rfl hst ?_
  rw [hra]
  exact h4 (.panic (.iface t v)) s c w tmps ds hk h3 (.reflT c _) V _ hV
theorem stepW_ok {ops : Array Oper} {i : Nat} {rest : List Nat} {o : Oper} {K : AExit → AS → Prop} {s : AS} (ho : ops[i]? = some o) (hw : ∀ c tmps, VRL c s.sl tmps.toList → Region.wanted o (yielded ops tmps) = true) {next : AV → List Blk → Prop}
    (hn : ∀ v h', next v h' → WPI P fk [.inRegion ops rest] K { s with sl := putA s.sl o.dst v, hp := h' }) (h : stepW P so o s K next) : WPI P fk [.inRegion ops (i :: rest)] K s := by
  have plain : isDefer o.op = false → stepK (opE P o.op (evA s.sl) s.hp) next → WPI P fk [.inRegion ops (i :: rest)] K s := fun hd h =>
    WPI.op ho hw hd next (fun c w ρ hρ hH => opW_ok (opE_ok h) hρ hH) hn
  have pan : ∀ (x : Operand), isDefer o.op = false → (∀ (ρ : Operand → Value) w es, ∀ V, (∃ t v, V = .iface t v) → ρ x = V → (execOp ρ o).runT P w es = (.halt (.panic V) w, es)) → panicW K s (evA s.sl x) → WPI P fk [.inRegion ops (i :: rest)] K s := by
    intro x hd hrun hp
    unfold panicW at hp
    split at hp
    · rename_i t v e
      refine WPI.panic (t := t) (v := v) ho hw hd (fun c w ρ hρ => ?_) hp
      have hx := hρ x
      rw [e] at hx
      obtain ⟨y, hV, hy⟩ := hx
      exact ⟨_, ⟨y, rfl, hy⟩, fun w es => hrun ρ w es _ ⟨t, y, rfl⟩ hV⟩
    · exact hp.elim
  unfold stepW at h
  split at h
  · rename_i cl hcl
    split at h
    · rename_i f hf
      obtain ⟨hgt, h⟩ := h
      unfold callW at h
      split at h
      · rename_i g first cap hfv
        obtain ⟨⟨fn, q1, q2, q3⟩, h⟩ := h
        refine WPI.call ho hw hcl hf hfv q1 q2 q3 hgt (h.mono fun e h' q => ?_)
        cases e with
        | ret v => exact hn v h' q
        | panic v => exact q
      · rename_i n hfv
        obtain ⟨hg, hlen, h⟩ := h
        unfold loopAr at hlen
        split at hlen
        · rename_i st pend fn slots params assign body hb
          simp only [List.length_map, Array.length_toList, Option.some.injEq] at hlen
          refine WPI.callY ho hw hcl hf hfv hb hg hlen.symm hgt (h.mono fun e h' q => ?_)
          cases e with
          | ret v => exact hn v h' q
          | panic v => exact q
        · cases hlen
      · exact h.elim
    · rename_i hb
      have hargs : (cl.args.toList.map (evA s.sl)).getD 0 .any = evA s.sl ((cl.args[0]?).getD (.const (.tuple #[.nilIface]))) ∨ (cl.args.toList.map (evA s.sl)).getD 0 .any = .any := by
        cases ha : cl.args[0]? with
        | none => right; have : cl.args.toList[0]? = none := by simpa using ha
                  simp [List.getD, this]
        | some x => left; have : cl.args.toList[0]? = some x := by simpa using ha
                    simp [List.getD, this]
      rcases hargs with ha | ha
      · rw [ha] at h
        refine pan _ (by rw [hcl]; rfl) (fun ρ w es V hV hx => ?_) h
        obtain ⟨t, v, rfl⟩ := hV
        simp only [execOp, hcl, resolve, hb]
        show (builtin .panic cl.argTypes o.type (cl.args.map fun | .const _ => true | _ => false) (cl.args.map ρ)).runT P w es = _
        have h0 : (cl.args.map ρ).getD 0 .nilIface = .iface t v := by
          cases hc : cl.args[0]? with
          | none =>
            exfalso
            rw [hc] at h
            simp only [Option.getD_none, evA, constA] at h
            simp [panicW] at h
          | some x =>
            rw [hc] at hx
            simp only [Option.getD_some] at hx
            simp [Array.getD_eq_getD_getElem?, hc, hx]
        simp only [builtin, h0, Instr.panic]
        rfl
      · rw [ha] at h; exact h.elim
    · rename_i hnv hnp
      exact plain (by rw [hcl]; rfl) (by rw [hcl] at h ⊢; exact h)
  · rename_i x hx
    refine pan x (by rw [hx]; rfl) (fun ρ w es V hV hxv => ?_) h
    obtain ⟨t, v, rfl⟩ := hV
    simp only [execOp, hx, hxv, Instr.panic]
    rfl
  · exact h.elim
  · rename_i t len parts hb
    split at h
    · exact WPI.op ho hw (by rw [hb]; rfl) next (fun c w ρ hρ hH => buildSealW_ok hb (buildSealE_ok h) hρ hH) hn
    · exact plain (by rw [hb]; rfl) h
  · rename_i op h1 h2 h3 h4
    refine plain ?_ h
    cases hop : o.op <;> first | rfl | exact absurd hop (h3 _)
theorem runL_ok {ops : Array Oper} : ∀ {l : List Oper} {k : Nat} {K : AExit → AS → Prop} {s : AS}, (∀ j, l[j]? = ops[k + j]?) → runL P so ops l K s → WPI P fk [.inRegion ops (List.range' k l.length)] K s
  | [], k, K, s, _, h => WPI.region_end h
  | o :: rest, k, K, s, hl, h => by
    have ho : ops[k]? = some o := by simpa using (hl 0).symm
    have hrest : ∀ j, rest[j]? = ops[k + 1 + j]? := fun j => by have := hl (j + 1); simpa [Nat.add_assoc, Nat.add_comm 1 j] using this
    simp only [runL] at h
    rw [List.length_cons, List.range'_succ]
    unfold guardW guardV at h
    split at h
    · rename_i hg
      exact stepW_ok ho (fun _ _ _ => by simp [Region.wanted, hg]) (fun v h' q => by unfold withVH at q; exact runL_ok hrest (cutV_ok q)) h
    · rename_i j want hg
      split at h
      · rename_i d hd
        split at h
        · rename_i t ht
          replace ht := evA_bool ht
          have hj : ∃ oj, ops[j]? = some oj ∧ oj.dst = some d := by
            cases hoj : ops[j]? with
            | none => rw [hoj] at hd; cases hd
            | some oj => rw [hoj] at hd; exact ⟨oj, rfl, hd⟩
          obtain ⟨oj, hj1, hj2⟩ := hj
          by_cases he : t = want
          · exact stepW_ok ho (fun c tmps hv => by simp [Region.wanted, hg, yielded_of hv hj1 hj2 ht, he]) (fun v h' q => by unfold withVH at q; exact runL_ok hrest (cutV_ok q)) (guardB_yes h he)
          · exact WPI.op_out ho hg hj1 hj2 ht he (runL_ok hrest (guardB_no h he))
        · rename_i ht
          replace ht := evA_out ht
          have hj : ∃ oj, ops[j]? = some oj ∧ oj.dst = some d := by
            cases hoj : ops[j]? with
            | none => rw [hoj] at hd; cases hd
            | some oj => rw [hoj] at hd; exact ⟨oj, rfl, hd⟩
          obtain ⟨oj, hj1, hj2⟩ := hj
          exact WPI.op_none ho hg hj1 hj2 ht (runL_ok hrest h)
        · exact h.elim
      · exact h.elim
end
end Go.Mac

/- A part of the logic and of the contracts of the functions that the statement reaches; the statement itself is proved in the last text. -/
import Derived.Attr
import Derived.Test.YtdioclckllbhpaaGreatLibMacIT

set_option linter.all false
set_option linter.unusedVariables false
set_option linter.unusedSimpArgs false
set_option linter.unnecessarySimpa false
namespace Go.Mac
open Go Go.Conc
section
variable {P : Program} {fk : FK} {so : Opt} {ops : Array Oper}
theorem runL_pre {rest : List Nat} : ∀ {l : List Oper} {k : Nat} {K : AExit → AS → Prop} {s : AS}, (∀ j, j < l.length → l[j]? = ops[k + j]?) → runL P so ops l (seqK (WPI P fk [.inRegion ops rest] K) K) s → WPI P fk [.inRegion ops (List.range' k l.length ++ rest)] K s
  | [], k, K, s, _, h => h
  | o :: l, k, K, s, hl, h => by
    have ho : ops[k]? = some o := by simpa using (hl 0 (by simp)).symm
    have hrest : ∀ j, j < l.length → l[j]? = ops[k + 1 + j]? := fun j hj => by have := hl (j + 1) (by simp; omega); simpa [Nat.add_assoc, Nat.add_comm 1 j] using this
    simp only [runL] at h
    rw [List.length_cons, List.range'_succ, List.cons_append]
    unfold guardW guardV at h
    split at h
    · rename_i hg
      exact stepW_ok (K := K) ho (fun _ _ _ => by simp [Region.wanted, hg]) (fun v h' q => by unfold withVH at q; exact runL_pre hrest (cutV_ok q)) h
    · rename_i j want hg
      split at h
      · rename_i d hd
        split at h
        · rename_i t ht
          replace ht := evA_bool ht
          have hj : ∃ oj, ops[j]? = some oj ∧ oj.dst = some d := by
            cases hoj : ops[j]? with
            | none => rw [hoj] at hd; cases hd
            | some oj => rw [hoj] at hd; exact ⟨oj, rfl, hd⟩
          obtain ⟨oj, hj1, hj2⟩ := hj
          by_cases he : t = want
          · exact stepW_ok (K := K) ho (fun c tmps hv => by simp [Region.wanted, hg, yielded_of hv hj1 hj2 ht, he]) (fun v h' q => by unfold withVH at q; exact runL_pre hrest (cutV_ok q)) (guardB_yes h he)
          · exact WPI.op_out ho hg hj1 hj2 ht he (runL_pre hrest (guardB_no h he))
        · rename_i ht
          replace ht := evA_out ht
          have hj : ∃ oj, ops[j]? = some oj ∧ oj.dst = some d := by
            cases hoj : ops[j]? with
            | none => rw [hoj] at hd; cases hd
            | some oj => rw [hoj] at hd; exact ⟨oj, rfl, hd⟩
          obtain ⟨oj, hj1, hj2⟩ := hj
          exact WPI.op_none ho hg hj1 hj2 ht (runL_pre hrest h)
        · exact h.elim
      · exact h.elim
theorem WP.region_split {id : Nat} {K : AExit → AS → Prop} {s : AS} (so : Opt) (l1 : List Oper) (rest : List Nat) (hsz : List.range ops.size = List.range' 0 l1.length ++ rest) (hl : ∀ j, j < l1.length → l1[j]? = ops[j]?)
    (h : runL P so ops l1 (seqK (WPI P fk [.inRegion ops rest] K) K) s) : WP P fk (.region id ops false) K s := by
  refine WP.region ?_
  rw [hsz]
  exact runL_pre (fun j hj => by rw [Nat.zero_add]; exact hl j hj) h
theorem WP.region_splitN {id : Nat} {K : AExit → AS → Prop} {s : AS} (so : Opt) (n : Nat) (rest : List Nat) (hsz : List.range ops.size = List.range' 0 n ++ rest) (hn : n ≤ ops.size)
    (h : runL P so ops (ops.toList.take n) (seqK (WPI P fk [.inRegion ops rest] K) K) s) : WP P fk (.region id ops false) K s := by
  have hl : (ops.toList.take n).length = n := by simp; omega
  refine WP.region_split so (ops.toList.take n) rest (by rw [hl]; exact hsz) (fun j hj => ?_) h
  rw [List.getElem?_take_of_lt (by omega)]; simp
theorem WPI.deferN {K : AExit → AS → Prop} {i : Nat} {o : Oper} {f : Operand} {ats : Array TypeId} {g : FuncId} {cap sl : List AV} {df : List ADef} {hp : List Blk} {gh : Gst} (hrnd : fk.rnd = false) (ho : ops[i]? = some o) (hop : o.op = .defer { callee := .value f, args := #[], argTypes := ats }) (hog : o.guard = none) (hod : o.dst = none) (hf : evA sl f = .fn (.func g) [] cap)
    (h : K .normal ⟨sl, .call (.func g) cap [] :: df, hp, gh⟩) : WPI P fk [.inRegion ops [i]] K ⟨sl, df, hp, gh⟩ := by
  refine WPI.defer hrnd ho hop hog hf (WPI.region_end ?_)
  rw [hod]; exact h
theorem jumpQ_none {Q : AExit → AS → Prop} {s : AS} : jumpQ Q none s = Q .normal s := rfl
theorem jumpQ_exit {Q : AExit → AS → Prop} {s : AS} {id : Nat} : jumpQ Q (some (.exit id)) s = Q (.exit id) s := rfl
theorem jumpQ_goto {Q : AExit → AS → Prop} {s : AS} {l : Nat} : jumpQ Q (some (.goto l)) s = Q (.goto l) s := rfl
theorem jumpQ_ret {Q : AExit → AS → Prop} {s : AS} : jumpQ Q (some .ret) s = Q .ret s := rfl
attribute [go_sem ↓] jumpQ_none jumpQ_exit jumpQ_goto jumpQ_ret
theorem WPI.region_rest {K : AExit → AS → Prop} {s : AS} (so : Opt) (l : List Oper) (k : Nat) (rest : List Nat) (hr : rest = List.range' k l.length) (hl : ∀ j, l[j]? = ops[k + j]?) (h : runL P so ops l K s) : WPI P fk [.inRegion ops rest] K s := by
  subst hr; exact runL_ok hl h
end
section
variable {P : Program} {fn : Func}
def recP (n0 : Nat) (Post : List Blk → Prop) : AExit → AS → Prop
  | .normal, s | .ret, s => s.df = [] ∧ s.gh = {} ∧ (s.hp.take n0).all (belowBlk n0) = true ∧ Post (s.hp.take n0)
  | _, _ => False
theorem recP_normal {n0 : Nat} {Post : List Blk → Prop} {sl : List AV} {df : List ADef} {hp : List Blk} {gh : Gst} : recP n0 Post .normal ⟨sl, df, hp, gh⟩ = (df = [] ∧ gh = {} ∧ (hp.take n0).all (belowBlk n0) = true ∧ Post (hp.take n0)) := rfl
theorem recP_ret {n0 : Nat} {Post : List Blk → Prop} {sl : List AV} {df : List ADef} {hp : List Blk} {gh : Gst} : recP n0 Post .ret ⟨sl, df, hp, gh⟩ = (df = [] ∧ gh = {} ∧ (hp.take n0).all (belowBlk n0) = true ∧ Post (hp.take n0)) := rfl
attribute [go_sem ↓] recP_normal recP_ret
theorem RecA.of_wp {g : FuncId} {id : Nat} {o : Oper} {l : List Oper} {rest : Code} {dst : Tmp} {args : List AV} {h : List Blk} {rec : Option AV} {Post : List Blk → Prop} (so : Opt) (m : Nat) (hm : P.follows .mixedOrders = true) (hf : P.funcs[g]? = some fn) (hn : max args.length fn.ntmps = args.length + m) (hb : fn.body = some (.seq (.region id (o :: l).toArray false) rest)) (hres : fn.results = #[])
    (hop : o.op = .call { callee := .builtin .recover, args := #[], argTypes := #[] }) (hog : o.guard = none) (hod : o.dst = some dst) (hd : drawsOk so rest = true)
    (hw : ∀ (j : Nat → AV), h.all (belowBlk h.length) = true → withS (setN dst (rec.getD .niliface) (args ++ junk j args.length m)) fun sl => runL P so (o :: l).toArray l (seqK (wp P so ⟨g, false, h.length⟩ rest (recP h.length Post)) (recP h.length Post)) ⟨sl, [], h, {}⟩) : RecA P g args h rec Post := by
  refine RecA.of_body hf hb hres (by simp) hop hog hod fun hbel => ?_
  obtain ⟨j, hj⟩ := entry_lit (l := args ++ List.replicate (fn.ntmps - args.length) (.tup [])) (args := args) (m := m) (by simp; omega) (fun i a hi => by
    have : i < args.length := (List.getElem?_eq_some_iff.1 hi).1
    simp [evA, List.getD, List.getElem?_append_left this, hi])
  have := hw j hbel
  rw [hj]
  have e : (args ++ junk j args.length m).set dst (rec.getD .niliface) = setN dst (rec.getD .niliface) (args ++ junk j args.length m) := by
    have := putA_some (l := args ++ junk j args.length m) (d := dst) (v := rec.getD .niliface)
    simpa [putA] using this
  rw [e]
  have hq : ∀ e s, recP h.length Post e s → recQ h.length Post e s := fun e s q => by cases e <;> exact q
  refine (WPI.cons rfl (Q := recP h.length Post) ?_).mono hq
  have h2 : runL P so (o :: l).toArray l (seqK (wp P so ⟨g, false, h.length⟩ rest (recP h.length Post)) (recP h.length Post)) ⟨setN dst (rec.getD .niliface) (args ++ junk j args.length m), [], h, {}⟩ := this
  have x : WPI P ⟨g, false, h.length⟩ [.inRegion (o :: l).toArray (List.range' 1 l.length)] (seqK (wp P so ⟨g, false, h.length⟩ rest (recP h.length Post)) (recP h.length Post)) ⟨setN dst (rec.getD .niliface) (args ++ junk j args.length m), [], h, {}⟩ := runL_ok (k := 1) (fun j => by simp [Nat.add_comm 1 j]) h2
  have hl : List.range' 1 l.length = List.range' 1 ((o :: l).toArray.size - 1) := by simp
  rw [← hl]
  refine x.mono fun e s q => ?_
  cases e with
  | normal => exact wp_ok hm _ hd q
  | exit _ => exact q
  | goto _ => exact q
  | ret => exact q
  | panic _ => exact q
def retR (P : Program) (fn : Func) (n0 : Nat) (g : FuncId) (cap : List AV) (Post : AEnd → List Blk → Prop) : AExit → AS → Prop
  | .normal, s | .ret, s => s.gh = {} ∧ s.df = [.call (.func g) cap []] ∧ RecA P g cap s.hp none fun h1 => ∃ v n, resA P fn s.sl h1 = some v ∧ n0 ≤ n ∧ below n v = true ∧ (h1.take n).all (belowBlk n) = true ∧ Post (.ret v) (h1.take n)
  | .panic x, s => s.gh = {} ∧ s.df = [.call (.func g) cap []] ∧ RecA P g cap s.hp (some x) fun h1 => ∃ v n, resA P fn s.sl h1 = some v ∧ n0 ≤ n ∧ below n v = true ∧ (h1.take n).all (belowBlk n) = true ∧ Post (.ret v) (h1.take n)
  | _, _ => False
section
variable {n0 : Nat} {g : FuncId} {cap : List AV} {Post : AEnd → List Blk → Prop} {sl : List AV} {df : List ADef} {hp : List Blk} {gh : Gst} {x : AV}
theorem retR_normal : retR P fn n0 g cap Post .normal ⟨sl, df, hp, gh⟩ = (gh = {} ∧ df = [.call (.func g) cap []] ∧ RecA P g cap hp none fun h1 => ∃ v n, resA P fn sl h1 = some v ∧ n0 ≤ n ∧ below n v = true ∧ (h1.take n).all (belowBlk n) = true ∧ Post (.ret v) (h1.take n)) := rfl
theorem retR_ret : retR P fn n0 g cap Post .ret ⟨sl, df, hp, gh⟩ = (gh = {} ∧ df = [.call (.func g) cap []] ∧ RecA P g cap hp none fun h1 => ∃ v n, resA P fn sl h1 = some v ∧ n0 ≤ n ∧ below n v = true ∧ (h1.take n).all (belowBlk n) = true ∧ Post (.ret v) (h1.take n)) := rfl
theorem retR_panic : retR P fn n0 g cap Post (.panic x) ⟨sl, df, hp, gh⟩ = (gh = {} ∧ df = [.call (.func g) cap []] ∧ RecA P g cap hp (some x) fun h1 => ∃ v n, resA P fn sl h1 = some v ∧ n0 ≤ n ∧ below n v = true ∧ (h1.take n).all (belowBlk n) = true ∧ Post (.ret v) (h1.take n)) := rfl
end
attribute [go_sem ↓] retR_normal retR_ret retR_panic
theorem CallsA.of_wpr {f : FuncId} {code : Code} {args : List AV} {h : List Blk} {Post : AEnd → List Blk → Prop} (g : FuncId) (cap : List AV) (so : Opt) (m : Nat) (hc : callable P g) (hm : P.follows .mixedOrders = true) (hf : P.funcs[f]? = some fn) (hn : max args.length fn.ntmps = args.length + m) (hb : fn.body = some code) (hd : drawsOk so code = true)
    (hw : ∀ (j : Nat → AV), h.all (belowBlk h.length) = true → belowL h.length args = true → wp P so ⟨f, false, h.length⟩ code (retR P fn h.length g cap Post) ⟨args ++ junk j args.length m, [], h, {}⟩) : CallsA P f args h Post := by
  refine CallsA.of_bodyR hf hb fun h1 h2 => ?_
  obtain ⟨j, hj⟩ := entry_lit (l := args ++ List.replicate (fn.ntmps - args.length) (.tup [])) (args := args) (m := m) (by simp; omega) (fun i a hi => by
    have : i < args.length := (List.getElem?_eq_some_iff.1 hi).1
    simp [evA, List.getD, List.getElem?_append_left this, hi])
  rw [hj]
  refine (wp_ok hm _ hd (hw j h1 h2)).mono fun e s q => ?_
  cases e with
  | normal => exact ⟨s, .refl, q.1, g, cap, q.2.1, hc, q.2.2⟩
  | ret => exact ⟨s, .refl, q.1, g, cap, q.2.1, hc, q.2.2⟩
  | panic v => exact ⟨q.1, g, cap, q.2.1, hc, q.2.2⟩
  | exit id => exact q.elim
  | goto l => exact q.elim
end
end Go.Mac

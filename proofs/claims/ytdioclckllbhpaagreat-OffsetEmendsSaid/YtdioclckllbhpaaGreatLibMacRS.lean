/- A part of the logic and of the contracts of the functions that the statement reaches; the statement itself is proved in the last text. -/
import Derived.Attr
import Derived.Test.YtdioclckllbhpaaGreatLibMacCJ

set_option linter.all false
set_option linter.unusedVariables false
set_option linter.unusedSimpArgs false
set_option linter.unnecessarySimpa false
namespace Go.Mac
open Go Go.Conc
def unmarkK (h : List Blk) (df : List ADef) (K : List Blk → Prop) : Prop :=
  match unmark h df with
  | some h1 => K h1
  | none => False
def markK (b : Option Blk) (n : Nm) (h : List Blk) (df : List ADef) (K : List Blk → Prop) : Prop :=
  match b with
  | some .defd => n.gen = 0 ∧ unmarkK (h.set n.id .dead) df K
  | _ => False
section
variable {P : Program} {fn : Func} {h hp : List Blk} {v : AV} {sl : List AV} {df : List ADef} {gh : Gst} {K : List Blk → Prop} {n0 : Nat} {Post : AEnd → List Blk → Prop}
theorem unmarkK_nil : unmarkK hp [] K = K hp := rfl
theorem unmarkK_mark {n : Nm} : unmarkK hp (.mark n :: df) K = markK (hp[n.id]?) n hp df K := by
  simp only [unmarkK, unmark, markK]
  cases hp[n.id]? with
  | none => rfl
  | some b =>
    cases b <;> try rfl
    by_cases hg : n.gen = 0
    · simp [hg, unmarkK]
    · simp [hg]
theorem markK_defd {n : Nm} : markK (some .defd) n hp df K = (n.gen = 0 ∧ unmarkK (hp.set n.id .dead) df K) := rfl
def endK (ds : List Nat) (s : AS) (K : List AV → List Blk → Prop) : Prop := s.gh = {} ∧ shutK ds s.sl s.hp fun sl hp => unmarkK hp s.df fun h1 => K sl h1
def retE (ds : List Nat) (P : Program) (fn : Func) (n0 : Nat) (Post : AEnd → List Blk → Prop) : AExit → AS → Prop
  | .normal, s | .ret, s => endK ds s fun sl h1 => ∃ v n, resA P fn sl h1 = some v ∧ n0 ≤ n ∧ below n v = true ∧ (h1.take n).all (belowBlk n) = true ∧ Post (.ret v) (h1.take n)
  | .panic v, s => endK [] s fun _ h1 => Post (.panic v) h1
  | _, _ => False
def retPE (ds : List Nat) (P : Program) (fn : Func) (h : List Blk) (v : AV) : AExit → AS → Prop
  | .normal, s | .ret, s => endK ds s fun sl h1 => resA P fn sl h1 = some v ∧ ∃ k, h1 = h ++ k
  | _, _ => False
theorem endK_mk {ds : List Nat} {K : List AV → List Blk → Prop} : endK ds ⟨sl, df, hp, gh⟩ K = (gh = {} ∧ shutK ds sl hp fun sl hp => unmarkK hp df fun h1 => K sl h1) := rfl
theorem retE_ret {ds : List Nat} {s : AS} : retE ds P fn n0 Post .ret s = endK ds s fun sl h1 => ∃ v n, resA P fn sl h1 = some v ∧ n0 ≤ n ∧ below n v = true ∧ (h1.take n).all (belowBlk n) = true ∧ Post (.ret v) (h1.take n) := rfl
theorem retE_normal {ds : List Nat} {s : AS} : retE ds P fn n0 Post .normal s = endK ds s fun sl h1 => ∃ v n, resA P fn sl h1 = some v ∧ n0 ≤ n ∧ below n v = true ∧ (h1.take n).all (belowBlk n) = true ∧ Post (.ret v) (h1.take n) := rfl
theorem retE_panic {ds : List Nat} {s : AS} : retE ds P fn n0 Post (.panic v) s = endK [] s fun _ h1 => Post (.panic v) h1 := rfl
theorem retPE_ret {ds : List Nat} {s : AS} : retPE ds P fn h v .ret s = endK ds s fun sl h1 => resA P fn sl h1 = some v ∧ ∃ k, h1 = h ++ k := rfl
theorem retPE_normal {ds : List Nat} {s : AS} : retPE ds P fn h v .normal s = endK ds s fun sl h1 => resA P fn sl h1 = some v ∧ ∃ k, h1 = h ++ k := rfl
attribute [go_sem ↓] retE_ret retE_normal retE_panic retPE_ret retPE_normal endK_mk unmarkK_nil unmarkK_mark
attribute [go_sem] markK_defd
theorem endK_turns {n0 : Nat} {ds : List Nat} {s : AS} {K : List AV → List Blk → Prop} (q : endK ds s K) : ∃ s', Turns n0 s s' ∧ s'.gh = {} ∧ ∃ h1, unmark s'.hp s'.df = some h1 ∧ K s'.sl h1 := by
  obtain ⟨h1, h2⟩ := q
  obtain ⟨s', t, e1, e2, e3⟩ := shutK_turns (n0 := n0) h2
  refine ⟨s', t, e2.trans h1, ?_⟩
  unfold unmarkK at e3
  rw [← e1] at e3
  split at e3
  · rename_i h1 hh
    exact ⟨h1, hh, e3⟩
  · exact e3.elim
theorem CallsA.of_wpe {f : FuncId} {code : Code} {args : List AV} (ds : List Nat) (so : Opt) (m : Nat) (hm : P.follows .mixedOrders = true) (hf : P.funcs[f]? = some fn) (hn : max args.length fn.ntmps = args.length + m) (hb : fn.body = some code) (hd : drawsOk so code = true)
    (hw : ∀ (j : Nat → AV), h.all (belowBlk h.length) = true → belowL h.length args = true → wp P so ⟨f, false, h.length⟩ code (retE ds P fn h.length Post) ⟨args ++ junk j args.length m, [], h, {}⟩) : CallsA P f args h Post := by
  refine CallsA.of_bodyE hf hb fun h1 h2 => ?_
  obtain ⟨j, hj⟩ := entry_lit (l := args ++ List.replicate (fn.ntmps - args.length) (.tup [])) (args := args) (m := m) (by simp; omega) (fun i a hi => by
    have : i < args.length := (List.getElem?_eq_some_iff.1 hi).1
    simp [evA, List.getD, List.getElem?_append_left this, hi])
  rw [hj]
  refine (wp_ok hm _ hd (hw j h1 h2)).mono fun e s q => ?_
  have key : (endK ds s fun sl h1 => ∃ v n, resA P fn sl h1 = some v ∧ h.length ≤ n ∧ below n v = true ∧ (h1.take n).all (belowBlk n) = true ∧ Post (.ret v) (h1.take n)) →
      ∃ s', Turns h.length s s' ∧ s'.gh = {} ∧ ∃ h1, unmark s'.hp s'.df = some h1 ∧ ∃ v n, resA P fn s'.sl h1 = some v ∧ h.length ≤ n ∧ below n v = true ∧ (h1.take n).all (belowBlk n) = true ∧ Post (.ret v) (h1.take n) := fun q => by
    obtain ⟨s', t, g1, h1, g2, g3⟩ := endK_turns (n0 := h.length) q
    exact ⟨s', t, g1, h1, g2, g3⟩
  cases e with
  | normal => exact key q
  | ret => exact key q
  | panic v =>
    obtain ⟨g0, g1⟩ := q
    simp only [shutK, unmarkK] at g1
    split at g1
    · rename_i h1 hh
      exact ⟨g0, h1, hh, g1⟩
    · exact g1.elim
  | exit id => exact q.elim
  | goto l => exact q.elim
theorem PureA.of_wpe {f : FuncId} {code : Code} {args : List AV} {v : AV} (ds : List Nat) (so : Opt) (m : Nat) (hm : P.follows .mixedOrders = true) (hf : P.funcs[f]? = some fn) (hn : max args.length fn.ntmps = args.length + m) (hb : fn.body = some code) (hd : drawsOk so code = true) (hv : below 0 v = true)
    (hw : ∀ (h : List Blk) (j : Nat → AV), h.all (belowBlk h.length) = true → wp P so ⟨f, false, h.length⟩ code (retPE ds P fn h v) ⟨args ++ junk j args.length m, [], h, {}⟩) : PureA P f args v := by
  intro h
  refine CallsA.of_bodyE hf hb fun h1 h2 => ?_
  obtain ⟨j, hj⟩ := entry_lit (l := args ++ List.replicate (fn.ntmps - args.length) (.tup [])) (args := args) (m := m) (by simp; omega) (fun i a hi => by
    have : i < args.length := (List.getElem?_eq_some_iff.1 hi).1
    simp [evA, List.getD, List.getElem?_append_left this, hi])
  rw [hj]
  refine (wp_ok hm _ hd (hw h j h1)).mono fun e s q => ?_
  have key : (endK ds s fun sl h1 => resA P fn sl h1 = some v ∧ ∃ k, h1 = h ++ k) →
      ∃ s', Turns h.length s s' ∧ s'.gh = {} ∧ ∃ h1, unmark s'.hp s'.df = some h1 ∧ ∃ v' n, resA P fn s'.sl h1 = some v' ∧ h.length ≤ n ∧ below n v' = true ∧ (h1.take n).all (belowBlk n) = true ∧ (AEnd.ret v' = .ret v ∧ h1.take n = h) := fun q => by
    obtain ⟨s', t, g1, h1', g2, g3, k, g4⟩ := endK_turns (n0 := h.length) q
    refine ⟨s', t, g1, h1', g2, v, h.length, g3, Nat.le_refl _, below_mono (Nat.zero_le _) v hv, ?_, rfl, ?_⟩
    · rw [g4, List.take_left]; exact h1
    · rw [g4, List.take_left]
  cases e with
  | normal => exact key q
  | ret => exact key q
  | panic v => exact q.elim
  | exit id => exact q.elim
  | goto l => exact q.elim
end
end Go.Mac

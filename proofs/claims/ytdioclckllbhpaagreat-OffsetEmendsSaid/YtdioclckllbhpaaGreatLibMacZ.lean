/- A part of the logic and of the contracts of the functions that the statement reaches; the statement itself is proved in the last text. -/
import Derived.Below
import Derived.Carry
import Derived.Test.YtdioclckllbhpaaGreatLibMacL
import Derived.Test.YtdioclckllbhpaaGreatLibMacY

set_option linter.all false
set_option linter.unusedVariables false
set_option linter.unusedSimpArgs false
set_option linter.unnecessarySimpa false
namespace Go.Mac
open Go Go.Conc
def Cx.start (W : World) : Cx := { own := [⟨0, none⟩], mine := fun _ => False, imm := fun b => W.heap[b]?, com := { main := true, chans := fun _ => False, out := [], todo := [] } }
theorem HR.start (W : World) : HR (Cx.start W) W [.role true] where
  len := rfl
  blk i e b h h' := by
    cases i with
    | zero => cases h'; rfl
    | succ i => simp at h'
  apart i j ei ej bi bj x y hne h h' h2 h3 := by
    cases i with
    | succ i => simp at h2
    | zero => cases j with
      | zero => exact absurd rfl hne
      | succ j => simp at h3
  mine b h := h.elim
  imm b o h := ⟨fun h => h, h⟩
  chan r h := h.elim
theorem MI.start {P : Program} (g : Goroutine) (W : World) : MI P #[g] W #[] (Cx.start W) W [] where
  size := rfl
  act i s h := by simp at h
  rel0 := RL.refl _ _
  rel s h := by cases h
  apart0 s h := by cases h
  apart i j s s' _ h := by simp at h
  low0 b h := by
    rcases h with h | h
    · exact h.elim
    · obtain ⟨o, ho⟩ := Option.isSome_iff_exists.1 h
      exact (Array.getElem?_eq_some_iff.1 ho).1
  low s h := by cases h
  chans r h := by
    rcases h with h | ⟨s, h, _⟩
    · exact h.elim
    · cases h
  todo := List.Perm.refl _
  know0 := ⟨fun b h => h.elim, fun b _ i a h => by simp [touchAt, Trace.act?] at h⟩
  know i s h := by simp at h
  tame := ⟨fun i a h => by simp [touchAt, Trace.act?] at h, fun i a h => by simp [touchAt, Trace.act?] at h, fun op h => by simp at h⟩
  race said := by
    rintro ⟨i, j, _, ⟨a, b, ha, _⟩, _⟩
    simp [Trace.act?] at ha
  hand i op a h := by simp at h
theorem runs_of_calls {P : Program} {f : FuncId} {avs : List AV} {v : AV} {args : Array Value} {W : World} (hin : P.inits.idxOf? f = none) (hc : CallsA P f avs [.role true] fun e _ => e = .ret v) (ha : VRL (Cx.start W) avs args.toList) :
    ∃ M last o w' t', runNT P (M + 1) (solo (G (Frame.enter P f args .normal) []) W) #[] = (.ended o w', t') ∧ runN P M (solo (G (Frame.enter P f args .normal) []) W) = .next last ∧
      step P last = .ended o w' ∧ Conc.Good P (fun V W' => RowKit.Below W.heap.size W W' ∧ ∃ c, (∀ b o, W.heap[b]? = some o → c.imm b = some o ∧ W'.heap[b]? = some o) ∧ VR c v V) last o w' t' := by
  let E : World → Prop := fun w => w.os = W.os ∧ w.output = W.output ∧ w.tape = W.tape
  have hE : ∀ w w', E w → w'.os = w.os → w'.output = w.output → w'.tape = w.tape → E w' := fun w w' h e1 e2 e3 => ⟨e1.trans h.1, e2.trans h.2.1, e3.trans h.2.2⟩
  let Stop : Cx → Goroutine → World → Prop := fun c g w => E w → Fin P (fun V W' => RowKit.Below W.heap.size W W' ∧ ∃ c, (∀ b o, W.heap[b]? = some o → c.imm b = some o ∧ W'.heap[b]? = some o) ∧ VR c v V) c g w
  have hgo : Go' P true Stop (Cx.start W) (G (Frame.enter P f args .normal) []) W := by
    refine hc true Stop [] (Cx.start W) W args .normal (by simp) ha (HR.start W) rfl fun e h' c' w' fr q hH hx _ htodo he => ?_
    subst q
    obtain ⟨e1, e2, e3, e4, fn, V, e5, hV, hok⟩ := he
    refine .stop fun w1 r hEw => ?_
    obtain ⟨h5, h6, _⟩ := Ok.spec #[] (hok w1 r) (Nat.le_refl _)
    rw [h5] at h6
    have hH1 := hH.rely r
    have hst : stepG P true (G fr []) w1 = .ended (.done V) w1 (seen P fr.fn ((results fn fr.tmps).events P w1 #[])) := by
      simp [G, stepG, unwind, doReturn, e1, e2, e3, e4, e5, h5, GStep.after, hin]
    have himm : ∀ b o, W.heap[b]? = some o → c'.imm b = some o ∧ w1.heap[b]? = some o := fun b o hb => by
      have := hx.imm b o hb
      exact ⟨this, (hH1.imm b o this).2⟩
    have hsz : W.heap.size ≤ w1.heap.size := by
      rcases Nat.eq_zero_or_pos W.heap.size with h0 | h0
      · omega
      · have hl : W.heap[W.heap.size - 1]? = some W.heap[W.heap.size - 1] := by simp [h0]
        have := (Array.getElem?_eq_some_iff.1 (himm _ _ hl).2).1
        omega
    refine ⟨rfl, htodo, V, w1, _, w1.heap.size, hst, ⟨⟨hEw.1, hEw.2.2, hEw.2.1, hsz, fun k hk => ?_⟩, c', himm, hV⟩, fun x hx' => ?_⟩
    · rw [Array.getElem?_eq_getElem hk]
      exact (himm k _ (Array.getElem?_eq_getElem hk)).2
    · rcases h6 x (mem_seen hx') with h | h
      · simp at h
      · exact h
  have hr := MI.runs (P := P) hgo rfl rfl hE ⟨rfl, rfl, rfl⟩ (fun c g w h he => h he) [] #[G (Frame.enter P f args .normal) []] W #[] none (MI.start _ _) rfl
  rw [solo_eq_crowd]
  exact hr
end Go.Mac

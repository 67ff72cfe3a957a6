/- A part of the logic and of the contracts of the functions that the statement reaches; the statement itself is proved in the last text. -/
import Derived.Conc.CrowdSel
import Derived.Conc.Know
import Derived.Conc.LeavingOf
import Derived.Test.YtdioclckllbhpaaGreatLibMacB

set_option linter.all false
set_option linter.unusedVariables false
set_option linter.unusedSimpArgs false
set_option linter.unnecessarySimpa false
namespace Go.Mac
open Go Go.Conc
def listRel {α : Type 1} (r : α → α → Prop) (l' l : List α) : Prop := ∃ i a a', l[i]? = some a ∧ r a' a ∧ l' = l.set i a'
theorem acc_list {α : Type 1} {r : α → α → Prop} : ∀ (l : List α), (∀ a ∈ l, Acc r a) → Acc (listRel r) l
  | [], _ => ⟨_, fun l' h => by obtain ⟨i, a, a', h, _⟩ := h; simp at h⟩
  | a :: l, h => by
    have hl := acc_list l fun b hb => h b (List.mem_cons_of_mem _ hb)
    have ha := h a List.mem_cons_self
    clear h
    induction ha generalizing l with
    | intro a _ iha =>
      induction hl with
      | intro l hl ihl =>
        refine ⟨_, fun l' hx => ?_⟩
        obtain ⟨i, b, b', h1, h2, rfl⟩ := hx
        cases i with
        | zero =>
          simp at h1
          subst h1
          exact iha b' h2 l ⟨l, hl⟩
        | succ i =>
          simp at h1
          exact ihl (l.set i b') ⟨i, b, b', h1, h2, rfl⟩
inductive WT (P : Program) : Cx → Goroutine → World → Type 1
  | leave {c : Cx} {g : Goroutine} {w : World} (n : Nat) (h : QuitsIn P n g) (ho : c.com.out = []) (hm : ∀ b, ¬ c.mine b) : WT P c g w
  | step {c : Cx} {g : Goroutine} {w : World} (nx : World → Cx) (hne : c.com.out ≠ []) (hs : g.status = .running)
      (h1 : ∀ w1, RL c w w1 → ∃ g' w' es, stepG P false g w1 = .go g' w' es ∧ g'.status = .running ∧ Gd c (nx w1) w1 w' es)
      (h2 : ∀ w1, RL c w w1 → ∀ g' w' es, stepG P false g w1 = .go g' w' es → WT P (nx w1) g' w') : WT P c g w
  | ghost {c c' : Cx} {g : Goroutine} {w : World} (hg : Gh c c') (h : WT P c' g w) : WT P c g w
  | send {c c' : Cx} {g g' : Goroutine} {w : World} {r : Nat} {v z : Value} {rest : List (Nat × Value)} (hs : g.status = .running) (hs' : g'.status = .running)
      (h1 : ∀ w1, stepG P false g w1 = .comm g' #[⟨.chan (some r), some v, z⟩] true .send w1 #[])
      (ho : c.com.out = (r, v) :: rest) (hr : c.com.chans r) (hc : Gh c c' ∨ True)
      (hm : ∀ b, c'.mine b → c.mine b) (hi : ∀ b o, c'.imm b = some o → c.imm b = some o) (hch : c'.com.chans = c.com.chans) (hout : c'.com.out = rest) (htodo : c'.com.todo = c.com.todo)
      (h2 : WT P c' (g'.finishComm P #[⟨.chan (some r), some v, z⟩] .send 0 undef false) w) : WT P c g w
theorem wt_of_go {P : Program} {main : Bool} {Stop : Cx → Goroutine → World → Prop} {c : Cx} {g : Goroutine} {w : World} (h : Go' P main Stop c g w) (hm : main = false) (hrole : c.com.main = false) (hS : ∀ c g w, ¬ Stop c g w) (hne : c.com.out ≠ []) : Nonempty (WT P c g w) := by
  classical
  induction h with
  | stop h => exact absurd (h _ (RL.refl _ _)) (hS _ _ _)
  | step nx hs h1 h2 ih =>
    subst hm
    exact ⟨.step nx hne hs h1 fun w1 r g' w' es e => Classical.choice (ih w1 r g' w' es e rfl (by
      obtain ⟨_, _, _, _, _, hd⟩ := h1 w1 r
      rw [hd.main]; exact hrole) hS (by
      obtain ⟨_, _, _, _, _, hd⟩ := h1 w1 r
      rw [hd.out]; exact hne))⟩
  | ghost hg h ih => exact ⟨.ghost hg (Classical.choice (ih hm (by rw [hg.com]; exact hrole) hS (by rw [hg.com]; exact hne)))⟩
  | spawn hr => rw [hrole] at hr; cases hr
  | recv hr => rw [hrole] at hr; cases hr
  | @send main Stop c c' g g' w r v z rest _ hs hs' h1 ho hr hc h2 h3 ih =>
    subst hm
    rename_i hne0
    by_cases hne : rest = []
    · obtain ⟨n, hn⟩ := h3 hne
      refine ⟨.send (c' := { c' with mine := fun _ => False }) hs hs' h1 ho hr (.inr trivial) (fun b hb => hb.elim) (fun b o hb => by rw [← hc.2.2.1]; exact hb) hc.2.2.2.1 hc.2.2.2.2.1 hc.2.2.2.2.2.1 (.leave n hn (by rw [← hne]; exact hc.2.2.2.2.1) fun _ h => h)⟩
    · exact ⟨.send (c' := c') hs hs' h1 ho hr (.inr trivial) (fun b hb => by rw [← hc.2.1]; exact hb) (fun b o hb => by rw [← hc.2.2.1]; exact hb) hc.2.2.2.1 hc.2.2.2.2.1 hc.2.2.2.2.2.1 (Classical.choice (ih hne rfl (by rw [hc.2.2.2.2.2.2]; exact hrole) hS (by rw [hc.2.2.2.2.1]; exact hne)))⟩
structure WS (P : Program) where
  c : Cx
  g : Goroutine
  w : World
  t : WT P c g w
  parked : Bool
inductive WS.next (P : Program) : WS P → WS P → Prop
  | slip {c : Cx} {g g' : Goroutine} {w w' : World} {n : Nat} (h : QuitsIn P (n + 1) g) (h' : QuitsIn P n g') (ho : c.com.out = []) (hm : ∀ b, ¬ c.mine b) : WS.next P ⟨c, g', w', .leave n h' ho hm, false⟩ ⟨c, g, w, .leave (n + 1) h ho hm, false⟩
  | step {c : Cx} {g : Goroutine} {w : World} {nx : World → Cx} {hne : c.com.out ≠ []} {hs : g.status = .running} {h1 : ∀ w1, RL c w w1 → ∃ g' w' es, stepG P false g w1 = .go g' w' es ∧ g'.status = .running ∧ Gd c (nx w1) w1 w' es}
      {h2 : ∀ w1, RL c w w1 → ∀ g' w' es, stepG P false g w1 = .go g' w' es → WT P (nx w1) g' w'} (w1 : World) (r : RL c w w1) (g' : Goroutine) (w' : World) (es : Array Event) (e : stepG P false g w1 = .go g' w' es) :
      WS.next P ⟨nx w1, g', w', h2 w1 r g' w' es e, false⟩ ⟨c, g, w, .step nx hne hs h1 h2, false⟩
  | ghost {c c' : Cx} {g : Goroutine} {w : World} {hg : Gh c c'} {h : WT P c' g w} : WS.next P ⟨c', g, w, h, false⟩ ⟨c, g, w, .ghost hg h, false⟩
  | send {p : Bool} {c c' : Cx} {g g' : Goroutine} {w : World} {r : Nat} {v z : Value} {rest : List (Nat × Value)} {hs : g.status = .running} {hs' : g'.status = .running} {h1 : ∀ w1, stepG P false g w1 = .comm g' #[⟨.chan (some r), some v, z⟩] true .send w1 #[]}
      {ho : c.com.out = (r, v) :: rest} {hr : c.com.chans r} {hc : Gh c c' ∨ True} {hm : ∀ b, c'.mine b → c.mine b} {hi : ∀ b o, c'.imm b = some o → c.imm b = some o} {hch : c'.com.chans = c.com.chans} {hout : c'.com.out = rest} {htodo : c'.com.todo = c.com.todo}
      {h2 : WT P c' (g'.finishComm P #[⟨.chan (some r), some v, z⟩] .send 0 undef false) w} : WS.next P ⟨c', _, w, h2, false⟩ ⟨c, g, w, .send hs hs' h1 ho hr hc hm hi hch hout htodo h2, p⟩
  | park {c : Cx} {g : Goroutine} {w : World} {t : WT P c g w} : WS.next P ⟨c, g, w, t, true⟩ ⟨c, g, w, t, false⟩
theorem ws_acc_true {P : Program} {c : Cx} {g : Goroutine} {w : World} {t : WT P c g w} (h : ∀ y, WS.next P y ⟨c, g, w, t, false⟩ → y = ⟨c, g, w, t, true⟩ ∨ Acc (WS.next P) y) (h' : ∀ y, WS.next P y ⟨c, g, w, t, true⟩ → Acc (WS.next P) y) (p : Bool) : Acc (WS.next P) ⟨c, g, w, t, p⟩ := by
  have ht : Acc (WS.next P) ⟨c, g, w, t, true⟩ := ⟨_, h'⟩
  cases p with
  | true => exact ht
  | false => exact ⟨_, fun y hy => by
      rcases h y hy with rfl | h
      · exact ht
      · exact h⟩
theorem ws_acc_leave {P : Program} : ∀ (n : Nat) {c : Cx} {g : Goroutine} {w : World} (h : QuitsIn P n g) (ho : c.com.out = []) (hm : ∀ b, ¬ c.mine b) (p : Bool), Acc (WS.next P) ⟨c, g, w, .leave n h ho hm, p⟩
  | 0, _, _, _, _, _, _, p => ws_acc_true (fun y hy => by cases hy; exact .inl rfl) (fun y hy => by cases hy) p
  | n + 1, _, _, _, _, _, _, p => ws_acc_true (fun y hy => by
      cases hy with
      | slip h h' ho hm => exact .inr (ws_acc_leave n h' ho hm false)
      | park => exact .inl rfl) (fun y hy => by cases hy) p
theorem ws_acc {P : Program} {c : Cx} {g : Goroutine} {w : World} (t : WT P c g w) : ∀ p, Acc (WS.next P) ⟨c, g, w, t, p⟩ := by
  induction t with
  | leave n h ho hm => exact fun p => ws_acc_leave n h ho hm p
  | step nx hne hs h1 h2 ih =>
    refine fun p => ws_acc_true (fun y hy => ?_) (fun y hy => by cases hy) p
    cases hy with
    | step w1 r g' w' es e => exact .inr (ih w1 r g' w' es e false)
    | park => exact .inl rfl
  | ghost hg h ih =>
    refine fun p => ws_acc_true (fun y hy => ?_) (fun y hy => by cases hy) p
    cases hy with
    | ghost => exact .inr (ih false)
    | park => exact .inl rfl
  | send hs hs' h1 ho hr hc hm hi hch hout htodo h2 ih =>
    refine fun p => ws_acc_true (fun y hy => ?_) (fun y hy => ?_) p
    · cases hy with
      | send => exact .inr (ih false)
      | park => exact .inl rfl
    · cases hy with
      | send => exact ih false
end Go.Mac

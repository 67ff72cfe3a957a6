/- A part of the logic and of the contracts of the functions that the statement reaches; the statement itself is proved in the last text. -/
import Derived.Test.YtdioclckllbhpaaGreatLibMacX

set_option linter.all false
set_option linter.unusedVariables false
set_option linter.unusedSimpArgs false
set_option linter.unnecessarySimpa false
namespace Go.Mac
open Go Go.Conc
section
variable {P : Program} {Post : Value → World → Prop}
theorem act_awake {s : WS P} {x : Goroutine} (h : Act s x) : awake x := by
  obtain ⟨c, g, w0, t, p⟩ := s
  cases p with
  | false =>
    have : x = g := h
    subst this
    exact awake_of ((wt_status t).elim .inl fun q => .inr (.inr q))
  | true =>
    cases t with
    | send hs hs' h1 ho hr hcc hm hi hch hout htodo h2 =>
      have e : x = parked _ _ _ := h
      rw [e]
      exact awake_of (.inr (.inl rfl))
    | _ => exact h.elim
theorem MI.awake {gs : Array Goroutine} {w : World} {t : Trace} {c0 : Cx} {w0 : World} {ws : List (WS P)} {g : Goroutine} (h : MI P gs w t c0 w0 ws) (h0 : gs[0]? = some g) (hg : Conc.awake g) : ∀ x ∈ gs, Conc.awake x := by
  intro x hx
  obtain ⟨i, hi⟩ := Array.getElem?_of_mem hx
  cases i with
  | zero => rw [h0] at hi; cases hi; exact hg
  | succ i =>
    have hlt : i < ws.length := by have := (Array.getElem?_eq_some_iff.1 hi).1; have := h.size; omega
    obtain ⟨y, hy, ha⟩ := h.act i ws[i] (by simp [hlt])
    rw [hi] at hy
    cases hy
    exact act_awake ha
def AtSend' (ws : List (WS P)) (k : Nat) : Prop :=
  ∃ (c c' : Cx) (g g' : Goroutine) (wv : World) (r : Nat) (v z : Value) (rest : List (Nat × Value)) (hs : g.status = .running) (hs' : g'.status = .running) (h1 : ∀ w1, stepG P false g w1 = .comm g' #[⟨.chan (some r), some v, z⟩] true .send w1 #[])
    (ho : c.com.out = (r, v) :: rest) (hr : c.com.chans r) (hc : Gh c c' ∨ True) (hm : ∀ b, c'.mine b → c.mine b) (hi : ∀ b o, c'.imm b = some o → c.imm b = some o) (hch : c'.com.chans = c.com.chans) (hout : c'.com.out = rest) (htodo : c'.com.todo = c.com.todo)
    (h2 : WT P c' (g'.finishComm P #[⟨.chan (some r), some v, z⟩] .send 0 undef false) wv), ws[k]? = some ⟨c, g, wv, .send hs hs' h1 ho hr hc hm hi hch hout htodo h2, false⟩
def Stays (c0 : Cx) (g0 : Goroutine) : Prop := g0.status = .running ∨ ∃ (g : Goroutine) (cases : Array CommCase) (sh : CommShape), g0 = parked g cases sh ∧ ∀ cc ∈ cases, cc.send = none ∧ ∃ r, cc.chan = .chan (some r) ∧ c0.com.chans r
theorem stays_woken {w' : World} {c0 : Cx} {g0 a a' : Goroutine} (h : Stays c0 g0) (ho : ∀ r, c0.com.chans r → OpenChan w' r) : woken P a a' w' g0 = g0 := by
  rcases h with h | ⟨g, cases, sh, rfl, h⟩
  · exact woken_running h
  · unfold woken
    split
    · refine again_all_open fun cc hcc => ?_
      obtain ⟨h1, r, h2, h3⟩ := h cc hcc
      obtain ⟨b, hb⟩ := ho r h3
      refine ⟨r, cc.zero, 0, #[], b, b, false, ?_, hb⟩
      obtain ⟨x, y, z⟩ := cc
      simp only at h1 h2
      subst h1 h2
      rfl
    · rfl
theorem MI.moveW {gs : Array Goroutine} {w : World} {t : Trace} {c0 : Cx} {w0 : World} {ws : List (WS P)} {g0 gk : Goroutine} {k : Nat} (sl : Option (Nat × Nat)) (h : MI P gs w t c0 w0 ws) (h0 : gs[0]? = some g0) (hst : Stays c0 g0) (hk : gs[k + 1]? = some gk) (hrun : gk.status = .running) :
    (∃ ws', listRel (WS.next P) ws' ws ∧ MI P gs w t c0 w0 ws' ∧ ∀ s' ∈ ws', s'.parked = true → s' ∈ ws) ∨
    (∃ ws' gs' w' ops, listRel (WS.next P) ws' ws ∧ MI P gs' w' (t ++ ops) c0 w0 ws' ∧ gs'[0]? = some g0 ∧ runT P (crowd gs w sl) (k + 1) = (.next (crowd gs' w' sl), ops) ∧ ∀ s' ∈ ws', s'.parked = true → s' ∈ ws) ∨ AtSend' ws k := by
  have hlt : k < ws.length := by have := (Array.getElem?_eq_some_iff.1 hk).1; have := h.size; omega
  obtain ⟨s, hs⟩ : ∃ s, ws[k]? = some s := ⟨ws[k], by simp [hlt]⟩
  obtain ⟨y, hy, ha⟩ := h.act k s hs
  rw [hk] at hy
  cases hy
  have hmem := List.mem_of_getElem? hs
  have hpk : ∀ {s' : WS P}, s'.parked = false → ∀ x ∈ ws.set k s', x.parked = true → x ∈ ws := fun hp x hx hxp => by
    rcases mem_set' hx with rfl | ⟨i, _, hx⟩
    · rw [hp] at hxp; cases hxp
    · exact List.mem_of_getElem? hx
  obtain ⟨c, g, wv, tr, p⟩ := s
  cases p with
  | true =>
    exfalso
    cases tr with
    | send hs hs' h1 ho hr hcc hm hi hch hout htodo h2 =>
      have e : gk = parked _ _ _ := ha
      rw [e] at hrun
      cases hrun
    | _ => exact ha.elim
  | false =>
    have e : gk = g := ha
    subst e
    cases tr with
    | leave n hq ho hm =>
      cases n with
      | zero => have : gk.status = .finished := hq; rw [hrun] at this; cases this
      | succ n =>
        rcases hq with hq' | ⟨_, g', hstep, hq'⟩
        · rw [hrun] at hq'; cases hq'
        · refine .inr (.inl ⟨ws.set k ⟨c, g', w, .leave n hq' ho hm, false⟩, _, w, _, ⟨k, _, _, hs, .slip _ hq' ho hm, rfl⟩, ?_, ?_, runT_crowd_go hk (hstep w), hpk rfl⟩)
          · exact h.ownW hs (s' := ⟨c, g', w, .leave n hq' ho hm, false⟩) ⟨.refl _ _ _, fun _ h => .inl h, fun _ _ h => .inl h, fun _ _ h => h, by simp, fun _ h => .inl h, fun _ h => .inl h, fun _ h => h, rfl, rfl, rfl⟩ rfl rfl (.inr rfl)
          · rw [Array.getElem?_setIfInBounds_ne (by omega), Array.getElem?_map, h0, Option.map_some, stays_woken hst fun r hr => (h.chans r (.inl hr)).1]
    | step nx hne hs1 h1 h2 =>
      have hrel := h.rel _ hmem
      obtain ⟨g', w', es, hstep, hrun', gd⟩ := h1 w hrel
      have hM := h.ownW (g := gk) (g' := g') (fn := gk.frame.fn) (pos := gk.frame.place) hs (s' := ⟨nx w, g', w', h2 w hrel g' w' es hstep, false⟩) gd rfl rfl (.inl hne)
      refine .inr (.inl ⟨_, _, w', _, ⟨k, _, _, hs, .step w hrel g' w' es hstep, rfl⟩, hM, ?_, runT_crowd_go hk hstep, hpk rfl⟩)
      rw [Array.getElem?_setIfInBounds_ne (by omega), Array.getElem?_map, h0, Option.map_some, stays_woken hst fun r hr => (hM.chans r (.inl hr)).1]
    | ghost hg h' =>
      refine .inl ⟨ws.set k ⟨_, gk, wv, h', false⟩, ⟨k, _, _, hs, .ghost, rfl⟩, ?_, hpk rfl⟩
      have := h.turnW hs (s' := ⟨_, gk, wv, h', false⟩) (x' := gk) rfl (fun q => hg.rely q) hg
      rw [set_sameG hk] at this
      exact this
    | send hs1 hs' h1 ho hr hcc hm hi hch hout htodo h2 => exact .inr (.inr ⟨_, _, _, _, _, _, _, _, _, hs1, hs', h1, ho, hr, hcc, hm, hi, hch, hout, htodo, h2, hs⟩)
theorem act_offers_send {s : WS P} {x : Goroutine} {r k : Nat} (h : Act s x) (hk : k ∈ offersAt x r true) : k = 0 ∧ ∃ (c c' : Cx) (g g' : Goroutine) (wv : World) (v z : Value) (rest : List (Nat × Value)) (hs : g.status = .running) (hs' : g'.status = .running) (h1 : ∀ w1, stepG P false g w1 = .comm g' #[⟨.chan (some r), some v, z⟩] true .send w1 #[])
    (ho : c.com.out = (r, v) :: rest) (hr : c.com.chans r) (hc : Gh c c' ∨ True) (hm : ∀ b, c'.mine b → c.mine b) (hi : ∀ b o, c'.imm b = some o → c.imm b = some o) (hch : c'.com.chans = c.com.chans) (hout : c'.com.out = rest) (htodo : c'.com.todo = c.com.todo)
    (h2 : WT P c' (g'.finishComm P #[⟨.chan (some r), some v, z⟩] .send 0 undef false) wv), s = ⟨c, g, wv, .send hs hs' h1 ho hr hc hm hi hch hout htodo h2, true⟩ ∧ x = parked g' #[⟨.chan (some r), some v, z⟩] .send := by
  obtain ⟨c, g, w0, t, p⟩ := s
  cases p with
  | false =>
    have : x = g := h
    subst this
    rw [offersAt_of_not_blocked (by rcases wt_status t with q | q <;> rw [q] <;> simp)] at hk
    cases hk
  | true =>
    cases t with
    | @send _ c' _ g' _ r' v z rest hs hs' h1 ho hr hcc hm hi hch hout htodo h2 =>
      have e : x = parked g' #[scase r' v z] .send := h
      rw [e, offersAt_parked_send] at hk
      split at hk
      · rename_i hrr
        subst hrr
        exact ⟨by simpa using hk, c, c', g, g', w0, v, z, rest, hs, hs', h1, ho, hr, hcc, hm, hi, hch, hout, htodo, h2, rfl, e⟩
      · cases hk
    | _ => exact h.elim
theorem act_no_recv {s : WS P} {x : Goroutine} {r : Nat} (h : Act s x) : offersAt x r false = [] := by
  obtain ⟨c, g, w0, t, p⟩ := s
  cases p with
  | false =>
    have : x = g := h
    subst this
    exact offersAt_of_not_blocked (by rcases wt_status t with q | q <;> rw [q] <;> simp) _ _
  | true =>
    cases t with
    | @send _ c' _ g' _ r' v z rest hs hs' h1 ho hr hcc hm hi hch hout htodo h2 =>
      have e : x = parked g' #[scase r' v z] .send := h
      rw [e, offersAt_parked_send']
    | _ => exact h.elim
theorem wt_done {c : Cx} {g : Goroutine} {w : World} (t : WT P c g w) (h : c.com.out = []) : ∃ n, QuitsIn P n g := by
  induction t with
  | leave n hq ho hm => exact ⟨n, hq⟩
  | step nx hne => exact absurd h hne
  | ghost hg h' ih => exact ih (by rw [hg.com]; exact h)
  | send hs hs' h1 ho => rw [h] at ho; cases ho
theorem act_done {s : WS P} {x : Goroutine} (ha : Act s x) (h : s.c.com.out = []) : ∃ n, QuitsIn P n x := by
  obtain ⟨c, g, w0, t, p⟩ := s
  cases p with
  | false =>
    have : x = g := ha
    subst this
    exact wt_done t h
  | true =>
    cases t with
    | send hs hs' h1 ho => rw [h] at ho; cases ho
    | _ => exact ha.elim
def Fin (P : Program) (Post : Value → World → Prop) (c : Cx) (g : Goroutine) (w : World) : Prop :=
  g.status = .running ∧ c.com.todo = [] ∧ ∃ v w' es n1, stepG P true g w = .ended (.done v) w' es ∧ Post v w' ∧ ∀ e ∈ es, EvOk c w.heap.size n1 e
theorem MI.good {gs : Array Goroutine} {w w' wm : World} {t : Trace} {c0 : Cx} {w0 : World} {ws : List (WS P)} {sl : Option (Nat × Nat)} {v : Value} {es : Array Event} {n1 : Nat} {fn : FuncId} {pos : String} (h : MI P gs w t c0 w0 ws) (ht : c0.com.todo = []) (hp : Post v w') (he : ∀ e ∈ es, EvOk c0 w.heap.size n1 e) :
    Conc.Good P Post (crowd gs wm sl) (.done v) w' (t ++ MemOp.ofEvents 0 fn pos es) := by
  have hf := fits_of (j := 0) (fn := fn) (pos := pos) he
  have hout : ∀ s ∈ ws, s.c.com.out = [] := fun s hs => by
    have hp := h.todo
    rw [ht] at hp
    have hnil := hp.symm.eq_nil
    have := List.filter_eq_nil_iff.1 hnil s.c.com.out (List.mem_map_of_mem hs)
    simpa using this
  have hwl : Wordless (t ++ MemOp.ofEvents 0 fn pos es) := h.tame.words.append fun op hop => (hf op hop).2.2
  have hquit : ∀ (i : Nat) (x : Goroutine), gs[i + 1]? = some x → ∃ n, QuitsIn P n x := fun i x hx => by
    have hlt : i < ws.length := by have := (Array.getElem?_eq_some_iff.1 hx).1; have := h.size; omega
    obtain ⟨y, hy, ha⟩ := h.act i ws[i] (by simp [hlt])
    rw [hx] at hy
    cases hy
    exact act_done ha (hout _ (List.getElem_mem hlt))
  refine ⟨v, rfl, hp, noRace_own h.race h.tame h.know0.1 h.know0.2 hf, ?_, ⟨?_, rfl⟩, ?_⟩
  · intro i g hg hne hcount
    obtain ⟨x, hx, _⟩ := hcount
    obtain ⟨op, hop, hxi⟩ := touch_of hx
    have hgi : op.g = g := by simpa [Trace.g?, hop] using hg
    rcases getElem?_append_cases hop with ⟨_, hop'⟩ | ⟨_, hu⟩
    · have hk : Knows t 0 i := by
        rcases h.hand i op x hop' hxi with q | q | ⟨m, s, _, q2, q3⟩
        · rw [hgi] at q; exact absurd q hne
        · exact q
        · exact absurd (hout s (List.mem_of_getElem? q2)) q3
      obtain ⟨q, z, hz, hz0, hb⟩ := hk.app (MemOp.ofEvents 0 fn pos es)
      refine ⟨q, by simp [Trace.g?, hz, hz0], ?_⟩
      rcases hb with rfl | hb
      · rw [hop] at hz; cases hz; rw [hgi] at hz0; exact absurd hz0 hne
      · exact hb
    · have := (hf op hu).1; rw [hgi] at this; exact absurd this hne
  · intro x hx
    obtain ⟨i, hi⟩ := List.mem_iff_getElem?.1 hx
    have hi' : gs[i + 1]? = some x := by
      rw [List.getElem?_drop] at hi
      have : (crowd gs wm sl).gs.toList = gs.toList := rfl
      rw [this, Array.getElem?_toList] at hi
      rw [Nat.add_comm]
      exact hi
    obtain ⟨n, hq⟩ := hquit i x hi'
    exact ⟨n, hq.leaves⟩
  · intro i x hi hne
    cases i with
    | zero => exact absurd rfl hne
    | succ i =>
      obtain ⟨n, hq⟩ := hquit i x hi
      rw [hwl.deaf]
      exact ⟨n, hq.hears _ 0⟩
theorem wt_running {c : Cx} {g : Goroutine} {w : World} (t : WT P c g w) (h : c.com.out ≠ []) : g.status = .running := by
  induction t with
  | leave n hq ho hm => exact absurd ho h
  | step nx hne hs => exact hs
  | ghost hg h' ih => exact ih (by rw [hg.com]; exact h)
  | send hs => exact hs
theorem MI.no_recv {gs : Array Goroutine} {w : World} {t : Trace} {c0 : Cx} {w0 : World} {ws : List (WS P)} (h : MI P gs w t c0 w0 ws) {k r j : Nat} {x : Goroutine} (hx : (gs.setIfInBounds (k + 1) ph)[j]? = some x) (hj : j ≠ 0) : offersAt x r false = [] := by
  rcases getElem?_stand gs (k + 1) j x hx with ⟨_, rfl⟩ | ⟨_, hx⟩
  · exact offersAt_ph _ _
  · obtain ⟨i, rfl⟩ : ∃ i, j = i + 1 := ⟨j - 1, by omega⟩
    have hlt : i < ws.length := by have := (Array.getElem?_eq_some_iff.1 hx).1; have := h.size; omega
    obtain ⟨y, hy, ha⟩ := h.act i ws[i] (by simp [hlt])
    rw [hx] at hy
    cases hy
    exact act_no_recv ha
theorem MI.park {gs : Array Goroutine} {w : World} {t : Trace} {c0 : Cx} {w0 : World} {ws : List (WS P)} {g0 : Goroutine} {k : Nat} (sl : Option (Nat × Nat)) (h : MI P gs w t c0 w0 ws) (h0 : gs[0]? = some g0) (hg : g0.status = .running) (hsend : AtSend' ws k) :
    ∃ ws' gs' w' ops, listRel (WS.next P) ws' ws ∧ MI P gs' w' (t ++ ops) c0 w0 ws' ∧ gs'[0]? = some g0 ∧ runT P (crowd gs w sl) (k + 1) = (.next (crowd gs' w' sl), ops) := by
  obtain ⟨c, c', g, g', wv, r, v, z, rest, hs, hs', h1, ho, hr, hc, hm, hi, hch, hout, htodo, h2, hk⟩ := hsend
  obtain ⟨x, hx, ha⟩ := h.act k _ hk
  have : x = g := ha
  subst this
  obtain ⟨a, hopen⟩ := (h.chans r (.inr ⟨_, List.mem_of_getElem? hk, hr⟩)).1
  refine ⟨_, _, w, _, ⟨k, _, _, hk, .park, rfl⟩, ?_, ?_, crowd_waits hx (h1 w) ?_⟩
  · have := h.turnW hk (s' := ⟨c, x, wv, .send hs hs' h1 ho hr hc hm hi hch hout htodo h2, true⟩) (x' := parked g' #[⟨.chan (some r), some v, z⟩] .send) rfl id (.refl _)
    simpa [MemOp.ofEvents] using this
  · rw [Array.getElem?_setIfInBounds_ne (by omega)]; exact h0
  · intro cc hcc
    have : cc = scase r v z := by simpa [scase] using hcc
    subst this
    refine ways_send_none hopen (Nat.le_refl _) (partners_nil fun j y hy => ?_)
    by_cases hj : j = 0
    · subst hj
      rw [Array.getElem?_setIfInBounds_ne (by omega), h0] at hy
      cases hy
      exact offersAt_of_not_blocked (by rw [hg]; simp) _ _
    · exact h.no_recv hy hj
theorem MI.drive {g : Goroutine} {c0 : Cx} {w0 : World} (hs : g.status = .running)
    (main : ∀ (ws : List (WS P)) (gs : Array Goroutine) (w : World) (t : Trace) (sl : Option (Nat × Nat)), MI P gs w t c0 w0 ws → gs[0]? = some g → ∃ m' ops, runT P (crowd gs w sl) 0 = (m', ops) ∧
      ((∃ m, m' = .next m ∧ Runs P Post m (t ++ ops)) ∨ ∃ v w', m' = .ended (.done v) w' ∧ ∀ wm slm, Conc.Good P Post (crowd gs wm slm) (.done v) w' (t ++ ops))) :
    ∀ (ws : List (WS P)) (gs : Array Goroutine) (w : World) (t : Trace) (sl : Option (Nat × Nat)), MI P gs w t c0 w0 ws → gs[0]? = some g → Runs P Post (crowd gs w sl) t := by
  intro ws
  induction acc_list ws (fun a _ => ws_acc a.t a.parked) with
  | intro ws _ ih =>
  intro gs w t sl hI h0
  obtain ⟨i, gi, d, sl', hi, hrun, hst⟩ := crowd_pick (P := P) (w := w) (sl := sl) (hI.awake h0 (awake_of (.inl hs))) ⟨0, g, h0, hs⟩
  have hI' := hI.draw d
  cases i with
  | zero =>
    obtain ⟨m', ops, hr, hm⟩ := main ws gs (w.at d) t sl' hI' h0
    rcases hm with ⟨m, rfl, hm⟩ | ⟨v, w', rfl, hg⟩
    · exact .more (hst.trans hr) hm
    · exact .last (hst.trans hr) (hg w sl)
  | succ k =>
    rcases hI'.moveW sl' h0 (.inl hs) hi hrun with ⟨ws', hlt, hM, _⟩ | ⟨ws', gs', w', ops, hlt, hM, h0', hr, _⟩ | hsend
    · exact ih ws' hlt gs w t sl (hM.draw w.drawn) h0
    · exact .more (hst.trans hr) (ih ws' hlt gs' w' _ sl' hM h0')
    · obtain ⟨ws', gs', w', ops, hlt, hM, h0', hr⟩ := hI'.park sl' h0 hs hsend
      exact .more (hst.trans hr) (ih ws' hlt gs' w' _ sl' hM h0')
theorem todo_mem {gs : Array Goroutine} {w : World} {t : Trace} {c0 : Cx} {w0 : World} {ws : List (WS P)} (h : MI P gs w t c0 w0 ws) {s : WS P} (hs : s ∈ ws) (hne : s.c.com.out ≠ []) : s.c.com.out ∈ c0.com.todo := by
  refine h.todo.symm.subset (List.mem_filter.2 ⟨List.mem_map_of_mem hs, ?_⟩)
  cases ho : s.c.com.out with
  | nil => exact absurd ho hne
  | cons a l => rfl
theorem MI.wait {c0 : Cx} {w0 : World} {g' : Goroutine} {cases : Array CommCase} {shape : CommShape} (hr : Recvs c0 cases) (hne : c0.com.todo ≠ [])
    (hall : ∀ ms ∈ c0.com.todo, ∃ r v rest, ms = (r, v) :: rest ∧ ∃ k ∈ cases, k.chan = .chan (some r)) (nx : Nat → Value → List (List (Nat × Value)) → Cx)
    (hc : ∀ k v T, (nx k v T).own = c0.own ∧ (nx k v T).mine = c0.mine ∧ (nx k v T).imm = c0.imm ∧ (nx k v T).com.chans = c0.com.chans ∧ (nx k v T).com.out = c0.com.out ∧ (nx k v T).com.todo = T ∧ (nx k v T).com.main = c0.com.main)
    (out : ∀ (k r : Nat) (v z : Value) (T1 T2 : List (List (Nat × Value))) (rest : List (Nat × Value)), cases[k]? = some ⟨.chan (some r), none, z⟩ → c0.com.todo = T1 ++ ((r, v) :: rest) :: T2 →
      ∀ (ws : List (WS P)) (gs : Array Goroutine) (w : World) (t : Trace) (sl : Option (Nat × Nat)), MI P gs w t (nx k v (T1 ++ restOf rest ++ T2)) w0 ws → gs[0]? = some (g'.finishComm P cases shape k v true) → Runs P Post (crowd gs w sl) t) :
    ∀ (ws : List (WS P)) (gs : Array Goroutine) (w : World) (t : Trace) (sl : Option (Nat × Nat)), MI P gs w t c0 w0 ws → (∀ s ∈ ws, s.parked = false) → gs[0]? = some (parked g' cases shape) → Runs P Post (crowd gs w sl) t := by
  intro ws
  induction acc_list ws (fun a _ => ws_acc a.t a.parked) with
  | intro ws _ ih =>
  intro gs w t sl hI hup h0
  have hst0 : Stays c0 (parked g' cases shape) := .inr ⟨g', cases, shape, rfl, hr.1⟩
  have hsome : ∃ (i : Nat) (g : Goroutine), gs[i]? = some g ∧ g.status = .running := by
    obtain ⟨ms, hms⟩ := List.exists_mem_of_ne_nil _ hne
    have hm := hI.todo.subset hms
    obtain ⟨hm, hms'⟩ := List.mem_filter.1 hm
    obtain ⟨s, hs, rfl⟩ := List.mem_map.1 hm
    obtain ⟨i, hi⟩ := List.mem_iff_getElem?.1 hs
    obtain ⟨x, hx, ha⟩ := hI.act i s hi
    have hp := hup s hs
    obtain ⟨c, g, wv, tr, p⟩ := s
    simp only at hp
    subst hp
    have : x = g := ha
    subst this
    exact ⟨i + 1, x, hx, wt_running tr (by intro e; simp [e] at hms')⟩
  obtain ⟨i, gi, d, sl', hi, hrun, hst⟩ := crowd_pick (P := P) (w := w) (sl := sl) (hI.awake h0 (awake_of (.inr (.inl rfl)))) hsome
  have hI' := hI.draw d
  cases i with
  | zero => rw [h0] at hi; cases hi; cases hrun
  | succ k =>
    rcases hI'.moveW sl' h0 hst0 hi hrun with ⟨ws', hlt, hM, hpk⟩ | ⟨ws', gs', w', ops, hlt, hM, h0', hrn, hpk⟩ | hsend
    · exact ih ws' hlt gs w t sl (hM.draw w.drawn) (fun s hs => by
        cases hb : s.parked with
        | false => rfl
        | true => rw [hup s (hpk s hs hb)] at hb; cases hb) h0
    · exact .more (hst.trans hrn) (ih ws' hlt gs' w' _ sl' hM (fun s hs => by
        cases hb : s.parked with
        | false => rfl
        | true => rw [hup s (hpk s hs hb)] at hb; cases hb) h0')
    · obtain ⟨c, c', g, g2, wv, r, v, z, rest, hs, hs', h1, ho, hcr, hc', hm, him, hch, hout, htodo, h2, hk⟩ := hsend
      have hmem := List.mem_of_getElem? hk
      obtain ⟨x, hx, ha⟩ := hI.act k _ hk
      have : x = g := ha
      subst this
      obtain ⟨a, hopen⟩ := (hI'.chans r (.inr ⟨_, hmem, hcr⟩)).1
      have hin : ((r, v) :: rest) ∈ c0.com.todo := by
        have := todo_mem hI hmem (by rw [ho]; simp)
        rw [ho] at this
        exact this
      obtain ⟨T1, T2, hT⟩ := List.append_of_mem hin
      obtain ⟨r', v', rest', hms, cc, hcc, hcch⟩ := hall _ hin
      cases hms
      obtain ⟨kk, hkk⟩ := Array.getElem?_of_mem hcc
      have hcce : cc = rcase r cc.zero := by
        have := (hr.1 cc hcc).1
        obtain ⟨a, b, e⟩ := cc
        simp only at this hcch
        subst this hcch
        rfl
      rw [hcce] at hkk
      have hpart : partners (gs.setIfInBounds (k + 1) ph) r false = [(0, kk)] := by
        have e0 : (gs.setIfInBounds (k + 1) ph)[0]? = some (parked g' cases shape) := by rw [Array.getElem?_setIfInBounds_ne (by omega)]; exact h0
        rw [partners_one e0 fun j y hj hy => hI.no_recv hy hj, offersAt_parked_at hkk fun m cc' hm hcc' e => hm (hr.2 m kk cc' _ hcc' hkk (by rw [e]; rfl))]
        rfl
      have hrn := crowd_send_meets_sel (P := P) (sl := sl') hx (h1 (w.at d)) hopen (by omega) h0 hkk hpart
      refine .more (hst.trans hrn) (out kk r v cc.zero T1 T2 rest hkk hT (ws.set k ⟨c', _, wv, h2, false⟩) _ _ _ sl' ?_ ?_)
      · rw [set_swap (by omega)]
        have hM := hI'.meet (d := (w.at d).drawn) (x0 := g'.finishComm P cases shape kk v true) (s' := ⟨c', _, wv, h2, false⟩) (fj := g2.frame.fn) (f0 := g'.frame.fn) (pj := g2.frame.place) (p0 := g'.frame.place) hk ho hcr hopen rfl rfl hm him hch hout hT (hc kk v (T1 ++ restOf rest ++ T2)).2.1 (hc _ _ _).2.2.1 (hc _ _ _).2.2.2.1 (hc _ _ _).2.2.2.2.2.1
        exact hM
      · rw [Array.getElem?_setIfInBounds_ne (by omega), Array.getElem?_setIfInBounds_self_of_lt]
        exact (Array.getElem?_eq_some_iff.1 h0).1
theorem MI.runs {main : Bool} {Stop : Cx → Goroutine → World → Prop} {c0 : Cx} {g : Goroutine} {w0 : World} (hg : Go' P main Stop c0 g w0) (hmain : main = true) (hrole : c0.com.main = true) {E : World → Prop} (hE : ∀ w w', E w → w'.os = w.os → w'.output = w.output → w'.tape = w.tape → E w') (he0 : E w0) (hS : ∀ c g w, Stop c g w → E w → Fin P Post c g w) :
    ∀ (ws : List (WS P)) (gs : Array Goroutine) (w : World) (t : Trace) (sl : Option (Nat × Nat)), MI P gs w t c0 w0 ws → gs[0]? = some g → Runs P Post (crowd gs w sl) t := by
  induction hg with
  | stop h =>
    subst hmain
    refine MI.drive (hS _ _ _ (h _ (RL.refl _ _)) he0).1 fun ws gs w t sl hI h0 => ?_
    obtain ⟨_, ht, v, w', es, n1, hend, hp, he⟩ := hS _ _ _ (h w hI.rel0) (hE _ _ he0 hI.rel0.os hI.rel0.output hI.rel0.tape)
    exact ⟨_, _, run_ended h0 hend, .inr ⟨v, w', rfl, fun wm slm => hI.good ht hp he⟩⟩
  | step nx hs h1 h2 ih =>
    subst hmain
    refine MI.drive hs fun ws gs w t sl hI h0 => ?_
    obtain ⟨g', w', es, hstep, hrun', gd⟩ := h1 w hI.rel0
    refine ⟨_, _, runT_crowd_go h0 hstep, .inl ⟨_, rfl, ih w hI.rel0 g' w' es hstep rfl (gd.main.trans hrole) (hE _ _ (hE _ _ he0 hI.rel0.os hI.rel0.output hI.rel0.tape) gd.keeps.os gd.keeps.output gd.keeps.tape) hS ws _ _ _ sl (hI.own0 gd) ?_⟩⟩
    rw [Array.getElem?_setIfInBounds_self_of_lt]
    simp [hI.size]
  | ghost hgh h ih => exact fun ws gs w t sl hI h0 => ih hmain (by rw [hgh.com]; exact hrole) he0 hS ws gs w t sl (hI.ghost0 hgh) h0
  | @spawn main Stop c c' cc g g' child w0 _ hs hs' hk h1 hc hcc h2 h3 _ ih =>
    subst hmain
    refine MI.drive hs fun ws gs w t sl hI h0 => ?_
    have hrn := runT_crowd_spawn (P := P) (sl := sl) h0 (h1 w)
    obtain ⟨e1, e2, e3, e4, e5, e6, e7⟩ := hc
    obtain ⟨f1, f2, f3, f4, f5, f7, f6⟩ := hcc
    obtain ⟨tr⟩ := wt_of_go h2 rfl f7 (fun _ _ _ h => h) f5
    refine ⟨_, _, hrn, .inl ⟨_, rfl, ih rfl (e7.trans hrole) he0 hS (ws ++ [⟨cc, child, w0, tr, false⟩]) _ _ _ sl ?_ ?_⟩⟩
    · have hM := hI.spawn (c0' := c') (g' := g') (fn := g.frame.fn) (fn' := child.frame.fn) (pos := g.frame.place) (s := ⟨cc, child, w0, tr, false⟩) (child := child) rfl rfl ⟨e2, e3, e4, e6⟩ ⟨f1, f2, f3, f5⟩
      have hsz := hI.size
      simp only [goOps, ← hsz] at hM
      exact hM
    · rw [Array.getElem?_push_lt (by simp [hI.size]), ← Array.getElem?_eq_getElem, Array.getElem?_setIfInBounds_self_of_lt]
      simp [hI.size]
  | send hr => rw [hrole] at hr; cases hr
  | @recv main Stop c g g' w0 cases shape _ hs hs' h1 hr hne hall nx hc h2 ih =>
    have out : ∀ (k r : Nat) (v z : Value) (T1 T2 : List (List (Nat × Value))) (rest : List (Nat × Value)), cases[k]? = some ⟨.chan (some r), none, z⟩ → c.com.todo = T1 ++ ((r, v) :: rest) :: T2 →
      ∀ (ws : List (WS P)) (gs : Array Goroutine) (w : World) (t : Trace) (sl : Option (Nat × Nat)), MI P gs w t (nx k v (T1 ++ restOf rest ++ T2)) w0 ws → gs[0]? = some (g'.finishComm P cases shape k v true) → Runs P Post (crowd gs w sl) t :=
      fun k r v z T1 T2 rest hk hT ws gs w t sl hI h0 => ih k r v z T1 T2 rest hk hT hmain ((hc _ _ _).2.2.2.2.2.2.trans hrole) he0 hS ws gs w t sl hI h0
    subst hmain
    refine MI.drive hs fun ws gs w t sl hI h0 => ?_
    have hopen : ∀ cc ∈ cases, ∃ r z, cc = rcase r z ∧ OpenChan w r := fun cc hcc => by
      obtain ⟨q1, r, q2, q3⟩ := hr.1 cc hcc
      refine ⟨r, cc.zero, ?_, (hI.chans r (.inl q3)).1⟩
      obtain ⟨a, b, e⟩ := cc
      simp only at q1 q2
      subst q1 q2
      rfl
    have hpart : ∀ r j k, (j, k) ∈ partners (gs.setIfInBounds 0 ph) r true → k = 0 ∧ j ≠ 0 ∧ ∃ gj vj zj, gs[j]? = some (parked gj #[scase r vj zj] .send) := fun r j k hp => by
      obtain ⟨x, hx, hk⟩ := mem_partners.1 hp
      rcases getElem?_stand gs 0 j x hx with ⟨_, rfl⟩ | ⟨hj, hx⟩
      · rw [offersAt_ph] at hk; cases hk
      · obtain ⟨i, rfl⟩ : ∃ i, j = i + 1 := ⟨j - 1, by omega⟩
        have hlt : i < ws.length := by have := (Array.getElem?_eq_some_iff.1 hx).1; have := hI.size; omega
        obtain ⟨y, hy, ha⟩ := hI.act i ws[i] (by simp [hlt])
        rw [hx] at hy
        cases hy
        obtain ⟨e, _, _, _, g2, _, v, z, _, _, _, _, _, _, _, _, _, _, _, _, _, _, rfl⟩ := act_offers_send ha hk
        exact ⟨e, hj, g2, v, z, hx⟩
    by_cases hw : ∃ cc ∈ cases, ways w (gs.setIfInBounds 0 ph) cc ≠ []
    · obtain ⟨k, r, z, j, gj, vj, zj, a, d, hck, hij, hj, hch, hrn⟩ := sel_recv_any (P := P) (sl := sl) h0 (h1 w) hopen hpart hw
      obtain ⟨i, rfl⟩ : ∃ i, j = i + 1 := ⟨j - 1, by omega⟩
      have hlt : i < ws.length := by have := (Array.getElem?_eq_some_iff.1 hj).1; have := hI.size; omega
      obtain ⟨s, hsi⟩ : ∃ s, ws[i]? = some s := ⟨ws[i], by simp [hlt]⟩
      obtain ⟨y, hy, ha⟩ := hI.act i s hsi
      rw [hj] at hy
      cases hy
      obtain ⟨_, cc, cc', gg, g2, wv, v, zz, rest, hs, hs', q1, ho, hcr, hc', hm, him, hch', hout, htodo, q2, rfl, heq⟩ := act_offers_send (r := r) (k := 0) ha (by rw [offersAt_parked_send]; simp)
      have hoff : (parked gj #[scase r vj zj] .send).offers = (parked g2 #[scase r v zz] .send).offers := by rw [heq]; rfl
      simp only [parked, Option.some.injEq, Prod.mk.injEq, and_true] at hoff
      have hoff2 : scase r vj zj = scase r v zz := by simpa using hoff
      obtain ⟨rfl, rfl⟩ : vj = v ∧ zj = zz := by simpa [scase] using hoff2
      have hfin : gj.finishComm P #[scase r vj zj] .send 0 undef false = g2.finishComm P #[scase r vj zj] .send 0 undef false := by
        rw [← finishComm_parked P gj #[scase r vj zj] #[scase r vj zj] .send .send, heq]
        exact finishComm_parked P g2 #[scase r vj zj] #[scase r vj zj] .send .send 0 undef false
      have hin : ((r, vj) :: rest) ∈ c.com.todo := by
        have := todo_mem hI (List.mem_of_getElem? hsi) (by rw [ho]; simp)
        rw [ho] at this
        exact this
      obtain ⟨T1, T2, hT⟩ := List.append_of_mem hin
      refine ⟨_, _, hrn, .inl ⟨_, rfl, out k r vj z T1 T2 rest hck hT (ws.set i ⟨cc', _, wv, q2, false⟩) _ _ _ sl ?_ ?_⟩⟩
      · have hM := hI.meet (d := d) (x0 := g'.finishComm P cases shape k vj true) (s' := ⟨cc', _, wv, q2, false⟩) (fj := gj.frame.fn) (f0 := g'.frame.fn) (pj := gj.frame.place) (p0 := g'.frame.place) hsi ho hcr hch rfl rfl hm him hch' hout hT (hc k vj (T1 ++ restOf rest ++ T2)).2.1 (hc _ _ _).2.2.1 (hc _ _ _).2.2.2.1 (hc _ _ _).2.2.2.2.2.1
        have e0 : MemOp.ofEvents 0 g.frame.fn g.frame.place #[] = #[] := by simp [MemOp.ofEvents]
        rw [hfin, e0, Array.empty_append]
        exact hM
      · rw [Array.getElem?_setIfInBounds_self_of_lt]
        simp [hI.size]
    · have hno : ∀ cc ∈ cases, NoWays w (gs.setIfInBounds 0 ph) cc := fun cc hcc => by
        refine ⟨?_, Classical.byContradiction fun q => hw ⟨cc, hcc, q⟩⟩
        obtain ⟨r, z, rfl, a, ha⟩ := hopen cc hcc
        exact made_recv z ha
      have hrn := crowd_waits (P := P) (sl := sl) h0 (h1 w) hno
      refine ⟨_, _, hrn, .inl ⟨_, rfl, MI.wait (w0 := w0) (nx := nx) hr hne hall hc out ws _ w _ sl ?_ ?_ ?_⟩⟩
      · have e : t ++ MemOp.ofEvents 0 g.frame.fn g.frame.place #[] = t := by simp [MemOp.ofEvents]
        rw [e]
        exact ⟨by simp [hI.size], fun i s hi => by
          obtain ⟨x, hx, ha⟩ := hI.act i s hi
          exact ⟨x, by rw [Array.getElem?_setIfInBounds_ne (by omega)]; exact hx, ha⟩, hI.rel0, hI.rel, hI.apart0, hI.apart, hI.low0, hI.low, hI.chans, hI.todo, hI.know0, hI.know, hI.tame, hI.race, hI.hand⟩
      · intro s hs
        cases hb : s.parked with
        | false => rfl
        | true =>
          exfalso
          obtain ⟨i, hi⟩ := List.mem_iff_getElem?.1 hs
          obtain ⟨x, hx, ha⟩ := hI.act i s hi
          obtain ⟨c2, gg, wv, tr, p⟩ := s
          simp only at hb
          subst hb
          cases tr with
          | @send _ c' _ g2 _ r v z rest _ _ _ ho hcr hcc hm him hch hout htodo h2 =>
            have e : x = parked g2 #[scase r v z] .send := ha
            have hin : ((r, v) :: rest) ∈ c.com.todo := by
              have := todo_mem hI hs (by simp only; rw [ho]; simp)
              simp only at this
              rw [ho] at this
              exact this
            obtain ⟨r', v', rest', hms, cc, hccm, hcch⟩ := hall _ hin
            cases hms
            obtain ⟨r2, z2, rfl, a, hopn⟩ := hopen cc hccm
            have er : r2 = r := by simpa [rcase] using hcch
            subst er
            have hp : (i + 1, 0) ∈ partners (gs.setIfInBounds 0 ph) r2 true := mem_partners.2 ⟨x, by rw [Array.getElem?_setIfInBounds_ne (by omega)]; exact hx, by rw [e, offersAt_parked_send]; simp⟩
            refine hw ⟨_, hccm, ?_⟩
            simp only [ways, rcase, hopn]
            simp only [Array.size_empty, gt_iff_lt, Nat.lt_irrefl, if_false]
            cases hps : partners (gs.setIfInBounds 0 ph) r2 true with
            | nil => rw [hps] at hp; cases hp
            | cons p ps => simp
          | _ => exact ha.elim
      · rw [Array.getElem?_setIfInBounds_self_of_lt]
        simp [hI.size]
end
end Go.Mac

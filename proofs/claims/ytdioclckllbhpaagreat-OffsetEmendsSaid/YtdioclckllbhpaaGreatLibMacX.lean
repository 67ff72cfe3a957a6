/- A part of the logic and of the contracts of the functions that the statement reaches; the statement itself is proved in the last text. -/
import Derived.Test.YtdioclckllbhpaaGreatLibMacW

set_option linter.all false
set_option linter.unusedVariables false
set_option linter.unusedSimpArgs false
set_option linter.unnecessarySimpa false
namespace Go.Mac
open Go Go.Conc
theorem run_ended {P : Program} {gs : Array Goroutine} {w w' : World} {sl : Option (Nat × Nat)} {i : Nat} {g : Goroutine} {o : Outcome} {es : Array Event} (hi : gs[i]? = some g) (h : stepG P (i == 0) g w = .ended o w' es) :
    runT P (crowd gs w sl) i = (.ended o w', MemOp.ofEvents i g.frame.fn g.frame.place es) := by
  obtain ⟨hlt, rfl⟩ := Array.getElem?_eq_some_iff.1 hi
  have hsw := swapAt_of_lt hlt { (default : Goroutine) with status := .finished }
  show runT P { world := w, gs := gs, rest := { timers := #[], alone := none, slice := sl } } i = _
  unfold runT
  simp only [hsw, h, GStep.es]
theorem set_sameG {gs : Array Goroutine} {i : Nat} {x : Goroutine} (h : gs[i]? = some x) : gs.setIfInBounds i x = gs := by
  apply Array.ext_getElem?
  intro j
  by_cases hj : i = j
  · subst hj
    obtain ⟨hlt, e⟩ := Array.getElem?_eq_some_iff.1 h
    rw [Array.getElem?_setIfInBounds_self_of_lt hlt, h]
  · rw [Array.getElem?_setIfInBounds_ne hj]
theorem set_swap {gs : Array Goroutine} {i j : Nat} {x y : Goroutine} (h : i ≠ j) : (gs.setIfInBounds i x).setIfInBounds j y = (gs.setIfInBounds j y).setIfInBounds i x := by
  apply Array.ext_getElem?
  intro k
  by_cases hi : i = k
  · subst hi
    rw [Array.getElem?_setIfInBounds_ne (fun e => h e.symm)]
    by_cases hlt : i < gs.size
    · rw [Array.getElem?_setIfInBounds_self_of_lt hlt, Array.getElem?_setIfInBounds_self_of_lt (by simpa using hlt)]
    · rw [Array.getElem?_eq_none (by simpa using hlt), Array.getElem?_eq_none (by simpa using hlt)]
  · rw [Array.getElem?_setIfInBounds_ne hi]
    by_cases hj : j = k
    · subst hj
      by_cases hlt : j < gs.size
      · rw [Array.getElem?_setIfInBounds_self_of_lt (by simpa using hlt), Array.getElem?_setIfInBounds_self_of_lt hlt]
      · rw [Array.getElem?_eq_none (by simpa using hlt), Array.getElem?_eq_none (by simpa using hlt)]
    · rw [Array.getElem?_setIfInBounds_ne hj, Array.getElem?_setIfInBounds_ne hj, Array.getElem?_setIfInBounds_ne hi]
theorem MI.turnW {P : Program} {gs : Array Goroutine} {w : World} {t : Trace} {c0 : Cx} {w0 : World} {ws : List (WS P)} {k : Nat} {s s' : WS P} {x' : Goroutine} (h : MI P gs w t c0 w0 ws) (hk : ws[k]? = some s)
    (ha : Act s' x') (hr : RL s.c s.w w → RL s'.c s'.w w) (g : Gh s.c s'.c) : MI P (gs.setIfInBounds (k + 1) x') w t c0 w0 (ws.set k s') := by
  have hmem := List.mem_of_getElem? hk
  have hlt : k < ws.length := (List.getElem?_eq_some_iff.1 hk).1
  have hap : ∀ a : Cx, Apart a s.c → Apart a s'.c := fun a ⟨h1, h2, h3⟩ => by
    refine ⟨fun x hx hx' => h1 x hx (g.mine x hx'), fun x hx => ?_, fun x hx => h3 x (g.mine x hx)⟩
    cases hi : s'.c.imm x with
    | none => rfl
    | some o =>
      rcases g.imm x o hi with q | q
      · rw [h2 x hx] at q; cases q
      · exact absurd q (h1 x hx)
  have hlow : ∀ b, s'.c.mine b ∨ (s'.c.imm b).isSome = true → b < w.heap.size := fun b hb => by
    rcases hb with hb | hb
    · exact h.low s hmem b (.inl (g.mine b hb))
    · obtain ⟨o, ho⟩ := Option.isSome_iff_exists.1 hb
      rcases g.imm b o ho with q | q
      · exact h.low s hmem b (.inr (by rw [q]; rfl))
      · exact h.low s hmem b (.inl q)
  refine ⟨by simp [h.size], ?_, h.rel0, ?_, ?_, ?_, h.low0, ?_, ?_, ?_, h.know0, ?_, h.tame, h.race, ?_⟩
  · intro i x hi
    rcases get_set hi with ⟨rfl, rfl⟩ | ⟨hne, hi⟩
    · exact ⟨x', by rw [Array.getElem?_setIfInBounds_self_of_lt]; simp [h.size, hlt], ha⟩
    · obtain ⟨y, hy, hay⟩ := h.act i x hi
      exact ⟨y, by rw [Array.getElem?_setIfInBounds_ne (by omega)]; exact hy, hay⟩
  · intro x hx
    rcases mem_set' hx with rfl | ⟨i, hi, hx⟩
    · exact hr (h.rel s hmem)
    · exact h.rel x (List.mem_of_getElem? hx)
  · intro x hx
    rcases mem_set' hx with rfl | ⟨i, hi, hx⟩
    · exact hap _ (h.apart0 s hmem)
    · exact h.apart0 x (List.mem_of_getElem? hx)
  · intro i j x y hij hx hy
    rcases get_set hx with ⟨e1, e2⟩ | ⟨hi, hx2⟩ <;> rcases get_set hy with ⟨e3, e4⟩ | ⟨hj, hy2⟩
    · omega
    · rw [e2]; exact (hap _ (h.apart j k y s (by omega) hy2 hk)).symm
    · rw [e4]; exact hap _ (h.apart i k x s (by omega) hx2 hk)
    · exact h.apart i j x y hij hx2 hy2
  · intro x hx
    rcases mem_set' hx with rfl | ⟨i, hi, hx⟩
    · exact hlow
    · exact h.low x (List.mem_of_getElem? hx)
  · intro r hy
    have hr' : c0.com.chans r ∨ ∃ s ∈ ws, s.c.com.chans r := by
      rcases hy with hy | ⟨x, hx, hy⟩
      · exact .inl hy
      · rcases mem_set' hx with rfl | ⟨i, hi, hx⟩
        · rw [g.com] at hy; exact .inr ⟨s, hmem, hy⟩
        · exact .inr ⟨x, List.mem_of_getElem? hx, hy⟩
    obtain ⟨a, b, d⟩ := h.chans r hr'
    refine ⟨a, b, fun x hx => ?_⟩
    rcases mem_set' hx with rfl | ⟨i, hi, hx⟩
    · refine ⟨fun q => (d s hmem).1 (g.mine r q), ?_⟩
      cases hi : x.c.imm r with
      | none => rfl
      | some o =>
        rcases g.imm r o hi with q | q
        · rw [(d s hmem).2] at q; cases q
        · exact absurd q (d s hmem).1
    · exact d x (List.mem_of_getElem? hx)
  · rw [outs_set hk (by rw [g.com])]; exact h.todo
  · intro i x hx
    rcases get_set hx with ⟨e1, e2⟩ | ⟨hi, hx2⟩
    · rw [e2, e1]
      refine ⟨fun b hb => (h.know k s hk).1 b (g.mine b hb), fun b hb => ?_⟩
      obtain ⟨o, ho⟩ := Option.isSome_iff_exists.1 hb
      rcases g.imm b o ho with q | q
      · exact (h.know k s hk).2 b (by rw [q]; rfl)
      · exact ((h.know k s hk).1 b q).w
    · exact h.know i x hx2
  · intro i op a hi ha
    rcases h.hand i op a hi ha with h1 | h1 | ⟨m, y, h1, h2, h3⟩
    · exact .inl h1
    · exact .inr (.inl h1)
    · refine .inr (.inr ?_)
      by_cases hm : k = m
      · subst hm
        rw [hk] at h2
        cases h2
        exact ⟨k, s', h1, List.getElem?_set_self hlt, by rw [g.com]; exact h3⟩
      · exact ⟨m, y, h1, by rw [List.getElem?_set_ne hm]; exact h2, h3⟩
theorem chan_set {w : World} {r a : Nat} (d : Nat) (h : w.heap[r]? = some (.chan 0 #[] false a a false)) : OpenChan ((w.at d).setChan r 0 #[] false (a + 1) (a + 1) false) r := by
  have hlt := (Array.getElem?_eq_some_iff.1 h).1
  refine ⟨a + 1, ?_⟩
  simp [World.setChan, World.at, hlt]
theorem chan_other {w : World} {r a b d : Nat} (h : r ≠ b) : ((w.at d).setChan r 0 #[] false (a + 1) (a + 1) false).heap[b]? = w.heap[b]? := by
  simp [World.setChan, World.at, h]
theorem rl_meet {c : Cx} {w : World} {r a d : Nat} (h : w.heap[r]? = some (.chan 0 #[] false a a false)) (h1 : ¬ c.mine r) (h2 : c.imm r = none) : RL c w ((w.at d).setChan r 0 #[] false (a + 1) (a + 1) false) where
  size := by simp [World.setChan, World.at]
  mine b hb := chan_other (by rintro rfl; exact h1 hb)
  imm b hb := chan_other (by rintro rfl; rw [h2] at hb; cases hb)
  os := rfl
  output := rfl
  tape := rfl
  chans x hx ho := by
    by_cases e : r = x
    · subst e; exact chan_set d h
    · unfold OpenChan; rw [chan_other e]; exact ho
theorem outs_split {P : Program} {ws : List (WS P)} {k : Nat} {s s' : WS P} (hk : ws[k]? = some s) :
    ∃ A B : List (List (Nat × Value)), ((ws.map fun s => s.c.com.out).filter fun o => !o.isEmpty) = A ++ restOf s.c.com.out ++ B ∧ (((ws.set k s').map fun s => s.c.com.out).filter fun o => !o.isEmpty) = A ++ restOf s'.c.com.out ++ B := by
  obtain ⟨hlt, rfl⟩ := List.getElem?_eq_some_iff.1 hk
  refine ⟨((ws.take k).map fun s => s.c.com.out).filter fun o => !o.isEmpty, ((ws.drop (k + 1)).map fun s => s.c.com.out).filter fun o => !o.isEmpty, ?_, ?_⟩
  · have e : ws = ws.take k ++ ws[k] :: ws.drop (k + 1) := by simp
    conv => lhs; rw [e]
    simp only [List.map_append, List.filter_append, List.map_cons, List.filter_cons, List.append_assoc]
    congr 1
    cases ho : ws[k].c.com.out <;> simp [restOf]
  · have e : ws.set k s' = ws.take k ++ s' :: ws.drop (k + 1) := by rw [List.set_eq_take_append_cons_drop]; simp [hlt]
    rw [e]
    simp only [List.map_append, List.filter_append, List.map_cons, List.filter_cons, List.append_assoc]
    congr 1
    cases ho : s'.c.com.out <;> simp [restOf]
theorem MI.meet {P : Program} {gs : Array Goroutine} {w : World} {t : Trace} {c0 c0' : Cx} {w0 : World} {ws : List (WS P)} {k r a d : Nat} {v : Value} {rest : List (Nat × Value)} {T1 T2 : List (List (Nat × Value))} {s s' : WS P} {x0 x' : Goroutine} {fj f0 : FuncId} {pj p0 : String}
    (h : MI P gs w t c0 w0 ws) (hk : ws[k]? = some s) (ho : s.c.com.out = (r, v) :: rest) (hr : s.c.com.chans r) (hch : w.heap[r]? = some (.chan 0 #[] false a a false))
    (ha : Act s' x') (hw : s'.w = s.w) (hm : ∀ b, s'.c.mine b → s.c.mine b) (hi : ∀ b o, s'.c.imm b = some o → s.c.imm b = some o) (hcs : s'.c.com.chans = s.c.com.chans) (hout : s'.c.com.out = rest)
    (ht : c0.com.todo = T1 ++ ((r, v) :: rest) :: T2) (h1 : c0'.mine = c0.mine) (h2 : c0'.imm = c0.imm) (h3 : c0'.com.chans = c0.com.chans) (h4 : c0'.com.todo = T1 ++ restOf rest ++ T2) :
    MI P ((gs.setIfInBounds (k + 1) x').setIfInBounds 0 x0) ((w.at d).setChan r 0 #[] false (a + 1) (a + 1) false) (t ++ meetOps (k + 1) r a a 0 fj f0 pj p0) c0' w0 (ws.set k s') := by
  have hmem := List.mem_of_getElem? hk
  have hlt : k < ws.length := (List.getElem?_eq_some_iff.1 hk).1
  have hR := h.chans r (.inr ⟨s, hmem, hr⟩)
  have hmute := mute_meet (k + 1) r a a 0 fj f0 pj p0
  have hap : ∀ b : Cx, Apart b s.c → Apart b s'.c := fun b ⟨h1, h2, h3⟩ => by
    refine ⟨fun x hx hx' => h1 x hx (hm x hx'), fun x hx => ?_, fun x hx => h3 x (hm x hx)⟩
    cases hi' : s'.c.imm x with
    | none => rfl
    | some o => have q := hi x o hi'; rw [h2 x hx] at q; cases q
  have hap0 : ∀ b : Cx, Apart c0 b → Apart c0' b := fun b ⟨q1, q2, q3⟩ => ⟨fun x hx => q1 x (by rw [h1] at hx; exact hx), fun x hx => q2 x (by rw [h1] at hx; exact hx), fun x hx => by rw [h2]; exact q3 x hx⟩
  have hsz : ((w.at d).setChan r 0 #[] false (a + 1) (a + 1) false).heap.size = w.heap.size := by simp [World.setChan, World.at]
  have himm : ∀ b, (s'.c.imm b).isSome = true → (s.c.imm b).isSome = true := fun b hb => by
    obtain ⟨o, ho⟩ := Option.isSome_iff_exists.1 hb
    rw [hi b o ho]; rfl
  refine ⟨by simp [h.size], ?_, ?_, ?_, ?_, ?_, ?_, ?_, ?_, ?_, ?_, ?_, ?_, ?_, ?_⟩
  · intro i x hi
    rw [Array.getElem?_setIfInBounds_ne (by omega)]
    rcases get_set hi with ⟨rfl, rfl⟩ | ⟨hne, hi⟩
    · exact ⟨x', by rw [Array.getElem?_setIfInBounds_self_of_lt]; simp [h.size, hlt], ha⟩
    · obtain ⟨y, hy, hay⟩ := h.act i x hi
      exact ⟨y, by rw [Array.getElem?_setIfInBounds_ne (by omega)]; exact hy, hay⟩
  · have := h.rel0.trans (rl_meet (d := d) hch hR.2.1.1 hR.2.1.2)
    exact RL.same this h1 h2 h3
  · intro x hx
    rcases mem_set' hx with rfl | ⟨i, hi', hx⟩
    · have q := (h.rel s hmem).trans (rl_meet (d := d) hch (hR.2.2 s hmem).1 (hR.2.2 s hmem).2)
      rw [hw]
      exact ⟨q.size, fun b hb => q.mine b (hm b hb), fun b hb => q.imm b (himm b hb), q.os, q.output, q.tape, fun y hy => q.chans y (by rw [← hcs]; exact hy)⟩
    · have hx' := List.mem_of_getElem? hx
      exact (h.rel x hx').trans (rl_meet (d := d) hch (hR.2.2 x hx').1 (hR.2.2 x hx').2)
  · intro x hx
    rcases mem_set' hx with rfl | ⟨i, hi', hx⟩
    · exact hap0 _ (hap _ (h.apart0 s hmem))
    · exact hap0 _ (h.apart0 x (List.mem_of_getElem? hx))
  · intro i j x y hij hx hy
    rcases get_set hx with ⟨e1, e2⟩ | ⟨hi, hx2⟩ <;> rcases get_set hy with ⟨e3, e4⟩ | ⟨hj, hy2⟩
    · omega
    · rw [e2]; exact (hap _ (h.apart j k y s (by omega) hy2 hk)).symm
    · rw [e4]; exact hap _ (h.apart i k x s (by omega) hx2 hk)
    · exact h.apart i j x y hij hx2 hy2
  · intro b hb
    rw [hsz]
    exact h.low0 b (by rw [h1, h2] at hb; exact hb)
  · intro x hx b hb
    rw [hsz]
    rcases mem_set' hx with rfl | ⟨i, hi', hx⟩
    · exact h.low s hmem b (hb.imp (hm b) (himm b))
    · exact h.low x (List.mem_of_getElem? hx) b hb
  · intro y hy
    have hy' : c0.com.chans y ∨ ∃ s ∈ ws, s.c.com.chans y := by
      rcases hy with hy | ⟨x, hx, hy⟩
      · exact .inl (by rw [h3] at hy; exact hy)
      · rcases mem_set' hx with rfl | ⟨i, hi', hx⟩
        · rw [hcs] at hy; exact .inr ⟨s, hmem, hy⟩
        · exact .inr ⟨x, List.mem_of_getElem? hx, hy⟩
    obtain ⟨q1, q2, q3⟩ := h.chans y hy'
    refine ⟨?_, by rw [h1, h2]; exact q2, fun x hx => ?_⟩
    · by_cases e : r = y
      · subst e; exact chan_set d hch
      · unfold OpenChan; rw [chan_other e]; exact q1
    · rcases mem_set' hx with rfl | ⟨i, hi', hx⟩
      · refine ⟨fun q => (q3 s hmem).1 (hm y q), ?_⟩
        cases hi' : x.c.imm y with
        | none => rfl
        | some o => have q := hi y o hi'; rw [(q3 s hmem).2] at q; cases q
      · exact q3 x (List.mem_of_getElem? hx)
  · obtain ⟨A, B, e1, e2⟩ := outs_split (s' := s') hk
    rw [h4, e2, hout]
    have hp := h.todo
    rw [ht, e1, ho] at hp
    simp only [restOf, List.cons_ne_nil, if_false, List.append_assoc, List.singleton_append] at hp
    have hp2 : (T1 ++ T2).Perm (A ++ B) := ((List.perm_middle.symm.trans hp).trans List.perm_middle).cons_inv
    have hp3 : ∀ (X Y R : List (List (Nat × Value))), (X ++ R ++ Y).Perm (R ++ (X ++ Y)) := fun X Y R => by
      rw [← List.append_assoc]; exact List.Perm.append_right Y List.perm_append_comm
    exact (hp3 T1 T2 _).trans ((hp2.append_left _).trans (hp3 A B _).symm)
  · exact ⟨fun b hb => (h.know0.1 b (by rw [← h1]; exact hb)).mute hmute, fun b hb => (h.know0.2 b (by rw [← h2]; exact hb)).mute hmute⟩
  · intro i x hx
    rcases get_set hx with ⟨e1, e2⟩ | ⟨hi', hx2⟩
    · rw [e2, e1]
      exact ⟨fun b hb => ((h.know k s hk).1 b (hm b hb)).mute hmute, fun b hb => ((h.know k s hk).2 b (himm b hb)).mute hmute⟩
    · exact ⟨fun b hb => ((h.know i x hx2).1 b hb).mute hmute, fun b hb => ((h.know i x hx2).2 b hb).mute hmute⟩
  · exact h.tame.mute (by rw [hsz]; exact Nat.le_refl _) hmute
  · exact noRace_mute h.race hmute
  · intro i op b hi' hb
    rcases getElem?_append_cases hi' with ⟨_, hi2⟩ | ⟨_, hu⟩
    · rcases h.hand i op b hi2 hb with q | q | ⟨m, y, q1, q2, q3⟩
      · exact .inl q
      · exact .inr (.inl (q.app _))
      · by_cases hm' : k = m
        · subst hm'
          refine .inr (.inl ?_)
          have hkn : Knows t (k + 1) i := by have := knows_own hi2; rwa [q1] at this
          exact meet_knows h.tame.words hkn
        · exact .inr (.inr ⟨m, y, q1, by rw [List.getElem?_set_ne hm']; exact q2, q3⟩)
    · rw [(hmute op hu).1] at hb; cases hb
theorem MI.spawn {P : Program} {gs : Array Goroutine} {w : World} {t : Trace} {c0 c0' : Cx} {w0 : World} {ws : List (WS P)} {s : WS P} {g' child : Goroutine} {fn fn' : FuncId} {pos : String}
    (h : MI P gs w t c0 w0 ws) (ha : Act s child) (hw : s.w = w0)
    (hc : c0'.mine = c0.mine ∧ c0'.imm = c0.imm ∧ c0'.com.chans = c0.com.chans ∧ c0'.com.todo = c0.com.todo ++ [s.c.com.out])
    (hcc : (∀ b, ¬ s.c.mine b) ∧ (∀ b o, s.c.imm b = some o → c0.imm b = some o ∧ ¬ c0.mine b) ∧ (∀ r, s.c.com.chans r → c0.com.chans r) ∧ s.c.com.out ≠ []) :
    MI P ((gs.setIfInBounds 0 g').push child) w (t ++ goOps (ws.length + 1) fn fn' pos) c0' w0 (ws ++ [s]) := by
  obtain ⟨h1, h2, h3, h4⟩ := hc
  obtain ⟨d1, d2, d3, d4⟩ := hcc
  have hmute := mute_go (ws.length + 1) fn fn' pos
  have himm : ∀ b, (s.c.imm b).isSome = true → (c0.imm b).isSome = true := fun b hb => by
    obtain ⟨o, ho⟩ := Option.isSome_iff_exists.1 hb
    rw [(d2 b o ho).1]; rfl
  have hap0 : ∀ b : Cx, Apart c0 b → Apart c0' b := fun b ⟨q1, q2, q3⟩ => ⟨fun x hx => q1 x (by rw [h1] at hx; exact hx), fun x hx => q2 x (by rw [h1] at hx; exact hx), fun x hx => by rw [h2]; exact q3 x hx⟩
  have hnew : ∀ x ∈ ws, Apart x.c s.c := fun x hx => ⟨fun b _ hb => d1 b hb, fun b hb => (by
    cases hi : s.c.imm b with
    | none => rfl
    | some o => have q := (d2 b o hi).1; rw [(h.apart0 x hx).imm' b hb] at q; cases q), fun b hb => absurd hb (d1 b)⟩
  have get_app : ∀ {i : Nat} {x : WS P}, (ws ++ [s])[i]? = some x → (i = ws.length ∧ x = s) ∨ (i < ws.length ∧ ws[i]? = some x) := fun {i x} hi => by
    rcases Nat.lt_or_ge i ws.length with hlt | hge
    · rw [List.getElem?_append_left hlt] at hi; exact .inr ⟨hlt, hi⟩
    · rw [List.getElem?_append_right hge] at hi
      have hlt := (List.getElem?_eq_some_iff.1 hi).1
      simp only [List.length_singleton] at hlt
      have : i = ws.length := by omega
      subst this
      simp at hi
      exact .inl ⟨rfl, hi.symm⟩
  have hmem : ∀ {x : WS P}, x ∈ ws ++ [s] → x = s ∨ x ∈ ws := fun {x} hx => by
    rcases List.mem_append.1 hx with hx | hx
    · exact .inr hx
    · exact .inl (by simpa using hx)
  refine ⟨by simp [h.size], ?_, ?_, ?_, ?_, ?_, ?_, ?_, ?_, ?_, ?_, ?_, ?_, ?_, ?_⟩
  · intro i x hi
    rcases get_app hi with ⟨rfl, rfl⟩ | ⟨hlt, hi⟩
    · refine ⟨child, ?_, ha⟩
      have : ws.length + 1 = (gs.setIfInBounds 0 g').size := by simp [h.size]
      rw [this, Array.getElem?_push_size]
    · obtain ⟨y, hy, hay⟩ := h.act i x hi
      refine ⟨y, ?_, hay⟩
      have hlt' := (Array.getElem?_eq_some_iff.1 hy).1
      rw [Array.getElem?_push_lt (by simpa using hlt'), ← Array.getElem?_eq_getElem, Array.getElem?_setIfInBounds_ne (by omega)]
      exact hy
  · exact RL.same h.rel0 h1 h2 h3
  · intro x hx
    rcases hmem hx with rfl | hx
    · rw [hw]
      exact ⟨h.rel0.size, fun b hb => absurd hb (d1 b), fun b hb => h.rel0.imm b (himm b hb), h.rel0.os, h.rel0.output, h.rel0.tape, fun y hy => h.rel0.chans y (d3 y hy)⟩
    · exact h.rel x hx
  · intro x hx
    rcases hmem hx with rfl | hx
    · refine hap0 _ ⟨fun b _ hb => d1 b hb, fun b hb => ?_, fun b hb => absurd hb (d1 b)⟩
      cases hi : x.c.imm b with
      | none => rfl
      | some o => exact absurd hb (d2 b o hi).2
    · exact hap0 _ (h.apart0 x hx)
  · intro i j x y hij hx hy
    rcases get_app hx with ⟨e1, e2⟩ | ⟨hi, hx2⟩ <;> rcases get_app hy with ⟨e3, e4⟩ | ⟨hj, hy2⟩
    · omega
    · rw [e2]; exact (hnew y (List.mem_of_getElem? hy2)).symm
    · rw [e4]; exact hnew x (List.mem_of_getElem? hx2)
    · exact h.apart i j x y hij hx2 hy2
  · intro b hb
    exact h.low0 b (by rw [h1, h2] at hb; exact hb)
  · intro x hx b hb
    rcases hmem hx with rfl | hx
    · exact h.low0 b (.inr (himm b (hb.resolve_left (d1 b))))
    · exact h.low x hx b hb
  · intro y hy
    have hy' : c0.com.chans y ∨ ∃ s ∈ ws, s.c.com.chans y := by
      rcases hy with hy | ⟨x, hx, hy⟩
      · exact .inl (by rw [h3] at hy; exact hy)
      · rcases hmem hx with rfl | hx
        · exact .inl (d3 y hy)
        · exact .inr ⟨x, hx, hy⟩
    obtain ⟨q1, q2, q3⟩ := h.chans y hy'
    refine ⟨q1, by rw [h1, h2]; exact q2, fun x hx => ?_⟩
    rcases hmem hx with rfl | hx
    · refine ⟨d1 y, ?_⟩
      cases hi : x.c.imm y with
      | none => rfl
      | some o => have q := (d2 y o hi).1; rw [q2.2] at q; cases q
    · exact q3 x hx
  · rw [h4, List.map_append, List.filter_append]
    have : (([s].map fun s => s.c.com.out).filter fun o => !o.isEmpty) = [s.c.com.out] := by
      cases ho : s.c.com.out with
      | nil => exact absurd ho d4
      | cons a l => simp [ho]
    rw [this]
    exact h.todo.append_right _
  · exact ⟨fun b hb => (h.know0.1 b (by rw [← h1]; exact hb)).mute hmute, fun b hb => (h.know0.2 b (by rw [← h2]; exact hb)).mute hmute⟩
  · intro i x hx
    rcases get_app hx with ⟨e1, e2⟩ | ⟨hi', hx2⟩
    · rw [e2, e1]
      exact ⟨fun b hb => absurd hb (d1 b), fun b hb => spawn_knows h.tame.words (h.know0.2 b (himm b hb))⟩
    · exact ⟨fun b hb => ((h.know i x hx2).1 b hb).mute hmute, fun b hb => ((h.know i x hx2).2 b hb).mute hmute⟩
  · exact h.tame.mute (Nat.le_refl _) hmute
  · exact noRace_mute h.race hmute
  · intro i op b hi' hb
    rcases getElem?_append_cases hi' with ⟨_, hi2⟩ | ⟨_, hu⟩
    · rcases h.hand i op b hi2 hb with q | q | ⟨m, y, q1, q2, q3⟩
      · exact .inl q
      · exact .inr (.inl (q.app _))
      · exact .inr (.inr ⟨m, y, q1, by rw [List.getElem?_append_left (List.getElem?_eq_some_iff.1 q2).1]; exact q2, q3⟩)
    · rw [(hmute op hu).1] at hb; cases hb
end Go.Mac

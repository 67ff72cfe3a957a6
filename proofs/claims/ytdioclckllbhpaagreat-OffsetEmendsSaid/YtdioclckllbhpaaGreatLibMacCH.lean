/- A part of the logic and of the contracts of the functions that the statement reaches; the statement itself is proved in the last text. -/
import Derived.Test.YtdioclckllbhpaaGreatLibMacRH

set_option linter.all false
set_option linter.unusedVariables false
set_option linter.unusedSimpArgs false
set_option linter.unnecessarySimpa false
namespace Go.Mac
open Go Go.Conc
section
variable {c : Cx} {w : World} {h : List Blk}
def Cx.more (c : Cx) : Cx := { c with own := c.own ++ [⟨0, none⟩] }
theorem Ext.more (c : Cx) : Ext c c.more where
  own i e he := ⟨e, by simp only [Cx.more]; rw [List.getElem?_append_left (List.getElem?_eq_some_iff.1 he).1]; exact he, Nat.le_refl _, fun _ => rfl⟩
  imm _ _ h := h
theorem Gh.more (c : Cx) : Gh c c.more := ⟨rfl, fun _ h => h, fun _ _ h => .inl h, fun _ _ h => h⟩
theorem HR.more (x : HR c w h) : HR c.more w (h ++ [.cells 0 []]) where
  len := by simp [Cx.more, x.len]
  blk i e b h1 h2 := by
    simp only [Cx.more] at h1
    by_cases hi : i < h.length
    · rw [List.getElem?_append_left (by rw [← x.len]; exact hi)] at h1
      rw [List.getElem?_append_left hi] at h2
      exact (x.blk i e b h1 h2).grow (.more c) (fun _ h => h) (fun _ h => h) fun _ _ => rfl
    · have hi' : i = h.length := by
        have := (List.getElem?_eq_some_iff.1 h2).1
        simp at this; omega
      subst hi'
      rw [x.len] at h1
      simp at h1 h2
      subst h1; subst h2
      exact ⟨rfl, .inl ⟨rfl, rfl⟩⟩
  apart i j ei ej bi bj y1 y2 hne h1 h2 h3 h4 l1 l2 s1 s2 := by
    simp only [Cx.more] at h1 h2
    have key : ∀ (m : Nat) (em : Ent) (bm : Blk) (y : Nat × Nat), (c.own ++ [⟨0, none⟩])[m]? = some em → (h ++ [.cells 0 []])[m]? = some bm → em.seat = some y → c.own[m]? = some em ∧ h[m]? = some bm := by
      intro m em bm y g1 g2 g4
      by_cases hm : m < h.length
      · rw [List.getElem?_append_left (by rw [← x.len]; exact hm)] at g1
        rw [List.getElem?_append_left hm] at g2
        exact ⟨g1, g2⟩
      · have hm' : m = h.length := by
          have := (List.getElem?_eq_some_iff.1 g2).1
          simp at this; omega
        subst hm'
        rw [x.len] at g1
        simp at g1
        subst g1
        cases g4
    obtain ⟨a1, a2⟩ := key i ei bi y1 h1 h3 s1
    obtain ⟨b1, b2⟩ := key j ej bj y2 h2 h4 s2
    exact x.apart i j ei ej bi bj y1 y2 hne a1 b1 a2 b2 l1 l2 s1 s2
  mine := x.mine
  imm := x.imm
  chan := x.chan
end
section
variable {P : Program} {fk : FK} {Q : AExit → AS → Prop} {s : AS} {n0 : Nat}
theorem Turns.reserve : Turns n0 s { s with hp := s.hp ++ [.cells 0 []] } := fun _ c _ _ _ x =>
  ⟨c.more, .more c, (Ext.more c).toT _, x.sl.ext (.more c), x.df.ext (.more c), x.hp.more, x.gh.ext (.more c) rfl rfl⟩
theorem Turns.nilSlot {d sz : Nat} (ha : evA s.sl (.tmp d) = .nilsl) : Turns n0 s { s with sl := s.sl.set d (.sl ⟨s.hp.length, 0⟩ sz 0 0), hp := s.hp ++ [.cells 0 []] } := by
  intro base c w tmps ds x
  have hname : c.more.own[s.hp.length]? = some ⟨0, none⟩ := by simp only [Cx.more]; rw [x.hp.len]; simp
  refine ⟨c.more, .more c, (Ext.more c).toT _, ?_, x.df.ext (.more c), x.hp.more, x.gh.ext (.more c) rfl rfl⟩
  cases hd : s.sl[d]? with
  | none => simp [evA, List.getD, hd] at ha
  | some a0 =>
    have : a0 = .nilsl := by simpa [evA, List.getD, hd] using ha
    subst this
    obtain ⟨V, hV, hr⟩ := x.sl.get hd
    have hr' : V = .slice none 0 0 := hr
    have h2 := (x.sl.ext (.more c)).set d (a := .sl ⟨s.hp.length, 0⟩ sz 0 0) (v := V) ⟨⟨none, 0, 0, hr'⟩, _, hname, Nat.le_refl _, fun _ => .inl ⟨rfl, rfl, hr'⟩⟩
    have : tmps.toList.set d V = tmps.toList := by
      obtain ⟨hlt, he⟩ := List.getElem?_eq_some_iff.1 hV
      rw [← he]; exact List.set_getElem_self hlt
    rw [this] at h2
    exact h2
theorem Turns.nilCell {i g j sz : Nat} {cs : List AV} (hb : s.hp[i]? = some (.cells g cs)) (hj : cs[j]? = some .nilsl) :
    Turns n0 s { s with hp := (s.hp.set i (.cells g (cs.set j (.sl ⟨s.hp.length, 0⟩ sz 0 0)))) ++ [.cells 0 []] } := by
  intro base c w tmps ds x
  have hname : c.more.own[s.hp.length]? = some ⟨0, none⟩ := by simp only [Cx.more]; rw [x.hp.len]; simp
  have hlt : i < s.hp.length := (List.getElem?_eq_some_iff.1 hb).1
  have hlt' : i < c.own.length := by rw [← x.hp.len]; exact hlt
  have hm := x.hp.more
  have he : c.more.own[i]? = some c.own[i] := by simp only [Cx.more]; rw [List.getElem?_append_left hlt']; simp [hlt']
  have hb' : (s.hp ++ [.cells 0 []])[i]? = some (.cells g cs) := by rw [List.getElem?_append_left hlt]; exact hb
  refine ⟨c.more, .more c, (Ext.more c).toT _, x.sl.ext (.more c), x.df.ext (.more c), ?_, x.gh.ext (.more c) rfl rfl⟩
  have e : (s.hp.set i (.cells g (cs.set j (.sl ⟨s.hp.length, 0⟩ sz 0 0)))) ++ [.cells 0 []] = (s.hp ++ [Blk.cells 0 []]).set i (.cells g (cs.set j (.sl ⟨s.hp.length, 0⟩ sz 0 0))) := by rw [List.set_append_left _ _ hlt]
  show HR c.more w _
  rw [e]
  obtain ⟨h0, h1 | ⟨b, k, arr, el, l, h1, h2, h3, h4, h5, h6⟩⟩ := hm.blk _ _ _ he hb'
  · rw [h1.2] at hj; simp at hj
  · refine hm.update (new := .cells g (cs.set j (.sl ⟨s.hp.length, 0⟩ sz 0 0))) he hb' rfl h1 h2 rfl (fun _ _ => rfl) ⟨h0, .inr ⟨b, k, arr, el, l, h1, h2, h3, h4, ?_, h6⟩⟩
    obtain ⟨V, hV, hr⟩ := h5.get hj
    have hr' : V = .slice none 0 0 := hr
    have h7 := h5.set j (a := .sl ⟨s.hp.length, 0⟩ sz 0 0) (v := V) ⟨⟨none, 0, 0, hr'⟩, _, hname, Nat.le_refl _, fun _ => .inl ⟨rfl, rfl, hr'⟩⟩
    have : l.set j V = l := by
      obtain ⟨hlt, he⟩ := List.getElem?_eq_some_iff.1 hV
      rw [← he]; exact List.set_getElem_self hlt
    rw [this] at h7
    exact h7
end
section
variable {P : Program} {fk : FK} {ops : Array Oper} {i : Nat} {o : Oper}
theorem rebind_new {c : Cx} {w : World} {h : List Blk} {r g : Nat} {cells : Array Value} {cs : List AV} {el : TypeId} (hH : HR c w h) (hr : h[r]? = some (.cells g [])) (hv : VRL c cs cells.toList) :
    ∃ c', HR c' (w.alloc (.cells cells el (0, 0))) (h.set r (.cells (g + 1) cs)) ∧ TurnOk c c' w.heap.size ∧ VR c' (.ptr ⟨r, g + 1⟩ 0) (.pointer (some ⟨w.heap.size, 0, none⟩)) := by
  have hlt : r < c.own.length := by rw [← hH.len]; exact (List.getElem?_eq_some_iff.1 hr).1
  have he : c.own[r]? = some c.own[r] := by simp [hlt]
  have hg : c.own[r].gen = g := (hH.blk _ _ _ he hr).1
  let e' : Ent := ⟨g + 1, some (w.heap.size, cells.size)⟩
  have hx : Ext c (c.rebind r e') := Ext.rebind he (by show c.own[r].gen < g + 1; omega)
  refine ⟨c.rebind r e', ?_, ⟨hx, ?_, fun b o h => .inl h, rfl⟩, ?_⟩
  · refine hH.rebind he (by show c.own[r].gen < g + 1; omega) hr (fun b k hs => ?_) (by simp) (fun j hj _ => heap_alloc_old w _ hj) (fun b k hs hc => ?_) ⟨rfl, .inr ⟨w.heap.size, cells.size, cells, el, cells.toList, rfl, .inr ⟨_, rfl⟩, heap_alloc_self _ _, rfl, hv.ext hx, List.prefix_refl _⟩⟩
    · have hb : b = w.heap.size := by have : (some (w.heap.size, cells.size) : Option (Nat × Nat)) = some (b, k) := hs; cases this; rfl
      subst hb
      refine ⟨by simp, ?_, fun j ej bj y hj h1 h2 hl hs hy => ?_⟩
      · cases hi : c.imm w.heap.size with
        | none => rfl
        | some o => have := (Array.getElem?_eq_some_iff.1 (hH.imm _ o hi).2).1; omega
      · have := hH.seat_lt (hH.blk j ej bj h1 h2) hl hs
        omega
    · have hb : b = w.heap.size := by have : (some (w.heap.size, cells.size) : Option (Nat × Nat)) = some (b, k) := hs; cases this; rfl
      subst hb
      have := (hH.chan _ hc).2.2.lt
      omega
  · rintro b (hb | ⟨k, hb⟩)
    · exact .inl hb
    · have : (some (w.heap.size, cells.size) : Option (Nat × Nat)) = some (b, k) := hb
      cases this
      exact .inr (Nat.le_refl _)
  · exact ⟨⟨_, rfl⟩, e', by simp only [Cx.rebind]; rw [List.getElem?_set_self hlt], Nat.le_refl _, fun _ => ⟨w.heap.size, cells.size, rfl, rfl⟩⟩
theorem FreeAt.alloc {e : TypeId} {f : TF} {z : List AV} {h : List Blk} {r g : Nat} (ho : ops[i]? = some o) (hop : o.op = .alloc e) (hog : o.guard = none) (ht : tyT P e = some f) (hz : f.ze = some z) (hr : h[r]? = some (.cells g [])) :
    FreeAt P fk ops i o.dst h (.ptr ⟨r, g + 1⟩ 0) (h.set r (.cells (g + 1) z)) := by
  intro Q s rest hs hk
  refine WPI.op0 ho hog (by rw [hop]; rfl) (fun v h' => v = .ptr ⟨r, g + 1⟩ 0 ∧ h' = h.set r (.cells (g + 1) z)) (fun c w ρ hρ hH => ?_) (fun v h' q => by rw [q.1, q.2]; exact hk)
  rw [hs] at hH
  obtain ⟨i, h1, h2, h3, h4, _⟩ := tyT_some ht
  rw [hz] at h4
  cases hi : i.zero with
  | none => rw [hi] at h4; cases h4
  | some Z =>
    rw [hi] at h4
    simp only [Option.map_some, Option.some.injEq] at h4
    simp only [execOp, hop]
    refine OpOk.value ?_
    refine Ok.then (ok_zeroValue h1 hi) ?_
    obtain ⟨c', q1, q2, q3⟩ := rebind_new (el := e) (cells := Z.cells) (cs := z) hH hr (by rw [← h4]; exact VRL_constA c _)
    exact ⟨_, _, c', _, _, rfl, ⟨rfl, rfl⟩, q3, q1, q2⟩
theorem FreeAt.makeChan {t el : TypeId} {f fe : TF} {dir : ChanDir} {h : List Blk} {r g : Nat} (ho : ops[i]? = some o) (hop : o.op = .makeChan t (.const (.int .i64 0))) (hog : o.guard = none) (ht : tyT P t = some f) (hd : f.d = .chan dir el) (hte : tyT P el = some fe) (hr : h[r]? = some (.cells g [])) :
    FreeAt P fk ops i o.dst h (.chan ⟨r, g + 1⟩) (h.set r (.chan (g + 1))) := by
  intro Q s rest hs hk main Stop b k cs base c w tmps ds h1 h2 h3 h4
  refine Go'.of_step rfl fun w1 ry => ?_
  have h3' := h3.rely ry
  have hH := h3'.hp
  rw [hs] at hH
  rw [List.singleton_append, stepG_opA ho (by simp [Region.wanted, hog]) (by rw [hop]; rfl)]
  generalize hfr : at' b tmps ds (.inRegion ops (i :: rest) :: k) = fr
  obtain ⟨_, _, hu, _⟩ := tyT_some ht
  obtain ⟨ie, hie, _⟩ := tyT_some hte
  let w2 := w1.alloc (.chan 0 #[] false 0 0 false)
  have hok : Ok P c w1.heap.size (execOp fr.eval o) w1 (fun q => q = .ok (.value (.chan (some w1.heap.size))) w2) := by
    simp only [execOp, hop]
    refine Ok.bind' (Ok.mono (Q := fun q => q = .ok (.chan (some w1.heap.size)) w2) ?_ fun q e => by subst e; exact rfl)
    show Ok P c w1.heap.size (Instr.makeChan t (.int .i64 0)) w1 _
    unfold Instr.makeChan
    refine Ok.then (a := 0) rfl ?_
    refine Ok.then (ok_underlying hu) ?_
    rw [hd]
    refine Ok.then (ok_typeInfo hie) ?_
    rw [if_neg (by simp [IntKind.max, IntKind.signed, IntKind.bits])]
    rfl
  obtain ⟨q, ev, kp⟩ := Ok.spec #[] hok (Nat.le_refl _)
  rw [q] at ev kp
  have hkind : (fr.kind == CallKind.early) = false := by rw [← hfr]; simpa [at'] using h2
  have hfin : fr.finish (.chan (some w1.heap.size)) = at' b (putV tmps o.dst (.chan (some w1.heap.size))) ds (.inRegion ops rest :: k) := by rw [← hfr, finish_at', ho]; rfl
  have hstep : stepG.apply P true fr cs none (execOp fr.eval o) w1 = .go (G (at' b (putV tmps o.dst (.chan (some w1.heap.size))) ds (.inRegion ops rest :: k)) cs) w2 (seen P fr.fn ((execOp fr.eval o).events P w1 #[])) := by
    rw [← hfin]
    simp [stepG.apply, q, hkind, GStep.after, G]
  have hlt : r < c.own.length := by rw [← hH.len]; exact (List.getElem?_eq_some_iff.1 hr).1
  have he : c.own[r]? = some c.own[r] := by simp [hlt]
  have hg : c.own[r].gen = g := (hH.blk _ _ _ he hr).1
  let e' : Ent := ⟨g + 1, some (w1.heap.size, 0)⟩
  let c2 : Cx := { c with own := c.own.set r e', com := { c.com with chans := fun x => c.com.chans x ∨ x = w1.heap.size } }
  have hx : Ext c c2 := ⟨fun j ej hj => by
    by_cases hij : r = j
    · subst hij
      rw [he] at hj
      cases hj
      exact ⟨e', by simp only [c2]; rw [List.getElem?_set_self hlt], by show c.own[r].gen ≤ g + 1; omega, fun h => by have : c.own[r].gen = g + 1 := h; omega⟩
    · exact ⟨ej, by simp only [c2]; rw [List.getElem?_set_ne hij]; exact hj, Nat.le_refl _, fun _ => rfl⟩, fun _ _ h => h, rfl⟩
  have himm : c.imm w1.heap.size = none := by
    cases hi : c.imm w1.heap.size with
    | none => rfl
    | some o => have := (Array.getElem?_eq_some_iff.1 (hH.imm _ o hi).2).1; omega
  have hnm : ¬ c.mine w1.heap.size := fun h => by have := hH.mine _ h; omega
  have hop2 : OpenChan w2 w1.heap.size := ⟨0, heap_alloc_self _ _⟩
  have hH2 : HR c2 w2 (h.set r (.chan (g + 1))) := by
    refine ⟨by simp [c2, hH.len], ?_, ?_, fun b hb => Nat.lt_of_lt_of_le (hH.mine b hb) (by simp [w2]), fun b o hb => ⟨(hH.imm b o hb).1, ?_⟩, ?_⟩
    · intro j ej bj g1 g2
      simp only [c2] at g1
      by_cases hij : r = j
      · subst hij
        rw [List.getElem?_set_self hlt] at g1
        rw [List.getElem?_set_self (List.getElem?_eq_some_iff.1 hr).1] at g2
        cases g1; cases g2
        exact ⟨rfl, w1.heap.size, 0, rfl, .inr rfl⟩
      · rw [List.getElem?_set_ne hij] at g1 g2
        exact (hH.blk j ej bj g1 g2).grow hx (fun _ h => .inl h) (fun _ h => h) fun b hb => heap_alloc_old _ _ (hH.mine b hb)
    · intro a1 a2 e1 e2 b1 b2 y1 y2 hne g1 g2 g3 g4 l1 l2 s1 s2
      simp only [c2] at g1 g2
      have key : ∀ (m : Nat) (em : Ent) (bm : Blk) (y : Nat × Nat), (c.own.set r e')[m]? = some em → (h.set r (.chan (g + 1)))[m]? = some bm → bm.live = true → em.seat = some y →
          (m = r ∧ y.1 = w1.heap.size) ∨ (m ≠ r ∧ c.own[m]? = some em ∧ h[m]? = some bm ∧ y.1 < w1.heap.size) := by
        intro m em bm y q1 q2 q3 q4
        by_cases him : r = m
        · subst him
          rw [List.getElem?_set_self hlt] at q1
          cases q1
          have : (some (w1.heap.size, 0) : Option (Nat × Nat)) = some y := q4
          cases this
          exact .inl ⟨rfl, rfl⟩
        · rw [List.getElem?_set_ne him] at q1 q2
          exact .inr ⟨fun e => him e.symm, q1, q2, hH.seat_lt (hH.blk m em bm q1 q2) q3 q4⟩
      rcases key a1 e1 b1 y1 g1 g3 l1 s1 with ⟨p1, p2⟩ | ⟨p1, p2, p3, p4⟩ <;> rcases key a2 e2 b2 y2 g2 g4 l2 s2 with ⟨q1, q2⟩ | ⟨q1, q2, q3, q4⟩
      · omega
      · omega
      · omega
      · exact hH.apart a1 a2 e1 e2 b1 b2 y1 y2 hne p2 q2 p3 q3 l1 l2 s1 s2
    · have hbl : b < w1.heap.size := (Array.getElem?_eq_some_iff.1 (hH.imm b o hb).2).1
      rw [heap_alloc_old _ _ hbl]
      exact (hH.imm b o hb).2
    · rintro y (hy | rfl)
      · obtain ⟨p1, p2, p3⟩ := hH.chan y hy
        exact ⟨p1, p2, by unfold OpenChan; rw [heap_alloc_old _ _ p3.lt]; exact p3⟩
      · exact ⟨hnm, himm, hop2⟩
  refine ⟨_, w2, _, c2, hstep, rfl, ⟨kp, fun _ h => .inl h, fun _ _ h => .inl h, fun _ _ h => h, fun x hx => ?_, fun b hb => .inl hb, ?_, fun _ h => .inl h, rfl, rfl, rfl⟩, ?_⟩
  · rcases ev x (mem_seen hx) with h | h
    · simp at h
    · exact h
  · rintro y (hy | rfl)
    · exact .inl hy
    · exact .inr ⟨Nat.le_refl _, hop2, hnm, himm⟩
  · have hV : VR c2 (.chan ⟨r, g + 1⟩) (.chan (some w1.heap.size)) := ⟨⟨_, rfl⟩, e', by simp only [c2]; rw [List.getElem?_set_self hlt], Nat.le_refl _, fun _ => ⟨w1.heap.size, 0, rfl, rfl⟩⟩
    exact hk main Stop b k cs base c2 w2 _ ds h1 h2 ⟨(h3.sl.ext hx).put o.dst hV, h3.df.ext hx, hH2, h3.gh.ext hx rfl rfl⟩ fun e s' c3 w3 t3 d3 q r3 y => h4 e s' c3 w3 t3 d3 q r3 ((hx.toT _).transT y)
end
end Go.Mac

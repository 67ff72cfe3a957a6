/- A part of the logic and of the contracts of the functions that the statement reaches; the statement itself is proved in the last text. -/
import Derived.Test.YtdioclckllbhpaaGreatLibMacD

set_option linter.all false
set_option linter.unusedVariables false
set_option linter.unusedSimpArgs false
set_option linter.unnecessarySimpa false
namespace Go.Mac
open Go Go.Conc
section
variable {P : Program} {c : Cx} {n0 : Nat} {w : World}
theorem Ok.then {α β : Type} {s : Sem α} {f : α → Sem β} {Q : Result β → Prop} {a : α} (h : Ok P c n0 s w (fun r => r = .ok a w)) (h' : Ok P c n0 (f a) w Q) : Ok P c n0 (s >>= f) w Q :=
  Ok.bind' (h.mono fun r e => by subst e; exact h')
theorem Ok.then' {α β : Type} {s : Sem α} {f : α → Sem β} {Q : Result β → Prop} {R : α → World → Prop} (h : Ok P c n0 s w (fun r => ∃ a w', r = .ok a w' ∧ R a w')) (h' : ∀ a w', R a w' → Ok P c n0 (f a) w' Q) : Ok P c n0 (s >>= f) w Q :=
  Ok.bind' (h.mono fun r e => by obtain ⟨a, w', rfl, hr⟩ := e; exact h' a w' hr)
theorem ok_pure {α : Type} {a : α} {Q : Result α → Prop} (h : Q (.ok a w)) : Ok P c n0 (pure a : Sem α) w Q := h
theorem ok_underlying {t : TypeId} {d : TypeDesc} (h : P.underlying t = some d) : Ok P c n0 (underlying t) w (fun r => r = .ok d w) := by
  show Ok P c n0 (Sem.bind program _) w _
  simp only [program, Sem.bind, Ok, h]
  rfl
theorem ok_typeInfo {t : TypeId} {i : TypeInfo} (h : P.info? t = some i) : Ok P c n0 (typeInfo t) w (fun r => r = .ok i w) := by
  show Ok P c n0 (Sem.bind program _) w _
  simp only [program, Sem.bind, Ok, h]
  rfl
theorem ok_sizeOf {t : TypeId} {i : TypeInfo} (h : P.info? t = some i) : Ok P c n0 (sizeOf t) w (fun r => r = .ok i.size w) :=
  Ok.then (ok_typeInfo h) (ok_pure rfl)
theorem ok_zeroValue {t : TypeId} {i : TypeInfo} {z : Value} (h : P.info? t = some i) (hz : i.zero = some z) : Ok P c n0 (zeroValue t) w (fun r => r = .ok z w) :=
  Ok.then (ok_typeInfo h) (by rw [hz]; exact ok_pure rfl)
def aggD : TypeDesc → Bool
  | .struct _ | .array _ _ => true
  | _ => false
theorem ok_isAgg {t : TypeId} {d : TypeDesc} (h : P.underlying t = some d) : Ok P c n0 (isAgg t) w (fun r => r = .ok (aggD d) w) :=
  Ok.then (ok_underlying h) (by cases d <;> exact ok_pure rfl)
theorem add_eq (b o i : Nat) : (⟨b, o, none⟩ : Addr).add i = ⟨b, o + i, none⟩ := by
  unfold Addr.add
  split
  · rename_i h; simp [h]
  · rfl
theorem ok_load {b o : Nat} {arr : Array Value} {el : TypeId} {fz : Nat × Nat} {v : Value} (ha : c.mine b ∨ n0 ≤ b ∨ (c.imm b).isSome) (hb : w.heap[b]? = some (.cells arr el fz)) (hv : arr[o]? = some v) :
    Ok P c n0 (load ⟨b, o, none⟩) w (fun r => r = .ok v w) :=
  ⟨rfl, ha, v, by simp [World.cell?, hb, hv], rfl⟩
theorem ok_loadCellsFrom {b o : Nat} {arr : Array Value} {el : TypeId} {fz : Nat × Nat} (ha : c.mine b ∨ n0 ≤ b ∨ (c.imm b).isSome) (hb : w.heap[b]? = some (.cells arr el fz)) :
    ∀ (n i : Nat) (acc : Array Value) (l : List Value), l.length = n → (∀ j v, l[j]? = some v → arr[o + i + j]? = some v) → Ok P c n0 (loadCellsFrom ⟨b, o, none⟩ i n acc) w (fun r => r = .ok (acc ++ l.toArray) w)
  | 0, i, acc, l, hl, _ => by
    have : l = [] := List.length_eq_zero_iff.1 hl
    subst this
    exact ok_pure (by simp)
  | n + 1, i, acc, [], hl, _ => by simp at hl
  | n + 1, i, acc, v :: l, hl, h => by
    have h0 := h 0 v rfl
    refine Ok.then (a := v) ?_ ?_
    · rw [add_eq]; exact ok_load ha hb (by simpa using h0)
    · refine (ok_loadCellsFrom ha hb n (i + 1) (acc.push v) l (by simpa using hl) fun j x hj => ?_).mono fun r e => by rw [e]; simp
      have := h (j + 1) x (by simpa using hj)
      rw [← this]; congr 1; omega
theorem ok_loadCells {b o : Nat} {arr : Array Value} {el : TypeId} {fz : Nat × Nat} {l : List Value} {n : Nat} (ha : c.mine b ∨ n0 ≤ b ∨ (c.imm b).isSome) (hb : w.heap[b]? = some (.cells arr el fz)) (hl : l.length = n)
    (h : l <+: arr.toList.drop o) : Ok P c n0 (loadCells ⟨b, o, none⟩ n) w (fun r => r = .ok l.toArray w) := by
  refine (ok_loadCellsFrom ha hb n 0 #[] l hl fun j v hj => ?_).mono fun r e => by rw [e]; simp
  obtain ⟨t, ht⟩ := h
  have : (arr.toList.drop o)[j]? = some v := by rw [← ht, List.getElem?_append_left (List.getElem?_eq_some_iff.1 hj).1]; exact hj
  simpa using this
theorem ok_loadVar {t : TypeId} {d : TypeDesc} {i : TypeInfo} {b o : Nat} {arr : Array Value} {el : TypeId} {fz : Nat × Nat} {l : List Value} (hd : P.underlying t = some d) (hi : P.info? t = some i)
    (ha : c.mine b ∨ n0 ≤ b ∨ (c.imm b).isSome) (hb : w.heap[b]? = some (.cells arr el fz)) (hl : (if aggD d then i.size else 1) ≤ l.length) (h : l <+: arr.toList.drop o) :
    Ok P c n0 (loadVar t ⟨b, o, none⟩) w (fun r => r = .ok (if aggD d then .agg (l.take i.size).toArray else l.getD 0 default) w) := by
  refine Ok.then (ok_isAgg hd) ?_
  cases hg : aggD d with
  | true =>
    simp only [hg, if_true] at hl ⊢
    refine Ok.then (ok_sizeOf hi) (Ok.then (ok_loadCells ha hb (l := l.take i.size) (by simp; omega) ?_) (ok_pure rfl))
    exact (List.take_prefix _ _).trans h
  | false =>
    simp only [hg, Bool.false_eq_true, if_false] at hl ⊢
    cases l with
    | nil => simp at hl
    | cons v l =>
      obtain ⟨t, ht⟩ := h
      refine ok_load ha hb ?_
      have : (arr.toList.drop o)[0]? = some v := by rw [← ht]; rfl
      simpa using this
theorem setCell_eq {b o : Nat} {arr : Array Value} {el : TypeId} {v : Value} (hb : w.heap[b]? = some (.cells arr el (0, 0))) :
    w.setCell ⟨b, o, none⟩ v = { w with heap := w.heap.setIfInBounds b (.cells (arr.setIfInBounds o v) el (0, 0)) } := by
  unfold World.setCell
  congr 1
  apply Array.ext_getElem?
  intro j
  by_cases hj : b = j
  · subst hj
    have hlt : b < w.heap.size := (Array.getElem?_eq_some_iff.1 hb).1
    have hg := (Array.getElem?_eq_some_iff.1 hb).2
    simp [hlt, Array.getElem_modify, hg]
  · simp [Array.getElem?_modify, hj]
def putBlk (w : World) (b : Nat) (o : Obj) : World := { w with heap := w.heap.setIfInBounds b o }
@[simp] theorem putBlk_size (w : World) (b : Nat) (o : Obj) : (putBlk w b o).heap.size = w.heap.size := by simp [putBlk]
theorem putBlk_same {b : Nat} {o : Obj} (h : b < w.heap.size) : (putBlk w b o).heap[b]? = some o := by simp [putBlk, h]
theorem putBlk_other {b b' : Nat} {o : Obj} (h : b ≠ b') : (putBlk w b o).heap[b']? = w.heap[b']? := by simp [putBlk, h]
theorem putBlk_putBlk (b : Nat) (o o' : Obj) : putBlk (putBlk w b o) b o' = putBlk w b o' := by simp [putBlk]
theorem putBlk_id {b : Nat} {o : Obj} (h : w.heap[b]? = some o) : putBlk w b o = w := by
  have : w.heap.setIfInBounds b o = w.heap := by
    apply Array.ext_getElem?
    intro j
    by_cases hj : b = j
    · subst hj; rw [Array.getElem?_setIfInBounds_self]; simp [(Array.getElem?_eq_some_iff.1 h).1, (Array.getElem?_eq_some_iff.1 h).2]
    · simp [hj]
  simp [putBlk, this]
def setMany {α : Type} : List α → Nat → List α → List α
  | cs, _, [] => cs
  | cs, o, v :: vs => setMany (cs.set o v) (o + 1) vs
@[simp] theorem setMany_length {α : Type} : ∀ (vs cs : List α) (o : Nat), (setMany cs o vs).length = cs.length
  | [], _, _ => rfl
  | _ :: vs, cs, o => by simp [setMany, setMany_length vs]
theorem VRL.setAll {c : Cx} : ∀ {vs : List AV} {ls : List Value} {cs : List AV} {l : List Value} {o : Nat}, VRL c vs ls → VRL c cs l → VRL c (Mac.setMany cs o vs) (Mac.setMany l o ls)
  | [], _, _, _, _, h, h' => by cases h; exact h'
  | v :: vs, _, cs, l, o, h, h' => by
    obtain ⟨u, us, rfl, h1, h2⟩ := h
    show VRL c (Mac.setMany (cs.set o v) (o + 1) vs) (Mac.setMany (l.set o u) (o + 1) us)
    exact VRL.setAll h2 (h'.set o h1)
theorem setMany_prefix : ∀ (vs l m : List Value) (o : Nat), l <+: m → o + vs.length ≤ l.length → Mac.setMany l o vs <+: Mac.setMany m o vs
  | [], l, m, o, h, _ => h
  | v :: vs, l, m, o, h, hl => by
    refine setMany_prefix vs (l.set o v) (m.set o v) (o + 1) ?_ (by simp at hl ⊢; omega)
    obtain ⟨t, rfl⟩ := h
    refine ⟨t, ?_⟩
    rw [List.set_append_left _ _ (by simp at hl; omega)]
theorem setMany_append : ∀ (vs l t : List Value) (o : Nat), o + vs.length ≤ l.length → Mac.setMany (l ++ t) o vs = Mac.setMany l o vs ++ t
  | [], l, t, o, _ => rfl
  | v :: vs, l, t, o, hl => by
    simp only [Mac.setMany]
    rw [List.set_append_left _ _ (by simp at hl; omega), setMany_append vs _ _ _ (by simp at hl ⊢; omega)]
theorem ok_storeCells {b : Nat} {el : TypeId} (ha : c.mine b ∨ n0 ≤ b) : ∀ (vs : List Value) (o i : Nat) (w : World) (arr : Array Value), w.heap[b]? = some (.cells arr el (0, 0)) → o + i + vs.length ≤ arr.size → (∀ v ∈ vs, v.oneCell' = true) →
    Ok P c n0 (storeCells ⟨b, o, none⟩ vs i) w (fun r => r = .ok () (putBlk w b (.cells (Mac.setMany arr.toList (o + i) vs).toArray el (0, 0))))
  | [], o, i, w, arr, hb, _, _ => by
    refine ok_pure ?_
    simp only [Mac.setMany]
    rw [putBlk_id (by simpa using hb)]
  | v :: vs, o, i, w, arr, hb, hl, h1 => by
    have hlt : b < w.heap.size := (Array.getElem?_eq_some_iff.1 hb).1
    have ho : o + i < arr.size := by simp at hl; omega
    show Ok P c n0 (Sem.bind (store ((⟨b, o, none⟩ : Addr).add i) v) fun _ => storeCells ⟨b, o, none⟩ vs (i + 1)) w _
    rw [add_eq]
    refine ⟨rfl, ha, h1 v List.mem_cons_self, by simp [World.cell?, hb, ho], by simp [World.frozen?, hb], ?_⟩
    rw [setCell_eq hb]
    have hb' : (putBlk w b (.cells (arr.setIfInBounds (o + i) v) el (0, 0))).heap[b]? = some (.cells (arr.setIfInBounds (o + i) v) el (0, 0)) := putBlk_same hlt
    refine (ok_storeCells ha vs o (i + 1) _ (arr.setIfInBounds (o + i) v) hb' (by simp at hl ⊢; omega) (fun x hx => h1 x (List.mem_cons_of_mem _ hx))).mono fun r e => ?_
    rw [e, putBlk_putBlk]
    simp [Mac.setMany, Nat.add_assoc]
theorem ok_storeVar {t : TypeId} {i : TypeInfo} {b o : Nat} {arr : Array Value} {el : TypeId} {V : Value} (hi : P.info? t = some i) (ha : c.mine b ∨ n0 ≤ b) (hb : w.heap[b]? = some (.cells arr el (0, 0)))
    (hs : V.cells.size = i.size) (hl : o + i.size ≤ arr.size) (h1 : ∀ v ∈ V.cells.toList, v.oneCell' = true) :
    Ok P c n0 (storeVar t ⟨b, o, none⟩ V) w (fun r => r = .ok () (putBlk w b (.cells (Mac.setMany arr.toList o V.cells.toList).toArray el (0, 0)))) := by
  refine Ok.then (ok_sizeOf hi) ?_
  simp only [hs, ne_eq, not_true_eq_false, if_false]
  refine (ok_storeCells ha V.cells.toList o 0 w arr hb (by simp; omega) h1).mono fun r e => by rw [e]; rfl
end
theorem HR.update {c : Cx} {w w' : World} {h : List Blk} (x : HR c w h) {i : Nat} {e : Ent} {b k : Nat} {old new : Blk} (hi : c.own[i]? = some e) (ho : h[i]? = some old) (hlive : old.live = true) (hs : e.seat = some (b, k)) (hm : c.mine b)
    (hsz : w'.heap.size = w.heap.size) (hw : ∀ j, j ≠ b → w'.heap[j]? = w.heap[j]?) (hn : BR c w' e new) : HR c w' (h.set i new) where
  len := by simp [x.len]
  blk j ej bj h1 h2 := by
    by_cases hij : i = j
    · subst hij
      rw [List.getElem?_set_self (by exact (List.getElem?_eq_some_iff.1 ho).1)] at h2
      cases h2
      rw [hi] at h1
      cases h1
      exact hn
    · rw [List.getElem?_set_ne hij] at h2
      have hb := x.blk j ej bj h1 h2
      cases hl : bj.live with
      | false => cases bj with | dead => trivial | role m => exact hb | _ => cases hl
      | true =>
        have hne : ∀ y, ej.seat = some y → y.1 ≠ b := fun y hy hyb => x.apart i j e ej old bj (b, k) y hij hi h1 ho h2 hlive hl hs hy hyb.symm
        cases bj with
        | dead => cases hl
        | cells g cs =>
          obtain ⟨h0, h1 | ⟨b', k', arr, el, l, h1, h2, h3, h4⟩⟩ := hb
          · exact ⟨h0, .inl h1⟩
          · exact ⟨h0, .inr ⟨b', k', arr, el, l, h1, h2, by rw [hw _ (hne _ h1)]; exact h3, h4⟩⟩
        | map ks vs => obtain ⟨h0, b', k', ents, clk, h1, h2, h3, h4⟩ := hb; exact ⟨h0, b', k', ents, clk, h1, h2, by rw [hw _ (hne _ h1)]; exact h3, h4⟩
        | loop st pend fn slots params assign body => obtain ⟨h0, b', k', tm, d, h1, h2, h3, h4⟩ := hb; exact ⟨h0, b', k', tm, d, h1, h2, by rw [hw _ (hne _ h1)]; exact h3, h4⟩
        | defd => obtain ⟨h0, b', k', h1, h2, h3⟩ := hb; exact ⟨h0, b', k', h1, h2, by rw [hw _ (hne _ h1)]; exact h3⟩
        | iter s pos => obtain ⟨h0, b', k', h1, h2, h3⟩ := hb; exact ⟨h0, b', k', h1, h2, by rw [hw _ (hne _ h1)]; exact h3⟩
        | chan g => exact hb
        | role m => exact hb
  apart i1 j1 e1 e2 b1 b2 y1 y2 hne h1 h2 h3 h4 l1 l2 s1 s2 := by
    have key : ∀ (m : Nat) (bm : Blk), (h.set i new)[m]? = some bm → bm.live = true → ∃ bm', h[m]? = some bm' ∧ bm'.live = true := by
      intro m bm hm hl
      by_cases him : i = m
      · subst him; exact ⟨old, ho, hlive⟩
      · rw [List.getElem?_set_ne him] at hm; exact ⟨bm, hm, hl⟩
    obtain ⟨b1', h3', l1'⟩ := key i1 b1 h3 l1
    obtain ⟨b2', h4', l2'⟩ := key j1 b2 h4 l2
    exact x.apart i1 j1 e1 e2 b1' b2' y1 y2 hne h1 h2 h3' h4' l1' l2' s1 s2
  mine y hy := by rw [hsz]; exact x.mine y hy
  imm y o hy := ⟨(x.imm y o hy).1, by rw [hw y (by rintro rfl; exact (x.imm y o hy).1 hm)]; exact (x.imm y o hy).2⟩
  chan y hy := ⟨(x.chan y hy).1, (x.chan y hy).2.1, by unfold OpenChan; rw [hw y (by rintro rfl; exact (x.chan y hy).1 hm)]; exact (x.chan y hy).2.2⟩
def Cx.new (c : Cx) (w : World) (k : Nat) : Cx := { c with own := c.own ++ [⟨0, some (w.heap.size, k)⟩], mine := fun b => c.mine b ∨ b = w.heap.size }
theorem Ext.new (c : Cx) (w : World) (k : Nat) : Ext c (c.new w k) where
  own i e h := ⟨e, by simp only [Cx.new]; rw [List.getElem?_append_left (List.getElem?_eq_some_iff.1 h).1]; exact h, Nat.le_refl _, fun _ => rfl⟩
  imm _ _ h := h
theorem TurnOk.new (c : Cx) (w : World) (k : Nat) : TurnOk c (c.new w k) w.heap.size where
  ext := .new c w k
  mine b h := by rcases h with h | rfl; exact .inl h; exact .inr (Nat.le_refl _)
  imm b o h := .inl h
  com := rfl
theorem BR.grow {c c' : Cx} {w w' : World} (x : Ext c c') (hc : ∀ r, c.com.chans r → c'.com.chans r) (hm : ∀ b, c.mine b → c'.mine b) (hw : ∀ b, c.mine b → w'.heap[b]? = w.heap[b]?) {e : Ent} {b : Blk} (h : BR c w e b) : BR c' w' e b := by
  cases b with
  | dead => trivial
  | cells g cs =>
    obtain ⟨h0, h1 | ⟨b, k, arr, el, l, h1, h2, h3, h4, h5, h6⟩⟩ := h
    · exact ⟨h0, .inl h1⟩
    · exact ⟨h0, .inr ⟨b, k, arr, el, l, h1, hm _ h2, by rw [hw b h2]; exact h3, h4, h5.ext x, h6⟩⟩
  | map ks vs => obtain ⟨h0, b, k, ents, clk, h1, h2, h3, h4, h5⟩ := h; exact ⟨h0, b, k, ents, clk, h1, hm _ h2, by rw [hw b h2]; exact h3, h4.ext x, h5.ext x⟩
  | loop st pend fn slots params assign body => obtain ⟨h0, b, k, tm, d, h1, h2, h3, h4⟩ := h; exact ⟨h0, b, k, tm, d, h1, hm _ h2, by rw [hw b h2]; exact h3, h4.ext x⟩
  | defd => obtain ⟨h0, b, k, h1, h2, h3⟩ := h; exact ⟨h0, b, k, h1, hm _ h2, by rw [hw b h2]; exact h3⟩
  | iter s pos => obtain ⟨h0, b, k, h1, h2, h3⟩ := h; exact ⟨h0, b, k, h1, hm _ h2, by rw [hw b h2]; exact h3⟩
  | chan g => obtain ⟨h0, b, k, h1, h2⟩ := h; exact ⟨h0, b, k, h1, hc b h2⟩
  | role m => exact x.main.trans h
theorem heap_alloc_old (w : World) (o : Obj) {b : Nat} (h : b < w.heap.size) : (w.alloc o).heap[b]? = w.heap[b]? := by
  show (w.heap.push o)[b]? = w.heap[b]?
  simp [Array.getElem?_push, Nat.ne_of_lt h]
theorem heap_alloc_self (w : World) (o : Obj) : (w.alloc o).heap[w.heap.size]? = some o := by
  show (w.heap.push o)[w.heap.size]? = some o
  simp
theorem BR.seat_mine {c : Cx} {w : World} {e : Ent} {b : Blk} (h : BR c w e b) (hl : b.live = true) {x : Nat × Nat} (hs : e.seat = some x) : c.mine x.1 ∨ c.com.chans x.1 := by
  cases b with
  | dead => cases hl
  | cells g cs =>
    obtain ⟨_, h1 | ⟨b, k, arr, el, l, h1, h2, _⟩⟩ := h
    · rw [h1.1] at hs; cases hs
    · rw [h1] at hs; cases hs; exact .inl h2
  | map ks vs => obtain ⟨_, b, k, ents, clk, h1, h2, _⟩ := h; rw [h1] at hs; cases hs; exact .inl h2
  | loop st pend fn slots params assign body => obtain ⟨_, b, k, tm, d, h1, h2, _⟩ := h; rw [h1] at hs; cases hs; exact .inl h2
  | defd => obtain ⟨_, b, k, h1, h2, _⟩ := h; rw [h1] at hs; cases hs; exact .inl h2
  | iter s pos => obtain ⟨_, b, k, h1, h2, _⟩ := h; rw [h1] at hs; cases hs; exact .inl h2
  | chan g => obtain ⟨_, b, k, h1, h2⟩ := h; rw [h1] at hs; cases hs; exact .inr h2
  | role m => cases hl
theorem HR.seat_lt {c : Cx} {w : World} {h : List Blk} (x : HR c w h) {e : Ent} {b : Blk} (hb : BR c w e b) (hl : b.live = true) {y : Nat × Nat} (hs : e.seat = some y) : y.1 < w.heap.size := by
  rcases hb.seat_mine hl hs with h | h
  · exact x.mine _ h
  · exact (x.chan _ h).2.2.lt
theorem HR.new {c : Cx} {w : World} {h : List Blk} (x : HR c w h) (o : Obj) (k : Nat) {blk : Blk} (hb : BR (c.new w k) (w.alloc o) ⟨0, some (w.heap.size, k)⟩ blk) : HR (c.new w k) (w.alloc o) (h ++ [blk]) where
  len := by simp [Cx.new, x.len]
  blk i e b h1 h2 := by
    simp only [Cx.new] at h1
    by_cases hi : i < h.length
    · rw [List.getElem?_append_left (by rw [← x.len]; exact hi)] at h1
      rw [List.getElem?_append_left hi] at h2
      exact (x.blk i e b h1 h2).grow (.new c w k) (fun _ h => h) (fun _ h => .inl h) fun b hb => heap_alloc_old w o (x.mine b hb)
    · have hi' : i = h.length := by
        have := (List.getElem?_eq_some_iff.1 h2).1
        simp at this; omega
      subst hi'
      rw [x.len] at h1
      simp at h1 h2
      subst h1; subst h2
      exact hb
  apart i j ei ej bi bj y1 y2 hne h1 h2 h3 h4 l1 l2 s1 s2 := by
    simp only [Cx.new] at h1 h2
    have key : ∀ (m : Nat) (em : Ent) (bm : Blk) (y : Nat × Nat), (c.own ++ [⟨0, some (w.heap.size, k)⟩])[m]? = some em → (h ++ [blk])[m]? = some bm → bm.live = true → em.seat = some y →
        (m < h.length ∧ c.own[m]? = some em ∧ h[m]? = some bm ∧ y.1 < w.heap.size) ∨ (m = h.length ∧ y.1 = w.heap.size) := by
      intro m em bm y g1 g2 g3 g4
      by_cases hm : m < h.length
      · rw [List.getElem?_append_left (by rw [← x.len]; exact hm)] at g1
        rw [List.getElem?_append_left hm] at g2
        exact .inl ⟨hm, g1, g2, x.seat_lt (x.blk m em bm g1 g2) g3 g4⟩
      · have hm' : m = h.length := by
          have := (List.getElem?_eq_some_iff.1 g2).1
          simp at this; omega
        subst hm'
        rw [x.len] at g1
        simp at g1
        subst g1
        cases g4
        exact .inr ⟨rfl, rfl⟩
    rcases key i ei bi y1 h1 h3 l1 s1 with ⟨a1, a2, a3, a4⟩ | ⟨a1, a2⟩ <;> rcases key j ej bj y2 h2 h4 l2 s2 with ⟨b1, b2, b3, b4⟩ | ⟨b1, b2⟩
    · exact x.apart i j ei ej bi bj y1 y2 hne a2 b2 a3 b3 l1 l2 s1 s2
    · omega
    · omega
    · omega
  mine b hb := by rcases hb with hb | rfl; exact Nat.lt_of_lt_of_le (x.mine b hb) (by simp); simp
  imm b o' hb := by
    obtain ⟨h1, h2⟩ := x.imm b o' hb
    have hlt : b < w.heap.size := (Array.getElem?_eq_some_iff.1 h2).1
    exact ⟨by rintro (h | rfl); exact h1 h; omega, by rw [heap_alloc_old w o hlt]; exact h2⟩
  chan r hr := by
    obtain ⟨h1, h2, h3⟩ := x.chan r hr
    have hlt := h3.lt
    exact ⟨by rintro (h | rfl); exact h1 h; omega, h2, by unfold OpenChan; rw [heap_alloc_old w o hlt]; exact h3⟩
end Go.Mac

/- A part of the logic and of the contracts of the functions that the statement reaches; the statement itself is proved in the last text. -/
import Derived.Test.YtdioclckllbhpaaGreatLibMacK

set_option linter.all false
set_option linter.unusedVariables false
set_option linter.unusedSimpArgs false
set_option linter.unnecessarySimpa false
namespace Go.Mac
open Go Go.Conc
mutual
def below (n : Nat) : AV → Bool
  | .ptr m _ | .sl m _ _ _ | .map m | .yield m | .chan m => decide (m.id < n)
  | .pptr cs | .psl cs _ | .agg cs | .tup cs => belowL n cs
  | .pmap ks vs => belowL n ks && belowL n vs
  | .fn _ a b => belowL n a && belowL n b
  | .iface _ v => below n v
  | _ => true
def belowL (n : Nat) : List AV → Bool
  | [] => true
  | a :: as => below n a && belowL n as
end
theorem belowL_all (n : Nat) : ∀ l : List AV, belowL n l = l.all (below n)
  | [] => rfl
  | a :: l => by simp [belowL, belowL_all n l]
mutual
theorem below_mono {n m : Nat} (h : n ≤ m) : ∀ a : AV, below n a = true → below m a = true
  | .ptr x _, h1 => by simp only [below, decide_eq_true_eq] at *; omega
  | .sl x _ _ _, h1 => by simp only [below, decide_eq_true_eq] at *; omega
  | .map x, h1 => by simp only [below, decide_eq_true_eq] at *; omega
  | .yield x, h1 => by simp only [below, decide_eq_true_eq] at *; omega
  | .chan x, h1 => by simp only [below, decide_eq_true_eq] at *; omega
  | .pptr cs, h1 => belowL_mono h cs h1
  | .psl cs _, h1 => belowL_mono h cs h1
  | .agg cs, h1 => belowL_mono h cs h1
  | .tup cs, h1 => belowL_mono h cs h1
  | .pmap ks vs, h1 => by simp only [below, Bool.and_eq_true] at *; exact ⟨belowL_mono h ks h1.1, belowL_mono h vs h1.2⟩
  | .fn _ a b, h1 => by simp only [below, Bool.and_eq_true] at *; exact ⟨belowL_mono h a h1.1, belowL_mono h b h1.2⟩
  | .iface _ v, h1 => below_mono h v h1
  | .any, _ | .bool _, _ | .int _ _, _ | .str _, _ | .nilptr, _ | .nilsl, _ | .nilmap, _ | .nilfn, _ | .niliface, _ => rfl
theorem belowL_mono {n m : Nat} (h : n ≤ m) : ∀ a : List AV, belowL n a = true → belowL m a = true
  | [], _ => rfl
  | a :: as, h1 => by simp only [belowL, Bool.and_eq_true] at *; exact ⟨below_mono h a h1.1, belowL_mono h as h1.2⟩
end
theorem Cx.At.lt {c : Cx} {n : Nm} {S : Option (Nat × Nat) → Prop} (h : c.At n S) : n.id < c.own.length := by
  obtain ⟨e, he, _⟩ := h
  exact (List.getElem?_eq_some_iff.1 he).1
mutual
theorem VR.below {c : Cx} : ∀ (a : AV) (V : Value), VR c a V → below c.own.length a = true
  | .ptr x _, _, h => by simp only [Mac.below, decide_eq_true_eq]; exact Cx.At.lt h.2
  | .sl x _ _ _, _, h => by simp only [Mac.below, decide_eq_true_eq]; exact Cx.At.lt h.2
  | .map x, _, h => by simp only [Mac.below, decide_eq_true_eq]; exact Cx.At.lt h.2
  | .yield x, _, h => by simp only [Mac.below, decide_eq_true_eq]; exact Cx.At.lt h.2
  | .chan x, _, h => by simp only [Mac.below, decide_eq_true_eq]; exact Cx.At.lt h.2
  | .pptr cs, _, h => by obtain ⟨b, o, arr, el, fz, l, _, _, h1, _⟩ := h; exact VRL.below cs l h1
  | .psl cs _, _, h => by
    rcases h with ⟨rfl, _, _⟩ | ⟨b, o, arr, el, fz, l, cap, _, _, _, h1, _⟩
    · rfl
    · exact VRL.below cs l h1
  | .agg cs, _, h => by obtain ⟨l, _, h1⟩ := h; exact VRL.below cs l h1
  | .tup cs, _, h => by obtain ⟨l, _, h1⟩ := h; exact VRL.below cs l h1
  | .pmap ks vs, _, h => by
    rcases h with ⟨rfl, rfl, _⟩ | ⟨b, ents, clk, _, _, h1, h2⟩
    · rfl
    · simp only [Mac.below, Bool.and_eq_true]; exact ⟨VRL.below ks _ h1, VRL.below vs _ h2⟩
  | .fn _ a b, _, h => by obtain ⟨l1, l2, _, h1, h2⟩ := h; simp only [Mac.below, Bool.and_eq_true]; exact ⟨VRL.below a l1 h1, VRL.below b l2 h2⟩
  | .iface _ v, _, h => by obtain ⟨x, _, h1⟩ := h; exact VR.below v x h1
  | .any, _, _ | .bool _, _, _ | .int _ _, _, _ | .str _, _, _ | .nilptr, _, _ | .nilsl, _, _ | .nilmap, _, _ | .nilfn, _, _ | .niliface, _, _ => rfl
theorem VRL.below {c : Cx} : ∀ (a : List AV) (V : List Value), VRL c a V → belowL c.own.length a = true
  | [], _, _ => rfl
  | a :: as, _, h => by obtain ⟨v, vs, _, h1, h2⟩ := h; simp only [belowL, Bool.and_eq_true]; exact ⟨VR.below a v h1, VRL.below as vs h2⟩
end
def belowBlk (n : Nat) : Blk → Bool
  | .cells _ cs => belowL n cs
  | .map ks vs => belowL n ks && belowL n vs
  | .loop _ _ _ slots _ _ _ => belowL n slots
  | _ => true
theorem Cx.At.take {c : Cx} {n : Nat} {m : Nm} {S : Option (Nat × Nat) → Prop} (h : c.At m S) (hb : m.id < n) : (c.take n).At m S := by
  obtain ⟨e, he, r⟩ := h
  exact ⟨e, by simp only [Cx.take]; rw [List.getElem?_take_of_lt hb]; exact he, r⟩
mutual
theorem VR.take {c : Cx} {n : Nat} : ∀ (a : AV) (V : Value), Mac.below n a = true → VR c a V → VR (c.take n) a V
  | .ptr x _, _, hb, h => ⟨h.1, Cx.At.take h.2 (by simpa [Mac.below] using hb)⟩
  | .sl x _ _ _, _, hb, h => ⟨h.1, Cx.At.take h.2 (by simpa [Mac.below] using hb)⟩
  | .map x, _, hb, h => ⟨h.1, Cx.At.take h.2 (by simpa [Mac.below] using hb)⟩
  | .yield x, _, hb, h => ⟨h.1, Cx.At.take h.2 (by simpa [Mac.below] using hb)⟩
  | .chan x, _, hb, h => ⟨h.1, Cx.At.take h.2 (by simpa [Mac.below] using hb)⟩
  | .pptr cs, _, hb, h => by obtain ⟨b, o, arr, el, fz, l, e, i, h1, p⟩ := h; exact ⟨b, o, arr, el, fz, l, e, i, VRL.takeC cs l hb h1, p⟩
  | .psl cs _, _, hb, h => by
    rcases h with h | ⟨b, o, arr, el, fz, l, cap, e, hc, i, h1, p⟩
    · exact .inl h
    · exact .inr ⟨b, o, arr, el, fz, l, cap, e, hc, i, VRL.takeC cs l hb h1, p⟩
  | .agg cs, _, hb, h => by obtain ⟨l, e, h1⟩ := h; exact ⟨l, e, VRL.takeC cs l hb h1⟩
  | .tup cs, _, hb, h => by obtain ⟨l, e, h1⟩ := h; exact ⟨l, e, VRL.takeC cs l hb h1⟩
  | .pmap ks vs, _, hb, h => by
    simp only [Mac.below, Bool.and_eq_true] at hb
    rcases h with h | ⟨b, ents, clk, e, i, h1, h2⟩
    · exact .inl h
    · exact .inr ⟨b, ents, clk, e, i, VRL.takeC ks _ hb.1 h1, VRL.takeC vs _ hb.2 h2⟩
  | .fn _ a b, _, hb, h => by
    simp only [Mac.below, Bool.and_eq_true] at hb
    obtain ⟨l1, l2, e, h1, h2⟩ := h
    exact ⟨l1, l2, e, VRL.takeC a l1 hb.1 h1, VRL.takeC b l2 hb.2 h2⟩
  | .iface _ v, _, hb, h => by obtain ⟨x, e, h1⟩ := h; exact ⟨x, e, VR.take v x hb h1⟩
  | .any, _, _, _ => trivial
  | .bool _, _, _, h | .int _ _, _, _, h | .str _, _, _, h | .nilptr, _, _, h | .nilsl, _, _, h | .nilmap, _, _, h | .nilfn, _, _, h | .niliface, _, _, h => h
theorem VRL.takeC {c : Cx} {n : Nat} : ∀ (a : List AV) (V : List Value), belowL n a = true → VRL c a V → VRL (c.take n) a V
  | [], _, _, h => h
  | a :: as, _, hb, h => by
    simp only [belowL, Bool.and_eq_true] at hb
    obtain ⟨v, vs, e, h1, h2⟩ := h
    exact ⟨v, vs, e, VR.take a v hb.1 h1, VRL.takeC as vs hb.2 h2⟩
end
theorem BR.take {c : Cx} {w : World} {n : Nat} {e : Ent} {b : Blk} (hb : belowBlk n b = true) (h : BR c w e b) : BR (c.take n) w e b := by
  cases b with
  | dead => trivial
  | cells g cs =>
    obtain ⟨h0, h1 | ⟨b, k, arr, el, l, h1, h2, h3, h4, h5, h6⟩⟩ := h
    · exact ⟨h0, .inl h1⟩
    · exact ⟨h0, .inr ⟨b, k, arr, el, l, h1, h2, h3, h4, VRL.takeC _ _ hb h5, h6⟩⟩
  | map ks vs =>
    simp only [belowBlk, Bool.and_eq_true] at hb
    obtain ⟨h0, b, k, ents, clk, h1, h2, h3, h4, h5⟩ := h
    exact ⟨h0, b, k, ents, clk, h1, h2, h3, VRL.takeC _ _ hb.1 h4, VRL.takeC _ _ hb.2 h5⟩
  | loop st pend fn slots params assign body => obtain ⟨h0, b, k, tm, d, h1, h2, h3, h4⟩ := h; exact ⟨h0, b, k, tm, d, h1, h2, h3, VRL.takeC _ _ hb h4⟩
  | defd => exact h
  | iter s pos => exact h
  | chan g => exact h
  | role m => exact h
theorem HR.take {c : Cx} {w : World} {h : List Blk} {n : Nat} (x : HR c w h) (hb : (h.take n).all (belowBlk n) = true) : HR (c.take n) w (h.take n) where
  len := by simp [Cx.take, x.len]
  blk i e b h1 h2 := by
    have hi : i < n := by have := (List.getElem?_eq_some_iff.1 h2).1; simp at this; omega
    simp only [Cx.take] at h1
    rw [List.getElem?_take_of_lt hi] at h1
    have h2' := h2
    rw [List.getElem?_take_of_lt hi] at h2'
    exact (x.blk i e b h1 h2').take (List.all_eq_true.1 hb b (List.mem_of_getElem? h2))
  apart i j ei ej bi bj y1 y2 hne h1 h2 h3 h4 := by
    have hi : i < n := by have := (List.getElem?_eq_some_iff.1 h3).1; simp at this; omega
    have hj : j < n := by have := (List.getElem?_eq_some_iff.1 h4).1; simp at this; omega
    simp only [Cx.take] at h1 h2
    rw [List.getElem?_take_of_lt hi] at h1 h3
    rw [List.getElem?_take_of_lt hj] at h2 h4
    exact x.apart i j ei ej bi bj y1 y2 hne h1 h2 h3 h4
  mine := x.mine
  imm := x.imm
  chan := x.chan
theorem Ext.take {c c' : Cx} {n : Nat} (x : Ext c c') (h : c.own.length ≤ n) : Ext c (c'.take n) where
  own i e he := by
    obtain ⟨e', h1, h2⟩ := x.own i e he
    exact ⟨e', by simp only [Cx.take]; rw [List.getElem?_take_of_lt (by have := (List.getElem?_eq_some_iff.1 he).1; omega)]; exact h1, h2⟩
  imm := x.imm
  main := x.main
theorem HR.below {c : Cx} {w : World} {h : List Blk} (x : HR c w h) {i : Nat} {b : Blk} (hb : h[i]? = some b) : belowBlk h.length b = true := by
  have hi : i < c.own.length := by rw [← x.len]; exact (List.getElem?_eq_some_iff.1 hb).1
  have he : c.own[i]? = some c.own[i] := by simp [hi]
  have r := x.blk i _ b he hb
  rw [x.len]
  cases b with
  | dead => rfl
  | cells g cs =>
    obtain ⟨_, ⟨_, rfl⟩ | ⟨b, k, arr, el, l, _, _, _, _, h5, _⟩⟩ := r
    · rfl
    · exact VRL.below _ _ h5
  | map ks vs => obtain ⟨_, b, k, ents, clk, _, _, _, h4, h5⟩ := r; simp only [belowBlk, Bool.and_eq_true]; exact ⟨VRL.below _ _ h4, VRL.below _ _ h5⟩
  | loop st pend fn slots params assign body => obtain ⟨_, b, k, tm, d, _, _, _, h4⟩ := r; exact VRL.below _ _ h4
  | defd => rfl
  | iter s pos => rfl
  | chan g => rfl
  | role m => rfl
theorem Ok.congr {P : Program} {c c' : Cx} {n0 : Nat} {α : Type} (hm : c'.mine = c.mine) (hi : c'.imm = c.imm) {s : Sem α} : ∀ {w : World} {Q : Result α → Prop}, Ok P c n0 s w Q → Ok P c' n0 s w Q := by
  induction s with
  | pure a => intro w Q h; exact h
  | load m a k ih => intro w Q h; obtain ⟨h1, h2, v, h3, h4⟩ := h; exact ⟨h1, by rw [hm, hi]; exact h2, v, h3, ih v h4⟩
  | store m a v k ih => intro w Q h; obtain ⟨h1, h2, h3, h4, h5, h6⟩ := h; exact ⟨h1, by rw [hm]; exact h2, h3, h4, h5, ih h6⟩
  | new o k ih => intro w Q h; exact ih _ h
  | shape r k ih => intro w Q h; exact ih _ h
  | freeze => intro w Q h; exact h.elim
  | frozen a k ih => intro w Q h; exact ih _ h
  | getObj r k ih => intro w Q h; obtain ⟨h1, o, h2, h3, h4, h5⟩ := h; exact ⟨by rw [hm, hi]; exact h1, o, h2, h3, h4, ih _ h5⟩
  | setObj r o k ih => intro w Q h; obtain ⟨h1, h2, h3, h4⟩ := h; exact ⟨by rw [hm]; exact h1, h2, h3, ih h4⟩
  | choose q k ih => intro w Q h n h1 h2 d; exact ih _ (h n h1 h2 d)
  | sys => intro w Q h; exact h.elim
  | program k ih => intro w Q h; exact ih _ h
  | mark m k ih => intro w Q h; exact ⟨h.1, ih h.2⟩
  | halt h => intro w Q h; exact h
theorem Go'.idle2 {P : Program} {main : Bool} {Stop : Cx → Goroutine → World → Prop} {c c2 : Cx} {g g' : Goroutine} {w : World} (hm : c2.mine = c.mine) (hi : c2.imm = c.imm) (hcm : c2.com = c.com) (hs : g.status = .running) (hs' : g'.status = .running)
    (h : ∀ w1, stepG P main g w1 = .go g' w1 #[]) (h' : Go' P main Stop c2 g' w) : Go' P main Stop c g w :=
  .of_step hs fun w1 r => ⟨g', w1, #[], c2, h w1, hs', ⟨.refl _ _ _, fun b hb => .inl (by rw [hm] at hb; exact hb), fun b o hb => .inl (by rw [hi] at hb; exact hb), fun b o hb => by rw [hi]; exact hb, by simp, fun b hb => .inl (by rw [hm, hi] at hb; exact hb), fun r hr => .inl (by rw [hcm] at hr; exact hr), fun r hr => by rw [hcm]; exact hr, by rw [hcm], by rw [hcm], by rw [hcm]⟩,
    h'.rely ⟨r.size, fun b hb => r.mine b (by rw [hm] at hb; exact hb), fun b hb => r.imm b (by rw [hi] at hb; exact hb), r.os, r.output, r.tape, fun x hx => r.chans x (by rw [hcm] at hx; exact hx)⟩⟩
inductive AEnd where
  | ret (v : AV)
  | panic (v : AV)
def AtEnd (P : Program) (c : Cx) (w : World) (f : FuncId) (kind : CallKind) (fr : Frame) : AEnd → Prop
  | .ret v => fr.fn = f ∧ fr.kind = kind ∧ fr.mode = .returning ∧ fr.defers = [] ∧ ∃ fn V, P.funcs[f]? = some fn ∧ VR c v V ∧ ∀ w1, RL c w w1 → Ok P c w1.heap.size (results fn fr.tmps) w1 (fun r => r = .ok V w1)
  | .panic v => fr.fn = f ∧ fr.kind = kind ∧ fr.defers = [] ∧ ∃ fn V, P.funcs[f]? = some fn ∧ VR c v V ∧ fr.mode = .panicking [{ v := V, recovered := false }]
def CallsA (P : Program) (f : FuncId) (args : List AV) (h : List Blk) (Post : AEnd → List Blk → Prop) : Prop :=
  ∀ (main : Bool) (Stop : Cx → Goroutine → World → Prop) (cs : List Frame) (c : Cx) (w : World) (vargs : Array Value) (kind : CallKind), kind ≠ .early → VRL c args vargs.toList → HR c w h → c.com.todo = [] →
    (∀ e h' c' w' fr, Post e h' → HR c' w' h' → Ext c c' → c'.com.out = c.com.out → c'.com.todo = [] → AtEnd P c' w' f kind fr e → Go' P main Stop c' (G fr cs) w') →
    Go' P main Stop c (G (Frame.enter P f vargs kind) cs) w
theorem CallsA.mono {P : Program} {f : FuncId} {args : List AV} {h : List Blk} {Post Post' : AEnd → List Blk → Prop} (x : CallsA P f args h Post) (hp : ∀ e h, Post e h → Post' e h) : CallsA P f args h Post' :=
  fun main Stop cs c w vargs kind h1 h2 h3 h5 h4 => x main Stop cs c w vargs kind h1 h2 h3 h5 fun e h' c' w' fr q => h4 e h' c' w' fr (hp _ _ q)
def resV (sl : List AV) (h : List Blk) (P : Program) : ResultVar → Option AV
  | .tmp t => some (sl.getD t .any)
  | .cell a t => match tyT P t, cellsAt h (sl.getD a .any) with
    | some f, some cs => if (if aggD f.d then f.sz else 1) ≤ cs.length then some (readA f cs) else none
    | _, _ => none
def resL (P : Program) (sl : List AV) (h : List Blk) : List ResultVar → Option (List AV)
  | [] => some []
  | r :: rs => match resV sl h P r, resL P sl h rs with
    | some v, some vs => some (v :: vs)
    | _, _ => none
def resA (P : Program) (fn : Func) (sl : List AV) (h : List Blk) : Option AV :=
  match resL P sl h fn.results.toList with
  | some [v] => some v
  | some vs => some (.tup vs)
  | none => none
section
variable {P : Program} {c : Cx} {w : World} {h : List Blk}
theorem ok_resL {tmps : Array Value} {sl : List AV} (hs : VRL c sl tmps.toList) (hH : HR c w h) : ∀ {rs : List ResultVar} {vs : List AV}, resL P sl h rs = some vs →
    ∃ Vs, VRL c vs Vs ∧ ∀ w1, RL c w w1 → Ok P c w1.heap.size (rs.mapM fun
      | .tmp t => pure (tmps.getD t undef)
      | .cell a t => do loadVar t (← asAddr (tmps.getD a undef))) w1 (fun r => r = .ok Vs w1)
  | [], vs, hv => by cases hv; exact ⟨[], rfl, fun w1 _ => by simp only [List.mapM_nil]; exact ok_pure rfl⟩
  | r :: rs, vs, hv => by
    simp only [resL] at hv
    split at hv
    · rename_i v vs' hr hrs
      cases hv
      obtain ⟨Vs, h1, h2⟩ := ok_resL hs hH hrs
      have hg : ∀ t, VR c (sl.getD t .any) (tmps.getD t undef) := fun t => by
        have := hs.getD t undef
        simpa [Array.getD_eq_getD_getElem?, List.getD] using this
      cases r with
      | tmp t =>
        cases hr
        refine ⟨tmps.getD t undef :: Vs, ⟨_, _, rfl, hg t, h1⟩, fun w1 r1 => ?_⟩
        simp only [List.mapM_cons]
        exact Ok.then (a := tmps.getD t undef) rfl (Ok.then (h2 w1 r1) (ok_pure rfl))
      | cell a t =>
        simp only [resV] at hr
        split at hr
        · rename_i f cs ht hc
          by_cases hlen : (if aggD f.d then f.sz else 1) ≤ cs.length
          · rw [if_pos hlen] at hr
            simp only [Option.some.injEq] at hr
            subst hr
            obtain ⟨i, g1, g2, g3, g4, _⟩ := tyT_some ht
            obtain ⟨b, o, arr, el, fz, l, hV, ha, hb, hl, hp⟩ := (leads_of hc (hg a) hH).ex
            refine ⟨(if aggD f.d then .agg (l.take i.size).toArray else l.getD 0 default) :: Vs, ⟨_, _, rfl, ?_, h1⟩, fun w1 r1 => ?_⟩
            · unfold readA
              cases hg : aggD f.d with
              | true => exact ⟨l.take i.size, by simp, by rw [← g3]; exact hl.take _⟩
              | false => simpa using hl.getD 0 default
            · simp only [List.mapM_cons]
              have hb1 : w1.heap[b]? = some (.cells arr el fz) := by
                rcases ha with ha | ha
                · rw [r1.mine b ha]; exact hb
                · rw [r1.imm b ha]; exact hb
              have ha1 : c.mine b ∨ w1.heap.size ≤ b ∨ (c.imm b).isSome := by rcases ha with h | h; exact .inl h; exact .inr (.inr h)
              refine Ok.then (Ok.then (a := ⟨b, o, none⟩) ?_ (ok_loadVar g2 g1 ha1 hb1 (by rw [hl.length, g3]; exact hlen) hp)) (Ok.then (h2 w1 r1) (ok_pure rfl))
              have e : tmps.getD a undef = .pointer (some ⟨b, o, none⟩) := hV
              rw [e]
              exact ok_pure rfl
          · rw [if_neg hlen] at hr; cases hr
        · cases hr
    · cases hv
theorem ok_results {fn : Func} {tmps : Array Value} {sl : List AV} {v : AV} (hs : VRL c sl tmps.toList) (hH : HR c w h) (hr : resA P fn sl h = some v) :
    ∃ V, VR c v V ∧ ∀ w1, RL c w w1 → Ok P c w1.heap.size (results fn tmps) w1 (fun r => r = .ok V w1) := by
  unfold resA at hr
  cases hl : resL P sl h fn.results.toList with
  | none => rw [hl] at hr; cases hr
  | some vs =>
    rw [hl] at hr
    obtain ⟨Vs, h1, h2⟩ := ok_resL (P := P) hs hH hl
    have key : ∀ V, (if hsz : Vs.toArray.size = 1 then Vs.toArray[0] else Value.tuple Vs.toArray) = V → ∀ w1, RL c w w1 → Ok P c w1.heap.size (results fn tmps) w1 (fun r => r = .ok V w1) := by
      intro V hV w1 r1
      unfold results
      rw [Array.mapM_eq_mapM_toList]
      have hb : Ok P c w1.heap.size ((fn.results.toList.mapM fun (r : ResultVar) => (match r with
        | .tmp t => pure (tmps.getD t undef)
        | .cell a t => do loadVar t (← asAddr (tmps.getD a undef)) : Sem Value)).bind fun l => Sem.pure l.toArray) w1 (fun r => r = .ok Vs.toArray w1) :=
        Ok.bind ((h2 w1 r1).mono fun r e => by subst e; exact rfl)
      exact Ok.then hb (ok_pure (by rw [hV]))
    match vs, h1, hr with
    | [], h1, hr =>
      cases hr
      cases h1
      exact ⟨.tuple #[], ⟨[], rfl, rfl⟩, key _ (by simp)⟩
    | [a], h1, hr =>
      cases hr
      obtain ⟨V, vs', rfl, h3, h4⟩ := h1
      cases h4
      exact ⟨V, h3, key _ (by simp)⟩
    | a :: b :: r, h1, hr =>
      cases hr
      exact ⟨.tuple Vs.toArray, ⟨Vs, rfl, h1⟩, key _ (by have := h1.length; simp at this; simp [this])⟩
end
def bodyQ (P : Program) (fn : Func) (n0 : Nat) (Post : AEnd → List Blk → Prop) : AExit → AS → Prop
  | .normal, s | .ret, s => s.df = [] ∧ s.gh = {} ∧ ∃ v n, resA P fn s.sl s.hp = some v ∧ n0 ≤ n ∧ below n v = true ∧ (s.hp.take n).all (belowBlk n) = true ∧ Post (.ret v) (s.hp.take n)
  | .panic v, s => s.df = [] ∧ s.gh = {} ∧ Post (.panic v) s.hp
  | _, _ => False
theorem CallsA.of_body {P : Program} {f : FuncId} {fn : Func} {code : Code} {args : List AV} {h : List Blk} {Post : AEnd → List Blk → Prop} (hf : P.funcs[f]? = some fn) (hb : fn.body = some code)
    (hw : h.all (belowBlk h.length) = true → belowL h.length args = true → WP P ⟨f, false, h.length⟩ code (bodyQ P fn h.length Post) { sl := args ++ List.replicate (fn.ntmps - args.length) (.tup []), df := [], hp := h }) : CallsA P f args h Post := by
  intro main Stop cs c w vargs kind hk hv hH htodo hcont
  have hbel : h.all (belowBlk h.length) = true := List.all_eq_true.2 fun b hb => by obtain ⟨i, hi⟩ := List.mem_iff_getElem?.1 hb; exact hH.below hi
  have harg : belowL h.length args = true := by rw [hH.len]; exact VRL.below _ _ hv
  have hent : Frame.enter P f vargs kind = at' (Frame.enter P f vargs kind) (vargs ++ Array.replicate (fn.ntmps - vargs.size) undef) [] ([.code code] ++ []) := by
    simp [Frame.enter, at', hf, hb]
  rw [hent]
  have hsz : vargs.size = args.length := by have := hv.length; simpa using this
  have hrep : ∀ n, VRL c (List.replicate n (.tup [])) (List.replicate n undef) := by
    intro n
    induction n with
    | zero => rfl
    | succ n ih => exact ⟨_, _, rfl, ⟨[], rfl, rfl⟩, ih⟩
  have hsr : SR c.com.out c w { sl := args ++ List.replicate (fn.ntmps - args.length) (.tup []), df := [], hp := h } (vargs ++ Array.replicate (fn.ntmps - vargs.size) undef) [] :=
    ⟨by simp only [Array.toList_append, Array.toList_replicate]; rw [hsz]; exact hv.append (hrep _), rfl, hH, ⟨[], rfl, rfl⟩, htodo⟩
  refine hw hbel harg main Stop (Frame.enter P f vargs kind) [] cs c.com.out c w _ [] ⟨rfl, fun _ => rfl⟩ hk hsr ?_
  intro e s' c' w' tmps' ds' q r xT
  have x : Ext c c' := xT.ofT (by rw [← hH.len]; exact Nat.le_refl _)
  have neutral : s'.gh = {} → c'.com.out = c.com.out ∧ c'.com.todo = [] := fun hgh => by
    obtain ⟨⟨M, h1, h2⟩, h3⟩ := r.gh
    rw [hgh] at h2 h3
    cases h2
    exact ⟨by simpa using h1, h3⟩
  have ret : ∀ (todo todo' : List Item), (∀ w1, stepG P main (G (at' (Frame.enter P f vargs kind) tmps' ds' todo) cs) w1 = .go (G { at' (Frame.enter P f vargs kind) tmps' ds' todo' with mode := .returning } cs) w1 #[]) →
      (s'.df = [] ∧ s'.gh = {} ∧ ∃ v n, resA P fn s'.sl s'.hp = some v ∧ h.length ≤ n ∧ Mac.below n v = true ∧ (s'.hp.take n).all (belowBlk n) = true ∧ Post (.ret v) (s'.hp.take n)) →
      Go' P main Stop c' (G (at' (Frame.enter P f vargs kind) tmps' ds' todo) cs) w' := by
    rintro todo todo' hstep ⟨hdf, hgh, v, n, hres, hn, hbv, hbh, hp⟩
    obtain ⟨V, hV, hok⟩ := ok_results (P := P) r.sl r.hp hres
    have hds : ds' = [] := by have := r.df; rw [hdf] at this; exact this
    have hle : c.own.length ≤ n := by rw [← hH.len]; exact hn
    have hg := neutral hgh
    refine Go'.idle2 (c2 := c'.take n) rfl rfl rfl rfl rfl hstep ?_
    exact hcont (.ret v) _ (c'.take n) w' { at' (Frame.enter P f vargs kind) tmps' ds' todo' with mode := .returning } hp (r.hp.take hbh) (x.take hle) hg.1 hg.2
      ⟨rfl, rfl, rfl, hds, fn, V, hf, VR.take v V hbv hV, fun w1 r1 => Ok.congr (c := c') (c' := c'.take n) rfl rfl (hok w1 ⟨r1.size, r1.mine, r1.imm, r1.os, r1.output, r1.tape, r1.chans⟩)⟩
  cases e with
  | normal => exact ret [] [] (fun w1 => by simp [G, stepG, stepG.exec, at', Frame.enter]) q
  | ret => exact fun k' => ret (.code .ret :: k') (.code .ret :: k') (fun w1 => by simp [G, stepG, stepG.exec, at', Frame.enter]) q
  | exit id => exact q.elim
  | goto l => exact q.elim
  | panic v =>
    intro V todo hV
    obtain ⟨hdf, hgh, hp⟩ := q
    have hg := neutral hgh
    have hds : ds' = [] := by have := r.df; rw [hdf] at this; exact this
    exact hcont (.panic v) _ c' w' _ hp r.hp x hg.1 hg.2 ⟨rfl, rfl, hds, fn, V, hf, hV, rfl⟩
section
variable {P : Program} {fk : FK} {Q : AExit → AS → Prop} {s : AS} {ops : Array Oper} {i : Nat} {rest : List Nat} {o : Oper}
def callQ (P : Program) (fk : FK) (ops : Array Oper) (rest : List Nat) (o : Oper) (Q : AExit → AS → Prop) (s : AS) : AEnd → List Blk → Prop
  | .ret v, h' => WPI P fk [.inRegion ops rest] Q { s with sl := putA s.sl o.dst v, hp := h' }
  | .panic v, h' => Q (.panic v) { s with hp := h' }
theorem VRL_map {c : Cx} {sl : List AV} {ρ : Operand → Value} (h : ∀ x, VR c (evA sl x) (ρ x)) : ∀ (l : List Operand), VRL c (l.map (evA sl)) (l.map ρ)
  | [] => rfl
  | x :: l => ⟨_, _, rfl, h x, VRL_map h l⟩
theorem WPI.call {cl : Go.Call} {f : Operand} {g : FuncId} {fn : Func} {first cap : List AV} (ho : ops[i]? = some o) (hw : ∀ c tmps, VRL c s.sl tmps.toList → Region.wanted o (yielded ops tmps) = true) (hop : o.op = .call cl) (hcl : cl.callee = .value f)
    (hfv : evA s.sl f = .fn (.func g) first cap) (hg : P.funcs[g]? = some fn) (hname : (fn.name == "runtime.NumGoroutine") = false) (hbody : fn.body.isSome = true) (hgt : s.gh.todo = [])
    (h : CallsA P g (first ++ cl.args.toList.map (evA s.sl) ++ cap) s.hp (callQ P fk ops rest o Q s)) : WPI P fk [.inRegion ops (i :: rest)] Q s := by
  intro main Stop b k cs base c w tmps ds h1 h2 h3 h4
  refine Go'.of_step rfl fun w1 r => ?_
  have h3' := h3.rely r
  have htodo : c.com.todo = [] := by have := h3.gh.todo; rw [hgt] at this; exact this
  rw [List.singleton_append, stepG_opA ho (hw c tmps h3.sl) (by rw [hop]; rfl)]
  generalize hfr : at' b tmps ds (.inRegion ops (i :: rest) :: k) = fr
  have hρ : ∀ x, VR c (evA s.sl x) (fr.eval x) := fun x => by rw [← hfr]; exact VR_evA h3.sl b ds _ x
  have hfx := hρ f
  rw [hfv] at hfx
  obtain ⟨L1, L2, hF, hL1, hL2⟩ := hfx
  have hrun : ∀ es, (execOp fr.eval o).runT P w1 es = (.ok (.enter g (L1.toArray ++ cl.args.map fr.eval ++ L2.toArray)) w1, es) := by
    intro es
    have hbn : fn.body.isNone = false := by cases hb : fn.body <;> simp_all
    have hname' : ¬ fn.name = "runtime.NumGoroutine" := by simpa using hname
    simp only [execOp, hop, resolve, hcl, hF, Deferred.ofValue]
    show ((callFunc g (L1.toArray ++ cl.args.map fr.eval ++ L2.toArray))).runT P w1 es = _
    unfold callFunc
    show Sem.runT P (match P.funcs[g]? with
      | none => _
      | some fn => _) w1 es = _
    rw [hg]
    simp only [hname, Bool.false_eq_true, if_false, hbn]
    rfl
  have hkind : (fr.kind == CallKind.early) = false := by rw [← hfr]; simpa [at'] using h2
  have hftodo : fr.todo = .inRegion ops (i :: rest) :: k := by rw [← hfr]; rfl
  have hstep : stepG.apply P true fr cs none (execOp fr.eval o) w1 = .go (G (Frame.enter P g (L1.toArray ++ cl.args.map fr.eval ++ L2.toArray) .normal) (fr :: cs)) w1 #[] := by
    have he := hrun #[]
    simp only [stepG.apply, hftodo, if_true, he, hkind, Bool.false_eq_true, if_false]
    simp [GStep.after, G, seen]
  have hargs : VRL c (first ++ cl.args.toList.map (evA s.sl) ++ cap) (L1.toArray ++ cl.args.map fr.eval ++ L2.toArray).toList := by
    simp only [Array.toList_append, Array.toList_map]
    exact (hL1.append (VRL_map hρ _)).append hL2
  refine ⟨_, w1, _, c, hstep, rfl, ⟨.refl _ _ _, fun _ h => .inl h, fun _ _ h => .inl h, fun _ _ h => h, by simp, fun _ h => .inl h, fun _ h => .inl h, fun _ h => h, rfl, rfl, rfl⟩, ?_⟩
  refine h main Stop (fr :: cs) c w1 _ .normal (by simp) hargs h3'.hp htodo fun e h' c' w' fr' q hH hx ho1 ho2 he => ?_
  cases e with
  | ret v =>
    obtain ⟨e1, e2, e3, e4, fn', V, e5, hV, hok⟩ := he
    have hfin : fr.finish V = at' b (putV tmps o.dst V) ds (.inRegion ops rest :: k) := by rw [← hfr, finish_at', ho]; rfl
    refine Go'.of_step rfl fun w2 r2 => ?_
    obtain ⟨h5, h6, _⟩ := Ok.spec #[] (hok w2 r2) (Nat.le_refl _)
    rw [h5] at h6
    have hst : stepG P main (G fr' (fr :: cs)) w2 = .go (G (at' b (putV tmps o.dst V) ds (.inRegion ops rest :: k)) cs) w2 (seen P fr'.fn ((results fn' fr'.tmps).events P w2 #[])) := by
      rw [← hfin]
      simp [G, stepG, unwind, doReturn, e1, e2, e3, e4, e5, h5, GStep.after]
    refine ⟨_, w2, _, c', hst, rfl, ⟨.refl _ _ _, fun _ h => .inl h, fun _ _ h => .inl h, fun _ _ h => h, fun x hx' => ?_, fun _ h => .inl h, fun _ h => .inl h, fun _ h => h, rfl, rfl, rfl⟩, ?_⟩
    · rcases h6 x (mem_seen hx') with h | h
      · simp at h
      · exact h
    · have hH2 := hH.rely r2
      refine q main Stop b k cs base c' w2 _ ds h1 h2 ⟨(h3.sl.ext hx).put o.dst hV, h3.df.ext hx, hH2, h3.gh.ext hx ho1 (by rw [ho2, htodo])⟩ fun e s' c2 w2 t2 d2 q r2 y => h4 e s' c2 w2 t2 d2 q r2 ((hx.toT _).transT y)
  | panic v =>
    obtain ⟨e1, e2, e3, fn', V, e4, hV, e5⟩ := he
    have hst : ∀ w2, stepG P main (G fr' (fr :: cs)) w2 = .go (G (fr.raise [{ v := V, recovered := false }]) cs) w2 #[] := by
      intro w2
      have hc : fr'.catches P = false := by simp [Frame.catches, e1, e4]
      simp [G, stepG, unwind, e3, e5, hc]
    have hra : fr.raise [{ v := V, recovered := false }] = { at' b tmps ds (.inRegion ops (i :: rest) :: k) with mode := .panicking [{ v := V, recovered := false }] } := by rw [← hfr]; rfl
    refine Go'.idle rfl rfl hst ?_
    rw [hra]
    exact h4 (.panic v) _ c' w' tmps ds q ⟨h3.sl.ext hx, h3.df.ext hx, hH, h3.gh.ext hx ho1 (by rw [ho2, htodo])⟩ (hx.toT _) V _ hV
end
end Go.Mac

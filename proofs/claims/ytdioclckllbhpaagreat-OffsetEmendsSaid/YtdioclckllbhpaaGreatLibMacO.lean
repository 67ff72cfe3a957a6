/- A part of the logic and of the contracts of the functions that the statement reaches; the statement itself is proved in the last text. -/
import Derived.Test.YtdioclckllbhpaaGreatLibMacM

set_option linter.all false
set_option linter.unusedVariables false
set_option linter.unusedSimpArgs false
set_option linter.unnecessarySimpa false
namespace Go.Mac
open Go Go.Conc
def Cx.shut (c : Cx) (b : Nat) (o : Obj) : Cx := { c with mine := fun x => c.mine x ∧ x ≠ b, imm := fun x => if x = b then some o else c.imm x }
section
variable {P : Program} {c : Cx} {w : World} {h : List Blk} {b : Nat} {o : Obj}
theorem Ext.shut (hi : c.imm b = none) : Ext c (c.shut b o) where
  own i e h := ⟨e, h, Nat.le_refl _, fun _ => rfl⟩
  imm x o' h := by
    simp only [Cx.shut]
    by_cases hx : x = b
    · subst hx; rw [hi] at h; cases h
    · rw [if_neg hx]; exact h
theorem Gh.shut (hm : c.mine b) (hi : c.imm b = none) : Gh c (c.shut b o) where
  com := rfl
  mine x h := h.1
  imm x o' h := by
    simp only [Cx.shut] at h
    split at h
    · rename_i e; subst e; exact .inr hm
    · exact .inl h
  still x o' h := (Ext.shut (o := o) hi).imm x o' h
theorem HR.imm_none (x : HR c w h) (hm : c.mine b) : c.imm b = none := by
  cases hi : c.imm b with
  | none => rfl
  | some o => exact absurd hm (x.imm b o hi).1
theorem HR.shut (x : HR c w h) {i : Nat} {e : Ent} {k : Nat} {old : Blk} (hi : c.own[i]? = some e) (ho : h[i]? = some old) (hl : old.live = true) (hs : e.seat = some (b, k)) (hm : c.mine b) (hb : w.heap[b]? = some o) : HR (c.shut b o) w (h.set i .dead) where
  len := by simp [Cx.shut, x.len]
  blk j ej bj h1 h2 := by
    have hin := x.imm_none hm
    by_cases hij : i = j
    · subst hij
      rw [List.getElem?_set_self (List.getElem?_eq_some_iff.1 ho).1] at h2
      cases h2
      trivial
    · rw [List.getElem?_set_ne hij] at h2
      have h1' : c.own[j]? = some ej := h1
      have hr := x.blk j ej bj h1' h2
      have hne : bj.live = true → ∀ y, ej.seat = some y → y.1 ≠ b := fun hlj y hy hyb => x.apart i j e ej old bj (b, k) y hij hi h1' ho h2 hl hlj hs hy hyb.symm
      have xx := Ext.shut (o := o) hin
      cases bj with
      | dead => trivial
      | cells g cs =>
        obtain ⟨h0, h1 | ⟨b', k', arr, el, l, h1, h2, h3, h4, h5, h6⟩⟩ := hr
        · exact ⟨h0, .inl h1⟩
        · exact ⟨h0, .inr ⟨b', k', arr, el, l, h1, ⟨h2, hne rfl _ h1⟩, h3, h4, h5.ext xx, h6⟩⟩
      | map ks vs => obtain ⟨h0, b', k', ents, clk, h1, h2, h3, h4, h5⟩ := hr; exact ⟨h0, b', k', ents, clk, h1, ⟨h2, hne rfl _ h1⟩, h3, h4.ext xx, h5.ext xx⟩
      | loop st pend fn slots params assign body => obtain ⟨h0, b', k', tm, d, h1, h2, h3, h4⟩ := hr; exact ⟨h0, b', k', tm, d, h1, ⟨h2, hne rfl _ h1⟩, h3, h4.ext xx⟩
      | defd => obtain ⟨h0, b', k', h1, h2, h3⟩ := hr; exact ⟨h0, b', k', h1, ⟨h2, hne rfl _ h1⟩, h3⟩
      | iter s pos => obtain ⟨h0, b', k', h1, h2, h3⟩ := hr; exact ⟨h0, b', k', h1, ⟨h2, hne rfl _ h1⟩, h3⟩
      | chan g => exact hr
      | role m => exact hr
  apart i1 j1 e1 e2 b1 b2 y1 y2 hne h1 h2 h3 h4 l1 l2 s1 s2 := by
    have key : ∀ (m : Nat) (bm : Blk), (h.set i Blk.dead)[m]? = some bm → bm.live = true → h[m]? = some bm := by
      intro m bm hm hlm
      by_cases him : i = m
      · subst him
        rw [List.getElem?_set_self (List.getElem?_eq_some_iff.1 ho).1] at hm
        cases hm
        cases hlm
      · rw [List.getElem?_set_ne him] at hm; exact hm
    exact x.apart i1 j1 e1 e2 b1 b2 y1 y2 hne h1 h2 (key _ _ h3 l1) (key _ _ h4 l2) l1 l2 s1 s2
  mine y hy := x.mine y hy.1
  imm y o' hy := by
    simp only [Cx.shut] at hy
    split at hy
    · rename_i e'; cases hy; subst e'; exact ⟨fun q => q.2 rfl, hb⟩
    · exact ⟨fun q => (x.imm y o' hy).1 q.1, (x.imm y o' hy).2⟩
  chan y hy := by
    obtain ⟨h1, h2, h3⟩ := x.chan y hy
    refine ⟨fun q => h1 q.1, ?_, h3⟩
    simp only [Cx.shut]
    rw [if_neg (by rintro rfl; exact h1 hm)]
    exact h2
theorem HR.forget (x : HR c w h) (i : Nat) : HR c w (h.set i .dead) where
  len := by simp [x.len]
  blk j ej bj h1 h2 := by
    by_cases hij : i = j
    · subst hij
      rw [List.getElem?_set_self (by have := (List.getElem?_eq_some_iff.1 h2).1; simpa using this)] at h2
      cases h2
      trivial
    · rw [List.getElem?_set_ne hij] at h2; exact x.blk j ej bj h1 h2
  apart i1 j1 e1 e2 b1 b2 y1 y2 hne h1 h2 h3 h4 l1 l2 s1 s2 := by
    have key : ∀ (m : Nat) (bm : Blk), (h.set i Blk.dead)[m]? = some bm → bm.live = true → h[m]? = some bm := by
      intro m bm hm hlm
      by_cases him : i = m
      · subst him
        rw [List.getElem?_set_self (by have := (List.getElem?_eq_some_iff.1 hm).1; simpa using this)] at hm
        cases hm
        cases hlm
      · rw [List.getElem?_set_ne him] at hm; exact hm
    exact x.apart i1 j1 e1 e2 b1 b2 y1 y2 hne h1 h2 (key _ _ h3 l1) (key _ _ h4 l2) l1 l2 s1 s2
  mine := x.mine
  imm := x.imm
  chan := x.chan
theorem At_some {n : Nm} {S : Option (Nat × Nat) → Prop} {e : Ent} (h : c.At n S) (he : c.own[n.id]? = some e) (hg : e.gen = n.gen) : S e.seat := by
  obtain ⟨e', h1, _, h3⟩ := h
  rw [he] at h1
  cases h1
  exact h3 hg.symm
theorem prefix_drop {α : Type} {l m : List α} (h : l <+: m) (o : Nat) : l.drop o <+: m.drop o := by
  obtain ⟨t, rfl⟩ := h
  by_cases ho : o ≤ l.length
  · rw [List.drop_append_of_le_length ho]; exact List.prefix_append _ _
  · rw [List.drop_eq_nil_of_le (by omega)]; exact List.nil_prefix
theorem VR_seal_sl {n : Nm} {sz off len : Nat} {V : Value} {e : Ent} {cs : List AV} {k : Nat} {arr : Array Value} {el : TypeId} {l : List Value} (hv : VR c (.sl n sz off len) V) (he : c.own[n.id]? = some e) (hg : e.gen = n.gen) (hs : e.seat = some (b, k)) (hi : c.imm b = none)
    (hv' : VRL c cs l) (hp : l <+: arr.toList) : VR (c.shut b (.cells arr el (0, 0))) (.psl ((cs.drop off).take (len * sz)) len) V := by
  rcases At_some hv.2 he hg with ⟨rfl, rfl, rfl⟩ | ⟨b', k', cap, h1, h2, h3, h4⟩
  · exact .inl ⟨by simp, rfl, _, rfl⟩
  · rw [hs] at h1
    cases h1
    exact .inr ⟨b, off, arr, el, (0, 0), (l.drop off).take (len * sz), cap, h2, h3, by simp [Cx.shut], ((hv'.drop off).take _).ext (Ext.shut hi), (List.take_prefix _ _).trans (prefix_drop hp off)⟩
theorem VR_seal_ptr {n : Nm} {off : Nat} {V : Value} {e : Ent} {cs : List AV} {k : Nat} {arr : Array Value} {el : TypeId} {l : List Value} (hv : VR c (.ptr n off) V) (he : c.own[n.id]? = some e) (hg : e.gen = n.gen) (hs : e.seat = some (b, k)) (hi : c.imm b = none)
    (hv' : VRL c cs l) (hp : l <+: arr.toList) : VR (c.shut b (.cells arr el (0, 0))) (.pptr (cs.drop off)) V := by
  obtain ⟨b', k', h1, h2⟩ := At_some hv.2 he hg
  rw [hs] at h1
  cases h1
  exact ⟨b, off, arr, el, (0, 0), l.drop off, h2, by simp [Cx.shut], (hv'.drop off).ext (Ext.shut hi), prefix_drop hp off⟩
theorem VR_seal_map {n : Nm} {V : Value} {e : Ent} {ks vs : List AV} {k : Nat} {ents : Array MapEntry} {clk : Nat} (hv : VR c (.map n) V) (he : c.own[n.id]? = some e) (hg : e.gen = n.gen) (hs : e.seat = some (b, k)) (hi : c.imm b = none)
    (h1 : VRL c ks (ents.toList.map (·.key))) (h2 : VRL c vs (ents.toList.map (·.val))) : VR (c.shut b (.map ents clk)) (.pmap ks vs) V := by
  obtain ⟨b', k', h3, h4⟩ := At_some hv.2 he hg
  rw [hs] at h3
  cases h3
  exact .inr ⟨b, ents, clk, h4, by simp [Cx.shut], h1.ext (Ext.shut hi), h2.ext (Ext.shut hi)⟩
def sealV (h : List Blk) : AV → Option AV
  | .sl n sz off len => match h[n.id]? with
    | some (.cells g cs) => if g = n.gen then some (.psl ((cs.drop off).take (len * sz)) len) else none
    | _ => none
  | .ptr n off => match h[n.id]? with
    | some (.cells g cs) => if g = n.gen then some (.pptr (cs.drop off)) else none
    | _ => none
  | .map n => match h[n.id]? with
    | some (.map ks vs) => if n.gen = 0 then some (.pmap ks vs) else none
    | _ => none
  | _ => none
def nmOf : AV → Nat
  | .sl n _ _ _ | .ptr n _ | .map n | .yield n => n.id
  | _ => 0
theorem seal_ok {a a' : AV} {V : Value} (hs : sealV h a = some a') (hv : VR c a V) (hH : HR c w h) : ∃ c', Gh c c' ∧ Ext c c' ∧ HR c' w (h.set (nmOf a) .dead) ∧ VR c' a' V ∧ c'.own = c.own := by
  cases a <;> simp only [sealV, reduceCtorEq] at hs
  case ptr n off =>
    cases hb : h[n.id]? with
    | none => rw [hb] at hs; simp at hs
    | some blk =>
      rw [hb] at hs
      cases blk <;> simp only [reduceCtorEq] at hs
      case cells g cs =>
        split at hs
        · rename_i hg
          simp only [Option.some.injEq] at hs
          have hlt : n.id < c.own.length := by rw [← hH.len]; exact (List.getElem?_eq_some_iff.1 hb).1
          have he : c.own[n.id]? = some c.own[n.id] := by simp [hlt]
          obtain ⟨h0, h1 | ⟨b, k, arr, el, l, h1, h2, h3, h4, h5, h6⟩⟩ := hH.blk _ _ _ he hb
          · exfalso
            obtain ⟨b, k, g1, g2⟩ := At_some hv.2 he (by omega)
            rw [h1.1] at g1; cases g1
          · have hi := hH.imm_none h2
            refine ⟨c.shut b (.cells arr el (0, 0)), .shut h2 hi, .shut hi, ?_, ?_, rfl⟩
            · exact hH.shut he hb rfl h1 h2 h3
            · subst hs; exact VR_seal_ptr hv he (by omega) h1 hi h5 h6
        · cases hs
  case sl n sz off len =>
    cases hb : h[n.id]? with
    | none => rw [hb] at hs; simp at hs
    | some blk =>
      rw [hb] at hs
      cases blk <;> simp only [reduceCtorEq] at hs
      case cells g cs =>
        split at hs
        · rename_i hg
          simp only [Option.some.injEq] at hs
          have hlt : n.id < c.own.length := by rw [← hH.len]; exact (List.getElem?_eq_some_iff.1 hb).1
          have he : c.own[n.id]? = some c.own[n.id] := by simp [hlt]
          obtain ⟨h0, h1 | ⟨b, k, arr, el, l, h1, h2, h3, h4, h5, h6⟩⟩ := hH.blk _ _ _ he hb
          · rcases At_some hv.2 he (by omega) with ⟨rfl, rfl, rfl⟩ | ⟨b, k, cap, g1, g2⟩
            · refine ⟨c, .refl c, .refl c, ?_, ?_, rfl⟩
              · exact hH.forget _
              · subst hs; exact .inl ⟨by simp, rfl, _, rfl⟩
            · rw [h1.1] at g1; cases g1
          · have hi := hH.imm_none h2
            refine ⟨c.shut b (.cells arr el (0, 0)), .shut h2 hi, .shut hi, ?_, ?_, rfl⟩
            · exact hH.shut he hb rfl h1 h2 h3
            · subst hs; exact VR_seal_sl hv he (by omega) h1 hi h5 h6
        · cases hs
  case map n =>
    cases hb : h[n.id]? with
    | none => rw [hb] at hs; simp at hs
    | some blk =>
      rw [hb] at hs
      cases blk <;> simp only [reduceCtorEq] at hs
      case map ks vs =>
        split at hs
        · rename_i hg
          simp only [Option.some.injEq] at hs
          have hlt : n.id < c.own.length := by rw [← hH.len]; exact (List.getElem?_eq_some_iff.1 hb).1
          have he : c.own[n.id]? = some c.own[n.id] := by simp [hlt]
          obtain ⟨h0, b, k, ents, clk, h1, h2, h3, h4, h5⟩ := hH.blk _ _ _ he hb
          have hi := hH.imm_none h2
          refine ⟨c.shut b (.map ents clk), .shut h2 hi, .shut hi, ?_, ?_, rfl⟩
          · exact hH.shut he hb rfl h1 h2 h3
          · subst hs; exact VR_seal_map hv he (by omega) h1 hi h4 h5
        · cases hs
end
theorem seal_last {c c' : Cx} {w w' : World} {h : List Blk} {v a' : AV} {V : Value} {n0 : Nat} {blk : Blk} (hH : HR c w h) (hs : sealV (h ++ [blk]) v = some a') (hn : nmOf v = h.length) (hv : VR c' v V) (hH' : HR c' w' (h ++ [blk])) (ht : TurnOk c c' n0) (hb : below h.length a' = true) :
    ∃ c2, VR c2 a' V ∧ HR c2 w' h ∧ TurnOk c c2 n0 := by
  obtain ⟨c2, g, e, hH2, hv2, hown⟩ := seal_ok hs hv hH'
  have hset : ((h ++ [blk]).set (nmOf v) .dead).take h.length = h := by
    rw [hn, List.set_append_right _ _ (Nat.le_refl _)]
    simp
  have hbel : h.all (belowBlk h.length) = true := List.all_eq_true.2 fun b hb => by obtain ⟨i, hi⟩ := List.mem_iff_getElem?.1 hb; exact hH.below hi
  refine ⟨c2.take h.length, VR.take a' V hb hv2, ?_, ?_, ?_, ?_, ?_⟩
  · have := hH2.take (n := h.length) (by rw [hset]; exact hbel)
    rw [hset] at this
    exact this
  · exact (ht.ext.trans e).take (by rw [hH.len]; exact Nat.le_refl _)
  · intro b hm; exact ht.mine b (g.mine b hm)
  · intro b o hi
    rcases g.imm b o hi with h | h
    · exact ht.imm b o h
    · exact (ht.mine b h).elim (fun h => .inr (.inl h)) (fun h => .inr (.inr h))
  · exact g.com.trans ht.com
def buildSealW (P : Program) (t : TypeId) (len : Nat) (parts : List (Nat × AV)) (h : List Blk) (K : AV → List Blk → Prop) : Prop :=
  match tyT P t with
  | some f => match f.d with
    | .slice te => match tyT P te with
      | some fe => match fe.ze with
        | some z => match fillA (fun i => some (i * fe.sz, fe.sz)) (if len * fe.sz = 0 then [] else zeroRow z (len * fe.sz)) parts with
          | some out => len * fe.sz ≤ 16777216 ∧ out.length = len * fe.sz ∧ belowL h.length out = true ∧ K (.psl out len) h
          | none => False
        | none => False
      | none => False
    | _ => False
  | none => False
theorem buildSealW_ok {P : Program} {c : Cx} {w : World} {h : List Blk} {K : AV → List Blk → Prop} {o : Oper} {ρA : Operand → AV} {ρ : Operand → Value} {t : TypeId} {len : Nat} {parts : Array (Nat × Operand)} (ho : o.op = .buildSlice t len parts)
    (hw : buildSealW P t len (parts.toList.map fun p => (p.1, ρA p.2)) h K) (hρ : ∀ x, VR c (ρA x) (ρ x)) (hH : HR c w h) : OpOk P (execOp ρ o) K c w := by
  unfold buildSealW at hw
  split at hw
  · rename_i f hf
    split at hw
    · rename_i te hd
      split at hw
      · rename_i fe hfe
        split at hw
        · rename_i z hz
          split at hw
          · rename_i out hout
            obtain ⟨h1, h2, h3, hK⟩ := hw
            have key : opW P o.op ρA h (fun v h' => v = .sl ⟨h.length, 0⟩ fe.sz 0 len ∧ h' = h ++ [.cells 0 out]) := by
              rw [ho]
              simp only [opW, buildSliceW, hf, hd, hfe, hz, hout]
              exact ⟨h1, h2, by simp⟩
            refine (opW_ok key hρ hH).mono ?_
            rintro r ⟨nx, V, w', c', v, h', rfl, hg, ⟨rfl, rfl⟩, hV, hH', hT⟩
            obtain ⟨c2, a, b, d⟩ := seal_last (a' := .psl out len) hH (by simp [sealV, ← h2]) rfl hV hH' hT (by simpa [below] using h3)
            exact ⟨nx, V, w', c2, _, _, rfl, hg, hK, a, b, d⟩
          · exact hw.elim
        · exact hw.elim
      · exact hw.elim
    · exact hw.elim
  · exact hw.elim
def Turns (n0 : Nat) (s s' : AS) : Prop :=
  ∀ (base : List (Nat × Value)) (c : Cx) (w : World) (tmps : Array Value) (ds : List Deferred), SR base c w s tmps ds → ∃ c', Gh c c' ∧ Ext (c.take n0) c' ∧ SR base c' w s' tmps ds
section
variable {P : Program} {fk : FK} {Q Q' : AExit → AS → Prop} {s s' s'' : AS} {n0 : Nat} {its : List Item}
theorem Turns.refl : Turns n0 s s := fun _ c _ _ _ h => ⟨c, .refl c, .reflT c n0, h⟩
theorem Turns.trans (h : Turns n0 s s') (h' : Turns n0 s' s'') : Turns n0 s s'' := fun base c w tmps ds x => by
  obtain ⟨c1, g1, e1, x1⟩ := h base c w tmps ds x
  obtain ⟨c2, g2, e2, x2⟩ := h' base c1 w tmps ds x1
  exact ⟨c2, g1.trans g2, e1.transT e2, x2⟩
theorem WPI.turn (t : Turns fk.low s s') (h : WPI P fk its Q s') : WPI P fk its Q s := by
  intro main Stop b k cs base c w tmps ds h1 h2 h3 h4
  obtain ⟨c', g, e, x⟩ := t base c w tmps ds h3
  exact .ghost g (h main Stop b k cs base c' w tmps ds h1 h2 x fun e' s1 c1 w1 t1 d1 q r y => h4 e' s1 c1 w1 t1 d1 q r (e.transT y))
def turnQ (n0 : Nat) (Q : AExit → AS → Prop) : AExit → AS → Prop
  | .panic v, s => Q (.panic v) s
  | e, s => ∃ s', Turns n0 s s' ∧ Q e s'
theorem WPI.turnQ (h : WPI P fk its (Mac.turnQ fk.low Q) s) : WPI P fk its Q s := by
  intro main Stop b k cs base c w tmps ds h1 h2 h3 h4
  refine h main Stop b k cs base c w tmps ds h1 h2 h3 fun e s1 c1 w1 t1 d1 q r y => ?_
  cases e with
  | normal =>
    obtain ⟨s2, t, q⟩ := q
    obtain ⟨c2, g, x, r2⟩ := t base c1 w1 t1 d1 r
    exact .ghost g (h4 .normal s2 c2 w1 t1 d1 q r2 (y.transT x))
  | exit id =>
    obtain ⟨s2, t, q⟩ := q
    obtain ⟨c2, g, x, r2⟩ := t base c1 w1 t1 d1 r
    exact fun k' hk => .ghost g (h4 (.exit id) s2 c2 w1 t1 d1 q r2 (y.transT x) k' hk)
  | goto l =>
    obtain ⟨s2, t, q⟩ := q
    obtain ⟨c2, g, x, r2⟩ := t base c1 w1 t1 d1 r
    exact fun k' hk => .ghost g (h4 (.goto l) s2 c2 w1 t1 d1 q r2 (y.transT x) k' hk)
  | ret =>
    obtain ⟨s2, t, q⟩ := q
    obtain ⟨c2, g, x, r2⟩ := t base c1 w1 t1 d1 r
    exact fun k' => .ghost g (h4 .ret s2 c2 w1 t1 d1 q r2 (y.transT x) k')
  | panic v => exact h4 (.panic v) s1 c1 w1 t1 d1 q r y
theorem Turns.slot {d : Nat} {a a' : AV} (ha : evA s.sl (.tmp d) = a) (hw : ∀ c V, VR c a V → VR c a' V) : Turns n0 s { s with sl := s.sl.set d a' } := by
  intro base c w tmps ds x
  refine ⟨c, .refl c, .reflT c n0, ?_, x.df, x.hp, x.gh⟩
  cases hd : s.sl[d]? with
  | none =>
    have : s.sl.set d a' = s.sl := List.set_eq_of_length_le (by simpa using hd)
    show VRL c (s.sl.set d a') _
    rw [this]; exact x.sl
  | some a0 =>
    have : a0 = a := by simpa [evA, List.getD, hd] using ha
    subst this
    obtain ⟨V, hV, hr⟩ := x.sl.get hd
    have h2 := x.sl.set d (hw c V hr)
    have : tmps.toList.set d V = tmps.toList := by
      obtain ⟨hlt, he⟩ := List.getElem?_eq_some_iff.1 hV
      rw [← he]; exact List.set_getElem_self hlt
    rw [this] at h2
    exact h2
theorem Turns.any (d : Nat) : Turns n0 s { s with sl := s.sl.set d .any } := Turns.slot rfl fun _ _ _ => trivial
theorem Turns.shut {d : Nat} {a a' : AV} (ha : evA s.sl (.tmp d) = a) (hs : sealV s.hp a = some a') : Turns n0 s { s with sl := s.sl.set d a', hp := s.hp.set (nmOf a) .dead } := by
  intro base c w tmps ds x
  cases hd : s.sl[d]? with
  | none =>
    have : a = .any := by simpa [evA, List.getD, hd] using ha.symm
    subst this
    cases hs
  | some a0 =>
    have : a0 = a := by simpa [evA, List.getD, hd] using ha
    subst this
    obtain ⟨V, hV, hr⟩ := x.sl.get hd
    obtain ⟨c', g, e, hH, hv, _⟩ := seal_ok hs hr x.hp
    refine ⟨c', g, e.toT _, ?_, x.df.ext e, hH, x.gh.ext e (by rw [g.com]) (by rw [g.com])⟩
    have h2 := (x.sl.ext e).set d hv
    have : tmps.toList.set d V = tmps.toList := by
      obtain ⟨hlt, he⟩ := List.getElem?_eq_some_iff.1 hV
      rw [← he]; exact List.set_getElem_self hlt
    rw [this] at h2
    exact h2
theorem Turns.seal_cell {i g j : Nat} {cs : List AV} {a a' : AV} (hb : s.hp[i]? = some (.cells g cs)) (hj : cs[j]? = some a) (hs : sealV s.hp a = some a') (hne : nmOf a ≠ i) :
    Turns n0 s { s with hp := (s.hp.set (nmOf a) .dead).set i (.cells g (cs.set j a')) } := by
  intro base c w tmps ds x
  have hlt : i < c.own.length := by rw [← x.hp.len]; exact (List.getElem?_eq_some_iff.1 hb).1
  have he : c.own[i]? = some c.own[i] := by simp [hlt]
  obtain ⟨h0, h1 | ⟨b, k, arr, el, l, h1, h2, h3, h4, h5, h6⟩⟩ := x.hp.blk _ _ _ he hb
  · rw [h1.2] at hj; simp at hj
  · obtain ⟨V, hV, hr⟩ := h5.get hj
    obtain ⟨c', gh, e, hH, hv, hown⟩ := seal_ok hs hr x.hp
    have hb' : (s.hp.set (nmOf a) .dead)[i]? = some (.cells g cs) := by rw [List.getElem?_set_ne hne]; exact hb
    have he' : c'.own[i]? = some c.own[i] := by rw [hown]; exact he
    have hm' : c'.mine b := by
      obtain ⟨_, h1' | ⟨b2, k2, arr2, el2, l2, h1', h2', _⟩⟩ := hH.blk _ _ _ he' hb'
      · rw [h1'.1] at h1; cases h1
      · rw [h1'] at h1; cases h1; exact h2'
    refine ⟨c', gh, e.toT _, x.sl.ext e, x.df.ext e, hH.update he' hb' rfl h1 hm' rfl (fun _ _ => rfl) ⟨h0, .inr ⟨b, k, arr, el, l, h1, hm', h3, h4, ?_, h6⟩⟩, x.gh.ext e (by rw [gh.com]) (by rw [gh.com])⟩
    have h7 := (h5.ext e).set j hv
    have : l.set j V = l := by
      obtain ⟨hlt, he⟩ := List.getElem?_eq_some_iff.1 hV
      rw [← he]; exact List.set_getElem_self hlt
    rw [this] at h7
    exact h7
def cleanA (n : Nat) (a : AV) : AV := if below n a then a else .any
theorem cleanA_of {n : Nat} {a : AV} (h : below n a = true) : cleanA n a = a := by simp [cleanA, h]
theorem VRL_clean {c : Cx} (n : Nat) : ∀ {l : List AV} {V : List Value}, VRL c l V → VRL (c.take n) (l.map (cleanA n)) V
  | [], _, h => h
  | a :: l, _, h => by
    obtain ⟨v, vs, rfl, h1, h2⟩ := h
    refine ⟨v, vs, rfl, ?_, VRL_clean n h2⟩
    unfold cleanA
    split
    · rename_i hb; exact VR.take a v hb h1
    · trivial
theorem Turns.drop {n : Nat} (hn : n0 ≤ n) (hd : s.df = []) (hg : s.gh = {}) (hh : (s.hp.take n).all (belowBlk n) = true) : Turns n0 s { sl := s.sl.map (cleanA n), df := [], hp := s.hp.take n } := by
  intro base c w tmps ds x
  have hds : ds = [] := by have := x.df; rw [hd] at this; exact this
  refine ⟨c.take n, ⟨rfl, fun _ h => h, fun _ _ h => .inl h, fun _ _ h => h⟩, ?_, VRL_clean n x.sl, hds, x.hp.take hh, ?_⟩
  · refine ⟨fun i e he => ?_, fun _ _ h => h, rfl⟩
    simp only [Cx.take, List.getElem?_take] at he ⊢
    split at he
    · rename_i hi
      exact ⟨e, by rw [if_pos (by omega)]; exact he, Nat.le_refl _, fun _ => rfl⟩
    · cases he
  · obtain ⟨⟨M, g1, g2⟩, g3⟩ := x.gh
    rw [hg] at g2 g3
    exact ⟨⟨M, g1, g2⟩, g3⟩
theorem CallsA.of_turn {f : FuncId} {fn : Func} {code : Code} {args : List AV} {h : List Blk} {Post : AEnd → List Blk → Prop} (hf : P.funcs[f]? = some fn) (hb : fn.body = some code)
    (hw : h.all (belowBlk h.length) = true → belowL h.length args = true → WP P ⟨f, false, h.length⟩ code (Mac.turnQ h.length (bodyQ P fn h.length Post)) { sl := args ++ List.replicate (fn.ntmps - args.length) (.tup []), df := [], hp := h }) : CallsA P f args h Post :=
  CallsA.of_body hf hb fun h1 h2 => (hw h1 h2).turnQ
def PureA (P : Program) (f : FuncId) (args : List AV) (v : AV) : Prop := ∀ h, CallsA P f args h fun e h' => e = .ret v ∧ h' = h
def retQ0 (P : Program) (fn : Func) (h : List Blk) (v : AV) : AExit → AS → Prop
  | .normal, s | .ret, s => ∃ s', Turns h.length s s' ∧ s'.df = [] ∧ s'.gh = {} ∧ resA P fn s'.sl s'.hp = some v ∧ ∃ k, s'.hp = h ++ k
  | _, _ => False
theorem PureA.of_WP {f : FuncId} {fn : Func} {code : Code} {args : List AV} {v : AV} (hf : P.funcs[f]? = some fn) (hb : fn.body = some code) (hv : below 0 v = true)
    (hw : ∀ (h : List Blk) (l : List AV), h.all (belowBlk h.length) = true → l.length = max args.length fn.ntmps → (∀ i a, args[i]? = some a → evA l (.tmp i) = a) → WP P ⟨f, false, h.length⟩ code (retQ0 P fn h v) { sl := l, df := [], hp := h }) : PureA P f args v := by
  intro h
  refine CallsA.of_turn hf hb fun h1 _ => ?_
  refine (hw h _ h1 (by simp; omega) (fun i a hi => ?_)).mono fun e s q => ?_
  · have : i < args.length := (List.getElem?_eq_some_iff.1 hi).1
    simp [evA, List.getD, List.getElem?_append_left this, hi]
  · have key : (∃ s', Turns h.length s s' ∧ s'.df = [] ∧ s'.gh = {} ∧ resA P fn s'.sl s'.hp = some v ∧ ∃ k, s'.hp = h ++ k) →
        ∃ s', Turns h.length s s' ∧ s'.df = [] ∧ s'.gh = {} ∧ ∃ v' n, resA P fn s'.sl s'.hp = some v' ∧ h.length ≤ n ∧ Mac.below n v' = true ∧ (s'.hp.take n).all (belowBlk n) = true ∧ (AEnd.ret v' = .ret v ∧ s'.hp.take n = h) := by
      rintro ⟨s', t, hd, hg, hr, k, hk⟩
      refine ⟨s', t, hd, hg, v, h.length, hr, Nat.le_refl _, below_mono (Nat.zero_le _) v hv, ?_, rfl, ?_⟩
      · rw [hk, List.take_left]; exact h1
      · rw [hk, List.take_left]
    cases e with
    | normal => exact key q
    | ret => exact key q
    | exit id => exact q.elim
    | goto l => exact q.elim
    | panic v => exact q.elim
end
end Go.Mac

/- A part of the logic and of the contracts of the functions that the statement reaches; the statement itself is proved in the last text. -/
import Derived.Conc.Own

set_option linter.all false
set_option linter.unusedVariables false
set_option linter.unusedSimpArgs false
set_option linter.unnecessarySimpa false
namespace Go.Mac
open Go
structure Nm where
  id : Nat
  gen : Nat
  deriving DecidableEq, Inhabited
inductive AV where
  | any
  | bool (b : Bool)
  | int (k : IntKind) (n : Int)
  | str (s : List UInt8)
  | nilptr
  | ptr (n : Nm) (off : Nat)
  | pptr (cells : List AV)
  | nilsl
  | sl (n : Nm) (sz off len : Nat)
  | psl (cells : List AV) (len : Nat)
  | nilmap
  | map (n : Nm)
  | pmap (ks vs : List AV)
  | chan (n : Nm)
  | fn (f : Fn) (first cap : List AV)
  | yield (n : Nm)
  | nilfn
  | iface (t : TypeId) (v : AV)
  | niliface
  | agg (cs : List AV)
  | tup (vs : List AV)
  deriving Inhabited
structure Ent where
  gen : Nat
  seat : Option (Nat × Nat)
structure Com where
  main : Bool
  chans : Nat → Prop
  out : List (Nat × Value)
  todo : List (List (Nat × Value))
structure Cx where
  own : List Ent
  mine : Nat → Prop
  imm : Nat → Option Obj
  com : Com
def Cx.At (c : Cx) (n : Nm) (P : Option (Nat × Nat) → Prop) : Prop :=
  ∃ e, c.own[n.id]? = some e ∧ n.gen ≤ e.gen ∧ (n.gen = e.gen → P e.seat)
mutual
def VR (c : Cx) : AV → Value → Prop
  | .any, _ => True
  | .bool b, V => V = .bool b
  | .int k n, V => V = .int k n
  | .str s, V => V = .string ⟨s.toArray⟩
  | .nilptr, V => V = .pointer none
  | .ptr n off, V => (∃ a, V = .pointer (some a)) ∧ c.At n fun s => ∃ b k, s = some (b, k) ∧ V = .pointer (some ⟨b, off, none⟩)
  | .pptr cells, V => ∃ b o arr el fz l, V = .pointer (some ⟨b, o, none⟩) ∧ c.imm b = some (.cells arr el fz) ∧ VRL c cells l ∧ l <+: arr.toList.drop o
  | .nilsl, V => V = .slice none 0 0
  | .sl n sz off len, V => (∃ a l k, V = .slice a l k) ∧ c.At n fun s => (len = 0 ∧ off = 0 ∧ V = .slice none 0 0) ∨
      ∃ b k cap, s = some (b, k) ∧ V = .slice (some ⟨b, off, none⟩) len cap ∧ len ≤ cap ∧ off + cap * sz ≤ k
  | .psl cells len, V => (cells = [] ∧ len = 0 ∧ ∃ a, V = .slice a 0 0) ∨
      ∃ b o arr el fz l cap, V = .slice (some ⟨b, o, none⟩) len cap ∧ len ≤ cap ∧ c.imm b = some (.cells arr el fz) ∧ VRL c cells l ∧ l <+: arr.toList.drop o
  | .nilmap, V => V = .map none
  | .map n, V => (∃ r, V = .map (some r)) ∧ c.At n fun s => ∃ b k, s = some (b, k) ∧ V = .map (some b)
  | .pmap ks vs, V => (ks = [] ∧ vs = [] ∧ V = .map none) ∨
      ∃ b ents clk, V = .map (some b) ∧ c.imm b = some (.map ents clk) ∧ VRL c ks (ents.toList.map (·.key)) ∧ VRL c vs (ents.toList.map (·.val))
  | .chan n, V => (∃ r, V = .chan (some r)) ∧ c.At n fun s => ∃ b k, s = some (b, k) ∧ V = .chan (some b)
  | .fn f first cap, V => ∃ l1 l2, V = .func f l1.toArray l2.toArray ∧ VRL c first l1 ∧ VRL c cap l2
  | .yield n, V => (∃ l, V = .func (.yield l) #[] #[]) ∧ c.At n fun s => ∃ b k, s = some (b, k) ∧ V = .func (.yield b) #[] #[]
  | .nilfn, V => V = .nilFunc
  | .iface t v, V => ∃ x, V = .iface t x ∧ VR c v x
  | .niliface, V => V = .nilIface
  | .agg cs, V => ∃ l, V = .agg l.toArray ∧ VRL c cs l
  | .tup vs, V => ∃ l, V = .tuple l.toArray ∧ VRL c vs l
def VRL (c : Cx) : List AV → List Value → Prop
  | [], l => l = []
  | a :: as, l => ∃ v vs, l = v :: vs ∧ VR c a v ∧ VRL c as vs
end
structure Ext (c c' : Cx) : Prop where
  own : ∀ (i : Nat) (e : Ent), c.own[i]? = some e → ∃ e', c'.own[i]? = some e' ∧ e.gen ≤ e'.gen ∧ (e.gen = e'.gen → e'.seat = e.seat)
  imm : ∀ (b : Nat) (o : Obj), c.imm b = some o → c'.imm b = some o
  main : c'.com.main = c.com.main := by rfl
theorem Ext.refl (c : Cx) : Ext c c := ⟨fun _ e h => ⟨e, h, Nat.le_refl _, fun _ => rfl⟩, fun _ _ h => h, rfl⟩
theorem Ext.trans {a b c : Cx} (h : Ext a b) (h' : Ext b c) : Ext a c where
  own i e he := by
    obtain ⟨e1, h1, g1, s1⟩ := h.own i e he
    obtain ⟨e2, h2, g2, s2⟩ := h'.own i e1 h1
    exact ⟨e2, h2, by omega, fun g => by rw [s2 (by omega), s1 (by omega)]⟩
  imm b o hb := h'.imm b o (h.imm b o hb)
  main := h'.main.trans h.main
def Cx.take (c : Cx) (n : Nat) : Cx := { c with own := c.own.take n }
theorem Ext.reflT (c : Cx) (n : Nat) : Ext (c.take n) c where
  own i e h := by
    simp only [Cx.take, List.getElem?_take] at h
    split at h
    · exact ⟨e, h, Nat.le_refl _, fun _ => rfl⟩
    · cases h
  imm _ _ h := h
theorem Ext.toT {c c' : Cx} (x : Ext c c') (n : Nat) : Ext (c.take n) c' := (Ext.reflT c n).trans x
theorem Ext.transT {a b d : Cx} {n : Nat} (h : Ext (a.take n) b) (h' : Ext (b.take n) d) : Ext (a.take n) d where
  own i e he := by
    obtain ⟨e1, h1, g1, s1⟩ := h.own i e he
    have hi : i < n := by
      simp only [Cx.take, List.getElem?_take] at he
      split at he
      · assumption
      · cases he
    obtain ⟨e2, h2, g2, s2⟩ := h'.own i e1 (by simp only [Cx.take]; rw [List.getElem?_take_of_lt hi]; exact h1)
    exact ⟨e2, h2, by omega, fun g => by rw [s2 (by omega), s1 (by omega)]⟩
  imm b o hb := h'.imm b o (h.imm b o hb)
  main := h'.main.trans h.main
theorem Ext.ofT {c c' : Cx} {n : Nat} (x : Ext (c.take n) c') (h : c.own.length ≤ n) : Ext c c' where
  own i e he := x.own i e (by simp only [Cx.take]; rw [List.getElem?_take_of_lt (by have := (List.getElem?_eq_some_iff.1 he).1; omega)]; exact he)
  imm b o hb := x.imm b o hb
  main := x.main
theorem Cx.At.ext {c c' : Cx} (x : Ext c c') {n : Nm} {P : Option (Nat × Nat) → Prop} (h : c.At n P) : c'.At n P := by
  obtain ⟨e, he, g, p⟩ := h
  obtain ⟨e', he', g', s'⟩ := x.own _ _ he
  exact ⟨e', he', by omega, fun hg => by rw [s' (by omega)]; exact p (by omega)⟩
theorem Cx.At.mono {c : Cx} {n : Nm} {P Q : Option (Nat × Nat) → Prop} (h : c.At n P) (pq : ∀ s, P s → Q s) : c.At n Q := by
  obtain ⟨e, he, g, p⟩ := h
  exact ⟨e, he, g, fun hg => pq _ (p hg)⟩
mutual
theorem VR.ext {c c' : Cx} (x : Ext c c') : ∀ (a : AV) (V : Value), VR c a V → VR c' a V
  | .any, _, _ => trivial
  | .bool _, _, h | .int _ _, _, h | .str _, _, h | .nilptr, _, h | .nilsl, _, h | .nilmap, _, h | .nilfn, _, h | .niliface, _, h => h
  | .ptr _ _, _, h => ⟨h.1, Cx.At.ext x h.2⟩
  | .sl _ _ _ _, _, h => ⟨h.1, Cx.At.ext x h.2⟩
  | .map _, _, h => ⟨h.1, Cx.At.ext x h.2⟩
  | .yield _, _, h => ⟨h.1, Cx.At.ext x h.2⟩
  | .chan _, _, h => ⟨h.1, Cx.At.ext x h.2⟩
  | .pptr cells, _, h => by
    obtain ⟨b, o, arr, el, fz, l, e, i, v, p⟩ := h
    exact ⟨b, o, arr, el, fz, l, e, x.imm _ _ i, VRL.ext x cells l v, p⟩
  | .psl cells _, _, h => by
    rcases h with h | ⟨b, o, arr, el, fz, l, cap, e, hc, i, v, p⟩
    · exact .inl h
    · exact .inr ⟨b, o, arr, el, fz, l, cap, e, hc, x.imm _ _ i, VRL.ext x cells l v, p⟩
  | .pmap ks vs, _, h => by
    rcases h with h | ⟨b, ents, clk, e, i, v, p⟩
    · exact .inl h
    · exact .inr ⟨b, ents, clk, e, x.imm _ _ i, VRL.ext x ks _ v, VRL.ext x vs _ p⟩
  | .fn _ first cap, _, h => by
    obtain ⟨l1, l2, e, h1, h2⟩ := h
    exact ⟨l1, l2, e, VRL.ext x first l1 h1, VRL.ext x cap l2 h2⟩
  | .iface _ v, _, h => by
    obtain ⟨y, e, h1⟩ := h
    exact ⟨y, e, VR.ext x v y h1⟩
  | .agg cs, _, h => by
    obtain ⟨l, e, h1⟩ := h
    exact ⟨l, e, VRL.ext x cs l h1⟩
  | .tup cs, _, h => by
    obtain ⟨l, e, h1⟩ := h
    exact ⟨l, e, VRL.ext x cs l h1⟩
theorem VRL.ext {c c' : Cx} (x : Ext c c') : ∀ (a : List AV) (V : List Value), VRL c a V → VRL c' a V
  | [], _, h => h
  | a :: as, _, h => by
    obtain ⟨v, vs, e, h1, h2⟩ := h
    exact ⟨v, vs, e, VR.ext x a v h1, VRL.ext x as vs h2⟩
end
structure Same (c c' : Cx) : Prop where
  own : c'.own = c.own
  imm : ∀ (b : Nat) (o : Obj), c.imm b = some o → c'.imm b = some o
theorem Cx.At.same {c c' : Cx} (x : Same c c') {n : Nm} {P : Option (Nat × Nat) → Prop} (h : c.At n P) : c'.At n P := by
  obtain ⟨e, he, r⟩ := h
  exact ⟨e, by rw [x.own]; exact he, r⟩
mutual
theorem VR.same {c c' : Cx} (x : Same c c') : ∀ (a : AV) (V : Value), VR c a V → VR c' a V
  | .any, _, _ => trivial
  | .bool _, _, h | .int _ _, _, h | .str _, _, h | .nilptr, _, h | .nilsl, _, h | .nilmap, _, h | .nilfn, _, h | .niliface, _, h => h
  | .ptr _ _, _, h => ⟨h.1, Cx.At.same x h.2⟩
  | .sl _ _ _ _, _, h => ⟨h.1, Cx.At.same x h.2⟩
  | .map _, _, h => ⟨h.1, Cx.At.same x h.2⟩
  | .yield _, _, h => ⟨h.1, Cx.At.same x h.2⟩
  | .chan _, _, h => ⟨h.1, Cx.At.same x h.2⟩
  | .pptr cells, _, h => by
    obtain ⟨b, o, arr, el, fz, l, e, i, v, p⟩ := h
    exact ⟨b, o, arr, el, fz, l, e, x.imm _ _ i, VRL.same x cells l v, p⟩
  | .psl cells _, _, h => by
    rcases h with h | ⟨b, o, arr, el, fz, l, cap, e, hc, i, v, p⟩
    · exact .inl h
    · exact .inr ⟨b, o, arr, el, fz, l, cap, e, hc, x.imm _ _ i, VRL.same x cells l v, p⟩
  | .pmap ks vs, _, h => by
    rcases h with h | ⟨b, ents, clk, e, i, v, p⟩
    · exact .inl h
    · exact .inr ⟨b, ents, clk, e, x.imm _ _ i, VRL.same x ks _ v, VRL.same x vs _ p⟩
  | .fn _ first cap, _, h => by
    obtain ⟨l1, l2, e, h1, h2⟩ := h
    exact ⟨l1, l2, e, VRL.same x first l1 h1, VRL.same x cap l2 h2⟩
  | .iface _ v, _, h => by
    obtain ⟨y, e, h1⟩ := h
    exact ⟨y, e, VR.same x v y h1⟩
  | .agg cs, _, h => by
    obtain ⟨l, e, h1⟩ := h
    exact ⟨l, e, VRL.same x cs l h1⟩
  | .tup cs, _, h => by
    obtain ⟨l, e, h1⟩ := h
    exact ⟨l, e, VRL.same x cs l h1⟩
theorem VRL.same {c c' : Cx} (x : Same c c') : ∀ (a : List AV) (V : List Value), VRL c a V → VRL c' a V
  | [], _, h => h
  | a :: as, _, h => by
    obtain ⟨v, vs, e, h1, h2⟩ := h
    exact ⟨v, vs, e, VR.same x a v h1, VRL.same x as vs h2⟩
end
@[simp] theorem VRL_nil {c : Cx} {l : List Value} : VRL c [] l ↔ l = [] := Iff.rfl
theorem VRL_cons {c : Cx} {a : AV} {as : List AV} {l : List Value} : VRL c (a :: as) l ↔ ∃ v vs, l = v :: vs ∧ VR c a v ∧ VRL c as vs := Iff.rfl
@[simp] theorem VRL_cons_cons {c : Cx} {a : AV} {as : List AV} {v : Value} {vs : List Value} : VRL c (a :: as) (v :: vs) ↔ VR c a v ∧ VRL c as vs := by
  rw [VRL_cons]
  constructor
  · rintro ⟨v', vs', h, h1, h2⟩
    cases h
    exact ⟨h1, h2⟩
  · rintro ⟨h1, h2⟩
    exact ⟨_, _, rfl, h1, h2⟩
theorem VRL.length {c : Cx} : ∀ {as : List AV} {l : List Value}, VRL c as l → l.length = as.length
  | [], _, h => by cases h; rfl
  | a :: as, _, h => by
    obtain ⟨v, vs, rfl, _, h2⟩ := h
    simp [VRL.length h2]
theorem VRL.get {c : Cx} : ∀ {as : List AV} {l : List Value} {i : Nat} {a : AV}, VRL c as l → as[i]? = some a → ∃ v, l[i]? = some v ∧ VR c a v
  | [], _, i, a, _, hi => by simp at hi
  | a' :: as, _, i, a, h, hi => by
    obtain ⟨v, vs, rfl, h1, h2⟩ := h
    cases i with
    | zero => simp at hi; subst hi; exact ⟨v, rfl, h1⟩
    | succ i => simp at hi ⊢; exact VRL.get h2 hi
theorem VRL.append {c : Cx} : ∀ {as bs : List AV} {l m : List Value}, VRL c as l → VRL c bs m → VRL c (as ++ bs) (l ++ m)
  | [], _, _, _, h, h' => by cases h; exact h'
  | a :: as, bs, _, m, h, h' => by
    obtain ⟨v, vs, rfl, h1, h2⟩ := h
    exact ⟨v, vs ++ m, rfl, h1, VRL.append h2 h'⟩
theorem VRL.split {c : Cx} : ∀ {as bs : List AV} {l : List Value}, VRL c (as ++ bs) l → ∃ l1 l2, l = l1 ++ l2 ∧ VRL c as l1 ∧ VRL c bs l2
  | [], _, l, h => ⟨[], l, rfl, rfl, h⟩
  | a :: as, bs, _, h => by
    obtain ⟨v, vs, rfl, h1, h2⟩ := h
    obtain ⟨l1, l2, rfl, h3, h4⟩ := VRL.split (as := as) h2
    exact ⟨v :: l1, l2, rfl, ⟨v, l1, rfl, h1, h3⟩, h4⟩
theorem VRL.take {c : Cx} : ∀ {as : List AV} {l : List Value} (n : Nat), VRL c as l → VRL c (as.take n) (l.take n)
  | [], _, n, h => by cases h; simp
  | a :: as, _, n, h => by
    obtain ⟨v, vs, rfl, h1, h2⟩ := h
    cases n with
    | zero => simp
    | succ n => simp only [List.take_succ_cons]; exact ⟨v, _, rfl, h1, VRL.take n h2⟩
theorem VRL.drop {c : Cx} : ∀ {as : List AV} {l : List Value} (n : Nat), VRL c as l → VRL c (as.drop n) (l.drop n)
  | [], _, n, h => by cases h; simp
  | a :: as, _, n, h => by
    obtain ⟨v, vs, rfl, h1, h2⟩ := h
    cases n with
    | zero => simp; exact ⟨h1, h2⟩
    | succ n => simp only [List.drop_succ_cons]; exact VRL.drop n h2
theorem VRL.set {c : Cx} : ∀ {as : List AV} {l : List Value} (n : Nat) {a : AV} {v : Value}, VRL c as l → VR c a v → VRL c (as.set n a) (l.set n v)
  | [], _, n, _, _, h, _ => by cases h; simp
  | a' :: as, _, n, a, v, h, hv => by
    obtain ⟨v', vs, rfl, h1, h2⟩ := h
    cases n with
    | zero => simp; exact ⟨hv, h2⟩
    | succ n => simp only [List.set_cons_succ]; exact ⟨v', _, rfl, h1, VRL.set n h2 hv⟩
theorem VRL.replicate_any {c : Cx} : ∀ (l : List Value), VRL c (List.replicate l.length .any) l
  | [] => rfl
  | v :: vs => ⟨v, vs, rfl, trivial, VRL.replicate_any vs⟩
end Go.Mac

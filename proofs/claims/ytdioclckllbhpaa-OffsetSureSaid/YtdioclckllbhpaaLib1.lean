/- Part 1 of the logic and of the contracts of the functions that the statement reaches; the statement itself is proved in the last text. -/
import Derived.Conc.Own
import Derived.Laws.Sem
import Derived.Laws.World
import Derived.StepT
import GoSem.ClaimLeaving
import Derived.Conc.Script
import Derived.Conc.CrowdSel
import Derived.Conc.Know
import Derived.Conc.LeavingOf
import Derived.Laws.Strings

/-! MacA -/
/- MacA: abstract values, the relation of an abstract value to a value of the model, and its order. No program is in sight. -/
namespace Go.Mac
open Go

/-- The name of a block that is mine: its place in the abstract heap, and how often it has been moved. -/
structure Nm where
  id : Nat
  gen : Nat
  deriving DecidableEq, Inhabited

/-- Abstract values. 'any': whatever. 'pptr', 'psl', 'pmap': pointers, slices and maps into memory that nobody writes any more, with what they lead to. -/
inductive AV where
  | any
  | bool (b : Bool)
  | int (k : IntKind) (n : Int)
  | str (s : List UInt8)
  | nilptr
  | ptr (n : Nm) (off : Nat)
  | pptr (cells : List AV)
  | nilsl
  | sl (n : Nm) (sz off len : Nat)
  | psl (cells : List AV) (len : Nat)
  | nilmap
  | map (n : Nm)
  | pmap (ks vs : List AV)
  | chan (n : Nm)
  | fn (f : Fn) (first cap : List AV)
  | yield (n : Nm)
  | nilfn
  | iface (t : TypeId) (v : AV)
  | niliface
  | agg (cs : List AV)
  | tup (vs : List AV)
  deriving Inhabited

/-- Where an abstract block lies: how often it has been moved, the block and its number of cells (none: nowhere yet). -/
structure Ent where
  gen : Nat
  seat : Option (Nat × Nat)

/-- What goroutines have to do with each other: the channels (open, without room), what I am going to send, what the others are going to send. -/
structure Com where
  main : Bool
  chans : Nat → Prop
  out : List (Nat × Value)
  todo : List (List (Nat × Value))

/-- What a goroutine holds: its abstract blocks' places, all blocks that are its own, and the blocks that nobody writes any more. -/
structure Cx where
  own : List Ent
  mine : Nat → Prop
  imm : Nat → Option Obj
  com : Com

/-- The name stands for this place; a name that is outdated stands for nothing. -/
def Cx.At (c : Cx) (n : Nm) (P : Option (Nat × Nat) → Prop) : Prop :=
  ∃ e, c.own[n.id]? = some e ∧ n.gen ≤ e.gen ∧ (n.gen = e.gen → P e.seat)

mutual
/-- The value of the model is what the abstract value says. -/
def VR (c : Cx) : AV → Value → Prop
  | .any, _ => True
  | .bool b, V => V = .bool b
  | .int k n, V => V = .int k n
  | .str s, V => V = .string ⟨s.toArray⟩
  | .nilptr, V => V = .pointer none
  | .ptr n off, V => (∃ a, V = .pointer (some a)) ∧ c.At n fun s => ∃ b k, s = some (b, k) ∧ V = .pointer (some ⟨b, off, none⟩)
  | .pptr cells, V => ∃ b o arr el fz l, V = .pointer (some ⟨b, o, none⟩) ∧ c.imm b = some (.cells arr el fz) ∧ VRL c cells l ∧ l <+: arr.toList.drop o
  | .nilsl, V => V = .slice none 0 0
  | .sl n sz off len, V => (∃ a l k, V = .slice a l k) ∧ c.At n fun s => (len = 0 ∧ off = 0 ∧ V = .slice none 0 0) ∨
      ∃ b k cap, s = some (b, k) ∧ V = .slice (some ⟨b, off, none⟩) len cap ∧ len ≤ cap ∧ off + cap * sz ≤ k
  | .psl cells len, V => (cells = [] ∧ len = 0 ∧ V = .slice none 0 0) ∨
      ∃ b o arr el fz l cap, V = .slice (some ⟨b, o, none⟩) len cap ∧ len ≤ cap ∧ c.imm b = some (.cells arr el fz) ∧ VRL c cells l ∧ l <+: arr.toList.drop o
  | .nilmap, V => V = .map none
  | .map n, V => (∃ r, V = .map (some r)) ∧ c.At n fun s => ∃ b k, s = some (b, k) ∧ V = .map (some b)
  | .pmap ks vs, V => (ks = [] ∧ vs = [] ∧ V = .map none) ∨
      ∃ b ents clk, V = .map (some b) ∧ c.imm b = some (.map ents clk) ∧ VRL c ks (ents.toList.map (·.key)) ∧ VRL c vs (ents.toList.map (·.val))
  | .chan n, V => (∃ r, V = .chan (some r)) ∧ c.At n fun s => ∃ b k, s = some (b, k) ∧ V = .chan (some b)
  | .fn f first cap, V => ∃ l1 l2, V = .func f l1.toArray l2.toArray ∧ VRL c first l1 ∧ VRL c cap l2
  | .yield n, V => (∃ l, V = .func (.yield l) #[] #[]) ∧ c.At n fun s => ∃ b k, s = some (b, k) ∧ V = .func (.yield b) #[] #[]
  | .nilfn, V => V = .nilFunc
  | .iface t v, V => ∃ x, V = .iface t x ∧ VR c v x
  | .niliface, V => V = .nilIface
  | .agg cs, V => ∃ l, V = .agg l.toArray ∧ VRL c cs l
  | .tup vs, V => ∃ l, V = .tuple l.toArray ∧ VRL c vs l
/-- .. of two lists, one by one. -/
def VRL (c : Cx) : List AV → List Value → Prop
  | [], l => l = []
  | a :: as, l => ∃ v vs, l = v :: vs ∧ VR c a v ∧ VRL c as vs
end

/-- The order of what is held: blocks are added and moved, more is left alone. -/
structure Ext (c c' : Cx) : Prop where
  own : ∀ (i : Nat) (e : Ent), c.own[i]? = some e → ∃ e', c'.own[i]? = some e' ∧ e.gen ≤ e'.gen ∧ (e.gen = e'.gen → e'.seat = e.seat)
  imm : ∀ (b : Nat) (o : Obj), c.imm b = some o → c'.imm b = some o
  main : c'.com.main = c.com.main := by rfl

theorem Ext.refl (c : Cx) : Ext c c := ⟨fun _ e h => ⟨e, h, Nat.le_refl _, fun _ => rfl⟩, fun _ _ h => h, rfl⟩
theorem Ext.trans {a b c : Cx} (h : Ext a b) (h' : Ext b c) : Ext a c where
  own i e he := by
    obtain ⟨e1, h1, g1, s1⟩ := h.own i e he
    obtain ⟨e2, h2, g2, s2⟩ := h'.own i e1 h1
    exact ⟨e2, h2, by omega, fun g => by rw [s2 (by omega), s1 (by omega)]⟩
  imm b o hb := h'.imm b o (h.imm b o hb)
  main := h'.main.trans h.main

/-- Fewer names. -/
def Cx.take (c : Cx) (n : Nat) : Cx := { c with own := c.own.take n }

theorem Ext.reflT (c : Cx) (n : Nat) : Ext (c.take n) c where
  own i e h := by
    simp only [Cx.take, List.getElem?_take] at h
    split at h
    · exact ⟨e, h, Nat.le_refl _, fun _ => rfl⟩
    · cases h
  imm _ _ h := h
theorem Ext.toT {c c' : Cx} (x : Ext c c') (n : Nat) : Ext (c.take n) c' := (Ext.reflT c n).trans x
theorem Ext.transT {a b d : Cx} {n : Nat} (h : Ext (a.take n) b) (h' : Ext (b.take n) d) : Ext (a.take n) d where
  own i e he := by
    obtain ⟨e1, h1, g1, s1⟩ := h.own i e he
    have hi : i < n := by
      simp only [Cx.take, List.getElem?_take] at he
      split at he
      · assumption
      · cases he
    obtain ⟨e2, h2, g2, s2⟩ := h'.own i e1 (by simp only [Cx.take]; rw [List.getElem?_take_of_lt hi]; exact h1)
    exact ⟨e2, h2, by omega, fun g => by rw [s2 (by omega), s1 (by omega)]⟩
  imm b o hb := h'.imm b o (h.imm b o hb)
  main := h'.main.trans h.main
theorem Ext.ofT {c c' : Cx} {n : Nat} (x : Ext (c.take n) c') (h : c.own.length ≤ n) : Ext c c' where
  own i e he := x.own i e (by simp only [Cx.take]; rw [List.getElem?_take_of_lt (by have := (List.getElem?_eq_some_iff.1 he).1; omega)]; exact he)
  imm b o hb := x.imm b o hb
  main := x.main

theorem Cx.At.ext {c c' : Cx} (x : Ext c c') {n : Nm} {P : Option (Nat × Nat) → Prop} (h : c.At n P) : c'.At n P := by
  obtain ⟨e, he, g, p⟩ := h
  obtain ⟨e', he', g', s'⟩ := x.own _ _ he
  exact ⟨e', he', by omega, fun hg => by rw [s' (by omega)]; exact p (by omega)⟩
theorem Cx.At.mono {c : Cx} {n : Nm} {P Q : Option (Nat × Nat) → Prop} (h : c.At n P) (pq : ∀ s, P s → Q s) : c.At n Q := by
  obtain ⟨e, he, g, p⟩ := h
  exact ⟨e, he, g, fun hg => pq _ (p hg)⟩

mutual
theorem VR.ext {c c' : Cx} (x : Ext c c') : ∀ (a : AV) (V : Value), VR c a V → VR c' a V
  | .any, _, _ => trivial
  | .bool _, _, h | .int _ _, _, h | .str _, _, h | .nilptr, _, h | .nilsl, _, h | .nilmap, _, h | .nilfn, _, h | .niliface, _, h => h
  | .ptr _ _, _, h => ⟨h.1, Cx.At.ext x h.2⟩
  | .sl _ _ _ _, _, h => ⟨h.1, Cx.At.ext x h.2⟩
  | .map _, _, h => ⟨h.1, Cx.At.ext x h.2⟩
  | .yield _, _, h => ⟨h.1, Cx.At.ext x h.2⟩
  | .chan _, _, h => ⟨h.1, Cx.At.ext x h.2⟩
  | .pptr cells, _, h => by
    obtain ⟨b, o, arr, el, fz, l, e, i, v, p⟩ := h
    exact ⟨b, o, arr, el, fz, l, e, x.imm _ _ i, VRL.ext x cells l v, p⟩
  | .psl cells _, _, h => by
    rcases h with h | ⟨b, o, arr, el, fz, l, cap, e, hc, i, v, p⟩
    · exact .inl h
    · exact .inr ⟨b, o, arr, el, fz, l, cap, e, hc, x.imm _ _ i, VRL.ext x cells l v, p⟩
  | .pmap ks vs, _, h => by
    rcases h with h | ⟨b, ents, clk, e, i, v, p⟩
    · exact .inl h
    · exact .inr ⟨b, ents, clk, e, x.imm _ _ i, VRL.ext x ks _ v, VRL.ext x vs _ p⟩
  | .fn _ first cap, _, h => by
    obtain ⟨l1, l2, e, h1, h2⟩ := h
    exact ⟨l1, l2, e, VRL.ext x first l1 h1, VRL.ext x cap l2 h2⟩
  | .iface _ v, _, h => by
    obtain ⟨y, e, h1⟩ := h
    exact ⟨y, e, VR.ext x v y h1⟩
  | .agg cs, _, h => by
    obtain ⟨l, e, h1⟩ := h
    exact ⟨l, e, VRL.ext x cs l h1⟩
  | .tup cs, _, h => by
    obtain ⟨l, e, h1⟩ := h
    exact ⟨l, e, VRL.ext x cs l h1⟩
theorem VRL.ext {c c' : Cx} (x : Ext c c') : ∀ (a : List AV) (V : List Value), VRL c a V → VRL c' a V
  | [], _, h => h
  | a :: as, _, h => by
    obtain ⟨v, vs, e, h1, h2⟩ := h
    exact ⟨v, vs, e, VR.ext x a v h1, VRL.ext x as vs h2⟩
end

/-- Two hold the same names and the same that nobody writes any more. -/
structure Same (c c' : Cx) : Prop where
  own : c'.own = c.own
  imm : ∀ (b : Nat) (o : Obj), c.imm b = some o → c'.imm b = some o

theorem Cx.At.same {c c' : Cx} (x : Same c c') {n : Nm} {P : Option (Nat × Nat) → Prop} (h : c.At n P) : c'.At n P := by
  obtain ⟨e, he, r⟩ := h
  exact ⟨e, by rw [x.own]; exact he, r⟩

mutual
theorem VR.same {c c' : Cx} (x : Same c c') : ∀ (a : AV) (V : Value), VR c a V → VR c' a V
  | .any, _, _ => trivial
  | .bool _, _, h | .int _ _, _, h | .str _, _, h | .nilptr, _, h | .nilsl, _, h | .nilmap, _, h | .nilfn, _, h | .niliface, _, h => h
  | .ptr _ _, _, h => ⟨h.1, Cx.At.same x h.2⟩
  | .sl _ _ _ _, _, h => ⟨h.1, Cx.At.same x h.2⟩
  | .map _, _, h => ⟨h.1, Cx.At.same x h.2⟩
  | .yield _, _, h => ⟨h.1, Cx.At.same x h.2⟩
  | .chan _, _, h => ⟨h.1, Cx.At.same x h.2⟩
  | .pptr cells, _, h => by
    obtain ⟨b, o, arr, el, fz, l, e, i, v, p⟩ := h
    exact ⟨b, o, arr, el, fz, l, e, x.imm _ _ i, VRL.same x cells l v, p⟩
  | .psl cells _, _, h => by
    rcases h with h | ⟨b, o, arr, el, fz, l, cap, e, hc, i, v, p⟩
    · exact .inl h
    · exact .inr ⟨b, o, arr, el, fz, l, cap, e, hc, x.imm _ _ i, VRL.same x cells l v, p⟩
  | .pmap ks vs, _, h => by
    rcases h with h | ⟨b, ents, clk, e, i, v, p⟩
    · exact .inl h
    · exact .inr ⟨b, ents, clk, e, x.imm _ _ i, VRL.same x ks _ v, VRL.same x vs _ p⟩
  | .fn _ first cap, _, h => by
    obtain ⟨l1, l2, e, h1, h2⟩ := h
    exact ⟨l1, l2, e, VRL.same x first l1 h1, VRL.same x cap l2 h2⟩
  | .iface _ v, _, h => by
    obtain ⟨y, e, h1⟩ := h
    exact ⟨y, e, VR.same x v y h1⟩
  | .agg cs, _, h => by
    obtain ⟨l, e, h1⟩ := h
    exact ⟨l, e, VRL.same x cs l h1⟩
  | .tup cs, _, h => by
    obtain ⟨l, e, h1⟩ := h
    exact ⟨l, e, VRL.same x cs l h1⟩
theorem VRL.same {c c' : Cx} (x : Same c c') : ∀ (a : List AV) (V : List Value), VRL c a V → VRL c' a V
  | [], _, h => h
  | a :: as, _, h => by
    obtain ⟨v, vs, e, h1, h2⟩ := h
    exact ⟨v, vs, e, VR.same x a v h1, VRL.same x as vs h2⟩
end

@[simp] theorem VRL_nil {c : Cx} {l : List Value} : VRL c [] l ↔ l = [] := Iff.rfl
theorem VRL_cons {c : Cx} {a : AV} {as : List AV} {l : List Value} : VRL c (a :: as) l ↔ ∃ v vs, l = v :: vs ∧ VR c a v ∧ VRL c as vs := Iff.rfl
@[simp] theorem VRL_cons_cons {c : Cx} {a : AV} {as : List AV} {v : Value} {vs : List Value} : VRL c (a :: as) (v :: vs) ↔ VR c a v ∧ VRL c as vs := by
  rw [VRL_cons]
  constructor
  · rintro ⟨v', vs', h, h1, h2⟩
    cases h
    exact ⟨h1, h2⟩
  · rintro ⟨h1, h2⟩
    exact ⟨_, _, rfl, h1, h2⟩

theorem VRL.length {c : Cx} : ∀ {as : List AV} {l : List Value}, VRL c as l → l.length = as.length
  | [], _, h => by cases h; rfl
  | a :: as, _, h => by
    obtain ⟨v, vs, rfl, _, h2⟩ := h
    simp [VRL.length h2]

theorem VRL.get {c : Cx} : ∀ {as : List AV} {l : List Value} {i : Nat} {a : AV}, VRL c as l → as[i]? = some a → ∃ v, l[i]? = some v ∧ VR c a v
  | [], _, i, a, _, hi => by simp at hi
  | a' :: as, _, i, a, h, hi => by
    obtain ⟨v, vs, rfl, h1, h2⟩ := h
    cases i with
    | zero => simp at hi; subst hi; exact ⟨v, rfl, h1⟩
    | succ i => simp at hi ⊢; exact VRL.get h2 hi

theorem VRL.append {c : Cx} : ∀ {as bs : List AV} {l m : List Value}, VRL c as l → VRL c bs m → VRL c (as ++ bs) (l ++ m)
  | [], _, _, _, h, h' => by cases h; exact h'
  | a :: as, bs, _, m, h, h' => by
    obtain ⟨v, vs, rfl, h1, h2⟩ := h
    exact ⟨v, vs ++ m, rfl, h1, VRL.append h2 h'⟩

theorem VRL.split {c : Cx} : ∀ {as bs : List AV} {l : List Value}, VRL c (as ++ bs) l → ∃ l1 l2, l = l1 ++ l2 ∧ VRL c as l1 ∧ VRL c bs l2
  | [], _, l, h => ⟨[], l, rfl, rfl, h⟩
  | a :: as, bs, _, h => by
    obtain ⟨v, vs, rfl, h1, h2⟩ := h
    obtain ⟨l1, l2, rfl, h3, h4⟩ := VRL.split (as := as) h2
    exact ⟨v :: l1, l2, rfl, ⟨v, l1, rfl, h1, h3⟩, h4⟩

theorem VRL.take {c : Cx} : ∀ {as : List AV} {l : List Value} (n : Nat), VRL c as l → VRL c (as.take n) (l.take n)
  | [], _, n, h => by cases h; simp
  | a :: as, _, n, h => by
    obtain ⟨v, vs, rfl, h1, h2⟩ := h
    cases n with
    | zero => simp
    | succ n => simp only [List.take_succ_cons]; exact ⟨v, _, rfl, h1, VRL.take n h2⟩

theorem VRL.drop {c : Cx} : ∀ {as : List AV} {l : List Value} (n : Nat), VRL c as l → VRL c (as.drop n) (l.drop n)
  | [], _, n, h => by cases h; simp
  | a :: as, _, n, h => by
    obtain ⟨v, vs, rfl, h1, h2⟩ := h
    cases n with
    | zero => simp; exact ⟨h1, h2⟩
    | succ n => simp only [List.drop_succ_cons]; exact VRL.drop n h2

theorem VRL.set {c : Cx} : ∀ {as : List AV} {l : List Value} (n : Nat) {a : AV} {v : Value}, VRL c as l → VR c a v → VRL c (as.set n a) (l.set n v)
  | [], _, n, _, _, h, _ => by cases h; simp
  | a' :: as, _, n, a, v, h, hv => by
    obtain ⟨v', vs, rfl, h1, h2⟩ := h
    cases n with
    | zero => simp; exact ⟨hv, h2⟩
    | succ n => simp only [List.set_cons_succ]; exact ⟨v', _, rfl, h1, VRL.set n h2 hv⟩

theorem VRL.replicate_any {c : Cx} : ∀ (l : List Value), VRL c (List.replicate l.length .any) l
  | [] => rfl
  | v :: vs => ⟨v, vs, rfl, trivial, VRL.replicate_any vs⟩

end Go.Mac

/-! MacB -/
/- MacB: what one operation may do beside others: 'Ok', a precondition of the model's small programs 'Sem' that keeps account of every access; what others may do ('RL'), what a step of mine does ('Gd'); 'Go'', a goroutine that comes to a stop whatever the others do within that. No program is in sight. -/
namespace Go.Mac
open Go

/-- An access that is allowed: of what is mine or newer than 'n0'; a reading also of what nobody writes any more; the mark that there may be no room. -/
def EvOk (c : Cx) (n0 n1 : Nat) (e : Event) : Prop :=
  match e.loc with
  | .cell a => e.sync = false ∧ a.block < n1 ∧ (c.mine a.block ∨ n0 ≤ a.block ∨ (e.write = false ∧ (c.imm a.block).isSome))
  | .obj r => e.sync = false ∧ r < n1 ∧ (c.mine r ∨ n0 ≤ r ∨ (e.write = false ∧ (c.imm r).isSome))
  | .mark m => m = .noRoom
  | _ => False

/-- The world is turned within what is mine and what is new. -/
structure Keeps (c : Cx) (n0 : Nat) (w w' : World) : Prop where
  size : w.heap.size ≤ w'.heap.size
  keep : ∀ b, b < n0 → ¬ c.mine b → w'.heap[b]? = w.heap[b]?
  os : w'.os = w.os
  output : w'.output = w.output
  tape : w'.tape = w.tape

theorem Keeps.refl (c : Cx) (n0 : Nat) (w : World) : Keeps c n0 w w := ⟨Nat.le_refl _, fun _ _ _ => rfl, rfl, rfl, rfl⟩
theorem Keeps.trans {c : Cx} {n0 : Nat} {a b d : World} (h : Keeps c n0 a b) (h' : Keeps c n0 b d) : Keeps c n0 a d :=
  ⟨Nat.le_trans h.size h'.size, fun x hx hm => by rw [h'.keep x hx hm, h.keep x hx hm], h'.os.trans h.os, h'.output.trans h.output, h'.tape.trans h.tape⟩

def _root_.Go.Result.world {α : Type} : Result α → World
  | .ok _ w => w
  | .halt _ w => w

def noCells : Obj → Prop
  | .cells .. => False
  | _ => True

/-- A small program of the model runs within the account, and its result satisfies 'Q'. -/
def Ok (P : Program) (c : Cx) (n0 : Nat) {α : Type} : Sem α → World → (Result α → Prop) → Prop
  | .pure a, w, Q => Q (.ok a w)
  | .load m a k, w, Q => m = .plain ∧ (c.mine a.block ∨ n0 ≤ a.block ∨ (c.imm a.block).isSome) ∧ ∃ v, w.cell? a = some v ∧ Ok P c n0 (k v) w Q
  | .store m a v k, w, Q => m = .plain ∧ (c.mine a.block ∨ n0 ≤ a.block) ∧ v.oneCell' = true ∧ (w.cell? a).isSome ∧ w.frozen? a = false ∧ Ok P c n0 k (w.setCell a v) Q
  | .new o k, w, Q => Ok P c n0 (k w.heap.size) (w.alloc o) Q
  | .shape r k, w, Q => Ok P c n0 (k (w.shape? r)) w Q
  | .freeze _ _ _, _, _ => False
  | .frozen a k, w, Q => Ok P c n0 (k (w.frozen? a)) w Q
  | .getObj r k, w, Q => (c.mine r ∨ n0 ≤ r ∨ (c.imm r).isSome) ∧ ∃ o, w.heap[r]? = some o ∧ noCells o ∧ o.isChan = false ∧ Ok P c n0 (k o) w Q
  | .setObj r o k, w, Q => (c.mine r ∨ n0 ≤ r) ∧ o.isChan = false ∧ (∃ o', w.heap[r]? = some o' ∧ noCells o') ∧ Ok P c n0 k { w with heap := w.heap.setIfInBounds r o } Q
  | .choose q k, w, Q => ∀ n, (q.forced = true → n = 0) → (q.forced = false → ∃ t, n = q.cut t) → ∀ d, Ok P c n0 (k n) { w with drawn := d } Q
  | .sys _ _, _, _ => False
  | .program k, w, Q => Ok P c n0 (k P) w Q
  | .mark m k, w, Q => m = .noRoom ∧ Ok P c n0 k w Q
  | .halt h, w, Q => Q (.halt h w)

theorem Ok.mono {P : Program} {c : Cx} {n0 : Nat} {α : Type} {s : Sem α} : ∀ {w : World} {Q Q' : Result α → Prop}, Ok P c n0 s w Q → (∀ r, Q r → Q' r) → Ok P c n0 s w Q' := by
  induction s with
  | pure a => intro w Q Q' h hq; exact hq _ h
  | load m a k ih => intro w Q Q' h hq; obtain ⟨h1, h2, v, h3, h4⟩ := h; exact ⟨h1, h2, v, h3, ih v h4 hq⟩
  | store m a v k ih => intro w Q Q' h hq; obtain ⟨h1, h2, h3, h4, h5, h6⟩ := h; exact ⟨h1, h2, h3, h4, h5, ih h6 hq⟩
  | new o k ih => intro w Q Q' h hq; exact ih _ h hq
  | shape r k ih => intro w Q Q' h hq; exact ih _ h hq
  | freeze => intro w Q Q' h; exact h.elim
  | frozen a k ih => intro w Q Q' h hq; exact ih _ h hq
  | getObj r k ih => intro w Q Q' h hq; obtain ⟨h1, o, h2, h3, h4, h5⟩ := h; exact ⟨h1, o, h2, h3, h4, ih _ h5 hq⟩
  | setObj r o k ih => intro w Q Q' h hq; obtain ⟨h1, h2, h3, h4⟩ := h; exact ⟨h1, h2, h3, ih h4 hq⟩
  | choose q k ih => intro w Q Q' h hq n h1 h2 d; exact ih _ (h n h1 h2 d) hq
  | sys => intro w Q Q' h; exact h.elim
  | program k ih => intro w Q Q' h hq; exact ih _ h hq
  | mark m k ih => intro w Q Q' h hq; exact ⟨h.1, ih h.2 hq⟩
  | halt h => intro w Q Q' h hq; exact hq _ h

/-- What follows a result. -/
def thenOk (P : Program) (c : Cx) (n0 : Nat) {α β : Type} (f : α → Sem β) (Q : Result β → Prop) : Result α → Prop
  | .ok a w => Ok P c n0 (f a) w Q
  | .halt h w => Q (.halt h w)

theorem Ok.bind {P : Program} {c : Cx} {n0 : Nat} {α β : Type} {s : Sem α} {f : α → Sem β} {Q : Result β → Prop} : ∀ {w : World}, Ok P c n0 s w (thenOk P c n0 f Q) → Ok P c n0 (s.bind f) w Q := by
  induction s with
  | pure a => intro w h; exact h
  | load m a k ih => intro w h; obtain ⟨h1, h2, v, h3, h4⟩ := h; exact ⟨h1, h2, v, h3, ih v h4⟩
  | store m a v k ih => intro w h; obtain ⟨h1, h2, h3, h4, h5, h6⟩ := h; exact ⟨h1, h2, h3, h4, h5, ih h6⟩
  | new o k ih => intro w h; exact ih _ h
  | shape r k ih => intro w h; exact ih _ h
  | freeze => intro w h; exact h.elim
  | frozen a k ih => intro w h; exact ih _ h
  | getObj r k ih => intro w h; obtain ⟨h1, o, h2, h3, h4, h5⟩ := h; exact ⟨h1, o, h2, h3, h4, ih _ h5⟩
  | setObj r o k ih => intro w h; obtain ⟨h1, h2, h3, h4⟩ := h; exact ⟨h1, h2, h3, ih h4⟩
  | choose q k ih => intro w h n h1 h2 d; exact ih _ (h n h1 h2 d)
  | sys => intro w h; exact h.elim
  | program k ih => intro w h; exact ih _ h
  | mark m k ih => intro w h; exact ⟨h.1, ih h.2⟩
  | halt h => intro w h; exact h

theorem Ok.bind' {P : Program} {c : Cx} {n0 : Nat} {α β : Type} {s : Sem α} {f : α → Sem β} {Q : Result β → Prop} {w : World} (h : Ok P c n0 s w (thenOk P c n0 f Q)) : Ok P c n0 (s >>= f) w Q := Ok.bind h

theorem getElem?_setIfInBounds_other {α : Type} (xs : Array α) (i j : Nat) (a : α) (h : i ≠ j) : (xs.setIfInBounds i a)[j]? = xs[j]? := by
  simp [h]

theorem heap_setCell_other (w : World) (a : Addr) (v : Value) (b : Nat) (h : a.block ≠ b) : (w.setCell a v).heap[b]? = w.heap[b]? := by
  simp [World.setCell, Array.getElem?_modify, h]

theorem cell_lt {w : World} {a : Addr} {v : Value} (h : w.cell? a = some v) : a.block < w.heap.size := by
  unfold World.cell? at h
  cases hb : w.heap[a.block]? with
  | none => rw [hb] at h; cases h
  | some o => exact (Array.getElem?_eq_some_iff.1 hb).1

/-- ████ What 'Ok' is worth: the result, the accesses, the world. ████ -/
theorem Ok.spec {P : Program} {c : Cx} {n0 : Nat} {α : Type} {s : Sem α} : ∀ {w : World} {Q : Result α → Prop} (es : Array Event), Ok P c n0 s w Q → n0 ≤ w.heap.size →
    Q (s.run P w) ∧ (∀ e ∈ s.events P w es, e ∈ es ∨ EvOk c n0 (s.run P w).world.heap.size e) ∧ Keeps c n0 w (s.run P w).world := by
  induction s with
  | pure a => intro w Q es h _; exact ⟨h, fun e he => .inl he, .refl _ _ _⟩
  | load m a k ih =>
    intro w Q es h hn
    obtain ⟨rfl, h2, v, h3, h4⟩ := h
    have e1 : (Sem.load .plain a k).run P w = (k v).run P w := by simp [Sem.run, h3]
    have e2 : (Sem.load .plain a k).events P w es = (k v).events P w (es.push ⟨.cell a, false, false⟩) := by
      simp only [Sem.events, Sem.runT, h3]; rfl
    rw [e1, e2]
    obtain ⟨q, ev, kp⟩ := ih v (es.push ⟨.cell a, false, false⟩) h4 hn
    refine ⟨q, fun e he => ?_, kp⟩
    rcases ev e he with h | h
    · rcases Array.mem_push.1 h with h | rfl
      · exact .inl h
      · exact .inr ⟨rfl, Nat.lt_of_lt_of_le (cell_lt h3) kp.size, by rcases h2 with h | h | h; exact .inl h; exact .inr (.inl h); exact .inr (.inr ⟨rfl, h⟩)⟩
    · exact .inr h
  | store m a v k ih =>
    intro w Q es h hn
    obtain ⟨rfl, h2, h3, h4, h5, h6⟩ := h
    obtain ⟨u, hu⟩ := Option.isSome_iff_exists.1 h4
    have e1 : (Sem.store .plain a v k).run P w = k.run P (w.setCell a v) := by
      cases v <;> simp_all [Sem.run, Value.oneCell']
    have e2 : (Sem.store .plain a v k).events P w es = k.events P (w.setCell a v) (es.push ⟨.cell a, true, false⟩) := by
      cases v <;> simp_all [Sem.events, Sem.runT, Value.oneCell', -Sem.runT_eq] <;> rfl
    rw [e1, e2]
    have sz : (w.setCell a v).heap.size = w.heap.size := by simp [World.setCell]
    obtain ⟨q, ev, kp⟩ := ih (es.push ⟨.cell a, true, false⟩) h6 (by omega)
    refine ⟨q, fun e he => ?_, Keeps.trans ⟨by omega, fun b hb hm => heap_setCell_other w a v b (by rintro rfl; rcases h2 with h | h; exact hm h; omega), rfl, rfl, rfl⟩ kp⟩
    rcases ev e he with h | h
    · rcases Array.mem_push.1 h with h | rfl
      · exact .inl h
      · exact .inr ⟨rfl, Nat.lt_of_lt_of_le (by have := cell_lt hu; rw [sz]; exact this) kp.size, by rcases h2 with h | h; exact .inl h; exact .inr (.inl h)⟩
    · exact .inr h
  | new o k ih =>
    intro w Q es h hn
    obtain ⟨q, ev, kp⟩ := ih w.heap.size es h (by simp; omega)
    have hk : Keeps c n0 w (w.alloc o) := ⟨by simp, fun b hb _ => by
      have : b < w.heap.size := by omega
      show (w.heap.push o)[b]? = w.heap[b]?
      simp [Array.getElem?_push, Nat.ne_of_lt this], rfl, rfl, rfl⟩
    exact ⟨q, ev, hk.trans kp⟩
  | shape r k ih => intro w Q es h hn; exact ih _ es h hn
  | freeze => intro w Q es h; exact h.elim
  | frozen a k ih => intro w Q es h hn; exact ih _ es h hn
  | getObj r k ih =>
    intro w Q es h hn
    obtain ⟨h1, o, h2, h3, h4, h5⟩ := h
    have e1 : (Sem.getObj r k).run P w = (k o).run P w := by cases o <;> simp_all [Sem.run, noCells]
    have e2 : (Sem.getObj r k).events P w es = (k o).events P w (es.push ⟨.obj r, false, false⟩) := by
      cases o <;> simp_all [Sem.events, Sem.runT, noCells, -Sem.runT_eq]
    rw [e1, e2]
    obtain ⟨q, ev, kp⟩ := ih o (es.push ⟨.obj r, false, false⟩) h5 hn
    refine ⟨q, fun e he => ?_, kp⟩
    rcases ev e he with h | h
    · rcases Array.mem_push.1 h with h | rfl
      · exact .inl h
      · exact .inr ⟨rfl, Nat.lt_of_lt_of_le (Array.getElem?_eq_some_iff.1 h2).1 kp.size, by rcases h1 with h | h | h; exact .inl h; exact .inr (.inl h); exact .inr (.inr ⟨rfl, h⟩)⟩
    · exact .inr h
  | setObj r o k ih =>
    intro w Q es h hn
    obtain ⟨h1, h2, ⟨o', h3, h4⟩, h5⟩ := h
    have e1 : (Sem.setObj r o k).run P w = k.run P { w with heap := w.heap.setIfInBounds r o } := by cases o' <;> simp_all [Sem.run, noCells]
    have e2 : (Sem.setObj r o k).events P w es = k.events P { w with heap := w.heap.setIfInBounds r o } (es.push ⟨.obj r, true, false⟩) := by
      cases o' <;> simp_all [Sem.events, Sem.runT, noCells, -Sem.runT_eq]
    rw [e1, e2]
    obtain ⟨q, ev, kp⟩ := ih (es.push ⟨.obj r, true, false⟩) h5 (by simpa using hn)
    have hk : Keeps c n0 w { w with heap := w.heap.setIfInBounds r o } := ⟨by simp, fun b hb hm =>
      getElem?_setIfInBounds_other _ _ _ _ (by rintro rfl; rcases h1 with h | h; exact hm h; omega), rfl, rfl, rfl⟩
    refine ⟨q, fun e he => ?_, hk.trans kp⟩
    rcases ev e he with h | h
    · rcases Array.mem_push.1 h with h | rfl
      · exact .inl h
      · exact .inr ⟨rfl, Nat.lt_of_lt_of_le (by have := (Array.getElem?_eq_some_iff.1 h3).1; simpa using this) kp.size, by rcases h1 with h | h; exact .inl h; exact .inr (.inl h)⟩
    · exact .inr h
  | choose q k ih =>
    intro w Q es h hn
    cases hq : q.forced with
    | true =>
      have e1 : (Sem.choose q k).run P w = (k 0).run P w := by simp [Sem.run, hq]
      have e2 : (Sem.choose q k).events P w es = (k 0).events P w es := by simp [Sem.events, Sem.runT, hq, -Sem.runT_eq]
      rw [e1, e2]
      exact ih 0 es (h 0 (fun _ => rfl) (fun f => by rw [hq] at f; cases f) w.drawn) hn
    | false =>
      have e1 : (Sem.choose q k).run P w = (k (q.cut (w.tape w.drawn q))).run P { w with drawn := w.drawn + 1 } := by simp [Sem.run, hq]
      have e2 : (Sem.choose q k).events P w es = (k (q.cut (w.tape w.drawn q))).events P { w with drawn := w.drawn + 1 } es := by simp [Sem.events, Sem.runT, hq, -Sem.runT_eq]
      rw [e1, e2]
      obtain ⟨a, b, d⟩ := ih _ es (h _ (fun f => by rw [hq] at f; cases f) (fun _ => ⟨_, rfl⟩) (w.drawn + 1)) hn
      have hk : Keeps c n0 w { w with drawn := w.drawn + 1 } := ⟨Nat.le_refl _, fun _ _ _ => rfl, rfl, rfl, rfl⟩
      exact ⟨a, b, hk.trans d⟩
  | sys => intro w Q es h; exact h.elim
  | program k ih => intro w Q es h hn; exact ih _ es h hn
  | mark m k ih =>
    intro w Q es h hn
    obtain ⟨rfl, h1⟩ := h
    obtain ⟨q, ev, kp⟩ := ih (es.push ⟨.mark .noRoom, false, true⟩) h1 hn
    refine ⟨q, fun e he => ?_, kp⟩
    have he' : e ∈ k.events P w (es.push ⟨.mark .noRoom, false, true⟩) := he
    rcases ev e he' with h | h
    · rcases Array.mem_push.1 h with h | rfl
      · exact .inl h
      · exact .inr rfl
    · exact .inr h
  | halt h => intro w Q es h _; exact ⟨h, fun e he => .inl he, .refl _ _ _⟩

theorem mem_seen {P : Program} {fn : FuncId} {es : Array Event} {e : Event} (h : e ∈ seen P fn es) : e ∈ es := by
  unfold seen at h
  simp only [] at h
  have key : ∀ (l : List Event) (q : Bool) (kept : Array Event), e ∈ (l.foldl (init := (q, kept)) fun (x : Bool × Array Event) e => match e.loc with
      | .mark (.extern f) => ((P.funcs[f]?).any (·.norace), x.2)
      | _ => (x.1, if x.1 && !e.sync then x.2 else x.2.push e)).2 → e ∈ l ∨ e ∈ kept := by
    intro l
    induction l with
    | nil => intro q kept h; exact .inr h
    | cons a l ih =>
      intro q kept h
      simp only [List.foldl_cons] at h
      split at h
      · rcases ih _ _ h with h | h
        · exact .inl (List.mem_cons_of_mem _ h)
        · exact .inr h
      · rcases ih _ _ h with h | h
        · exact .inl (List.mem_cons_of_mem _ h)
        · split at h
          · exact .inr h
          · rcases Array.mem_push.1 h with h | h
            · exact .inr h
            · exact .inl (by rw [h]; exact List.mem_cons_self)
  rw [← Array.foldl_toList] at h
  rcases key es.toList _ _ h with h | h
  · exact Array.mem_toList_iff.1 h
  · simp at h

/-- A channel that is open, without room, and stays so. -/
def OpenChan (w : World) (r : Nat) : Prop := ∃ a, w.heap[r]? = some (.chan 0 #[] false a a false)

/-- What the others may have done. -/
structure RL (c : Cx) (w w1 : World) : Prop where
  size : w.heap.size ≤ w1.heap.size
  mine : ∀ b, c.mine b → w1.heap[b]? = w.heap[b]?
  imm : ∀ b, (c.imm b).isSome → w1.heap[b]? = w.heap[b]?
  os : w1.os = w.os
  output : w1.output = w.output
  tape : w1.tape = w.tape
  chans : ∀ r, c.com.chans r → OpenChan w r → OpenChan w1 r

theorem RL.refl (c : Cx) (w : World) : RL c w w := ⟨Nat.le_refl _, fun _ _ => rfl, fun _ _ => rfl, rfl, rfl, rfl, fun _ _ h => h⟩
theorem RL.trans {c : Cx} {a b d : World} (h : RL c a b) (h' : RL c b d) : RL c a d :=
  ⟨Nat.le_trans h.size h'.size, fun x hx => by rw [h'.mine x hx, h.mine x hx], fun x hx => by rw [h'.imm x hx, h.imm x hx], h'.os.trans h.os, h'.output.trans h.output, h'.tape.trans h.tape, fun r hr ho => h'.chans r hr (h.chans r hr ho)⟩
theorem RL.at (c : Cx) (w : World) (d : Nat) : RL c w { w with drawn := d } := ⟨Nat.le_refl _, fun _ _ => rfl, fun _ _ => rfl, rfl, rfl, rfl, fun _ _ h => h⟩

/-- What a step of mine does. -/
structure Gd (c c' : Cx) (w w' : World) (es : Array Event) : Prop where
  keeps : Keeps c w.heap.size w w'
  mine : ∀ b, c'.mine b → c.mine b ∨ w.heap.size ≤ b
  imm : ∀ b o, c'.imm b = some o → c.imm b = some o ∨ c.mine b ∨ w.heap.size ≤ b
  still : ∀ b o, c.imm b = some o → c'.imm b = some o
  evs : ∀ e ∈ es, EvOk c w.heap.size w'.heap.size e
  low : ∀ b, (c'.mine b ∨ (c'.imm b).isSome = true) → (c.mine b ∨ (c.imm b).isSome = true) ∨ b < w'.heap.size
  chans : ∀ r, c'.com.chans r → c.com.chans r ∨ (w.heap.size ≤ r ∧ OpenChan w' r ∧ ¬ c'.mine r ∧ c'.imm r = none)
  open_ : ∀ r, c.com.chans r → c'.com.chans r
  out : c'.com.out = c.com.out
  todo : c'.com.todo = c.com.todo
  main : c'.com.main = c.com.main := by rfl

theorem RL.same {c c' : Cx} {w w1 : World} (r : RL c w w1) (e2 : c'.mine = c.mine) (e3 : c'.imm = c.imm) (e4 : c'.com.chans = c.com.chans) : RL c' w w1 :=
  ⟨r.size, fun b hb => r.mine b (by rw [← e2]; exact hb), fun b hb => r.imm b (by rw [← e3]; exact hb), r.os, r.output, r.tape, fun x hx => r.chans x (by rw [← e4]; exact hx)⟩

/-- What I may cease to hold, or to write, without a step. -/
structure Gh (c c' : Cx) : Prop where
  com : c'.com = c.com
  mine : ∀ b, c'.mine b → c.mine b
  imm : ∀ b o, c'.imm b = some o → c.imm b = some o ∨ c.mine b
  still : ∀ b o, c.imm b = some o → c'.imm b = some o

theorem Gh.refl (c : Cx) : Gh c c := ⟨rfl, fun _ h => h, fun _ _ h => .inl h, fun _ _ h => h⟩
theorem Gh.trans {a b d : Cx} (h : Gh a b) (h' : Gh b d) : Gh a d :=
  ⟨h'.com.trans h.com, fun x hx => h.mine x (h'.mine x hx), fun x o hx => (h'.imm x o hx).elim (fun y => h.imm x o y) (fun y => .inr (h.mine x y)), fun x o hx => h'.still x o (h.still x o hx)⟩
theorem Gh.rely {c c' : Cx} (g : Gh c c') {w w1 : World} (r : RL c w w1) : RL c' w w1 where
  size := r.size
  mine b hb := r.mine b (g.mine b hb)
  imm b hb := by
    obtain ⟨o, ho⟩ := Option.isSome_iff_exists.1 hb
    rcases g.imm b o ho with h | h
    · exact r.imm b (by rw [h]; rfl)
    · exact r.mine b h
  os := r.os
  output := r.output
  tape := r.tape
  chans x hx := r.chans x (by rw [g.com] at hx; exact hx)

/-- What goes on when all has been sent. -/
def restOf (rest : List (Nat × Value)) : List (List (Nat × Value)) := if rest = [] then [] else [rest]

/-- The cases of a communication that only receives, at such channels, and the one at which this channel stands. -/
def Recvs (c : Cx) (cases : Array CommCase) : Prop := (∀ k ∈ cases, k.send = none ∧ ∃ r, k.chan = .chan (some r) ∧ c.com.chans r) ∧
  ∀ (i j : Nat) (x y : CommCase), cases[i]? = some x → cases[j]? = some y → x.chan = y.chan → i = j

/-- A goroutine comes to a stop, whatever the others do within 'RL', and each of its steps is within 'Gd'. -/
inductive Go' (P : Program) : Bool → (Cx → Goroutine → World → Prop) → Cx → Goroutine → World → Prop
  | stop {main : Bool} {Stop : Cx → Goroutine → World → Prop} {c : Cx} {g : Goroutine} {w : World} (h : ∀ w1, RL c w w1 → Stop c g w1) : Go' P main Stop c g w
  | step {main : Bool} {Stop : Cx → Goroutine → World → Prop} {c : Cx} {g : Goroutine} {w : World} (nx : World → Cx) (hs : g.status = .running)
      (h1 : ∀ w1, RL c w w1 → ∃ g' w' es, stepG P main g w1 = .go g' w' es ∧ g'.status = .running ∧ Gd c (nx w1) w1 w' es)
      (h2 : ∀ w1, RL c w w1 → ∀ g' w' es, stepG P main g w1 = .go g' w' es → Go' P main Stop (nx w1) g' w') : Go' P main Stop c g w
  | ghost {main : Bool} {Stop : Cx → Goroutine → World → Prop} {c c' : Cx} {g : Goroutine} {w : World} (hg : Gh c c') (h : Go' P main Stop c' g w) : Go' P main Stop c g w
  /-- A goroutine is started, which is going to send. -/
  | spawn {main : Bool} {Stop : Cx → Goroutine → World → Prop} {c c' cc : Cx} {g g' child : Goroutine} {w : World} (hrole : c.com.main = true) (hs : g.status = .running) (hs' : g'.status = .running) (hk : child.status = .running)
      (h1 : ∀ w1, stepG P main g w1 = .spawn g' child w1 #[])
      (hc : c'.own = c.own ∧ c'.mine = c.mine ∧ c'.imm = c.imm ∧ c'.com.chans = c.com.chans ∧ c'.com.out = c.com.out ∧ c'.com.todo = c.com.todo ++ [cc.com.out] ∧ c'.com.main = c.com.main)
      (hcc : (∀ b, ¬ cc.mine b) ∧ (∀ b o, cc.imm b = some o → c.imm b = some o ∧ ¬ c.mine b) ∧ (∀ r, cc.com.chans r → c.com.chans r) ∧ cc.com.todo = [] ∧ cc.com.out ≠ [] ∧ cc.com.main = false ∧ ∀ m ∈ cc.com.out, c.com.chans m.1)
      (h2 : Go' P false (fun _ _ _ => False) cc child w) (h3 : Go' P main Stop c' g' w) : Go' P main Stop c g w
  /-- Something is sent. -/
  | send {main : Bool} {Stop : Cx → Goroutine → World → Prop} {c c' : Cx} {g g' : Goroutine} {w : World} {r : Nat} {v z : Value} {rest : List (Nat × Value)} (hrole : c.com.main = false) (hs : g.status = .running) (hs' : g'.status = .running)
      (h1 : ∀ w1, stepG P main g w1 = .comm g' #[⟨.chan (some r), some v, z⟩] true .send w1 #[])
      (ho : c.com.out = (r, v) :: rest) (hr : c.com.chans r)
      (hc : c'.own = c.own ∧ c'.mine = c.mine ∧ c'.imm = c.imm ∧ c'.com.chans = c.com.chans ∧ c'.com.out = rest ∧ c'.com.todo = c.com.todo ∧ c'.com.main = c.com.main)
      (h2 : rest ≠ [] → Go' P main Stop c' (g'.finishComm P #[⟨.chan (some r), some v, z⟩] .send 0 undef false) w)
      (h3 : rest = [] → ∃ n, Conc.QuitsIn P n (g'.finishComm P #[⟨.chan (some r), some v, z⟩] .send 0 undef false)) : Go' P main Stop c g w
  /-- What another one sends is received. -/
  | recv {main : Bool} {Stop : Cx → Goroutine → World → Prop} {c : Cx} {g g' : Goroutine} {w : World} {cases : Array CommCase} {shape : CommShape} (hrole : c.com.main = true) (hs : g.status = .running) (hs' : g'.status = .running)
      (h1 : ∀ w1, stepG P main g w1 = .comm g' cases true shape w1 #[]) (hr : Recvs c cases) (hne : c.com.todo ≠ [])
      (hall : ∀ ms ∈ c.com.todo, ∃ r v rest, ms = (r, v) :: rest ∧ ∃ k ∈ cases, k.chan = .chan (some r))
      (nx : Nat → Value → List (List (Nat × Value)) → Cx)
      (hc : ∀ k v T, (nx k v T).own = c.own ∧ (nx k v T).mine = c.mine ∧ (nx k v T).imm = c.imm ∧ (nx k v T).com.chans = c.com.chans ∧ (nx k v T).com.out = c.com.out ∧ (nx k v T).com.todo = T ∧ (nx k v T).com.main = c.com.main)
      (h2 : ∀ (k r : Nat) (v z : Value) (T1 T2 : List (List (Nat × Value))) (rest : List (Nat × Value)), cases[k]? = some ⟨.chan (some r), none, z⟩ → c.com.todo = T1 ++ ((r, v) :: rest) :: T2 →
        Go' P main Stop (nx k v (T1 ++ restOf rest ++ T2)) (g'.finishComm P cases shape k v true) w) : Go' P main Stop c g w

section
variable {P : Program} {main : Bool} {Stop : Cx → Goroutine → World → Prop}

theorem Go'.of_step {c : Cx} {g : Goroutine} {w : World} (hs : g.status = .running)
    (h : ∀ w1, RL c w w1 → ∃ g' w' es c', stepG P main g w1 = .go g' w' es ∧ g'.status = .running ∧ Gd c c' w1 w' es ∧ Go' P main Stop c' g' w') : Go' P main Stop c g w := by
  classical
  refine .step (fun w1 => if h1 : RL c w w1 then (h w1 h1).choose_spec.choose_spec.choose_spec.choose else c) hs (fun w1 r => ?_) (fun w1 r g' w' es e => ?_)
  · have x := (h w1 r).choose_spec.choose_spec.choose_spec.choose_spec
    refine ⟨_, _, _, x.1, x.2.1, ?_⟩
    simp only [r, dif_pos]
    exact x.2.2.1
  · have x := (h w1 r).choose_spec.choose_spec.choose_spec.choose_spec
    have y := e.symm.trans x.1
    simp only [r, dif_pos]
    injection y with y1 y2 y3
    rw [y1, y2]
    exact x.2.2.2

theorem Go'.rely {c : Cx} {g : Goroutine} {w w1 : World} (h : Go' P main Stop c g w) (r : RL c w w1) : Go' P main Stop c g w1 := by
  induction h generalizing w1 with
  | stop h => exact .stop fun w2 r2 => h w2 (r.trans r2)
  | step nx hs h1 h2 => exact .step nx hs (fun w2 r2 => h1 w2 (r.trans r2)) (fun w2 r2 => h2 w2 (r.trans r2))
  | ghost hg h ih => exact .ghost hg (ih (hg.rely r))
  | spawn hrole hs hs' hk h1 hc hcc h2 h3 ih2 ih3 =>
    obtain ⟨e1, e2, e3, e4, e5, e6⟩ := hc
    refine .spawn hrole hs hs' hk h1 ⟨e1, e2, e3, e4, e5, e6⟩ hcc (ih2 ⟨r.size, fun b hb => absurd hb (hcc.1 b), fun b hb => ?_, r.os, r.output, r.tape, fun x hx => r.chans x (hcc.2.2.1 x hx)⟩) (ih3 (r.same e2 e3 e4))
    obtain ⟨o, ho⟩ := Option.isSome_iff_exists.1 hb
    exact r.imm b (by rw [(hcc.2.1 b o ho).1]; rfl)
  | send hrole hs hs' h1 ho hr hc h2 h3 ih2 => exact .send hrole hs hs' h1 ho hr hc (fun hne => ih2 hne (r.same hc.2.1 hc.2.2.1 hc.2.2.2.1)) h3
  | recv hrole hs hs' h1 hr hne hall nx hc h2 ih2 => exact .recv hrole hs hs' h1 hr hne hall nx hc fun k x v z T1 T2 rest hk ht => ih2 k x v z T1 T2 rest hk ht (r.same (hc _ _ _).2.1 (hc _ _ _).2.2.1 (hc _ _ _).2.2.2.1)

/-- A step that looks at nothing and turns nothing. -/
theorem Go'.idle {c : Cx} {g g' : Goroutine} {w : World} (hs : g.status = .running) (hs' : g'.status = .running) (h : ∀ w1, stepG P main g w1 = .go g' w1 #[]) (h' : Go' P main Stop c g' w) : Go' P main Stop c g w :=
  .of_step hs fun w1 r => ⟨g', w1, #[], c, h w1, hs', ⟨.refl _ _ _, fun _ h => .inl h, fun _ _ h => .inl h, fun _ _ h => h, by simp, fun _ h => .inl h, fun _ h => .inl h, fun _ h => h, rfl, rfl, rfl⟩, h'.rely r⟩

theorem Go'.mono {Stop' : Cx → Goroutine → World → Prop} {c : Cx} {g : Goroutine} {w : World} (h : Go' P main Stop c g w) (hm : ∀ c g w, Stop c g w → Stop' c g w) : Go' P main Stop' c g w := by
  induction h with
  | stop h => exact .stop fun w1 r => hm _ _ _ (h w1 r)
  | step nx hs h1 h2 ih => exact .step nx hs h1 fun w1 r g' w' es e => ih w1 r g' w' es e hm
  | ghost hg h ih => exact .ghost hg (ih hm)
  | spawn hrole hs hs' hk h1 hc hcc h2 h3 ih2 ih3 => exact .spawn hrole hs hs' hk h1 hc hcc h2 (ih3 hm)
  | send hrole hs hs' h1 ho hr hc h2 h3 ih2 => exact .send hrole hs hs' h1 ho hr hc (fun hne => ih2 hne hm) h3
  | recv hrole hs hs' h1 hr hne hall nx hc h2 ih2 => exact .recv hrole hs hs' h1 hr hne hall nx hc fun k x v z T1 T2 rest hk ht => ih2 k x v z T1 T2 rest hk ht hm

end
end Go.Mac

/-! MacR -/
/- MacR: the machine of many goroutines, part 1: what a goroutine does, as a tree ('WT'), and that many such trees come to an end together. No program is in sight. -/
namespace Go.Mac
open Go Go.Conc

/-! ### Lists of things that come to an end -/
def listRel {α : Type 1} (r : α → α → Prop) (l' l : List α) : Prop := ∃ i a a', l[i]? = some a ∧ r a' a ∧ l' = l.set i a'

theorem acc_list {α : Type 1} {r : α → α → Prop} : ∀ (l : List α), (∀ a ∈ l, Acc r a) → Acc (listRel r) l
  | [], _ => ⟨_, fun l' h => by obtain ⟨i, a, a', h, _⟩ := h; simp at h⟩
  | a :: l, h => by
    have hl := acc_list l fun b hb => h b (List.mem_cons_of_mem _ hb)
    have ha := h a List.mem_cons_self
    clear h
    induction ha generalizing l with
    | intro a _ iha =>
      induction hl with
      | intro l hl ihl =>
        refine ⟨_, fun l' hx => ?_⟩
        obtain ⟨i, b, b', h1, h2, rfl⟩ := hx
        cases i with
        | zero =>
          simp at h1
          subst h1
          exact iha b' h2 l ⟨l, hl⟩
        | succ i =>
          simp at h1
          exact ihl (l.set i b') ⟨i, b, b', h1, h2, rfl⟩

/-! ### What a goroutine does that is going to send -/
inductive WT (P : Program) : Cx → Goroutine → World → Type 1
  | leave {c : Cx} {g : Goroutine} {w : World} (n : Nat) (h : QuitsIn P n g) (ho : c.com.out = []) (hm : ∀ b, ¬ c.mine b) : WT P c g w
  | step {c : Cx} {g : Goroutine} {w : World} (nx : World → Cx) (hne : c.com.out ≠ []) (hs : g.status = .running)
      (h1 : ∀ w1, RL c w w1 → ∃ g' w' es, stepG P false g w1 = .go g' w' es ∧ g'.status = .running ∧ Gd c (nx w1) w1 w' es)
      (h2 : ∀ w1, RL c w w1 → ∀ g' w' es, stepG P false g w1 = .go g' w' es → WT P (nx w1) g' w') : WT P c g w
  | ghost {c c' : Cx} {g : Goroutine} {w : World} (hg : Gh c c') (h : WT P c' g w) : WT P c g w
  | send {c c' : Cx} {g g' : Goroutine} {w : World} {r : Nat} {v z : Value} {rest : List (Nat × Value)} (hs : g.status = .running) (hs' : g'.status = .running)
      (h1 : ∀ w1, stepG P false g w1 = .comm g' #[⟨.chan (some r), some v, z⟩] true .send w1 #[])
      (ho : c.com.out = (r, v) :: rest) (hr : c.com.chans r) (hc : Gh c c' ∨ True)
      (hm : ∀ b, c'.mine b → c.mine b) (hi : ∀ b o, c'.imm b = some o → c.imm b = some o) (hch : c'.com.chans = c.com.chans) (hout : c'.com.out = rest) (htodo : c'.com.todo = c.com.todo)
      (h2 : WT P c' (g'.finishComm P #[⟨.chan (some r), some v, z⟩] .send 0 undef false) w) : WT P c g w

theorem wt_of_go {P : Program} {main : Bool} {Stop : Cx → Goroutine → World → Prop} {c : Cx} {g : Goroutine} {w : World} (h : Go' P main Stop c g w) (hm : main = false) (hrole : c.com.main = false) (hS : ∀ c g w, ¬ Stop c g w) (hne : c.com.out ≠ []) : Nonempty (WT P c g w) := by
  classical
  induction h with
  | stop h => exact absurd (h _ (RL.refl _ _)) (hS _ _ _)
  | step nx hs h1 h2 ih =>
    subst hm
    exact ⟨.step nx hne hs h1 fun w1 r g' w' es e => Classical.choice (ih w1 r g' w' es e rfl (by
      obtain ⟨_, _, _, _, _, hd⟩ := h1 w1 r
      rw [hd.main]; exact hrole) hS (by
      obtain ⟨_, _, _, _, _, hd⟩ := h1 w1 r
      rw [hd.out]; exact hne))⟩
  | ghost hg h ih => exact ⟨.ghost hg (Classical.choice (ih hm (by rw [hg.com]; exact hrole) hS (by rw [hg.com]; exact hne)))⟩
  | spawn hr => rw [hrole] at hr; cases hr
  | recv hr => rw [hrole] at hr; cases hr
  | @send main Stop c c' g g' w r v z rest _ hs hs' h1 ho hr hc h2 h3 ih =>
    subst hm
    rename_i hne0
    by_cases hne : rest = []
    · obtain ⟨n, hn⟩ := h3 hne
      refine ⟨.send (c' := { c' with mine := fun _ => False }) hs hs' h1 ho hr (.inr trivial) (fun b hb => hb.elim) (fun b o hb => by rw [← hc.2.2.1]; exact hb) hc.2.2.2.1 hc.2.2.2.2.1 hc.2.2.2.2.2.1 (.leave n hn (by rw [← hne]; exact hc.2.2.2.2.1) fun _ h => h)⟩
    · exact ⟨.send (c' := c') hs hs' h1 ho hr (.inr trivial) (fun b hb => by rw [← hc.2.1]; exact hb) (fun b o hb => by rw [← hc.2.2.1]; exact hb) hc.2.2.2.1 hc.2.2.2.2.1 hc.2.2.2.2.2.1 (Classical.choice (ih hne rfl (by rw [hc.2.2.2.2.2.2]; exact hrole) hS (by rw [hc.2.2.2.2.1]; exact hne)))⟩

/-- A goroutine on its way, with all that it is still going to do. -/
structure WS (P : Program) where
  c : Cx
  g : Goroutine
  w : World
  t : WT P c g w
  parked : Bool

/-- What is ahead of a goroutine is less after a step. -/
inductive WS.next (P : Program) : WS P → WS P → Prop
  | slip {c : Cx} {g g' : Goroutine} {w w' : World} {n : Nat} (h : QuitsIn P (n + 1) g) (h' : QuitsIn P n g') (ho : c.com.out = []) (hm : ∀ b, ¬ c.mine b) : WS.next P ⟨c, g', w', .leave n h' ho hm, false⟩ ⟨c, g, w, .leave (n + 1) h ho hm, false⟩
  | step {c : Cx} {g : Goroutine} {w : World} {nx : World → Cx} {hne : c.com.out ≠ []} {hs : g.status = .running} {h1 : ∀ w1, RL c w w1 → ∃ g' w' es, stepG P false g w1 = .go g' w' es ∧ g'.status = .running ∧ Gd c (nx w1) w1 w' es}
      {h2 : ∀ w1, RL c w w1 → ∀ g' w' es, stepG P false g w1 = .go g' w' es → WT P (nx w1) g' w'} (w1 : World) (r : RL c w w1) (g' : Goroutine) (w' : World) (es : Array Event) (e : stepG P false g w1 = .go g' w' es) :
      WS.next P ⟨nx w1, g', w', h2 w1 r g' w' es e, false⟩ ⟨c, g, w, .step nx hne hs h1 h2, false⟩
  | ghost {c c' : Cx} {g : Goroutine} {w : World} {hg : Gh c c'} {h : WT P c' g w} : WS.next P ⟨c', g, w, h, false⟩ ⟨c, g, w, .ghost hg h, false⟩
  | send {p : Bool} {c c' : Cx} {g g' : Goroutine} {w : World} {r : Nat} {v z : Value} {rest : List (Nat × Value)} {hs : g.status = .running} {hs' : g'.status = .running} {h1 : ∀ w1, stepG P false g w1 = .comm g' #[⟨.chan (some r), some v, z⟩] true .send w1 #[]}
      {ho : c.com.out = (r, v) :: rest} {hr : c.com.chans r} {hc : Gh c c' ∨ True} {hm : ∀ b, c'.mine b → c.mine b} {hi : ∀ b o, c'.imm b = some o → c.imm b = some o} {hch : c'.com.chans = c.com.chans} {hout : c'.com.out = rest} {htodo : c'.com.todo = c.com.todo}
      {h2 : WT P c' (g'.finishComm P #[⟨.chan (some r), some v, z⟩] .send 0 undef false) w} : WS.next P ⟨c', _, w, h2, false⟩ ⟨c, g, w, .send hs hs' h1 ho hr hc hm hi hch hout htodo h2, p⟩
  | park {c : Cx} {g : Goroutine} {w : World} {t : WT P c g w} : WS.next P ⟨c, g, w, t, true⟩ ⟨c, g, w, t, false⟩

theorem ws_acc_true {P : Program} {c : Cx} {g : Goroutine} {w : World} {t : WT P c g w} (h : ∀ y, WS.next P y ⟨c, g, w, t, false⟩ → y = ⟨c, g, w, t, true⟩ ∨ Acc (WS.next P) y) (h' : ∀ y, WS.next P y ⟨c, g, w, t, true⟩ → Acc (WS.next P) y) (p : Bool) : Acc (WS.next P) ⟨c, g, w, t, p⟩ := by
  have ht : Acc (WS.next P) ⟨c, g, w, t, true⟩ := ⟨_, h'⟩
  cases p with
  | true => exact ht
  | false => exact ⟨_, fun y hy => by
      rcases h y hy with rfl | h
      · exact ht
      · exact h⟩

theorem ws_acc_leave {P : Program} : ∀ (n : Nat) {c : Cx} {g : Goroutine} {w : World} (h : QuitsIn P n g) (ho : c.com.out = []) (hm : ∀ b, ¬ c.mine b) (p : Bool), Acc (WS.next P) ⟨c, g, w, .leave n h ho hm, p⟩
  | 0, _, _, _, _, _, _, p => ws_acc_true (fun y hy => by cases hy; exact .inl rfl) (fun y hy => by cases hy) p
  | n + 1, _, _, _, _, _, _, p => ws_acc_true (fun y hy => by
      cases hy with
      | slip h h' ho hm => exact .inr (ws_acc_leave n h' ho hm false)
      | park => exact .inl rfl) (fun y hy => by cases hy) p

theorem ws_acc {P : Program} {c : Cx} {g : Goroutine} {w : World} (t : WT P c g w) : ∀ p, Acc (WS.next P) ⟨c, g, w, t, p⟩ := by
  induction t with
  | leave n h ho hm => exact fun p => ws_acc_leave n h ho hm p
  | step nx hne hs h1 h2 ih =>
    refine fun p => ws_acc_true (fun y hy => ?_) (fun y hy => by cases hy) p
    cases hy with
    | step w1 r g' w' es e => exact .inr (ih w1 r g' w' es e false)
    | park => exact .inl rfl
  | ghost hg h ih =>
    refine fun p => ws_acc_true (fun y hy => ?_) (fun y hy => by cases hy) p
    cases hy with
    | ghost => exact .inr (ih false)
    | park => exact .inl rfl
  | send hs hs' h1 ho hr hc hm hi hch hout htodo h2 ih =>
    refine fun p => ws_acc_true (fun y hy => ?_) (fun y hy => ?_) p
    · cases hy with
      | send => exact .inr (ih false)
      | park => exact .inl rfl
    · cases hy with
      | send => exact ih false
end Go.Mac

/-! MacU -/
/- MacU: what goroutines know of a trace: laws on traces, for goroutines that hold blocks of their own, read blocks that nobody writes, and send. No program is in sight. -/
namespace Go.Mac
open Go Go.Conc

/-- The block of a place in memory. -/
def locBlock : Loc → Option Nat
  | .cell a => some a.block
  | .obj r => some r
  | _ => none

/-- g knows every writing of the block's places. -/
def KnowsW (t : Trace) (g b : Nat) : Prop := ∀ i a, touchAt t i = some a → locBlock a.loc = some b → a.write = true → Knows t g i
def KnowsB (t : Trace) (g b : Nat) : Prop := ∀ i a, touchAt t i = some a → locBlock a.loc = some b → Knows t g i

theorem KnowsB.w {t : Trace} {g b : Nat} (h : KnowsB t g b) : KnowsW t g b := fun i a ha hb _ => h i a ha hb

/-- All touches of memory lie below 'n', and are plain. -/
structure Tame (t : Trace) (n : Nat) : Prop where
  low : ∀ i a, touchAt t i = some a → ∃ b, locBlock a.loc = some b ∧ b < n
  plain : ∀ i a, touchAt t i = some a → a.kind = .plain
  words : Wordless t

/-- Operations of one goroutine that are accesses within its account. -/
def Fits2 (j : Nat) (c : Cx) (n0 n1 : Nat) (u : Trace) : Prop :=
  ∀ op ∈ u, op.g = j ∧ ((∀ a, op.act.touch? = some a → a.kind = .plain ∧ ∃ b, locBlock a.loc = some b ∧ b < n1 ∧ (c.mine b ∨ n0 ≤ b ∨ (a.write = false ∧ (c.imm b).isSome = true))) ∧ ∀ m, op.act = .mark m → Neutral m)

theorem touch_app {t u : Trace} {i : Nat} {a : Touch} (h : touchAt (t ++ u) i = some a) : (i < t.size ∧ touchAt t i = some a) ∨ ∃ op ∈ u, (t ++ u)[i]? = some op ∧ op.act.touch? = some a := by
  obtain ⟨op, ho, hoa⟩ := touch_of h
  rcases getElem?_append_cases ho with ⟨hi, ho'⟩ | ⟨_, hu⟩
  · exact .inl ⟨hi, by rw [touchAt_of ho']; exact hoa⟩
  · exact .inr ⟨op, hu, ho, hoa⟩

theorem KnowsB.app {t u : Trace} {g b : Nat} (h : KnowsB t g b) (hu : ∀ op ∈ u, ∀ a, op.act.touch? = some a → locBlock a.loc = some b → op.g = g) : KnowsB (t ++ u) g b := by
  intro i a ha hb
  rcases touch_app ha with ⟨hi, h'⟩ | ⟨op, hop, ho, hoa⟩
  · exact (h i a h' hb).app u
  · have := knows_own ho
    rwa [hu op hop a hoa hb] at this

theorem KnowsW.app {t u : Trace} {g b : Nat} (h : KnowsW t g b) (hu : ∀ op ∈ u, ∀ a, op.act.touch? = some a → locBlock a.loc = some b → a.write = true → op.g = g) : KnowsW (t ++ u) g b := by
  intro i a ha hb hw
  rcases touch_app ha with ⟨hi, h'⟩ | ⟨op, hop, ho, hoa⟩
  · exact (h i a h' hb hw).app u
  · have := knows_own ho
    rwa [hu op hop a hoa hb hw] at this

/-- A block that nobody has touched. -/
theorem KnowsB.fresh {t : Trace} {n b g : Nat} (h : Tame t n) (hb : n ≤ b) : KnowsB t g b := by
  intro i a ha hl
  obtain ⟨b', h1, h2⟩ := h.low i a ha
  rw [hl] at h1
  cases h1
  omega

/-- ████ A goroutine's own step makes no race. ████ -/
theorem noRace_own {t u : Trace} {j : Nat} {c : Cx} {n0 n1 : Nat} (h : ∀ said, ¬ Race said t) (ht : Tame t n0) (hm : ∀ b, c.mine b → KnowsB t j b) (hi : ∀ b, (c.imm b).isSome = true → KnowsW t j b) (hu : Fits2 j c n0 n1 u) (said : Bool) : ¬ Race said (t ++ u) := by
  refine noRace_append (g := j) (h said) (fun op hop => (hu op hop).1) ?_
  intro i a ha op hop b hb hc
  obtain ⟨hbp, bl, h1, h2, h3⟩ := (hu op hop).2.1 b hb
  have hla : locBlock a.loc = some bl := by rw [hc.1]; exact h1
  rcases h3 with h3 | h3 | ⟨h3, h4⟩
  · exact hm bl h3 i a ha hla
  · exact KnowsB.fresh ht h3 i a ha hla
  · refine hi bl h4 i a ha hla ?_
    rcases hc.2.2.1 with hw | hw
    · exact hw
    · rw [h3] at hw; cases hw

theorem Tame.own {t u : Trace} {j : Nat} {c : Cx} {n0 n1 : Nat} (ht : Tame t n0) (hn : n0 ≤ n1) (hu : Fits2 j c n0 n1 u) : Tame (t ++ u) n1 where
  low i a ha := by
    rcases touch_app ha with ⟨hi, h'⟩ | ⟨op, hop, ho, hoa⟩
    · obtain ⟨b, h1, h2⟩ := ht.low i a h'; exact ⟨b, h1, by omega⟩
    · obtain ⟨_, b, h1, h2, _⟩ := (hu op hop).2.1 a hoa; exact ⟨b, h1, h2⟩
  plain i a ha := by
    rcases touch_app ha with ⟨hi, h'⟩ | ⟨op, hop, ho, hoa⟩
    · exact ht.plain i a h'
    · exact ((hu op hop).2.1 a hoa).1
  words := ht.words.append fun op hop => (hu op hop).2.2

/-- A step's accesses, as the trace lists them. -/
theorem fits_of {c : Cx} {j n0 n1 : Nat} {fn : FuncId} {pos : String} {es : Array Event} (h : ∀ e ∈ es, EvOk c n0 n1 e) : Fits2 j c n0 n1 (MemOp.ofEvents j fn pos es) := by
  intro op hop
  unfold MemOp.ofEvents at hop
  split at hop
  · simp at hop
  · obtain ⟨e, he, rfl⟩ := Array.mem_map.1 hop
    have hk := h e he
    refine ⟨rfl, ?_, ?_⟩
    · intro a ha
      obtain ⟨loc, wr, sy⟩ := e
      unfold EvOk at hk
      cases loc with
      | cell ad =>
        obtain ⟨hs, hlt, hm⟩ := hk
        simp only at hs
        subst hs
        simp only [MemAct.ofEvent, MemAct.touch?, Option.some.injEq] at ha
        subst ha
        exact ⟨rfl, ad.block, rfl, hlt, hm⟩
      | obj r =>
        obtain ⟨hs, hlt, hm⟩ := hk
        simp only at hs
        subst hs
        simp only [MemAct.ofEvent, MemAct.touch?, Option.some.injEq] at ha
        subst ha
        exact ⟨rfl, r, rfl, hlt, hm⟩
      | mark m =>
        have : m = .noRoom := hk
        subst this
        simp [MemAct.ofEvent, MemAct.touch?] at ha
      | _ => exact hk.elim
    · intro m hm
      obtain ⟨loc, wr, sy⟩ := e
      unfold EvOk at hk
      cases loc with
      | cell ad =>
        obtain ⟨hs, _⟩ := hk
        simp only at hs
        subst hs
        simp [MemAct.ofEvent] at hm
      | obj r =>
        obtain ⟨hs, _⟩ := hk
        simp only at hs
        subst hs
        simp [MemAct.ofEvent] at hm
      | mark m' =>
        have h' : m' = .noRoom := hk
        subst h'
        simp only [MemAct.ofEvent, MemAct.mark.injEq] at hm
        exact hm.symm
      | _ => exact hk.elim

/-- Over an edge. -/
theorem knows_edge {t u : Trace} {a b i p q : Nat} {x y : MemOp} (hw : Wordless (t ++ u)) (hk : Knows t a i) (hp : t.size ≤ p) (hx : (t ++ u)[p]? = some x) (hxa : x.g = a) (hy : (t ++ u)[q]? = some y) (hyb : y.g = b) (hn : Notices (t ++ u) p q) : Knows (t ++ u) b i :=
  ⟨q, y, hy, hyb, .inr ((hk.hb_new hp hx hxa).trans (.single (.inr ⟨hn, hw.heard hx, hw.heard hy⟩)))⟩

/-- Operations that touch nothing. -/
def Mute (u : Trace) : Prop := ∀ op ∈ u, op.act.touch? = none ∧ ∀ m, op.act = .mark m → Neutral m

theorem Tame.mute {t u : Trace} {n0 n1 : Nat} (ht : Tame t n0) (hn : n0 ≤ n1) (hu : Mute u) : Tame (t ++ u) n1 where
  low i a ha := by
    rcases touch_app ha with ⟨hi, h'⟩ | ⟨op, hop, ho, hoa⟩
    · obtain ⟨b, h1, h2⟩ := ht.low i a h'; exact ⟨b, h1, by omega⟩
    · rw [(hu op hop).1] at hoa; cases hoa
  plain i a ha := by
    rcases touch_app ha with ⟨hi, h'⟩ | ⟨op, hop, ho, hoa⟩
    · exact ht.plain i a h'
    · rw [(hu op hop).1] at hoa; cases hoa
  words := ht.words.append fun op hop => (hu op hop).2

theorem noRace_mute {t u : Trace} (h : ∀ said, ¬ Race said t) (hu : Mute u) (said : Bool) : ¬ Race said (t ++ u) := by
  rintro ⟨i, j, hij, ⟨a, b, ha, hb, hc⟩, n1, n2⟩
  rcases touch_app (t := t) (u := u) (i := i) ha with ⟨hi, ha'⟩ | ⟨op, hop, _, hoa⟩
  · rcases touch_app (t := t) (u := u) (i := j) hb with ⟨hj, hb'⟩ | ⟨op, hop, _, hoa⟩
    · exact h said ⟨i, j, hij, ⟨a, b, ha', hb', hc⟩, fun e => n1 (hb_app u e), fun e => n2 (hb_app u e)⟩
    · rw [(hu op hop).1] at hoa; cases hoa
  · rw [(hu op hop).1] at hoa; cases hoa

theorem KnowsB.mute {t u : Trace} {g b : Nat} (h : KnowsB t g b) (hu : Mute u) : KnowsB (t ++ u) g b :=
  h.app fun op hop a ha => by rw [(hu op hop).1] at ha; cases ha
theorem KnowsW.mute {t u : Trace} {g b : Nat} (h : KnowsW t g b) (hu : Mute u) : KnowsW (t ++ u) g b :=
  h.app fun op hop a ha => by rw [(hu op hop).1] at ha; cases ha

/-- What one knows another knows over an edge. -/
theorem KnowsW.edge {t u : Trace} {a b bl p q : Nat} {x y : MemOp} (hw : Wordless (t ++ u)) (hu : Mute u) (hk : KnowsW t a bl) (hp : t.size ≤ p) (hx : (t ++ u)[p]? = some x) (hxa : x.g = a) (hy : (t ++ u)[q]? = some y) (hyb : y.g = b) (hn : Notices (t ++ u) p q) : KnowsW (t ++ u) b bl := by
  intro i a' ha hb hwr
  rcases touch_app ha with ⟨hi, h'⟩ | ⟨op, hop, ho, hoa⟩
  · exact knows_edge hw (hk i a' h' hb hwr) hp hx hxa hy hyb hn
  · rw [(hu op hop).1] at hoa; cases hoa

theorem getElem?_app_at {t u : Trace} (k : Nat) : (t ++ u)[t.size + k]? = u[k]? := by
  rw [Array.getElem?_append_right (by omega)]
  congr 1
  omega

/-- The operations of a go statement. -/
def goOps (j : Nat) (fn fn' : FuncId) (pos : String) : Trace := #[{ g := 0, fn := fn, pos := pos, act := .go j }, { g := j, fn := fn', pos := pos, act := .start }]

theorem mute_go (j : Nat) (fn fn' : FuncId) (pos : String) : Mute (goOps j fn fn' pos) := by
  intro op hop
  simp only [goOps, List.mem_toArray, List.mem_cons, List.not_mem_nil, or_false] at hop
  rcases hop with rfl | rfl <;> exact ⟨rfl, fun m hm => by cases hm⟩

theorem spawn_knows {t : Trace} {j bl : Nat} {fn fn' : FuncId} {pos : String} (hw : Wordless t) (hk : KnowsW t 0 bl) : KnowsW (t ++ goOps j fn fn' pos) j bl :=
  KnowsW.edge (hw.append fun op hop => (mute_go j fn fn' pos op hop).2) (mute_go _ _ _ _) hk (Nat.le_refl t.size) (p := t.size) (q := t.size + 1)
    (x := { g := 0, fn := fn, pos := pos, act := .go j }) (y := { g := j, fn := fn', pos := pos, act := .start })
    (by have := getElem?_app_at (t := t) (u := goOps j fn fn' pos) 0; simpa [goOps] using this) rfl (by rw [getElem?_app_at]; rfl) rfl
    (.spawn (child := j) (by simp only [Trace.act?]; have := getElem?_app_at (t := t) (u := goOps j fn fn' pos) 0; simp only [Nat.add_zero] at this; rw [this]; rfl)
      (by simp only [Trace.act?]; rw [getElem?_app_at]; rfl) (by simp only [Trace.g?]; rw [getElem?_app_at]; rfl))

/-- The operations of a meeting: 'j' sends, goroutine 0 receives. -/
def meetOps (j r k k' cap : Nat) (fj f0 : FuncId) (pj p0 : String) : Trace :=
  #[{ g := j, fn := fj, pos := pj, act := .send r k }, { g := 0, fn := f0, pos := p0, act := .recv r k' cap }, { g := j, fn := fj, pos := pj, act := .sendDone r k }, { g := 0, fn := f0, pos := p0, act := .recvDone r k' }]

theorem mute_meet (j r k k' cap : Nat) (fj f0 : FuncId) (pj p0 : String) : Mute (meetOps j r k k' cap fj f0 pj p0) := by
  intro op hop
  simp only [meetOps, List.mem_toArray, List.mem_cons, List.not_mem_nil, or_false] at hop
  rcases hop with rfl | rfl | rfl | rfl <;> exact ⟨rfl, fun m hm => by cases hm⟩

theorem meet_knows {t : Trace} {j r k cap i : Nat} {fj f0 : FuncId} {pj p0 : String} (hw : Wordless t) (hk : Knows t j i) : Knows (t ++ meetOps j r k k cap fj f0 pj p0) 0 i :=
  knows_edge (hw.append fun op hop => (mute_meet j r k k cap fj f0 pj p0 op hop).2) hk (Nat.le_refl t.size) (p := t.size) (q := t.size + 3)
    (x := { g := j, fn := fj, pos := pj, act := .send r k }) (y := { g := 0, fn := f0, pos := p0, act := .recvDone r k })
    (by have := getElem?_app_at (t := t) (u := meetOps j r k k cap fj f0 pj p0) 0; simpa [meetOps] using this) rfl (by rw [getElem?_app_at]; rfl) rfl
    (.handOver (c := r) (k := k) (by simp only [Trace.act?]; have := getElem?_app_at (t := t) (u := meetOps j r k k cap fj f0 pj p0) 0; simp only [Nat.add_zero] at this; rw [this]; rfl)
      (by simp only [Trace.act?]; rw [getElem?_app_at]; rfl))
end Go.Mac

/-! MacV -/
/- MacV: a communication of the machine of many goroutines: whoever receives, of several that send. No program is in sight. -/
namespace Go.Mac
open Go Go.Conc

theorem choose_run {P : Program} {q : Question} {N : Nat} (hN : 0 < N) (hf : q.forced = true → 0 < N) (hc : ∀ t, q.cut t < N) (w : World) : ∃ n d, n < N ∧ (choose q).run P w = .ok n (w.at d) := by
  by_cases h : q.forced = true
  · exact ⟨0, w.drawn, hN, by simp [choose, Sem.run, h, World.at]⟩
  · exact ⟨q.cut (w.tape w.drawn q), w.drawn + 1, hc _, by simp [choose, Sem.run, h, World.at]⟩

theorem choose_select {P : Program} {N : Nat} (hN : 0 < N) (w : World) : ∃ n d, n < N ∧ (choose (.select N)).run P w = .ok n (w.at d) :=
  choose_run hN (fun _ => hN) (fun t => by simp only [Question.cut]; exact Nat.mod_lt _ hN) w
theorem choose_extern {P : Program} {N : Nat} {s : String} (hN : 0 < N) (w : World) : ∃ n d, n < N ∧ (choose (.extern s N)).run P w = .ok n (w.at d) :=
  choose_run hN (fun _ => hN) (fun t => by simp only [Question.cut]; rw [if_neg (by omega)]; exact Nat.mod_lt _ hN) w

theorem run_bind' {P : Program} {α β : Type} {s : Sem α} {f : α → Sem β} {w w' : World} {a : α} (h : s.run P w = .ok a w') : (s >>= f).run P w = (f a).run P w' := by
  rw [Sem.run_bind, h]
  rfl

theorem pick_ok {P : Program} (L : List (Nat × CommCase × List Way)) (hne : L ≠ []) (hws : ∀ x ∈ L, x.2.2 ≠ []) (w : World) :
    ∃ k c way ws d, (k, c, ws) ∈ L ∧ way ∈ ws ∧ (do
      let a ← choose (.select L.length)
      let (k, c, ws) := L.getD a (0, default, [])
      let b ← choose (.extern "which waiting goroutine is the partner" ws.length)
      pure (k, c, ws.getD b .closed) : Sem (Nat × CommCase × Way)).run P w = .ok (k, c, way) (w.at d) := by
  obtain ⟨a, d, ha, hr⟩ := choose_select (P := P) (List.length_pos_iff.2 hne) w
  have hLa : L[a]? = some L[a] := by simp [ha]
  obtain ⟨b, d', hb, hr'⟩ := choose_extern (P := P) (s := "which waiting goroutine is the partner") (List.length_pos_iff.2 (hws _ (List.getElem_mem ha))) (w.at d)
  refine ⟨L[a].1, L[a].2.1, L[a].2.2[b], L[a].2.2, d', List.getElem_mem ha, List.getElem_mem hb, ?_⟩
  rw [run_bind' hr]
  have hg : L.getD a (0, default, []) = L[a] := by simp [List.getD, hLa]
  rw [hg]
  show ((choose (.extern "which waiting goroutine is the partner" L[a].2.2.length)) >>= fun b => (pure (L[a].1, L[a].2.1, L[a].2.2.getD b .closed) : Sem (Nat × CommCase × Way))).run P (w.at d) = _
  rw [run_bind' hr']
  have hg2 : L[a].2.2.getD b .closed = L[a].2.2[b] := by simp [List.getD, hb]
  rw [hg2]
  rfl

/-- Several that send are parked: whoever receives meets one of them. -/
theorem sel_recv_any {P : Program} {gs : Array Goroutine} {w w1 : World} {sl : Option (Nat × Nat)} {i : Nat} {g g2 : Goroutine} {es : Array Event} {cases : Array CommCase} {shape : CommShape}
    (hi : gs[i]? = some g) (h : stepG P (i == 0) g w = .comm g2 cases true shape w1 es) (hopen : ∀ cc ∈ cases, ∃ r z, cc = rcase r z ∧ OpenChan w1 r)
    (hpart : ∀ r j k, (j, k) ∈ partners (gs.setIfInBounds i ph) r true → k = 0 ∧ j ≠ i ∧ ∃ gj vj zj, gs[j]? = some (parked gj #[scase r vj zj] .send))
    (hsome : ∃ cc ∈ cases, ways w1 (gs.setIfInBounds i ph) cc ≠ []) :
    ∃ (k r : Nat) (z : Value) (j : Nat) (gj : Goroutine) (vj zj : Value) (a d : Nat), cases[k]? = some (rcase r z) ∧ j ≠ i ∧ gs[j]? = some (parked gj #[scase r vj zj] .send) ∧ w1.heap[r]? = some (.chan 0 #[] false a a false) ∧
      runT P (crowd gs w sl) i = (.next (crowd ((gs.setIfInBounds j (gj.finishComm P #[scase r vj zj] .send 0 undef false)).setIfInBounds i (g2.finishComm P cases shape k vj true)) ((w1.at d).setChan r 0 #[] false (a + 1) (a + 1) false) sl),
        MemOp.ofEvents i g.frame.fn g.frame.place es ++ #[{ g := j, fn := gj.frame.fn, pos := gj.frame.place, act := .send r a }, { g := i, fn := g2.frame.fn, pos := g2.frame.place, act := .recv r a 0 },
          { g := j, fn := gj.frame.fn, pos := gj.frame.place, act := .sendDone r a }, { g := i, fn := g2.frame.fn, pos := g2.frame.place, act := .recvDone r a }]) := by
  have hill : cases.any (illMade w1) = false := any_ill fun cc hcc => by
    obtain ⟨r, z, rfl, a, ha⟩ := hopen cc hcc
    exact made_recv z ha
  generalize hL : ((cases.zipIdx.toList.map fun (c, k) => (k, c, ways w1 (gs.setIfInBounds i ph) c)).filter fun (_, _, ws) => !ws.isEmpty) = L
  have hmem : ∀ k c ws, (k, c, ws) ∈ L → cases[k]? = some c ∧ ws = ways w1 (gs.setIfInBounds i ph) c ∧ ws ≠ [] := by
    intro k c ws hm
    rw [← hL] at hm
    obtain ⟨hm, hne⟩ := List.mem_filter.1 hm
    simp only [List.mem_map, Prod.mk.injEq, Prod.exists] at hm
    obtain ⟨c', k', hm', rfl, rfl, rfl⟩ := hm
    have := Array.mem_zipIdx_iff_getElem?.1 (Array.mem_toList_iff.1 hm')
    exact ⟨by simpa using this, rfl, by simpa using hne⟩
  have hne : L ≠ [] := by
    obtain ⟨cc, hcc, hw⟩ := hsome
    obtain ⟨k, hk⟩ := Array.getElem?_of_mem hcc
    have : (k, cc, ways w1 (gs.setIfInBounds i ph) cc) ∈ L := by
      rw [← hL]
      refine List.mem_filter.2 ⟨List.mem_map.2 ⟨(cc, k), ?_, rfl⟩, by simpa using hw⟩
      exact Array.mem_toList_iff.2 (Array.mem_zipIdx_iff_getElem?.2 (by simpa using hk))
    intro e
    rw [e] at this
    cases this
  obtain ⟨k, c, way, ws, d, hk, hway, hrun⟩ := pick_ok (P := P) L hne (fun x hx => (hmem x.1 x.2.1 x.2.2 hx).2.2) w1
  obtain ⟨hck, hws, _⟩ := hmem k c ws hk
  obtain ⟨r, z, rfl, a, ha⟩ := hopen c (Array.mem_of_getElem? hck)
  have hway' : ∃ j hk', (j, hk') ∈ partners (gs.setIfInBounds i ph) r true ∧ way = .partner j hk' := by
    rw [hws] at hway
    simp only [ways, rcase, ha] at hway
    simp only [Array.size_empty, gt_iff_lt, Nat.lt_irrefl, if_false] at hway
    split at hway
    · simp at hway
    · rename_i ps _ _
      obtain ⟨⟨j, k'⟩, hm, rfl⟩ := List.mem_map.1 hway
      exact ⟨j, k', hm, rfl⟩
  obtain ⟨j, k', hp, rfl⟩ := hway'
  obtain ⟨rfl, hij, gj, vj, zj, hj⟩ := hpart r j k' hp
  refine ⟨k, r, z, j, gj, vj, zj, a, d, hck, hij, hj, ha, ?_⟩
  rw [runT_crowd_comm hi h]
  have hj' := stand_get (i := i) hij hj
  have hfp := finishPartner_at P (gs.setIfInBounds i ph) hj' (cs := #[scase r vj zj]) (sh := .send) rfl 0 undef
  have hgd : (gs.setIfInBounds i ph).getD j default = parked gj #[scase r vj zj] .send := by rw [Array.getD_eq_getD_getElem?, hj']; rfl
  have hov : offeredValue (gs.setIfInBounds i ph) j 0 = vj := by simp [offeredValue, hj', parked, scase]
  have hLe : L.isEmpty = false := by cases L with | nil => exact absurd rfl hne | cons _ _ => rfl
  unfold communicate
  simp only [hL, hLe, Bool.false_eq_true, if_false]
  rw [if_neg (by rw [Bool.not_eq_true]; exact hill)]
  have hrun' := hrun
  simp only [hrun', rcase]
  have hat : (w1.at d).heap[r]? = some (.chan 0 #[] false a a false) := ha
  simp only [hat, hov, hfp, hgd, set_stand2]
  simp [World.setChan, crowd, parked, scase, World.at]
  rfl
end Go.Mac

/-! MacC -/
/- MacC: the abstract state of a frame, its relation to the model's, and the judgement 'WPI' on a piece of a frame's work, with the rules of control. No program is in sight. -/
namespace Go.Mac
open Go Go.Conc

/-- Abstract blocks. -/
inductive Blk where
  | cells (gen : Nat) (cs : List AV)
  | map (ks vs : List AV)
  | loop (st : LoopState) (pend : Option Code) (fn : FuncId) (slots : List AV) (params : Array Tmp) (assign body : Code)
  | defd
  | iter (s : List UInt8) (pos : Nat)
  | chan (gen : Nat)
  | role (main : Bool)
  | dead
  deriving Inhabited

/-- Abstract deferred calls: a call, or a loop's block for the calls that its rounds defer. -/
inductive ADef where
  | call (f : Fn) (cap args : List AV)
  | mark (n : Nm)

def DR (c : Cx) : ADef → Deferred → Prop
  | .call f cap args, d => ∃ l1 l2, d = { target := .fn f l1.toArray, args := l2.toArray } ∧ VRL c cap l1 ∧ VRL c args l2
  | .mark n, d => c.At n fun s => ∃ b k, s = some (b, k) ∧ d = { target := .collected b, args := #[] }

def DRL (c : Cx) : List ADef → List Deferred → Prop
  | [], l => l = []
  | a :: as, l => ∃ d ds, l = d :: ds ∧ DR c a d ∧ DRL c as ds

/-- What I am going to send, what others are going to send. -/
structure Gst where
  out : List (Nm × Value) := []
  todo : List (List (Nm × Value)) := []

def MR (c : Cx) : List (Nm × Value) → List (Nat × Value) → Prop
  | [], l => l = []
  | m :: ms, l => ∃ r l', l = (r, m.2) :: l' ∧ c.At m.1 (fun s => ∃ k, s = some (r, k)) ∧ MR c ms l'
def MRL (c : Cx) : List (List (Nm × Value)) → List (List (Nat × Value)) → Prop
  | [], l => l = []
  | m :: ms, l => ∃ x l', l = x :: l' ∧ MR c m x ∧ MRL c ms l'

theorem MR.ext {c c' : Cx} (x : Ext c c') : ∀ {ms : List (Nm × Value)} {l : List (Nat × Value)}, MR c ms l → MR c' ms l
  | [], _, h => h
  | _ :: _, _, ⟨r, l', e, h1, h2⟩ => ⟨r, l', e, h1.ext x, MR.ext x h2⟩
theorem MRL.ext {c c' : Cx} (x : Ext c c') : ∀ {ms : List (List (Nm × Value))} {l : List (List (Nat × Value))}, MRL c ms l → MRL c' ms l
  | [], _, h => h
  | _ :: _, _, ⟨r, l', e, h1, h2⟩ => ⟨r, l', e, h1.ext x, MRL.ext x h2⟩

/-- .. in its place. -/
structure CR (base : List (Nat × Value)) (c : Cx) (s : Gst) : Prop where
  out : ∃ M, c.com.out = M ++ base ∧ MR c s.out M
  todo : MRL c s.todo c.com.todo

theorem CR.ext {base : List (Nat × Value)} {c c' : Cx} {s : Gst} (h : CR base c s) (x : Ext c c') (e1 : c'.com.out = c.com.out) (e2 : c'.com.todo = c.com.todo) : CR base c' s where
  out := by obtain ⟨M, h1, h2⟩ := h.out; exact ⟨M, by rw [e1]; exact h1, h2.ext x⟩
  todo := by rw [e2]; exact h.todo.ext x

/-- The abstract state of a frame: its temporaries, its deferred calls, the blocks. -/
structure AS where
  sl : List AV
  df : List ADef
  hp : List Blk
  gh : Gst := {}

/-- An abstract block in its place. -/
def BR (c : Cx) (w : World) (e : Ent) : Blk → Prop
  | .dead => True
  | .cells g cs => e.gen = g ∧ ((e.seat = none ∧ cs = []) ∨ ∃ b k arr el l, e.seat = some (b, k) ∧ c.mine b ∧ w.heap[b]? = some (.cells arr el (0, 0)) ∧ arr.size = k ∧ VRL c cs l ∧ l <+: arr.toList)
  | .map ks vs => e.gen = 0 ∧ ∃ b k ents clk, e.seat = some (b, k) ∧ c.mine b ∧ w.heap[b]? = some (.map ents clk) ∧ VRL c ks (ents.toList.map (·.key)) ∧ VRL c vs (ents.toList.map (·.val))
  | .loop st pend fn slots params assign body => e.gen = 0 ∧ ∃ b k tm d, e.seat = some (b, k) ∧ c.mine b ∧
      w.heap[b]? = some (.loop { state := st, pending := pend, fn, tmps := tm, params, assign, body, defers := d }) ∧ VRL c slots tm.toList
  | .defd => e.gen = 0 ∧ ∃ b k, e.seat = some (b, k) ∧ c.mine b ∧ w.heap[b]? = some (.deferred (some []))
  | .iter s pos => e.gen = 0 ∧ ∃ b k, e.seat = some (b, k) ∧ c.mine b ∧ w.heap[b]? = some (.stringIter ⟨s.toArray⟩ pos)
  | .chan g => e.gen = g ∧ ∃ b k, e.seat = some (b, k) ∧ c.com.chans b
  | .role m => c.com.main = m

def Blk.live : Blk → Bool
  | .dead | .role _ => false
  | _ => true

/-- The blocks. -/
structure HR (c : Cx) (w : World) (h : List Blk) : Prop where
  len : h.length = c.own.length
  blk : ∀ (i : Nat) (e : Ent) (b : Blk), c.own[i]? = some e → h[i]? = some b → BR c w e b
  apart : ∀ (i j : Nat) (ei ej : Ent) (bi bj : Blk) (x y : Nat × Nat), i ≠ j → c.own[i]? = some ei → c.own[j]? = some ej → h[i]? = some bi → h[j]? = some bj →
    bi.live = true → bj.live = true → ei.seat = some x → ej.seat = some y → x.1 ≠ y.1
  mine : ∀ b, c.mine b → b < w.heap.size
  imm : ∀ b o, c.imm b = some o → ¬ c.mine b ∧ w.heap[b]? = some o
  chan : ∀ r, c.com.chans r → ¬ c.mine r ∧ c.imm r = none ∧ OpenChan w r

/-- The whole state. -/
structure SR (base : List (Nat × Value)) (c : Cx) (w : World) (s : AS) (tmps : Array Value) (ds : List Deferred) : Prop where
  sl : VRL c s.sl tmps.toList
  df : DRL c s.df ds
  hp : HR c w s.hp
  gh : CR base c s.gh

theorem DR.ext {c c' : Cx} (x : Ext c c') {a : ADef} {d : Deferred} (h : DR c a d) : DR c' a d := by
  cases a with
  | call f cap args => obtain ⟨l1, l2, e, h1, h2⟩ := h; exact ⟨l1, l2, e, h1.ext x, h2.ext x⟩
  | mark n =>
    have h' : c.At n fun s => ∃ b k, s = some (b, k) ∧ d = { target := .collected b, args := #[] } := h
    exact h'.ext x
theorem DRL.ext {c c' : Cx} (x : Ext c c') : ∀ {as : List ADef} {ds : List Deferred}, DRL c as ds → DRL c' as ds
  | [], _, h => h
  | _ :: _, _, h => by obtain ⟨d, ds, e, h1, h2⟩ := h; exact ⟨d, ds, e, h1.ext x, DRL.ext x h2⟩

theorem BR.rely {c : Cx} {w w1 : World} (r : RL c w w1) {e : Ent} {b : Blk} (h : BR c w e b) : BR c w1 e b := by
  cases b with
  | dead => trivial
  | cells g cs =>
    obtain ⟨h0, h1 | ⟨b, k, arr, el, l, h1, h2, h3, h4⟩⟩ := h
    · exact ⟨h0, .inl h1⟩
    · exact ⟨h0, .inr ⟨b, k, arr, el, l, h1, h2, by rw [r.mine b h2]; exact h3, h4⟩⟩
  | map ks vs => obtain ⟨h0, b, k, ents, clk, h1, h2, h3, h4⟩ := h; exact ⟨h0, b, k, ents, clk, h1, h2, by rw [r.mine b h2]; exact h3, h4⟩
  | loop st pend fn slots params assign body => obtain ⟨h0, b, k, tm, d, h1, h2, h3, h4⟩ := h; exact ⟨h0, b, k, tm, d, h1, h2, by rw [r.mine b h2]; exact h3, h4⟩
  | defd => obtain ⟨h0, b, k, h1, h2, h3⟩ := h; exact ⟨h0, b, k, h1, h2, by rw [r.mine b h2]; exact h3⟩
  | iter s pos => obtain ⟨h0, b, k, h1, h2, h3⟩ := h; exact ⟨h0, b, k, h1, h2, by rw [r.mine b h2]; exact h3⟩
  | chan g => exact h
  | role m => exact h

theorem HR.rely {c : Cx} {w w1 : World} (r : RL c w w1) {h : List Blk} (x : HR c w h) : HR c w1 h where
  len := x.len
  blk i e b h1 h2 := (x.blk i e b h1 h2).rely r
  apart := x.apart
  mine b hb := Nat.lt_of_lt_of_le (x.mine b hb) r.size
  imm b o hb := ⟨(x.imm b o hb).1, by rw [r.imm b (by rw [hb]; rfl)]; exact (x.imm b o hb).2⟩
  chan y hy := ⟨(x.chan y hy).1, (x.chan y hy).2.1, r.chans y hy (x.chan y hy).2.2⟩

theorem OpenChan.lt {w : World} {r : Nat} (h : OpenChan w r) : r < w.heap.size := by
  obtain ⟨a, h⟩ := h
  exact (Array.getElem?_eq_some_iff.1 h).1

theorem HR.low {c : Cx} {w : World} {h : List Blk} (x : HR c w h) {b : Nat} (hb : c.mine b ∨ (c.imm b).isSome = true) : b < w.heap.size := by
  rcases hb with hb | hb
  · exact x.mine b hb
  · obtain ⟨o, ho⟩ := Option.isSome_iff_exists.1 hb
    exact (Array.getElem?_eq_some_iff.1 (x.imm b o ho).2).1

theorem SR.rely {base : List (Nat × Value)} {c : Cx} {w w1 : World} (r : RL c w w1) {s : AS} {tmps : Array Value} {ds : List Deferred} (x : SR base c w s tmps ds) : SR base c w1 s tmps ds := ⟨x.sl, x.df, x.hp.rely r, x.gh⟩

/-- A frame at a place of its work. -/
def at' (b : Frame) (tmps : Array Value) (ds : List Deferred) (todo : List Item) : Frame := { b with tmps := tmps, defers := ds, todo := todo, mode := .run }

/-- How a piece of work is left. -/
inductive AExit where
  | normal
  | exit (id : Nat)
  | goto (l : Nat)
  | ret
  | panic (v : AV)
  deriving Inhabited

section
variable (P : Program) (main : Bool) (Stop : Cx → Goroutine → World → Prop)

/-- What is asked at a way out. -/
def Cont (b : Frame) (cs : List Frame) (k : List Item) (c : Cx) (w : World) (tmps : Array Value) (ds : List Deferred) : AExit → Prop
  | .normal => Go' P main Stop c (G (at' b tmps ds k) cs) w
  | .exit id => ∀ k', exitTo id k' = exitTo id k → Go' P main Stop c (G (at' b tmps ds (.code (.exit id) :: k')) cs) w
  | .goto l => ∀ k', gotoIn l k' = gotoIn l k → Go' P main Stop c (G (at' b tmps ds (.code (.goto l) :: k')) cs) w
  | .ret => ∀ k', Go' P main Stop c (G (at' b tmps ds (.code .ret :: k')) cs) w
  | .panic v => ∀ V todo, VR c v V → Go' P main Stop c (G { at' b tmps ds todo with mode := .panicking [{ v := V, recovered := false }] } cs) w
end

/-- Which function a frame is of, whether it is a round of a loop over a function, and how many names must be kept. -/
structure FK where
  fn : FuncId
  rnd : Bool
  low : Nat

def Fits (b : Frame) (k : FK) : Prop := b.fn = k.fn ∧ (k.rnd = false → b.roundOf = none)

/-- ████ A piece of a frame's work 'its', from the abstract state 's': it is left only in ways that satisfy 'Q'. ████ -/
def WPI (P : Program) (fn : FK) (its : List Item) (Q : AExit → AS → Prop) (s : AS) : Prop :=
  ∀ (main : Bool) (Stop : Cx → Goroutine → World → Prop) (b : Frame) (k : List Item) (cs : List Frame) (base : List (Nat × Value)) (c : Cx) (w : World) (tmps : Array Value) (ds : List Deferred),
    Fits b fn → b.kind ≠ .early → SR base c w s tmps ds →
    (∀ e s' c' w' tmps' ds', Q e s' → SR base c' w' s' tmps' ds' → Ext (c.take fn.low) c' → Cont P main Stop b cs k c' w' tmps' ds' e) →
    Go' P main Stop c (G (at' b tmps ds (its ++ k)) cs) w

section
variable {P : Program} {fn : FK} {Q Q' : AExit → AS → Prop} {s : AS} {its its' : List Item}

theorem WPI.mono (h : WPI P fn its Q s) (hq : ∀ e s, Q e s → Q' e s) : WPI P fn its Q' s :=
  fun main Stop b k cs base c w tmps ds h1 h2 h3 h4 => h main Stop b k cs base c w tmps ds h1 h2 h3 fun e s' c' w' tmps' ds' q => h4 e s' c' w' tmps' ds' (hq _ _ q)

theorem WPI.nil (h : Q .normal s) : WPI P fn [] Q s :=
  fun _ _ _ _ _ _ c w tmps ds _ _ h3 h4 => h4 .normal s c w tmps ds h h3 (.reflT c _)

/-- One step that looks at nothing but the temporaries. -/
theorem WPI.idle {it : Item} (its' : List Item)
    (hst : ∀ (main : Bool) (b : Frame) (k : List Item) (cs : List Frame) (c : Cx) (tmps : Array Value) (ds : List Deferred) (w : World), VRL c s.sl tmps.toList →
      stepG P main (G (at' b tmps ds (it :: k)) cs) w = .go (G (at' b tmps ds (its' ++ k)) cs) w #[])
    (h : WPI P fn (its' ++ its) Q s) : WPI P fn (it :: its) Q s := by
  intro main Stop b k cs base c w tmps ds h1 h2 h3 h4
  have := h main Stop b k cs base c w tmps ds h1 h2 h3 h4
  rw [List.append_assoc] at this
  exact Go'.idle rfl rfl (fun w1 => hst main b _ cs c tmps ds w1 h3.sl) this

/-- Items that an exit and a goto pass by. -/
def passed : Item → Bool
  | .inBlock _ | .inScope _ => false
  | _ => true

theorem Cont.pass {main : Bool} {Stop : Cx → Goroutine → World → Prop} {b : Frame} {cs : List Frame} {k : List Item} {c : Cx} {w : World} {tmps : Array Value} {ds : List Deferred} {e : AExit} {it : Item}
    (hp : passed it = true) (he : e ≠ .normal) (h : Cont P main Stop b cs k c w tmps ds e) : Cont P main Stop b cs (it :: k) c w tmps ds e := by
  cases e with
  | normal => exact absurd rfl he
  | exit id => exact fun k' hk => h k' (by rw [hk]; cases it <;> simp_all [exitTo, passed])
  | goto l => exact fun k' hk => h k' (by rw [hk]; cases it <;> simp_all [gotoIn, passed])
  | ret => exact h
  | panic v => exact h

/-- What is asked behind a first piece. -/
def andThen (Q Q' : AExit → AS → Prop) : AExit → AS → Prop
  | .normal, s => Q .normal s
  | e, s => Q' e s

theorem WPI.cons {it : Item} {x : Item} (hp : passed x = true) (h : WPI P fn [it] (fun e s => match e with | .normal => WPI P fn [x] Q s | e => Q e s) s) : WPI P fn [it, x] Q s := by
  intro main Stop b k cs base c w tmps ds h1 h2 h3 h4
  refine h main Stop b (x :: k) cs base c w tmps ds h1 h2 h3 fun e s' c' w' tmps' ds' q r y => ?_
  cases e with
  | normal => exact q main Stop b k cs base c' w' tmps' ds' h1 h2 r fun e s2 c2 w2 t2 d2 q2 r2 y2 => h4 e s2 c2 w2 t2 d2 q2 r2 (y.transT y2)
  | exit id => exact (h4 _ s' c' w' tmps' ds' q r y).pass hp (by simp)
  | goto l => exact (h4 _ s' c' w' tmps' ds' q r y).pass hp (by simp)
  | ret => exact (h4 _ s' c' w' tmps' ds' q r y).pass hp (by simp)
  | panic v => exact (h4 _ s' c' w' tmps' ds' q r y).pass hp (by simp)

abbrev WP (P : Program) (fn : FK) (cd : Code) (Q : AExit → AS → Prop) (s : AS) : Prop := WPI P fn [.code cd] Q s

theorem WP.skip (h : Q .normal s) : WP P fn .skip Q s :=
  WPI.idle [] (fun _ _ _ _ _ _ _ _ _ => by simp [G, stepG, stepG.exec, at']) (WPI.nil h)
theorem WP.label {l : Nat} (h : Q .normal s) : WP P fn (.label l) Q s :=
  WPI.idle [] (fun _ _ _ _ _ _ _ _ _ => by simp [G, stepG, stepG.exec, at']) (WPI.nil h)

theorem WP.seq {a b : Code} (h : WP P fn a (fun e s => match e with | .normal => WP P fn b Q s | e => Q e s) s) : WP P fn (.seq a b) Q s :=
  WPI.idle [.code a, .code b] (fun _ _ _ _ _ _ _ _ _ => by simp [G, stepG, stepG.exec, at']) (WPI.cons rfl h)

/-- What is asked within a block. -/
def blockQ (id : Nat) (Q : AExit → AS → Prop) : AExit → AS → Prop
  | .exit id', s => if id' = id then Q .normal s else Q (.exit id') s
  | e, s => Q e s

theorem WP.block {id : Nat} {a : Code} (h : WP P fn a (blockQ id Q) s) : WP P fn (.block id a) Q s := by
  refine WPI.idle [.code a, .inBlock id] (fun _ _ _ _ _ _ _ _ _ => by simp [G, stepG, stepG.exec, at']) ?_
  intro main Stop b k cs base c w tmps ds h1 h2 h3 h4
  refine h main Stop b (.inBlock id :: k) cs base c w tmps ds h1 h2 h3 fun e s' c' w' tmps' ds' q r y => ?_
  cases e with
  | normal => exact Go'.idle rfl rfl (fun w1 => by simp [G, stepG, stepG.exec, at']) (h4 .normal s' c' w' tmps' ds' q r y)
  | exit id' =>
    intro k' hk
    simp only [blockQ] at q
    by_cases hid : id' = id
    · subst hid
      have q' : Q .normal s' := by simpa using q
      have hx : exitTo id' k' = some k := by rw [hk]; simp [exitTo]
      exact Go'.idle rfl rfl (fun w1 => by simp [G, stepG, stepG.exec, at', hx]) (h4 .normal s' c' w' tmps' ds' q' r y)
    · have q' : Q (.exit id') s' := by simpa [hid] using q
      exact h4 _ s' c' w' tmps' ds' q' r y k' (by rw [hk]; simp [exitTo]; intro h; exact absurd h.symm hid)
  | goto l =>
    have x := h4 (.goto l) s' c' w' tmps' ds' q r y
    exact fun k' hk => x k' (by rw [hk]; simp [gotoIn])
  | ret => exact h4 .ret s' c' w' tmps' ds' q r y
  | panic v => exact h4 (.panic v) s' c' w' tmps' ds' q r y

theorem WP.exit {id : Nat} (h : Q (.exit id) s) : WP P fn (.exit id) Q s :=
  fun _ _ _ k _ _ c w tmps ds _ _ h3 h4 => h4 _ s c w tmps ds h h3 (.reflT c _) k rfl
theorem WP.goto {l : Nat} (h : Q (.goto l) s) : WP P fn (.goto l) Q s :=
  fun _ _ _ k _ _ c w tmps ds _ _ h3 h4 => h4 _ s c w tmps ds h h3 (.reflT c _) k rfl
theorem WP.ret (h : Q .ret s) : WP P fn .ret Q s :=
  fun _ _ _ k _ _ c w tmps ds _ _ h3 h4 => h4 _ s c w tmps ds h h3 (.reflT c _) k

/-- A loop, by an invariant and a measure. -/
theorem WP.loop {body : Code} (I : AS → Prop) (μ : AS → Nat) (h0 : I s)
    (h : ∀ s, I s → WP P fn body (fun e s' => match e with | .normal => I s' ∧ μ s' < μ s | e => Q e s') s) : WP P fn (.loop body) Q s := by
  have key : ∀ n s, μ s < n → I s → WPI P fn [.inLoop body] Q s := by
    intro n
    induction n with
    | zero => intro s hn; exact absurd hn (Nat.not_lt_zero _)
    | succ n ih =>
      intro s hn hs
      refine WPI.idle [.code body, .inLoop body] (fun _ _ _ _ _ _ _ _ _ => by simp [G, stepG, stepG.exec, at']) (WPI.cons rfl ((h s hs).mono fun e s' q => ?_))
      cases e with
      | normal => exact ih s' (by have := q.2; omega) q.1
      | exit id => exact q
      | goto l => exact q
      | ret => exact q
      | panic v => exact q
  have := key (μ s + 1) s (by omega) h0
  refine WPI.idle [.code body, .inLoop body] (fun _ _ _ _ _ _ _ _ _ => by simp [G, stepG, stepG.exec, at']) (WPI.cons rfl ((h s h0).mono fun e s' q => ?_))
  cases e with
  | normal => exact key (μ s' + 1) s' (by omega) q.1
  | exit id => exact q
  | goto l => exact q
  | ret => exact q
  | panic v => exact q

/-- What an operand is. -/
def constA : Value → AV
  | .bool b => .bool b
  | .int k n => .int k n
  | .string s => .str s.data.toList
  | .pointer none => .nilptr
  | .slice none 0 0 => .nilsl
  | .map none => .nilmap
  | .nilFunc => .nilfn
  | .nilIface => .niliface
  | .func f first cap => if first.isEmpty && cap.isEmpty then .fn f [] [] else .any
  | .agg cs => if cs.isEmpty then .agg [] else .any
  | .tuple cs => if cs.isEmpty then .tup [] else .any
  | _ => .any

def evA (sl : List AV) : Operand → AV
  | .tmp t => sl.getD t .any
  | .const v => constA v
  | .global _ => .any
  | .func f => .fn (.func f) [] []

theorem VR_constA (c : Cx) (v : Value) : VR c (constA v) v := by
  cases v <;> simp only [constA] <;> try (first | rfl | trivial)
  case pointer a => cases a <;> first | rfl | trivial
  case slice a l k =>
    cases a with
    | none => rcases l with _ | l <;> rcases k with _ | k <;> first | rfl | trivial
    | some a => trivial
  case map a => cases a <;> first | rfl | trivial
  case func f first cap =>
    split
    · rename_i h
      simp at h
      exact ⟨[], [], by rw [h.1, h.2], rfl, rfl⟩
    · trivial
  case agg cs =>
    split
    · rename_i h; simp at h; exact ⟨[], by rw [h], rfl⟩
    · trivial
  case tuple cs =>
    split
    · rename_i h; simp at h; exact ⟨[], by rw [h], rfl⟩
    · trivial

theorem VR_evA {c : Cx} {sl : List AV} {tmps : Array Value} (h : VRL c sl tmps.toList) (b : Frame) (ds : List Deferred) (todo : List Item) (x : Operand) :
    VR c (evA sl x) ((at' b tmps ds todo).eval x) := by
  cases x with
  | tmp t =>
    simp only [evA, Frame.eval, at']
    cases ht : sl[t]? with
    | none => simp [List.getD, ht, VR]
    | some a =>
      obtain ⟨v, hv, hr⟩ := h.get ht
      have : tmps[t]? = some v := by simpa using hv
      simp [List.getD, ht, Array.getD_eq_getD_getElem?, this, hr]
  | const v => exact VR_constA c v
  | global g => trivial
  | func f => exact ⟨[], [], rfl, rfl, rfl⟩

theorem WP.cond {x : Operand} {a b : Code} {t : Bool} (ht : evA s.sl x = .bool t) (h1 : t = true → WP P fn a Q s) (h2 : t = false → WP P fn b Q s) : WP P fn (.cond x a b) Q s := by
  refine WPI.idle [.code (if t then a else b)] (fun main b' k cs c tmps ds w hs => ?_) ?_
  · have := VR_evA hs b' ds (.code (.cond x a b) :: k) x
    rw [ht] at this
    have e : (at' b' tmps ds (.code (.cond x a b) :: k)).eval x = .bool t := this
    simp only [at'] at e
    simp [G, stepG, stepG.exec, at', e]
  · cases t
    · exact h2 rfl
    · exact h1 rfl

theorem WP.region {id : Nat} {ops : Array Oper} (h : WPI P fn [.inRegion ops (List.range ops.size)] Q s) : WP P fn (.region id ops false) Q s :=
  WPI.idle [.inRegion ops (List.range ops.size)] (fun _ _ _ _ _ _ _ _ _ => by simp [G, stepG, stepG.exec, at']) h

theorem WPI.region_end {ops : Array Oper} (h : Q .normal s) : WPI P fn [.inRegion ops []] Q s :=
  WPI.idle [] (fun _ _ _ _ _ _ _ _ _ => by simp [G, stepG, stepG.exec, at']) (WPI.nil h)

end
end Go.Mac

/-! MacW -/
/- MacW: the machine of many goroutines: its invariant, and that it comes to a good end. No program is in sight. -/
namespace Go.Mac
open Go Go.Conc

/-- The run from this machine ends well. -/
def Runs (P : Program) (Post : Value → World → Prop) (m : Machine) (t : Trace) : Prop :=
  ∃ M last o w' t', runNT P (M + 1) m t = (.ended o w', t') ∧ runN P M m = .next last ∧ step P last = .ended o w' ∧ Conc.Good P Post last o w' t'

theorem Runs.more {P : Program} {Post : Value → World → Prop} {m m' : Machine} {t : Trace} {ops : Array MemOp} (h : stepT P m = (.next m', ops)) (hr : Runs P Post m' (t ++ ops)) : Runs P Post m t := by
  obtain ⟨M, last, o, w', t', h1, h2, h3, h4⟩ := hr
  refine ⟨M + 1, last, o, w', t', ?_, ?_, h3, h4⟩
  · show (match stepT P m with
      | (.next m, ops) => runNT P (M + 1) m (t ++ ops)
      | (e, ops) => (e, t ++ ops)) = _
    rw [h]
    exact h1
  · show (match Go.step P m with
      | .next m => runN P M m
      | e => e) = _
    have : Go.step P m = .next m' := by simp [Go.step, h]
    rw [this]
    exact h2

theorem Runs.last {P : Program} {Post : Value → World → Prop} {m : Machine} {t : Trace} {ops : Array MemOp} {o : Outcome} {w' : World} (h : stepT P m = (.ended o w', ops)) (hg : Conc.Good P Post m o w' (t ++ ops)) : Runs P Post m t := by
  refine ⟨0, m, o, w', t ++ ops, ?_, rfl, by simp [Go.step, h], hg⟩
  show (match stepT P m with
      | (.next m, ops) => runNT P 0 m (t ++ ops)
      | (e, ops) => (e, t ++ ops)) = _
  rw [h]

/-- How a goroutine that is going to send lies in the machine. -/
def Act {P : Program} (s : WS P) (x : Goroutine) : Prop :=
  match s with
  | ⟨_, g, _, _, false⟩ => x = g
  | ⟨_, _, _, .send (g' := g') (r := r) (v := v) (z := z) _ _ _ _ _ _ _ _ _ _ _ _, true⟩ => x = parked g' #[⟨.chan (some r), some v, z⟩] .send
  | _ => False

/-- What two goroutines hold lies apart. -/
structure Apart (a b : Cx) : Prop where
  mine : ∀ x, a.mine x → ¬ b.mine x
  imm : ∀ x, a.mine x → b.imm x = none
  imm' : ∀ x, b.mine x → a.imm x = none

theorem Apart.symm {a b : Cx} (h : Apart a b) : Apart b a := ⟨fun x h1 h2 => h.mine x h2 h1, h.imm', h.imm⟩

/-- The machine's invariant, but for goroutine 0's own doing. -/
structure MI (P : Program) (gs : Array Goroutine) (w : World) (t : Trace) (c0 : Cx) (w0 : World) (ws : List (WS P)) : Prop where
  size : gs.size = ws.length + 1
  act : ∀ (i : Nat) (s : WS P), ws[i]? = some s → ∃ g, gs[i + 1]? = some g ∧ Act s g
  rel0 : RL c0 w0 w
  rel : ∀ s ∈ ws, RL s.c s.w w
  apart0 : ∀ s ∈ ws, Apart c0 s.c
  apart : ∀ (i j : Nat) (s s' : WS P), i ≠ j → ws[i]? = some s → ws[j]? = some s' → Apart s.c s'.c
  low0 : ∀ b, c0.mine b ∨ (c0.imm b).isSome = true → b < w.heap.size
  low : ∀ s ∈ ws, ∀ b, s.c.mine b ∨ (s.c.imm b).isSome = true → b < w.heap.size
  chans : ∀ r, (c0.com.chans r ∨ ∃ s ∈ ws, s.c.com.chans r) → OpenChan w r ∧ (¬ c0.mine r ∧ c0.imm r = none) ∧ ∀ s ∈ ws, ¬ s.c.mine r ∧ s.c.imm r = none
  todo : c0.com.todo.Perm ((ws.map fun s => s.c.com.out).filter fun o => !o.isEmpty)
  know0 : (∀ b, c0.mine b → KnowsB t 0 b) ∧ ∀ b, (c0.imm b).isSome = true → KnowsW t 0 b
  know : ∀ (i : Nat) (s : WS P), ws[i]? = some s → (∀ b, s.c.mine b → KnowsB t (i + 1) b) ∧ ∀ b, (s.c.imm b).isSome = true → KnowsW t (i + 1) b
  tame : Tame t w.heap.size
  race : ∀ said, ¬ Race said t
  hand : ∀ (i : Nat) (op : MemOp) (a : Touch), t[i]? = some op → op.act.touch? = some a → op.g = 0 ∨ Knows t 0 i ∨ ∃ (k : Nat) (s : WS P), op.g = k + 1 ∧ ws[k]? = some s ∧ s.c.com.out ≠ []

/-- A goroutine ceases to hold something. -/
theorem MI.ghost0 {P : Program} {gs : Array Goroutine} {w : World} {t : Trace} {c0 c0' : Cx} {w0 : World} {ws : List (WS P)} (h : MI P gs w t c0 w0 ws) (g : Gh c0 c0') : MI P gs w t c0' w0 ws where
  size := h.size
  act := h.act
  rel0 := g.rely h.rel0
  rel := h.rel
  apart0 s hs := by
    obtain ⟨a, b, d⟩ := h.apart0 s hs
    refine ⟨fun x hx => a x (g.mine x hx), fun x hx => b x (g.mine x hx), fun x hx => ?_⟩
    cases hi : c0'.imm x with
    | none => rfl
    | some o =>
      rcases g.imm x o hi with h1 | h1
      · rw [d x hx] at h1; cases h1
      · exact absurd hx (a x h1)
  apart := h.apart
  low0 b hb := by
    rcases hb with hb | hb
    · exact h.low0 b (.inl (g.mine b hb))
    · obtain ⟨o, ho⟩ := Option.isSome_iff_exists.1 hb
      rcases g.imm b o ho with h1 | h1
      · exact h.low0 b (.inr (by rw [h1]; rfl))
      · exact h.low0 b (.inl h1)
  low := h.low
  chans r hr := by
    rw [g.com] at hr
    obtain ⟨a, ⟨b, b'⟩, d⟩ := h.chans r hr
    refine ⟨a, ⟨fun q => b (g.mine r q), ?_⟩, d⟩
    cases hi : c0'.imm r with
    | none => rfl
    | some o =>
      rcases g.imm r o hi with h1 | h1
      · rw [b'] at h1; cases h1
      · exact absurd h1 b
  todo := by rw [g.com]; exact h.todo
  know0 := ⟨fun b hb => h.know0.1 b (g.mine b hb), fun b hb => by
    obtain ⟨o, ho⟩ := Option.isSome_iff_exists.1 hb
    rcases g.imm b o ho with h1 | h1
    · exact h.know0.2 b (by rw [h1]; rfl)
    · exact (h.know0.1 b h1).w⟩
  know := h.know
  tame := h.tame
  race := h.race
  hand := h.hand

/-- What a step of one does to what another may rely on. -/
theorem rl_other {a a' b : Cx} {w w' : World} {es : Array Event} (g : Gd a a' w w' es) (h : Apart a b) (hl : ∀ x, b.mine x ∨ (b.imm x).isSome = true → x < w.heap.size) (hc : ∀ r, b.com.chans r → ¬ a.mine r ∧ r < w.heap.size) : RL b w w' where
  size := g.keeps.size
  mine x hx := g.keeps.keep x (hl x (.inl hx)) fun q => h.mine x q hx
  imm x hx := g.keeps.keep x (hl x (.inr hx)) fun q => by have := h.imm x q; rw [this] at hx; cases hx
  os := g.keeps.os
  output := g.keeps.output
  tape := g.keeps.tape
  chans r hr ho := by
    unfold OpenChan
    rw [g.keeps.keep r (hc r hr).2 (hc r hr).1]
    exact ho

/-- What one holds after its own step lies apart from what another holds. -/
theorem apart_step {a a' b : Cx} {w w' : World} {es : Array Event} (g : Gd a a' w w' es) (h : Apart a b) (hl : ∀ x, b.mine x ∨ (b.imm x).isSome = true → x < w.heap.size) : Apart a' b where
  mine x hx hb := by
    rcases g.mine x hx with h1 | h1
    · exact h.mine x h1 hb
    · have := hl x (.inl hb); omega
  imm x hx := by
    rcases g.mine x hx with h1 | h1
    · exact h.imm x h1
    · cases hi : b.imm x with
      | none => rfl
      | some o => have := hl x (.inr (by rw [hi]; rfl)); omega
  imm' x hx := by
    cases hi : a'.imm x with
    | none => rfl
    | some o =>
      rcases g.imm x o hi with h1 | h1 | h1
      · have := h.imm' x hx; rw [this] at h1; cases h1
      · exact absurd hx (h.mine x h1)
      · have := hl x (.inl hx); omega

/-- What one knows after its own step. -/
theorem know_step {a a' : Cx} {w w' : World} {es : Array Event} {t : Trace} {j : Nat} {fn : FuncId} {pos : String} (g : Gd a a' w w' es) (ht : Tame t w.heap.size) (k1 : ∀ b, a.mine b → KnowsB t j b) (k2 : ∀ b, (a.imm b).isSome = true → KnowsW t j b) :
    (∀ b, a'.mine b → KnowsB (t ++ MemOp.ofEvents j fn pos es) j b) ∧ ∀ b, (a'.imm b).isSome = true → KnowsW (t ++ MemOp.ofEvents j fn pos es) j b := by
  have hf := fits_of (j := j) (fn := fn) (pos := pos) g.evs
  have own : ∀ op ∈ MemOp.ofEvents j fn pos es, op.g = j := fun op hop => (hf op hop).1
  refine ⟨fun b hb => ?_, fun b hb => ?_⟩
  · rcases g.mine b hb with h1 | h1
    · exact (k1 b h1).app fun op hop _ _ _ => own op hop
    · exact (KnowsB.fresh ht h1).app fun op hop _ _ _ => own op hop
  · obtain ⟨o, ho⟩ := Option.isSome_iff_exists.1 hb
    rcases g.imm b o ho with h1 | h1 | h1
    · exact (k2 b (by rw [h1]; rfl)).app fun op hop _ _ _ _ => own op hop
    · exact ((k1 b h1).app fun op hop _ _ _ => own op hop).w
    · exact ((KnowsB.fresh ht h1).app fun op hop _ _ _ => own op hop).w

/-- What another one knows then. -/
theorem know_other {a a' b : Cx} {w w' : World} {es : Array Event} {t : Trace} {i j : Nat} {fn : FuncId} {pos : String} (g : Gd a a' w w' es) (h : Apart a b) (hl : ∀ x, b.mine x ∨ (b.imm x).isSome = true → x < w.heap.size) (k1 : ∀ x, b.mine x → KnowsB t i x) (k2 : ∀ x, (b.imm x).isSome = true → KnowsW t i x) :
    (∀ x, b.mine x → KnowsB (t ++ MemOp.ofEvents j fn pos es) i x) ∧ ∀ x, (b.imm x).isSome = true → KnowsW (t ++ MemOp.ofEvents j fn pos es) i x := by
  have hf := fits_of (j := j) (fn := fn) (pos := pos) g.evs
  refine ⟨fun x hx => (k1 x hx).app fun op hop d hd hb => ?_, fun x hx => (k2 x hx).app fun op hop d hd hb hw => ?_⟩
  · exfalso
    obtain ⟨_, y, h1, h2, h3⟩ := (hf op hop).2.1 d hd
    rw [hb] at h1
    cases h1
    rcases h3 with h3 | h3 | h3
    · exact h.mine x h3 hx
    · have := hl x (.inl hx); omega
    · have := h.imm' x hx; rw [this] at h3; cases h3.2
  · exfalso
    obtain ⟨_, y, h1, h2, h3⟩ := (hf op hop).2.1 d hd
    rw [hb] at h1
    cases h1
    rcases h3 with h3 | h3 | h3
    · have := h.imm x h3; rw [this] at hx; cases hx
    · have := hl x (.inr hx); omega
    · rw [h3.1] at hw; cases hw

theorem wt_status {P : Program} {c : Cx} {g : Goroutine} {w : World} (t : WT P c g w) : g.status = .running ∨ g.status = .finished := by
  induction t with
  | leave n h ho hm => exact h.status
  | step nx hne hs h1 h2 ih => exact .inl hs
  | ghost hg h ih => exact ih
  | send hs hs' h1 ho hr hc hm hi hch hout htodo h2 ih => exact .inl hs

theorem again_same {g : Goroutine} {w : World} (h : g.status = .running ∨ g.status = .finished) : g.again w = g := by
  unfold Goroutine.again
  rcases h with h | h <;> rw [h]

/-- Nobody is woken. -/
theorem act_woken {P : Program} {s : WS P} {x a a' : Goroutine} {w : World} (h : Act s x) (hc : ∀ r, s.c.com.chans r → OpenChan w r) : woken P a a' w x = x := by
  unfold woken
  split
  · obtain ⟨c, g, w0, t, p⟩ := s
    cases p with
    | false =>
      have : x = g := h
      subst this
      exact again_same (wt_status t)
    | true =>
      cases t with
      | send hs hs' h1 ho hr hcc hm hi hch hout htodo h2 =>
        have e : x = parked _ _ _ := h
        rw [e]
        obtain ⟨b, hb⟩ := hc _ hr
        exact again_send_open hb
      | _ => exact h.elim
  · rfl

theorem RL.next {c : Cx} {w w' : World} {es : Array Event} {c' : Cx} (_g : Gd c c' w w' es) : RL c' w' w' := RL.refl _ _

/-- ████ Goroutine 0's own step keeps the invariant. ████ -/
theorem MI.own0 {P : Program} {gs : Array Goroutine} {w w' : World} {t : Trace} {c0 c0' : Cx} {w0 : World} {ws : List (WS P)} {g g' : Goroutine} {es : Array Event} {fn : FuncId} {pos : String} (h : MI P gs w t c0 w0 ws) (gd : Gd c0 c0' w w' es) :
    MI P ((gs.map (woken P g g' w')).setIfInBounds 0 g') w' (t ++ MemOp.ofEvents 0 fn pos es) c0' w' ws := by
  have hcw : ∀ s ∈ ws, ∀ r, s.c.com.chans r → OpenChan w' r := fun s hs r hr => by
    obtain ⟨a, ⟨b, _⟩, _⟩ := h.chans r (.inr ⟨s, hs, hr⟩)
    unfold OpenChan
    rw [gd.keeps.keep r a.lt b]
    exact a
  have hrl : ∀ s ∈ ws, RL s.c w w' := fun s hs => rl_other gd (h.apart0 s hs) (h.low s hs) fun r hr => ⟨(h.chans r (.inr ⟨s, hs, hr⟩)).2.1.1, (h.chans r (.inr ⟨s, hs, hr⟩)).1.lt⟩
  have hf := fits_of (j := 0) (fn := fn) (pos := pos) gd.evs
  refine ⟨by simp [h.size], ?_, RL.refl _ _, fun s hs => (h.rel s hs).trans (hrl s hs), fun s hs => apart_step gd (h.apart0 s hs) (h.low s hs), h.apart, ?_, fun s hs b hb => Nat.lt_of_lt_of_le (h.low s hs b hb) gd.keeps.size, ?_, ?_, ?_, ?_, ?_, ?_, ?_⟩
  · intro i s hi
    obtain ⟨x, hx, ha⟩ := h.act i s hi
    refine ⟨x, ?_, ha⟩
    rw [Array.getElem?_setIfInBounds_ne (by omega), Array.getElem?_map, hx]
    simp only [Option.map_some, Option.some.injEq]
    exact act_woken ha (hcw s (List.mem_of_getElem? hi))
  · intro b hb
    rcases gd.low b hb with h1 | h1
    · exact Nat.lt_of_lt_of_le (h.low0 b h1) gd.keeps.size
    · exact h1
  · intro r hr
    have hr' : (c0.com.chans r ∨ ∃ s ∈ ws, s.c.com.chans r) ∨ (w.heap.size ≤ r ∧ OpenChan w' r ∧ ¬ c0'.mine r ∧ c0'.imm r = none) := by
      rcases hr with hr | hr
      · exact (gd.chans r hr).imp_left .inl
      · exact .inl (.inr hr)
    rcases hr' with h1 | ⟨h1, h2, h3, h4⟩
    · obtain ⟨a, ⟨b, b'⟩, d⟩ := h.chans r h1
      refine ⟨by unfold OpenChan; rw [gd.keeps.keep r a.lt b]; exact a, ⟨fun q => ?_, ?_⟩, d⟩
      · rcases gd.mine r q with q | q
        · exact b q
        · have := a.lt; omega
      · cases hi : c0'.imm r with
        | none => rfl
        | some o =>
          rcases gd.imm r o hi with q | q | q
          · rw [b'] at q; cases q
          · exact absurd q b
          · have := a.lt; omega
    · refine ⟨h2, ⟨h3, h4⟩, fun s hs => ⟨fun q => ?_, ?_⟩⟩
      · have := h.low s hs r (.inl q); omega
      · cases hi : s.c.imm r with
        | none => rfl
        | some o => have := h.low s hs r (.inr (by rw [hi]; rfl)); omega
  · rw [gd.todo]; exact h.todo
  · exact know_step gd h.tame h.know0.1 h.know0.2
  · exact fun i s hi => know_other gd (h.apart0 s (List.mem_of_getElem? hi)) (h.low s (List.mem_of_getElem? hi)) (h.know i s hi).1 (h.know i s hi).2
  · exact h.tame.own gd.keeps.size hf
  · exact noRace_own h.race h.tame h.know0.1 h.know0.2 hf
  · intro i op a hi ha
    rcases getElem?_append_cases hi with ⟨_, hi'⟩ | ⟨_, hu⟩
    · rcases h.hand i op a hi' ha with h1 | h1 | h1
      · exact .inl h1
      · exact .inr (.inl (h1.app _))
      · exact .inr (.inr h1)
    · exact .inl (hf op hu).1

theorem get_set {α : Type 1} {l : List α} {k i : Nat} {a x : α} (h : (l.set k a)[i]? = some x) : (i = k ∧ x = a) ∨ (i ≠ k ∧ l[i]? = some x) := by
  by_cases hik : k = i
  · subst hik
    have hlt : k < l.length := by have := (List.getElem?_eq_some_iff.1 h).1; simpa using this
    rw [List.getElem?_set_self hlt] at h
    cases h
    exact .inl ⟨rfl, rfl⟩
  · rw [List.getElem?_set_ne hik] at h
    exact .inr ⟨fun e => hik e.symm, h⟩

theorem mem_set' {α : Type 1} {l : List α} {k : Nat} {a x : α} (h : x ∈ l.set k a) : x = a ∨ ∃ i, i ≠ k ∧ l[i]? = some x := by
  obtain ⟨i, hi⟩ := List.mem_iff_getElem?.1 h
  rcases get_set hi with ⟨_, h1⟩ | ⟨h1, h2⟩
  · exact .inl h1
  · exact .inr ⟨i, h1, h2⟩

theorem outs_set {P : Program} {ws : List (WS P)} {k : Nat} {s s' : WS P} (hk : ws[k]? = some s) (ho : s'.c.com.out = s.c.com.out) : ((ws.set k s').map fun s => s.c.com.out) = ws.map fun s => s.c.com.out := by
  apply List.ext_getElem?
  intro i
  by_cases hik : k = i
  · subst hik
    have hlt := (List.getElem?_eq_some_iff.1 hk).1
    rw [List.getElem?_map, List.getElem?_map, List.getElem?_set_self hlt, hk]
    simp [ho]
  · simp [List.getElem?_set_ne hik]

/-- ████ Another goroutine's own step keeps the invariant. ████ -/
theorem MI.ownW {P : Program} {gs : Array Goroutine} {w w' : World} {t : Trace} {c0 : Cx} {w0 : World} {ws : List (WS P)} {k : Nat} {s s' : WS P} {g g' : Goroutine} {es : Array Event} {fn : FuncId} {pos : String} (h : MI P gs w t c0 w0 ws) (hk : ws[k]? = some s)
    (gd : Gd s.c s'.c w w' es) (hw : s'.w = w') (ha : Act s' g') (hne : s.c.com.out ≠ [] ∨ es = #[]) :
    MI P ((gs.map (woken P g g' w')).setIfInBounds (k + 1) g') w' (t ++ MemOp.ofEvents (k + 1) fn pos es) c0 w0 (ws.set k s') := by
  have hmem := List.mem_of_getElem? hk
  have hlt : k < ws.length := (List.getElem?_eq_some_iff.1 hk).1
  have hopen : ∀ r, (c0.com.chans r ∨ ∃ s ∈ ws, s.c.com.chans r) → OpenChan w' r := fun r hr => by
    obtain ⟨a, _, d⟩ := h.chans r hr
    unfold OpenChan
    rw [gd.keeps.keep r a.lt (d s hmem).1]
    exact a
  have hap : ∀ (i : Nat) (x : WS P), i ≠ k → ws[i]? = some x → Apart s.c x.c := fun i x hi hx => h.apart k i s x (fun e => hi e.symm) hk hx
  have hchan : ∀ {b : Cx}, (∀ r, b.com.chans r → c0.com.chans r ∨ ∃ s ∈ ws, s.c.com.chans r) → ∀ r, b.com.chans r → ¬ s.c.mine r ∧ r < w.heap.size := fun hb r hr => ⟨((h.chans r (hb r hr)).2.2 s hmem).1, (h.chans r (hb r hr)).1.lt⟩
  have hf := fits_of (j := k + 1) (fn := fn) (pos := pos) gd.evs
  refine ⟨by simp [h.size], ?_, h.rel0.trans (rl_other gd (h.apart0 s hmem).symm h.low0 (hchan fun r hr => .inl hr)), ?_, ?_, ?_, fun b hb => Nat.lt_of_lt_of_le (h.low0 b hb) gd.keeps.size, ?_, ?_, ?_, ?_, ?_, ?_, ?_, ?_⟩
  · intro i x hi
    rcases get_set hi with ⟨rfl, rfl⟩ | ⟨hne, hi⟩
    · refine ⟨g', ?_, ha⟩
      rw [Array.getElem?_setIfInBounds_self_of_lt]
      simp [h.size, hlt]
    · obtain ⟨y, hy, hay⟩ := h.act i x hi
      refine ⟨y, ?_, hay⟩
      rw [Array.getElem?_setIfInBounds_ne (by omega), Array.getElem?_map, hy]
      simp only [Option.map_some, Option.some.injEq]
      exact act_woken hay fun r hr => hopen r (.inr ⟨x, List.mem_of_getElem? hi, hr⟩)
  · intro x hx
    rcases mem_set' hx with rfl | ⟨i, hi, hx⟩
    · rw [hw]; exact RL.refl _ _
    · exact (h.rel x (List.mem_of_getElem? hx)).trans (rl_other gd (hap i x hi hx) (h.low x (List.mem_of_getElem? hx)) (hchan fun r hr => .inr ⟨x, List.mem_of_getElem? hx, hr⟩))
  · intro x hx
    rcases mem_set' hx with rfl | ⟨i, hi, hx⟩
    · exact (apart_step gd (h.apart0 s hmem).symm h.low0).symm
    · exact h.apart0 x (List.mem_of_getElem? hx)
  · intro i j x y hij hx hy
    rcases get_set hx with ⟨e1, e2⟩ | ⟨hi, hx2⟩ <;> rcases get_set hy with ⟨e3, e4⟩ | ⟨hj, hy2⟩
    · omega
    · rw [e2]; exact apart_step gd (hap j y hj hy2) (h.low y (List.mem_of_getElem? hy2))
    · rw [e4]; exact (apart_step gd (hap i x hi hx2) (h.low x (List.mem_of_getElem? hx2))).symm
    · exact h.apart i j x y hij hx2 hy2
  · intro x hx b hb
    rcases mem_set' hx with rfl | ⟨i, hi, hx⟩
    · rcases gd.low b hb with h1 | h1
      · exact Nat.lt_of_lt_of_le (h.low s hmem b h1) gd.keeps.size
      · exact h1
    · exact Nat.lt_of_lt_of_le (h.low x (List.mem_of_getElem? hx) b hb) gd.keeps.size
  · intro r hr
    have hr' : (c0.com.chans r ∨ ∃ x ∈ ws, x.c.com.chans r) ∨ (w.heap.size ≤ r ∧ OpenChan w' r ∧ ¬ s'.c.mine r ∧ s'.c.imm r = none) := by
      rcases hr with hr | ⟨x, hx, hr⟩
      · exact .inl (.inl hr)
      · rcases mem_set' hx with rfl | ⟨i, hi, hx⟩
        · exact (gd.chans r hr).imp_left fun q => .inr ⟨s, hmem, q⟩
        · exact .inl (.inr ⟨x, List.mem_of_getElem? hx, hr⟩)
    rcases hr' with h1 | ⟨h1, h2, h3, h4⟩
    · obtain ⟨a, b, d⟩ := h.chans r h1
      refine ⟨hopen r h1, b, fun x hx => ?_⟩
      rcases mem_set' hx with rfl | ⟨i, hi, hx⟩
      · refine ⟨fun q => ?_, ?_⟩
        · rcases gd.mine r q with q | q
          · exact (d s hmem).1 q
          · have := a.lt; omega
        · cases hi : x.c.imm r with
          | none => rfl
          | some o =>
            rcases gd.imm r o hi with q | q | q
            · rw [(d s hmem).2] at q; cases q
            · exact absurd q (d s hmem).1
            · have := a.lt; omega
      · exact d x (List.mem_of_getElem? hx)
    · have old : ∀ b : Cx, (∀ y, b.mine y ∨ (b.imm y).isSome = true → y < w.heap.size) → ¬ b.mine r ∧ b.imm r = none := fun b hb => ⟨fun q => by have := hb r (.inl q); omega, by
        cases hi : b.imm r with
        | none => rfl
        | some o => have := hb r (.inr (by rw [hi]; rfl)); omega⟩
      refine ⟨h2, old c0 h.low0, fun x hx => ?_⟩
      rcases mem_set' hx with rfl | ⟨i, hi, hx⟩
      · exact ⟨h3, h4⟩
      · exact old x.c (h.low x (List.mem_of_getElem? hx))
  · rw [outs_set hk gd.out]; exact h.todo
  · exact know_other gd (h.apart0 s hmem).symm h.low0 h.know0.1 h.know0.2
  · intro i x hx
    rcases get_set hx with ⟨e1, e2⟩ | ⟨hi, hx2⟩
    · rw [e2, e1]; exact know_step gd h.tame (h.know k s hk).1 (h.know k s hk).2
    · exact know_other gd (hap i x hi hx2) (h.low x (List.mem_of_getElem? hx2)) (h.know i x hx2).1 (h.know i x hx2).2
  · exact h.tame.own gd.keeps.size hf
  · exact noRace_own h.race h.tame (h.know k s hk).1 (h.know k s hk).2 hf
  · intro i op a hi ha
    have keep : (∃ (m : Nat) (y : WS P), op.g = m + 1 ∧ ws[m]? = some y ∧ y.c.com.out ≠ []) → ∃ (m : Nat) (y : WS P), op.g = m + 1 ∧ (ws.set k s')[m]? = some y ∧ y.c.com.out ≠ [] := by
      rintro ⟨m, y, h1, h2, h3⟩
      by_cases hm : k = m
      · subst hm
        rw [hk] at h2
        cases h2
        exact ⟨k, s', h1, List.getElem?_set_self hlt, by rw [gd.out]; exact h3⟩
      · exact ⟨m, y, h1, by rw [List.getElem?_set_ne hm]; exact h2, h3⟩
    rcases getElem?_append_cases hi with ⟨_, hi'⟩ | ⟨_, hu⟩
    · rcases h.hand i op a hi' ha with h1 | h1 | h1
      · exact .inl h1
      · exact .inr (.inl (h1.app _))
      · exact .inr (.inr (keep h1))
    · rcases hne with hne | hne
      · exact .inr (.inr (keep ⟨k, s, (hf op hu).1, hk, hne⟩))
      · subst hne
        simp [MemOp.ofEvents] at hu

/-- The scheduler draws. -/
theorem MI.draw {P : Program} {gs : Array Goroutine} {w : World} {t : Trace} {c0 : Cx} {w0 : World} {ws : List (WS P)} (h : MI P gs w t c0 w0 ws) (d : Nat) : MI P gs (w.at d) t c0 w0 ws :=
  ⟨h.size, h.act, h.rel0.trans (RL.at _ _ _), fun s hs => (h.rel s hs).trans (RL.at _ _ _), h.apart0, h.apart, h.low0, h.low, h.chans, h.todo, h.know0, h.know, h.tame, h.race, h.hand⟩
end Go.Mac

/-! MacX -/
/- MacX: the machine of many goroutines comes to a good end. No program is in sight. -/
namespace Go.Mac
open Go Go.Conc

theorem run_ended {P : Program} {gs : Array Goroutine} {w w' : World} {sl : Option (Nat × Nat)} {i : Nat} {g : Goroutine} {o : Outcome} {es : Array Event} (hi : gs[i]? = some g) (h : stepG P (i == 0) g w = .ended o w' es) :
    runT P (crowd gs w sl) i = (.ended o w', MemOp.ofEvents i g.frame.fn g.frame.place es) := by
  obtain ⟨hlt, rfl⟩ := Array.getElem?_eq_some_iff.1 hi
  have hsw := swapAt_of_lt hlt { (default : Goroutine) with status := .finished }
  show runT P { world := w, gs := gs, rest := { timers := #[], alone := none, slice := sl } } i = _
  unfold runT
  simp only [hsw, h, GStep.es]

theorem set_sameG {gs : Array Goroutine} {i : Nat} {x : Goroutine} (h : gs[i]? = some x) : gs.setIfInBounds i x = gs := by
  apply Array.ext_getElem?
  intro j
  by_cases hj : i = j
  · subst hj
    obtain ⟨hlt, e⟩ := Array.getElem?_eq_some_iff.1 h
    rw [Array.getElem?_setIfInBounds_self_of_lt hlt, h]
  · rw [Array.getElem?_setIfInBounds_ne hj]

theorem set_swap {gs : Array Goroutine} {i j : Nat} {x y : Goroutine} (h : i ≠ j) : (gs.setIfInBounds i x).setIfInBounds j y = (gs.setIfInBounds j y).setIfInBounds i x := by
  apply Array.ext_getElem?
  intro k
  by_cases hi : i = k
  · subst hi
    rw [Array.getElem?_setIfInBounds_ne (fun e => h e.symm)]
    by_cases hlt : i < gs.size
    · rw [Array.getElem?_setIfInBounds_self_of_lt hlt, Array.getElem?_setIfInBounds_self_of_lt (by simpa using hlt)]
    · rw [Array.getElem?_eq_none (by simpa using hlt), Array.getElem?_eq_none (by simpa using hlt)]
  · rw [Array.getElem?_setIfInBounds_ne hi]
    by_cases hj : j = k
    · subst hj
      by_cases hlt : j < gs.size
      · rw [Array.getElem?_setIfInBounds_self_of_lt (by simpa using hlt), Array.getElem?_setIfInBounds_self_of_lt hlt]
      · rw [Array.getElem?_eq_none (by simpa using hlt), Array.getElem?_eq_none (by simpa using hlt)]
    · rw [Array.getElem?_setIfInBounds_ne hj, Array.getElem?_setIfInBounds_ne hj, Array.getElem?_setIfInBounds_ne hi]

/-- A goroutine is laid anew: it ceases to hold something, or it waits. -/
theorem MI.turnW {P : Program} {gs : Array Goroutine} {w : World} {t : Trace} {c0 : Cx} {w0 : World} {ws : List (WS P)} {k : Nat} {s s' : WS P} {x' : Goroutine} (h : MI P gs w t c0 w0 ws) (hk : ws[k]? = some s)
    (ha : Act s' x') (hr : RL s.c s.w w → RL s'.c s'.w w) (g : Gh s.c s'.c) : MI P (gs.setIfInBounds (k + 1) x') w t c0 w0 (ws.set k s') := by
  have hmem := List.mem_of_getElem? hk
  have hlt : k < ws.length := (List.getElem?_eq_some_iff.1 hk).1
  have hap : ∀ a : Cx, Apart a s.c → Apart a s'.c := fun a ⟨h1, h2, h3⟩ => by
    refine ⟨fun x hx hx' => h1 x hx (g.mine x hx'), fun x hx => ?_, fun x hx => h3 x (g.mine x hx)⟩
    cases hi : s'.c.imm x with
    | none => rfl
    | some o =>
      rcases g.imm x o hi with q | q
      · rw [h2 x hx] at q; cases q
      · exact absurd q (h1 x hx)
  have hlow : ∀ b, s'.c.mine b ∨ (s'.c.imm b).isSome = true → b < w.heap.size := fun b hb => by
    rcases hb with hb | hb
    · exact h.low s hmem b (.inl (g.mine b hb))
    · obtain ⟨o, ho⟩ := Option.isSome_iff_exists.1 hb
      rcases g.imm b o ho with q | q
      · exact h.low s hmem b (.inr (by rw [q]; rfl))
      · exact h.low s hmem b (.inl q)
  refine ⟨by simp [h.size], ?_, h.rel0, ?_, ?_, ?_, h.low0, ?_, ?_, ?_, h.know0, ?_, h.tame, h.race, ?_⟩
  · intro i x hi
    rcases get_set hi with ⟨rfl, rfl⟩ | ⟨hne, hi⟩
    · exact ⟨x', by rw [Array.getElem?_setIfInBounds_self_of_lt]; simp [h.size, hlt], ha⟩
    · obtain ⟨y, hy, hay⟩ := h.act i x hi
      exact ⟨y, by rw [Array.getElem?_setIfInBounds_ne (by omega)]; exact hy, hay⟩
  · intro x hx
    rcases mem_set' hx with rfl | ⟨i, hi, hx⟩
    · exact hr (h.rel s hmem)
    · exact h.rel x (List.mem_of_getElem? hx)
  · intro x hx
    rcases mem_set' hx with rfl | ⟨i, hi, hx⟩
    · exact hap _ (h.apart0 s hmem)
    · exact h.apart0 x (List.mem_of_getElem? hx)
  · intro i j x y hij hx hy
    rcases get_set hx with ⟨e1, e2⟩ | ⟨hi, hx2⟩ <;> rcases get_set hy with ⟨e3, e4⟩ | ⟨hj, hy2⟩
    · omega
    · rw [e2]; exact (hap _ (h.apart j k y s (by omega) hy2 hk)).symm
    · rw [e4]; exact hap _ (h.apart i k x s (by omega) hx2 hk)
    · exact h.apart i j x y hij hx2 hy2
  · intro x hx
    rcases mem_set' hx with rfl | ⟨i, hi, hx⟩
    · exact hlow
    · exact h.low x (List.mem_of_getElem? hx)
  · intro r hy
    have hr' : c0.com.chans r ∨ ∃ s ∈ ws, s.c.com.chans r := by
      rcases hy with hy | ⟨x, hx, hy⟩
      · exact .inl hy
      · rcases mem_set' hx with rfl | ⟨i, hi, hx⟩
        · rw [g.com] at hy; exact .inr ⟨s, hmem, hy⟩
        · exact .inr ⟨x, List.mem_of_getElem? hx, hy⟩
    obtain ⟨a, b, d⟩ := h.chans r hr'
    refine ⟨a, b, fun x hx => ?_⟩
    rcases mem_set' hx with rfl | ⟨i, hi, hx⟩
    · refine ⟨fun q => (d s hmem).1 (g.mine r q), ?_⟩
      cases hi : x.c.imm r with
      | none => rfl
      | some o =>
        rcases g.imm r o hi with q | q
        · rw [(d s hmem).2] at q; cases q
        · exact absurd q (d s hmem).1
    · exact d x (List.mem_of_getElem? hx)
  · rw [outs_set hk (by rw [g.com])]; exact h.todo
  · intro i x hx
    rcases get_set hx with ⟨e1, e2⟩ | ⟨hi, hx2⟩
    · rw [e2, e1]
      refine ⟨fun b hb => (h.know k s hk).1 b (g.mine b hb), fun b hb => ?_⟩
      obtain ⟨o, ho⟩ := Option.isSome_iff_exists.1 hb
      rcases g.imm b o ho with q | q
      · exact (h.know k s hk).2 b (by rw [q]; rfl)
      · exact ((h.know k s hk).1 b q).w
    · exact h.know i x hx2
  · intro i op a hi ha
    rcases h.hand i op a hi ha with h1 | h1 | ⟨m, y, h1, h2, h3⟩
    · exact .inl h1
    · exact .inr (.inl h1)
    · refine .inr (.inr ?_)
      by_cases hm : k = m
      · subst hm
        rw [hk] at h2
        cases h2
        exact ⟨k, s', h1, List.getElem?_set_self hlt, by rw [g.com]; exact h3⟩
      · exact ⟨m, y, h1, by rw [List.getElem?_set_ne hm]; exact h2, h3⟩

/-! ### Meeting -/
theorem chan_set {w : World} {r a : Nat} (d : Nat) (h : w.heap[r]? = some (.chan 0 #[] false a a false)) : OpenChan ((w.at d).setChan r 0 #[] false (a + 1) (a + 1) false) r := by
  have hlt := (Array.getElem?_eq_some_iff.1 h).1
  refine ⟨a + 1, ?_⟩
  simp [World.setChan, World.at, hlt]

theorem chan_other {w : World} {r a b d : Nat} (h : r ≠ b) : ((w.at d).setChan r 0 #[] false (a + 1) (a + 1) false).heap[b]? = w.heap[b]? := by
  simp [World.setChan, World.at, h]

theorem rl_meet {c : Cx} {w : World} {r a d : Nat} (h : w.heap[r]? = some (.chan 0 #[] false a a false)) (h1 : ¬ c.mine r) (h2 : c.imm r = none) : RL c w ((w.at d).setChan r 0 #[] false (a + 1) (a + 1) false) where
  size := by simp [World.setChan, World.at]
  mine b hb := chan_other (by rintro rfl; exact h1 hb)
  imm b hb := chan_other (by rintro rfl; rw [h2] at hb; cases hb)
  os := rfl
  output := rfl
  tape := rfl
  chans x hx ho := by
    by_cases e : r = x
    · subst e; exact chan_set d h
    · unfold OpenChan; rw [chan_other e]; exact ho

theorem outs_split {P : Program} {ws : List (WS P)} {k : Nat} {s s' : WS P} (hk : ws[k]? = some s) :
    ∃ A B : List (List (Nat × Value)), ((ws.map fun s => s.c.com.out).filter fun o => !o.isEmpty) = A ++ restOf s.c.com.out ++ B ∧ (((ws.set k s').map fun s => s.c.com.out).filter fun o => !o.isEmpty) = A ++ restOf s'.c.com.out ++ B := by
  obtain ⟨hlt, rfl⟩ := List.getElem?_eq_some_iff.1 hk
  refine ⟨((ws.take k).map fun s => s.c.com.out).filter fun o => !o.isEmpty, ((ws.drop (k + 1)).map fun s => s.c.com.out).filter fun o => !o.isEmpty, ?_, ?_⟩
  · have e : ws = ws.take k ++ ws[k] :: ws.drop (k + 1) := by simp
    conv => lhs; rw [e]
    simp only [List.map_append, List.filter_append, List.map_cons, List.filter_cons, List.append_assoc]
    congr 1
    cases ho : ws[k].c.com.out <;> simp [restOf]
  · have e : ws.set k s' = ws.take k ++ s' :: ws.drop (k + 1) := by rw [List.set_eq_take_append_cons_drop]; simp [hlt]
    rw [e]
    simp only [List.map_append, List.filter_append, List.map_cons, List.filter_cons, List.append_assoc]
    congr 1
    cases ho : s'.c.com.out <;> simp [restOf]

theorem MI.meet {P : Program} {gs : Array Goroutine} {w : World} {t : Trace} {c0 c0' : Cx} {w0 : World} {ws : List (WS P)} {k r a d : Nat} {v : Value} {rest : List (Nat × Value)} {T1 T2 : List (List (Nat × Value))} {s s' : WS P} {x0 x' : Goroutine} {fj f0 : FuncId} {pj p0 : String}
    (h : MI P gs w t c0 w0 ws) (hk : ws[k]? = some s) (ho : s.c.com.out = (r, v) :: rest) (hr : s.c.com.chans r) (hch : w.heap[r]? = some (.chan 0 #[] false a a false))
    (ha : Act s' x') (hw : s'.w = s.w) (hm : ∀ b, s'.c.mine b → s.c.mine b) (hi : ∀ b o, s'.c.imm b = some o → s.c.imm b = some o) (hcs : s'.c.com.chans = s.c.com.chans) (hout : s'.c.com.out = rest)
    (ht : c0.com.todo = T1 ++ ((r, v) :: rest) :: T2) (h1 : c0'.mine = c0.mine) (h2 : c0'.imm = c0.imm) (h3 : c0'.com.chans = c0.com.chans) (h4 : c0'.com.todo = T1 ++ restOf rest ++ T2) :
    MI P ((gs.setIfInBounds (k + 1) x').setIfInBounds 0 x0) ((w.at d).setChan r 0 #[] false (a + 1) (a + 1) false) (t ++ meetOps (k + 1) r a a 0 fj f0 pj p0) c0' w0 (ws.set k s') := by
  have hmem := List.mem_of_getElem? hk
  have hlt : k < ws.length := (List.getElem?_eq_some_iff.1 hk).1
  have hR := h.chans r (.inr ⟨s, hmem, hr⟩)
  have hmute := mute_meet (k + 1) r a a 0 fj f0 pj p0
  have hap : ∀ b : Cx, Apart b s.c → Apart b s'.c := fun b ⟨h1, h2, h3⟩ => by
    refine ⟨fun x hx hx' => h1 x hx (hm x hx'), fun x hx => ?_, fun x hx => h3 x (hm x hx)⟩
    cases hi' : s'.c.imm x with
    | none => rfl
    | some o => have q := hi x o hi'; rw [h2 x hx] at q; cases q
  have hap0 : ∀ b : Cx, Apart c0 b → Apart c0' b := fun b ⟨q1, q2, q3⟩ => ⟨fun x hx => q1 x (by rw [h1] at hx; exact hx), fun x hx => q2 x (by rw [h1] at hx; exact hx), fun x hx => by rw [h2]; exact q3 x hx⟩
  have hsz : ((w.at d).setChan r 0 #[] false (a + 1) (a + 1) false).heap.size = w.heap.size := by simp [World.setChan, World.at]
  have himm : ∀ b, (s'.c.imm b).isSome = true → (s.c.imm b).isSome = true := fun b hb => by
    obtain ⟨o, ho⟩ := Option.isSome_iff_exists.1 hb
    rw [hi b o ho]; rfl
  refine ⟨by simp [h.size], ?_, ?_, ?_, ?_, ?_, ?_, ?_, ?_, ?_, ?_, ?_, ?_, ?_, ?_⟩
  · intro i x hi
    rw [Array.getElem?_setIfInBounds_ne (by omega)]
    rcases get_set hi with ⟨rfl, rfl⟩ | ⟨hne, hi⟩
    · exact ⟨x', by rw [Array.getElem?_setIfInBounds_self_of_lt]; simp [h.size, hlt], ha⟩
    · obtain ⟨y, hy, hay⟩ := h.act i x hi
      exact ⟨y, by rw [Array.getElem?_setIfInBounds_ne (by omega)]; exact hy, hay⟩
  · have := h.rel0.trans (rl_meet (d := d) hch hR.2.1.1 hR.2.1.2)
    exact RL.same this h1 h2 h3
  · intro x hx
    rcases mem_set' hx with rfl | ⟨i, hi', hx⟩
    · have q := (h.rel s hmem).trans (rl_meet (d := d) hch (hR.2.2 s hmem).1 (hR.2.2 s hmem).2)
      rw [hw]
      exact ⟨q.size, fun b hb => q.mine b (hm b hb), fun b hb => q.imm b (himm b hb), q.os, q.output, q.tape, fun y hy => q.chans y (by rw [← hcs]; exact hy)⟩
    · have hx' := List.mem_of_getElem? hx
      exact (h.rel x hx').trans (rl_meet (d := d) hch (hR.2.2 x hx').1 (hR.2.2 x hx').2)
  · intro x hx
    rcases mem_set' hx with rfl | ⟨i, hi', hx⟩
    · exact hap0 _ (hap _ (h.apart0 s hmem))
    · exact hap0 _ (h.apart0 x (List.mem_of_getElem? hx))
  · intro i j x y hij hx hy
    rcases get_set hx with ⟨e1, e2⟩ | ⟨hi, hx2⟩ <;> rcases get_set hy with ⟨e3, e4⟩ | ⟨hj, hy2⟩
    · omega
    · rw [e2]; exact (hap _ (h.apart j k y s (by omega) hy2 hk)).symm
    · rw [e4]; exact hap _ (h.apart i k x s (by omega) hx2 hk)
    · exact h.apart i j x y hij hx2 hy2
  · intro b hb
    rw [hsz]
    exact h.low0 b (by rw [h1, h2] at hb; exact hb)
  · intro x hx b hb
    rw [hsz]
    rcases mem_set' hx with rfl | ⟨i, hi', hx⟩
    · exact h.low s hmem b (hb.imp (hm b) (himm b))
    · exact h.low x (List.mem_of_getElem? hx) b hb
  · intro y hy
    have hy' : c0.com.chans y ∨ ∃ s ∈ ws, s.c.com.chans y := by
      rcases hy with hy | ⟨x, hx, hy⟩
      · exact .inl (by rw [h3] at hy; exact hy)
      · rcases mem_set' hx with rfl | ⟨i, hi', hx⟩
        · rw [hcs] at hy; exact .inr ⟨s, hmem, hy⟩
        · exact .inr ⟨x, List.mem_of_getElem? hx, hy⟩
    obtain ⟨q1, q2, q3⟩ := h.chans y hy'
    refine ⟨?_, by rw [h1, h2]; exact q2, fun x hx => ?_⟩
    · by_cases e : r = y
      · subst e; exact chan_set d hch
      · unfold OpenChan; rw [chan_other e]; exact q1
    · rcases mem_set' hx with rfl | ⟨i, hi', hx⟩
      · refine ⟨fun q => (q3 s hmem).1 (hm y q), ?_⟩
        cases hi' : x.c.imm y with
        | none => rfl
        | some o => have q := hi y o hi'; rw [(q3 s hmem).2] at q; cases q
      · exact q3 x (List.mem_of_getElem? hx)
  · obtain ⟨A, B, e1, e2⟩ := outs_split (s' := s') hk
    rw [h4, e2, hout]
    have hp := h.todo
    rw [ht, e1, ho] at hp
    simp only [restOf, List.cons_ne_nil, if_false, List.append_assoc, List.singleton_append] at hp
    have hp2 : (T1 ++ T2).Perm (A ++ B) := ((List.perm_middle.symm.trans hp).trans List.perm_middle).cons_inv
    have hp3 : ∀ (X Y R : List (List (Nat × Value))), (X ++ R ++ Y).Perm (R ++ (X ++ Y)) := fun X Y R => by
      rw [← List.append_assoc]; exact List.Perm.append_right Y List.perm_append_comm
    exact (hp3 T1 T2 _).trans ((hp2.append_left _).trans (hp3 A B _).symm)
  · exact ⟨fun b hb => (h.know0.1 b (by rw [← h1]; exact hb)).mute hmute, fun b hb => (h.know0.2 b (by rw [← h2]; exact hb)).mute hmute⟩
  · intro i x hx
    rcases get_set hx with ⟨e1, e2⟩ | ⟨hi', hx2⟩
    · rw [e2, e1]
      exact ⟨fun b hb => ((h.know k s hk).1 b (hm b hb)).mute hmute, fun b hb => ((h.know k s hk).2 b (himm b hb)).mute hmute⟩
    · exact ⟨fun b hb => ((h.know i x hx2).1 b hb).mute hmute, fun b hb => ((h.know i x hx2).2 b hb).mute hmute⟩
  · exact h.tame.mute (by rw [hsz]; exact Nat.le_refl _) hmute
  · exact noRace_mute h.race hmute
  · intro i op b hi' hb
    rcases getElem?_append_cases hi' with ⟨_, hi2⟩ | ⟨_, hu⟩
    · rcases h.hand i op b hi2 hb with q | q | ⟨m, y, q1, q2, q3⟩
      · exact .inl q
      · exact .inr (.inl (q.app _))
      · by_cases hm' : k = m
        · subst hm'
          refine .inr (.inl ?_)
          have hkn : Knows t (k + 1) i := by have := knows_own hi2; rwa [q1] at this
          exact meet_knows h.tame.words hkn
        · exact .inr (.inr ⟨m, y, q1, by rw [List.getElem?_set_ne hm']; exact q2, q3⟩)
    · rw [(hmute op hu).1] at hb; cases hb

/-! ### A goroutine is started -/
theorem MI.spawn {P : Program} {gs : Array Goroutine} {w : World} {t : Trace} {c0 c0' : Cx} {w0 : World} {ws : List (WS P)} {s : WS P} {g' child : Goroutine} {fn fn' : FuncId} {pos : String}
    (h : MI P gs w t c0 w0 ws) (ha : Act s child) (hw : s.w = w0)
    (hc : c0'.mine = c0.mine ∧ c0'.imm = c0.imm ∧ c0'.com.chans = c0.com.chans ∧ c0'.com.todo = c0.com.todo ++ [s.c.com.out])
    (hcc : (∀ b, ¬ s.c.mine b) ∧ (∀ b o, s.c.imm b = some o → c0.imm b = some o ∧ ¬ c0.mine b) ∧ (∀ r, s.c.com.chans r → c0.com.chans r) ∧ s.c.com.out ≠ []) :
    MI P ((gs.setIfInBounds 0 g').push child) w (t ++ goOps (ws.length + 1) fn fn' pos) c0' w0 (ws ++ [s]) := by
  obtain ⟨h1, h2, h3, h4⟩ := hc
  obtain ⟨d1, d2, d3, d4⟩ := hcc
  have hmute := mute_go (ws.length + 1) fn fn' pos
  have himm : ∀ b, (s.c.imm b).isSome = true → (c0.imm b).isSome = true := fun b hb => by
    obtain ⟨o, ho⟩ := Option.isSome_iff_exists.1 hb
    rw [(d2 b o ho).1]; rfl
  have hap0 : ∀ b : Cx, Apart c0 b → Apart c0' b := fun b ⟨q1, q2, q3⟩ => ⟨fun x hx => q1 x (by rw [h1] at hx; exact hx), fun x hx => q2 x (by rw [h1] at hx; exact hx), fun x hx => by rw [h2]; exact q3 x hx⟩
  have hnew : ∀ x ∈ ws, Apart x.c s.c := fun x hx => ⟨fun b _ hb => d1 b hb, fun b hb => (by
    cases hi : s.c.imm b with
    | none => rfl
    | some o => have q := (d2 b o hi).1; rw [(h.apart0 x hx).imm' b hb] at q; cases q), fun b hb => absurd hb (d1 b)⟩
  have get_app : ∀ {i : Nat} {x : WS P}, (ws ++ [s])[i]? = some x → (i = ws.length ∧ x = s) ∨ (i < ws.length ∧ ws[i]? = some x) := fun {i x} hi => by
    rcases Nat.lt_or_ge i ws.length with hlt | hge
    · rw [List.getElem?_append_left hlt] at hi; exact .inr ⟨hlt, hi⟩
    · rw [List.getElem?_append_right hge] at hi
      have hlt := (List.getElem?_eq_some_iff.1 hi).1
      simp only [List.length_singleton] at hlt
      have : i = ws.length := by omega
      subst this
      simp at hi
      exact .inl ⟨rfl, hi.symm⟩
  have hmem : ∀ {x : WS P}, x ∈ ws ++ [s] → x = s ∨ x ∈ ws := fun {x} hx => by
    rcases List.mem_append.1 hx with hx | hx
    · exact .inr hx
    · exact .inl (by simpa using hx)
  refine ⟨by simp [h.size], ?_, ?_, ?_, ?_, ?_, ?_, ?_, ?_, ?_, ?_, ?_, ?_, ?_, ?_⟩
  · intro i x hi
    rcases get_app hi with ⟨rfl, rfl⟩ | ⟨hlt, hi⟩
    · refine ⟨child, ?_, ha⟩
      have : ws.length + 1 = (gs.setIfInBounds 0 g').size := by simp [h.size]
      rw [this, Array.getElem?_push_size]
    · obtain ⟨y, hy, hay⟩ := h.act i x hi
      refine ⟨y, ?_, hay⟩
      have hlt' := (Array.getElem?_eq_some_iff.1 hy).1
      rw [Array.getElem?_push_lt (by simpa using hlt'), ← Array.getElem?_eq_getElem, Array.getElem?_setIfInBounds_ne (by omega)]
      exact hy
  · exact RL.same h.rel0 h1 h2 h3
  · intro x hx
    rcases hmem hx with rfl | hx
    · rw [hw]
      exact ⟨h.rel0.size, fun b hb => absurd hb (d1 b), fun b hb => h.rel0.imm b (himm b hb), h.rel0.os, h.rel0.output, h.rel0.tape, fun y hy => h.rel0.chans y (d3 y hy)⟩
    · exact h.rel x hx
  · intro x hx
    rcases hmem hx with rfl | hx
    · refine hap0 _ ⟨fun b _ hb => d1 b hb, fun b hb => ?_, fun b hb => absurd hb (d1 b)⟩
      cases hi : x.c.imm b with
      | none => rfl
      | some o => exact absurd hb (d2 b o hi).2
    · exact hap0 _ (h.apart0 x hx)
  · intro i j x y hij hx hy
    rcases get_app hx with ⟨e1, e2⟩ | ⟨hi, hx2⟩ <;> rcases get_app hy with ⟨e3, e4⟩ | ⟨hj, hy2⟩
    · omega
    · rw [e2]; exact (hnew y (List.mem_of_getElem? hy2)).symm
    · rw [e4]; exact hnew x (List.mem_of_getElem? hx2)
    · exact h.apart i j x y hij hx2 hy2
  · intro b hb
    exact h.low0 b (by rw [h1, h2] at hb; exact hb)
  · intro x hx b hb
    rcases hmem hx with rfl | hx
    · exact h.low0 b (.inr (himm b (hb.resolve_left (d1 b))))
    · exact h.low x hx b hb
  · intro y hy
    have hy' : c0.com.chans y ∨ ∃ s ∈ ws, s.c.com.chans y := by
      rcases hy with hy | ⟨x, hx, hy⟩
      · exact .inl (by rw [h3] at hy; exact hy)
      · rcases hmem hx with rfl | hx
        · exact .inl (d3 y hy)
        · exact .inr ⟨x, hx, hy⟩
    obtain ⟨q1, q2, q3⟩ := h.chans y hy'
    refine ⟨q1, by rw [h1, h2]; exact q2, fun x hx => ?_⟩
    rcases hmem hx with rfl | hx
    · refine ⟨d1 y, ?_⟩
      cases hi : x.c.imm y with
      | none => rfl
      | some o => have q := (d2 y o hi).1; rw [q2.2] at q; cases q
    · exact q3 x hx
  · rw [h4, List.map_append, List.filter_append]
    have : (([s].map fun s => s.c.com.out).filter fun o => !o.isEmpty) = [s.c.com.out] := by
      cases ho : s.c.com.out with
      | nil => exact absurd ho d4
      | cons a l => simp [ho]
    rw [this]
    exact h.todo.append_right _
  · exact ⟨fun b hb => (h.know0.1 b (by rw [← h1]; exact hb)).mute hmute, fun b hb => (h.know0.2 b (by rw [← h2]; exact hb)).mute hmute⟩
  · intro i x hx
    rcases get_app hx with ⟨e1, e2⟩ | ⟨hi', hx2⟩
    · rw [e2, e1]
      exact ⟨fun b hb => absurd hb (d1 b), fun b hb => spawn_knows h.tame.words (h.know0.2 b (himm b hb))⟩
    · exact ⟨fun b hb => ((h.know i x hx2).1 b hb).mute hmute, fun b hb => ((h.know i x hx2).2 b hb).mute hmute⟩
  · exact h.tame.mute (Nat.le_refl _) hmute
  · exact noRace_mute h.race hmute
  · intro i op b hi' hb
    rcases getElem?_append_cases hi' with ⟨_, hi2⟩ | ⟨_, hu⟩
    · rcases h.hand i op b hi2 hb with q | q | ⟨m, y, q1, q2, q3⟩
      · exact .inl q
      · exact .inr (.inl (q.app _))
      · exact .inr (.inr ⟨m, y, q1, by rw [List.getElem?_append_left (List.getElem?_eq_some_iff.1 q2).1]; exact q2, q3⟩)
    · rw [(hmute op hu).1] at hb; cases hb
end Go.Mac

/-! MacY -/
/- MacY: the machine of many goroutines comes to a good end: the theorem. No program is in sight. -/
namespace Go.Mac
open Go Go.Conc

section
variable {P : Program} {Post : Value → World → Prop}

theorem act_awake {s : WS P} {x : Goroutine} (h : Act s x) : awake x := by
  obtain ⟨c, g, w0, t, p⟩ := s
  cases p with
  | false =>
    have : x = g := h
    subst this
    exact awake_of ((wt_status t).elim .inl fun q => .inr (.inr q))
  | true =>
    cases t with
    | send hs hs' h1 ho hr hcc hm hi hch hout htodo h2 =>
      have e : x = parked _ _ _ := h
      rw [e]
      exact awake_of (.inr (.inl rfl))
    | _ => exact h.elim

theorem MI.awake {gs : Array Goroutine} {w : World} {t : Trace} {c0 : Cx} {w0 : World} {ws : List (WS P)} {g : Goroutine} (h : MI P gs w t c0 w0 ws) (h0 : gs[0]? = some g) (hg : Conc.awake g) : ∀ x ∈ gs, Conc.awake x := by
  intro x hx
  obtain ⟨i, hi⟩ := Array.getElem?_of_mem hx
  cases i with
  | zero => rw [h0] at hi; cases hi; exact hg
  | succ i =>
    have hlt : i < ws.length := by have := (Array.getElem?_eq_some_iff.1 hi).1; have := h.size; omega
    obtain ⟨y, hy, ha⟩ := h.act i ws[i] (by simp [hlt])
    rw [hi] at hy
    cases hy
    exact act_awake ha

/-- Worker k stands at a send. -/
def AtSend' (ws : List (WS P)) (k : Nat) : Prop :=
  ∃ (c c' : Cx) (g g' : Goroutine) (wv : World) (r : Nat) (v z : Value) (rest : List (Nat × Value)) (hs : g.status = .running) (hs' : g'.status = .running) (h1 : ∀ w1, stepG P false g w1 = .comm g' #[⟨.chan (some r), some v, z⟩] true .send w1 #[])
    (ho : c.com.out = (r, v) :: rest) (hr : c.com.chans r) (hc : Gh c c' ∨ True) (hm : ∀ b, c'.mine b → c.mine b) (hi : ∀ b o, c'.imm b = some o → c.imm b = some o) (hch : c'.com.chans = c.com.chans) (hout : c'.com.out = rest) (htodo : c'.com.todo = c.com.todo)
    (h2 : WT P c' (g'.finishComm P #[⟨.chan (some r), some v, z⟩] .send 0 undef false) wv), ws[k]? = some ⟨c, g, wv, .send hs hs' h1 ho hr hc hm hi hch hout htodo h2, false⟩

/-- Goroutine 0 is not woken by what others do: it runs, or stands at channels that are open. -/
def Stays (c0 : Cx) (g0 : Goroutine) : Prop := g0.status = .running ∨ ∃ (g : Goroutine) (cases : Array CommCase) (sh : CommShape), g0 = parked g cases sh ∧ ∀ cc ∈ cases, cc.send = none ∧ ∃ r, cc.chan = .chan (some r) ∧ c0.com.chans r

theorem stays_woken {w' : World} {c0 : Cx} {g0 a a' : Goroutine} (h : Stays c0 g0) (ho : ∀ r, c0.com.chans r → OpenChan w' r) : woken P a a' w' g0 = g0 := by
  rcases h with h | ⟨g, cases, sh, rfl, h⟩
  · exact woken_running h
  · unfold woken
    split
    · refine again_all_open fun cc hcc => ?_
      obtain ⟨h1, r, h2, h3⟩ := h cc hcc
      obtain ⟨b, hb⟩ := ho r h3
      refine ⟨r, cc.zero, 0, #[], b, b, false, ?_, hb⟩
      obtain ⟨x, y, z⟩ := cc
      simp only at h1 h2
      subst h1 h2
      rfl
    · rfl

/-- ████ Another goroutine's move. ████ -/
theorem MI.moveW {gs : Array Goroutine} {w : World} {t : Trace} {c0 : Cx} {w0 : World} {ws : List (WS P)} {g0 gk : Goroutine} {k : Nat} (sl : Option (Nat × Nat)) (h : MI P gs w t c0 w0 ws) (h0 : gs[0]? = some g0) (hst : Stays c0 g0) (hk : gs[k + 1]? = some gk) (hrun : gk.status = .running) :
    (∃ ws', listRel (WS.next P) ws' ws ∧ MI P gs w t c0 w0 ws' ∧ ∀ s' ∈ ws', s'.parked = true → s' ∈ ws) ∨
    (∃ ws' gs' w' ops, listRel (WS.next P) ws' ws ∧ MI P gs' w' (t ++ ops) c0 w0 ws' ∧ gs'[0]? = some g0 ∧ runT P (crowd gs w sl) (k + 1) = (.next (crowd gs' w' sl), ops) ∧ ∀ s' ∈ ws', s'.parked = true → s' ∈ ws) ∨ AtSend' ws k := by
  have hlt : k < ws.length := by have := (Array.getElem?_eq_some_iff.1 hk).1; have := h.size; omega
  obtain ⟨s, hs⟩ : ∃ s, ws[k]? = some s := ⟨ws[k], by simp [hlt]⟩
  obtain ⟨y, hy, ha⟩ := h.act k s hs
  rw [hk] at hy
  cases hy
  have hmem := List.mem_of_getElem? hs
  have hpk : ∀ {s' : WS P}, s'.parked = false → ∀ x ∈ ws.set k s', x.parked = true → x ∈ ws := fun hp x hx hxp => by
    rcases mem_set' hx with rfl | ⟨i, _, hx⟩
    · rw [hp] at hxp; cases hxp
    · exact List.mem_of_getElem? hx
  obtain ⟨c, g, wv, tr, p⟩ := s
  cases p with
  | true =>
    exfalso
    cases tr with
    | send hs hs' h1 ho hr hcc hm hi hch hout htodo h2 =>
      have e : gk = parked _ _ _ := ha
      rw [e] at hrun
      cases hrun
    | _ => exact ha.elim
  | false =>
    have e : gk = g := ha
    subst e
    cases tr with
    | leave n hq ho hm =>
      cases n with
      | zero => have : gk.status = .finished := hq; rw [hrun] at this; cases this
      | succ n =>
        rcases hq with hq' | ⟨_, g', hstep, hq'⟩
        · rw [hrun] at hq'; cases hq'
        · refine .inr (.inl ⟨ws.set k ⟨c, g', w, .leave n hq' ho hm, false⟩, _, w, _, ⟨k, _, _, hs, .slip _ hq' ho hm, rfl⟩, ?_, ?_, runT_crowd_go hk (hstep w), hpk rfl⟩)
          · exact h.ownW hs (s' := ⟨c, g', w, .leave n hq' ho hm, false⟩) ⟨.refl _ _ _, fun _ h => .inl h, fun _ _ h => .inl h, fun _ _ h => h, by simp, fun _ h => .inl h, fun _ h => .inl h, fun _ h => h, rfl, rfl, rfl⟩ rfl rfl (.inr rfl)
          · rw [Array.getElem?_setIfInBounds_ne (by omega), Array.getElem?_map, h0, Option.map_some, stays_woken hst fun r hr => (h.chans r (.inl hr)).1]
    | step nx hne hs1 h1 h2 =>
      have hrel := h.rel _ hmem
      obtain ⟨g', w', es, hstep, hrun', gd⟩ := h1 w hrel
      have hM := h.ownW (g := gk) (g' := g') (fn := gk.frame.fn) (pos := gk.frame.place) hs (s' := ⟨nx w, g', w', h2 w hrel g' w' es hstep, false⟩) gd rfl rfl (.inl hne)
      refine .inr (.inl ⟨_, _, w', _, ⟨k, _, _, hs, .step w hrel g' w' es hstep, rfl⟩, hM, ?_, runT_crowd_go hk hstep, hpk rfl⟩)
      rw [Array.getElem?_setIfInBounds_ne (by omega), Array.getElem?_map, h0, Option.map_some, stays_woken hst fun r hr => (hM.chans r (.inl hr)).1]
    | ghost hg h' =>
      refine .inl ⟨ws.set k ⟨_, gk, wv, h', false⟩, ⟨k, _, _, hs, .ghost, rfl⟩, ?_, hpk rfl⟩
      have := h.turnW hs (s' := ⟨_, gk, wv, h', false⟩) (x' := gk) rfl (fun q => hg.rely q) hg
      rw [set_sameG hk] at this
      exact this
    | send hs1 hs' h1 ho hr hcc hm hi hch hout htodo h2 => exact .inr (.inr ⟨_, _, _, _, _, _, _, _, _, hs1, hs', h1, ho, hr, hcc, hm, hi, hch, hout, htodo, h2, hs⟩)

/-- Whom a worker that waits offers. -/
theorem act_offers_send {s : WS P} {x : Goroutine} {r k : Nat} (h : Act s x) (hk : k ∈ offersAt x r true) : k = 0 ∧ ∃ (c c' : Cx) (g g' : Goroutine) (wv : World) (v z : Value) (rest : List (Nat × Value)) (hs : g.status = .running) (hs' : g'.status = .running) (h1 : ∀ w1, stepG P false g w1 = .comm g' #[⟨.chan (some r), some v, z⟩] true .send w1 #[])
    (ho : c.com.out = (r, v) :: rest) (hr : c.com.chans r) (hc : Gh c c' ∨ True) (hm : ∀ b, c'.mine b → c.mine b) (hi : ∀ b o, c'.imm b = some o → c.imm b = some o) (hch : c'.com.chans = c.com.chans) (hout : c'.com.out = rest) (htodo : c'.com.todo = c.com.todo)
    (h2 : WT P c' (g'.finishComm P #[⟨.chan (some r), some v, z⟩] .send 0 undef false) wv), s = ⟨c, g, wv, .send hs hs' h1 ho hr hc hm hi hch hout htodo h2, true⟩ ∧ x = parked g' #[⟨.chan (some r), some v, z⟩] .send := by
  obtain ⟨c, g, w0, t, p⟩ := s
  cases p with
  | false =>
    have : x = g := h
    subst this
    rw [offersAt_of_not_blocked (by rcases wt_status t with q | q <;> rw [q] <;> simp)] at hk
    cases hk
  | true =>
    cases t with
    | @send _ c' _ g' _ r' v z rest hs hs' h1 ho hr hcc hm hi hch hout htodo h2 =>
      have e : x = parked g' #[scase r' v z] .send := h
      rw [e, offersAt_parked_send] at hk
      split at hk
      · rename_i hrr
        subst hrr
        exact ⟨by simpa using hk, c, c', g, g', w0, v, z, rest, hs, hs', h1, ho, hr, hcc, hm, hi, hch, hout, htodo, h2, rfl, e⟩
      · cases hk
    | _ => exact h.elim

theorem act_no_recv {s : WS P} {x : Goroutine} {r : Nat} (h : Act s x) : offersAt x r false = [] := by
  obtain ⟨c, g, w0, t, p⟩ := s
  cases p with
  | false =>
    have : x = g := h
    subst this
    exact offersAt_of_not_blocked (by rcases wt_status t with q | q <;> rw [q] <;> simp) _ _
  | true =>
    cases t with
    | @send _ c' _ g' _ r' v z rest hs hs' h1 ho hr hcc hm hi hch hout htodo h2 =>
      have e : x = parked g' #[scase r' v z] .send := h
      rw [e, offersAt_parked_send']
    | _ => exact h.elim

/-- A goroutine with nothing more to send leaves. -/
theorem wt_done {c : Cx} {g : Goroutine} {w : World} (t : WT P c g w) (h : c.com.out = []) : ∃ n, QuitsIn P n g := by
  induction t with
  | leave n hq ho hm => exact ⟨n, hq⟩
  | step nx hne => exact absurd h hne
  | ghost hg h' ih => exact ih (by rw [hg.com]; exact h)
  | send hs hs' h1 ho => rw [h] at ho; cases ho

theorem act_done {s : WS P} {x : Goroutine} (ha : Act s x) (h : s.c.com.out = []) : ∃ n, QuitsIn P n x := by
  obtain ⟨c, g, w0, t, p⟩ := s
  cases p with
  | false =>
    have : x = g := ha
    subst this
    exact wt_done t h
  | true =>
    cases t with
    | send hs hs' h1 ho => rw [h] at ho; cases ho
    | _ => exact ha.elim

/-- The last step of goroutine 0. -/
def Fin (P : Program) (Post : Value → World → Prop) (c : Cx) (g : Goroutine) (w : World) : Prop :=
  g.status = .running ∧ c.com.todo = [] ∧ ∃ v w' es n1, stepG P true g w = .ended (.done v) w' es ∧ Post v w' ∧ ∀ e ∈ es, EvOk c w.heap.size n1 e

theorem MI.good {gs : Array Goroutine} {w w' wm : World} {t : Trace} {c0 : Cx} {w0 : World} {ws : List (WS P)} {sl : Option (Nat × Nat)} {v : Value} {es : Array Event} {n1 : Nat} {fn : FuncId} {pos : String} (h : MI P gs w t c0 w0 ws) (ht : c0.com.todo = []) (hp : Post v w') (he : ∀ e ∈ es, EvOk c0 w.heap.size n1 e) :
    Conc.Good P Post (crowd gs wm sl) (.done v) w' (t ++ MemOp.ofEvents 0 fn pos es) := by
  have hf := fits_of (j := 0) (fn := fn) (pos := pos) he
  have hout : ∀ s ∈ ws, s.c.com.out = [] := fun s hs => by
    have hp := h.todo
    rw [ht] at hp
    have hnil := hp.symm.eq_nil
    have := List.filter_eq_nil_iff.1 hnil s.c.com.out (List.mem_map_of_mem hs)
    simpa using this
  have hwl : Wordless (t ++ MemOp.ofEvents 0 fn pos es) := h.tame.words.append fun op hop => (hf op hop).2.2
  have hquit : ∀ (i : Nat) (x : Goroutine), gs[i + 1]? = some x → ∃ n, QuitsIn P n x := fun i x hx => by
    have hlt : i < ws.length := by have := (Array.getElem?_eq_some_iff.1 hx).1; have := h.size; omega
    obtain ⟨y, hy, ha⟩ := h.act i ws[i] (by simp [hlt])
    rw [hx] at hy
    cases hy
    exact act_done ha (hout _ (List.getElem_mem hlt))
  refine ⟨v, rfl, hp, noRace_own h.race h.tame h.know0.1 h.know0.2 hf, ?_, ⟨?_, rfl⟩, ?_⟩
  · intro i g hg hne hcount
    obtain ⟨x, hx, _⟩ := hcount
    obtain ⟨op, hop, hxi⟩ := touch_of hx
    have hgi : op.g = g := by simpa [Trace.g?, hop] using hg
    rcases getElem?_append_cases hop with ⟨_, hop'⟩ | ⟨_, hu⟩
    · have hk : Knows t 0 i := by
        rcases h.hand i op x hop' hxi with q | q | ⟨m, s, _, q2, q3⟩
        · rw [hgi] at q; exact absurd q hne
        · exact q
        · exact absurd (hout s (List.mem_of_getElem? q2)) q3
      obtain ⟨q, z, hz, hz0, hb⟩ := hk.app (MemOp.ofEvents 0 fn pos es)
      refine ⟨q, by simp [Trace.g?, hz, hz0], ?_⟩
      rcases hb with rfl | hb
      · rw [hop] at hz; cases hz; rw [hgi] at hz0; exact absurd hz0 hne
      · exact hb
    · have := (hf op hu).1; rw [hgi] at this; exact absurd this hne
  · intro x hx
    obtain ⟨i, hi⟩ := List.mem_iff_getElem?.1 hx
    have hi' : gs[i + 1]? = some x := by
      rw [List.getElem?_drop] at hi
      have : (crowd gs wm sl).gs.toList = gs.toList := rfl
      rw [this, Array.getElem?_toList] at hi
      rw [Nat.add_comm]
      exact hi
    obtain ⟨n, hq⟩ := hquit i x hi'
    exact ⟨n, hq.leaves⟩
  · intro i x hi hne
    cases i with
    | zero => exact absurd rfl hne
    | succ i =>
      obtain ⟨n, hq⟩ := hquit i x hi
      rw [hwl.deaf]
      exact ⟨n, hq.hears _ 0⟩

theorem wt_running {c : Cx} {g : Goroutine} {w : World} (t : WT P c g w) (h : c.com.out ≠ []) : g.status = .running := by
  induction t with
  | leave n hq ho hm => exact absurd ho h
  | step nx hne hs => exact hs
  | ghost hg h' ih => exact ih (by rw [hg.com]; exact h)
  | send hs => exact hs

/-- Nobody among the workers wants to receive. -/
theorem MI.no_recv {gs : Array Goroutine} {w : World} {t : Trace} {c0 : Cx} {w0 : World} {ws : List (WS P)} (h : MI P gs w t c0 w0 ws) {k r j : Nat} {x : Goroutine} (hx : (gs.setIfInBounds (k + 1) ph)[j]? = some x) (hj : j ≠ 0) : offersAt x r false = [] := by
  rcases getElem?_stand gs (k + 1) j x hx with ⟨_, rfl⟩ | ⟨_, hx⟩
  · exact offersAt_ph _ _
  · obtain ⟨i, rfl⟩ : ∃ i, j = i + 1 := ⟨j - 1, by omega⟩
    have hlt : i < ws.length := by have := (Array.getElem?_eq_some_iff.1 hx).1; have := h.size; omega
    obtain ⟨y, hy, ha⟩ := h.act i ws[i] (by simp [hlt])
    rw [hx] at hy
    cases hy
    exact act_no_recv ha

/-- A worker waits at its send, nobody being there to receive. -/
theorem MI.park {gs : Array Goroutine} {w : World} {t : Trace} {c0 : Cx} {w0 : World} {ws : List (WS P)} {g0 : Goroutine} {k : Nat} (sl : Option (Nat × Nat)) (h : MI P gs w t c0 w0 ws) (h0 : gs[0]? = some g0) (hg : g0.status = .running) (hsend : AtSend' ws k) :
    ∃ ws' gs' w' ops, listRel (WS.next P) ws' ws ∧ MI P gs' w' (t ++ ops) c0 w0 ws' ∧ gs'[0]? = some g0 ∧ runT P (crowd gs w sl) (k + 1) = (.next (crowd gs' w' sl), ops) := by
  obtain ⟨c, c', g, g', wv, r, v, z, rest, hs, hs', h1, ho, hr, hc, hm, hi, hch, hout, htodo, h2, hk⟩ := hsend
  obtain ⟨x, hx, ha⟩ := h.act k _ hk
  have : x = g := ha
  subst this
  obtain ⟨a, hopen⟩ := (h.chans r (.inr ⟨_, List.mem_of_getElem? hk, hr⟩)).1
  refine ⟨_, _, w, _, ⟨k, _, _, hk, .park, rfl⟩, ?_, ?_, crowd_waits hx (h1 w) ?_⟩
  · have := h.turnW hk (s' := ⟨c, x, wv, .send hs hs' h1 ho hr hc hm hi hch hout htodo h2, true⟩) (x' := parked g' #[⟨.chan (some r), some v, z⟩] .send) rfl id (.refl _)
    simpa [MemOp.ofEvents] using this
  · rw [Array.getElem?_setIfInBounds_ne (by omega)]; exact h0
  · intro cc hcc
    have : cc = scase r v z := by simpa [scase] using hcc
    subst this
    refine ways_send_none hopen (Nat.le_refl _) (partners_nil fun j y hy => ?_)
    by_cases hj : j = 0
    · subst hj
      rw [Array.getElem?_setIfInBounds_ne (by omega), h0] at hy
      cases hy
      exact offersAt_of_not_blocked (by rw [hg]; simp) _ _
    · exact h.no_recv hy hj

/-- ████ All that comes up while goroutine 0 is not waiting. ████ -/
theorem MI.drive {g : Goroutine} {c0 : Cx} {w0 : World} (hs : g.status = .running)
    (main : ∀ (ws : List (WS P)) (gs : Array Goroutine) (w : World) (t : Trace) (sl : Option (Nat × Nat)), MI P gs w t c0 w0 ws → gs[0]? = some g → ∃ m' ops, runT P (crowd gs w sl) 0 = (m', ops) ∧
      ((∃ m, m' = .next m ∧ Runs P Post m (t ++ ops)) ∨ ∃ v w', m' = .ended (.done v) w' ∧ ∀ wm slm, Conc.Good P Post (crowd gs wm slm) (.done v) w' (t ++ ops))) :
    ∀ (ws : List (WS P)) (gs : Array Goroutine) (w : World) (t : Trace) (sl : Option (Nat × Nat)), MI P gs w t c0 w0 ws → gs[0]? = some g → Runs P Post (crowd gs w sl) t := by
  intro ws
  induction acc_list ws (fun a _ => ws_acc a.t a.parked) with
  | intro ws _ ih =>
  intro gs w t sl hI h0
  obtain ⟨i, gi, d, sl', hi, hrun, hst⟩ := crowd_pick (P := P) (w := w) (sl := sl) (hI.awake h0 (awake_of (.inl hs))) ⟨0, g, h0, hs⟩
  have hI' := hI.draw d
  cases i with
  | zero =>
    obtain ⟨m', ops, hr, hm⟩ := main ws gs (w.at d) t sl' hI' h0
    rcases hm with ⟨m, rfl, hm⟩ | ⟨v, w', rfl, hg⟩
    · exact .more (hst.trans hr) hm
    · exact .last (hst.trans hr) (hg w sl)
  | succ k =>
    rcases hI'.moveW sl' h0 (.inl hs) hi hrun with ⟨ws', hlt, hM, _⟩ | ⟨ws', gs', w', ops, hlt, hM, h0', hr, _⟩ | hsend
    · exact ih ws' hlt gs w t sl (hM.draw w.drawn) h0
    · exact .more (hst.trans hr) (ih ws' hlt gs' w' _ sl' hM h0')
    · obtain ⟨ws', gs', w', ops, hlt, hM, h0', hr⟩ := hI'.park sl' h0 hs hsend
      exact .more (hst.trans hr) (ih ws' hlt gs' w' _ sl' hM h0')

theorem todo_mem {gs : Array Goroutine} {w : World} {t : Trace} {c0 : Cx} {w0 : World} {ws : List (WS P)} (h : MI P gs w t c0 w0 ws) {s : WS P} (hs : s ∈ ws) (hne : s.c.com.out ≠ []) : s.c.com.out ∈ c0.com.todo := by
  refine h.todo.symm.subset (List.mem_filter.2 ⟨List.mem_map_of_mem hs, ?_⟩)
  cases ho : s.c.com.out with
  | nil => exact absurd ho hne
  | cons a l => rfl

/-- ████ All that comes up while goroutine 0 waits. ████ -/
theorem MI.wait {c0 : Cx} {w0 : World} {g' : Goroutine} {cases : Array CommCase} {shape : CommShape} (hr : Recvs c0 cases) (hne : c0.com.todo ≠ [])
    (hall : ∀ ms ∈ c0.com.todo, ∃ r v rest, ms = (r, v) :: rest ∧ ∃ k ∈ cases, k.chan = .chan (some r)) (nx : Nat → Value → List (List (Nat × Value)) → Cx)
    (hc : ∀ k v T, (nx k v T).own = c0.own ∧ (nx k v T).mine = c0.mine ∧ (nx k v T).imm = c0.imm ∧ (nx k v T).com.chans = c0.com.chans ∧ (nx k v T).com.out = c0.com.out ∧ (nx k v T).com.todo = T ∧ (nx k v T).com.main = c0.com.main)
    (out : ∀ (k r : Nat) (v z : Value) (T1 T2 : List (List (Nat × Value))) (rest : List (Nat × Value)), cases[k]? = some ⟨.chan (some r), none, z⟩ → c0.com.todo = T1 ++ ((r, v) :: rest) :: T2 →
      ∀ (ws : List (WS P)) (gs : Array Goroutine) (w : World) (t : Trace) (sl : Option (Nat × Nat)), MI P gs w t (nx k v (T1 ++ restOf rest ++ T2)) w0 ws → gs[0]? = some (g'.finishComm P cases shape k v true) → Runs P Post (crowd gs w sl) t) :
    ∀ (ws : List (WS P)) (gs : Array Goroutine) (w : World) (t : Trace) (sl : Option (Nat × Nat)), MI P gs w t c0 w0 ws → (∀ s ∈ ws, s.parked = false) → gs[0]? = some (parked g' cases shape) → Runs P Post (crowd gs w sl) t := by
  intro ws
  induction acc_list ws (fun a _ => ws_acc a.t a.parked) with
  | intro ws _ ih =>
  intro gs w t sl hI hup h0
  have hst0 : Stays c0 (parked g' cases shape) := .inr ⟨g', cases, shape, rfl, hr.1⟩
  have hsome : ∃ (i : Nat) (g : Goroutine), gs[i]? = some g ∧ g.status = .running := by
    obtain ⟨ms, hms⟩ := List.exists_mem_of_ne_nil _ hne
    have hm := hI.todo.subset hms
    obtain ⟨hm, hms'⟩ := List.mem_filter.1 hm
    obtain ⟨s, hs, rfl⟩ := List.mem_map.1 hm
    obtain ⟨i, hi⟩ := List.mem_iff_getElem?.1 hs
    obtain ⟨x, hx, ha⟩ := hI.act i s hi
    have hp := hup s hs
    obtain ⟨c, g, wv, tr, p⟩ := s
    simp only at hp
    subst hp
    have : x = g := ha
    subst this
    exact ⟨i + 1, x, hx, wt_running tr (by intro e; simp [e] at hms')⟩
  obtain ⟨i, gi, d, sl', hi, hrun, hst⟩ := crowd_pick (P := P) (w := w) (sl := sl) (hI.awake h0 (awake_of (.inr (.inl rfl)))) hsome
  have hI' := hI.draw d
  cases i with
  | zero => rw [h0] at hi; cases hi; cases hrun
  | succ k =>
    rcases hI'.moveW sl' h0 hst0 hi hrun with ⟨ws', hlt, hM, hpk⟩ | ⟨ws', gs', w', ops, hlt, hM, h0', hrn, hpk⟩ | hsend
    · exact ih ws' hlt gs w t sl (hM.draw w.drawn) (fun s hs => by
        cases hb : s.parked with
        | false => rfl
        | true => rw [hup s (hpk s hs hb)] at hb; cases hb) h0
    · exact .more (hst.trans hrn) (ih ws' hlt gs' w' _ sl' hM (fun s hs => by
        cases hb : s.parked with
        | false => rfl
        | true => rw [hup s (hpk s hs hb)] at hb; cases hb) h0')
    · obtain ⟨c, c', g, g2, wv, r, v, z, rest, hs, hs', h1, ho, hcr, hc', hm, him, hch, hout, htodo, h2, hk⟩ := hsend
      have hmem := List.mem_of_getElem? hk
      obtain ⟨x, hx, ha⟩ := hI.act k _ hk
      have : x = g := ha
      subst this
      obtain ⟨a, hopen⟩ := (hI'.chans r (.inr ⟨_, hmem, hcr⟩)).1
      have hin : ((r, v) :: rest) ∈ c0.com.todo := by
        have := todo_mem hI hmem (by rw [ho]; simp)
        rw [ho] at this
        exact this
      obtain ⟨T1, T2, hT⟩ := List.append_of_mem hin
      obtain ⟨r', v', rest', hms, cc, hcc, hcch⟩ := hall _ hin
      cases hms
      obtain ⟨kk, hkk⟩ := Array.getElem?_of_mem hcc
      have hcce : cc = rcase r cc.zero := by
        have := (hr.1 cc hcc).1
        obtain ⟨a, b, e⟩ := cc
        simp only at this hcch
        subst this hcch
        rfl
      rw [hcce] at hkk
      have hpart : partners (gs.setIfInBounds (k + 1) ph) r false = [(0, kk)] := by
        have e0 : (gs.setIfInBounds (k + 1) ph)[0]? = some (parked g' cases shape) := by rw [Array.getElem?_setIfInBounds_ne (by omega)]; exact h0
        rw [partners_one e0 fun j y hj hy => hI.no_recv hy hj, offersAt_parked_at hkk fun m cc' hm hcc' e => hm (hr.2 m kk cc' _ hcc' hkk (by rw [e]; rfl))]
        rfl
      have hrn := crowd_send_meets_sel (P := P) (sl := sl') hx (h1 (w.at d)) hopen (by omega) h0 hkk hpart
      refine .more (hst.trans hrn) (out kk r v cc.zero T1 T2 rest hkk hT (ws.set k ⟨c', _, wv, h2, false⟩) _ _ _ sl' ?_ ?_)
      · rw [set_swap (by omega)]
        have hM := hI'.meet (d := (w.at d).drawn) (x0 := g'.finishComm P cases shape kk v true) (s' := ⟨c', _, wv, h2, false⟩) (fj := g2.frame.fn) (f0 := g'.frame.fn) (pj := g2.frame.place) (p0 := g'.frame.place) hk ho hcr hopen rfl rfl hm him hch hout hT (hc kk v (T1 ++ restOf rest ++ T2)).2.1 (hc _ _ _).2.2.1 (hc _ _ _).2.2.2.1 (hc _ _ _).2.2.2.2.2.1
        exact hM
      · rw [Array.getElem?_setIfInBounds_ne (by omega), Array.getElem?_setIfInBounds_self_of_lt]
        exact (Array.getElem?_eq_some_iff.1 h0).1

/-- ████ The theorem. ████ -/
theorem MI.runs {main : Bool} {Stop : Cx → Goroutine → World → Prop} {c0 : Cx} {g : Goroutine} {w0 : World} (hg : Go' P main Stop c0 g w0) (hmain : main = true) (hrole : c0.com.main = true) {E : World → Prop} (hE : ∀ w w', E w → w'.os = w.os → w'.output = w.output → w'.tape = w.tape → E w') (he0 : E w0) (hS : ∀ c g w, Stop c g w → E w → Fin P Post c g w) :
    ∀ (ws : List (WS P)) (gs : Array Goroutine) (w : World) (t : Trace) (sl : Option (Nat × Nat)), MI P gs w t c0 w0 ws → gs[0]? = some g → Runs P Post (crowd gs w sl) t := by
  induction hg with
  | stop h =>
    subst hmain
    refine MI.drive (hS _ _ _ (h _ (RL.refl _ _)) he0).1 fun ws gs w t sl hI h0 => ?_
    obtain ⟨_, ht, v, w', es, n1, hend, hp, he⟩ := hS _ _ _ (h w hI.rel0) (hE _ _ he0 hI.rel0.os hI.rel0.output hI.rel0.tape)
    exact ⟨_, _, run_ended h0 hend, .inr ⟨v, w', rfl, fun wm slm => hI.good ht hp he⟩⟩
  | step nx hs h1 h2 ih =>
    subst hmain
    refine MI.drive hs fun ws gs w t sl hI h0 => ?_
    obtain ⟨g', w', es, hstep, hrun', gd⟩ := h1 w hI.rel0
    refine ⟨_, _, runT_crowd_go h0 hstep, .inl ⟨_, rfl, ih w hI.rel0 g' w' es hstep rfl (gd.main.trans hrole) (hE _ _ (hE _ _ he0 hI.rel0.os hI.rel0.output hI.rel0.tape) gd.keeps.os gd.keeps.output gd.keeps.tape) hS ws _ _ _ sl (hI.own0 gd) ?_⟩⟩
    rw [Array.getElem?_setIfInBounds_self_of_lt]
    simp [hI.size]
  | ghost hgh h ih => exact fun ws gs w t sl hI h0 => ih hmain (by rw [hgh.com]; exact hrole) he0 hS ws gs w t sl (hI.ghost0 hgh) h0
  | @spawn main Stop c c' cc g g' child w0 _ hs hs' hk h1 hc hcc h2 h3 _ ih =>
    subst hmain
    refine MI.drive hs fun ws gs w t sl hI h0 => ?_
    have hrn := runT_crowd_spawn (P := P) (sl := sl) h0 (h1 w)
    obtain ⟨e1, e2, e3, e4, e5, e6, e7⟩ := hc
    obtain ⟨f1, f2, f3, f4, f5, f7, f6⟩ := hcc
    obtain ⟨tr⟩ := wt_of_go h2 rfl f7 (fun _ _ _ h => h) f5
    refine ⟨_, _, hrn, .inl ⟨_, rfl, ih rfl (e7.trans hrole) he0 hS (ws ++ [⟨cc, child, w0, tr, false⟩]) _ _ _ sl ?_ ?_⟩⟩
    · have hM := hI.spawn (c0' := c') (g' := g') (fn := g.frame.fn) (fn' := child.frame.fn) (pos := g.frame.place) (s := ⟨cc, child, w0, tr, false⟩) (child := child) rfl rfl ⟨e2, e3, e4, e6⟩ ⟨f1, f2, f3, f5⟩
      have hsz := hI.size
      simp only [goOps, ← hsz] at hM
      exact hM
    · rw [Array.getElem?_push_lt (by simp [hI.size]), ← Array.getElem?_eq_getElem, Array.getElem?_setIfInBounds_self_of_lt]
      simp [hI.size]
  | send hr => rw [hrole] at hr; cases hr
  | @recv main Stop c g g' w0 cases shape _ hs hs' h1 hr hne hall nx hc h2 ih =>
    have out : ∀ (k r : Nat) (v z : Value) (T1 T2 : List (List (Nat × Value))) (rest : List (Nat × Value)), cases[k]? = some ⟨.chan (some r), none, z⟩ → c.com.todo = T1 ++ ((r, v) :: rest) :: T2 →
      ∀ (ws : List (WS P)) (gs : Array Goroutine) (w : World) (t : Trace) (sl : Option (Nat × Nat)), MI P gs w t (nx k v (T1 ++ restOf rest ++ T2)) w0 ws → gs[0]? = some (g'.finishComm P cases shape k v true) → Runs P Post (crowd gs w sl) t :=
      fun k r v z T1 T2 rest hk hT ws gs w t sl hI h0 => ih k r v z T1 T2 rest hk hT hmain ((hc _ _ _).2.2.2.2.2.2.trans hrole) he0 hS ws gs w t sl hI h0
    subst hmain
    refine MI.drive hs fun ws gs w t sl hI h0 => ?_
    have hopen : ∀ cc ∈ cases, ∃ r z, cc = rcase r z ∧ OpenChan w r := fun cc hcc => by
      obtain ⟨q1, r, q2, q3⟩ := hr.1 cc hcc
      refine ⟨r, cc.zero, ?_, (hI.chans r (.inl q3)).1⟩
      obtain ⟨a, b, e⟩ := cc
      simp only at q1 q2
      subst q1 q2
      rfl
    have hpart : ∀ r j k, (j, k) ∈ partners (gs.setIfInBounds 0 ph) r true → k = 0 ∧ j ≠ 0 ∧ ∃ gj vj zj, gs[j]? = some (parked gj #[scase r vj zj] .send) := fun r j k hp => by
      obtain ⟨x, hx, hk⟩ := mem_partners.1 hp
      rcases getElem?_stand gs 0 j x hx with ⟨_, rfl⟩ | ⟨hj, hx⟩
      · rw [offersAt_ph] at hk; cases hk
      · obtain ⟨i, rfl⟩ : ∃ i, j = i + 1 := ⟨j - 1, by omega⟩
        have hlt : i < ws.length := by have := (Array.getElem?_eq_some_iff.1 hx).1; have := hI.size; omega
        obtain ⟨y, hy, ha⟩ := hI.act i ws[i] (by simp [hlt])
        rw [hx] at hy
        cases hy
        obtain ⟨e, _, _, _, g2, _, v, z, _, _, _, _, _, _, _, _, _, _, _, _, _, _, rfl⟩ := act_offers_send ha hk
        exact ⟨e, hj, g2, v, z, hx⟩
    by_cases hw : ∃ cc ∈ cases, ways w (gs.setIfInBounds 0 ph) cc ≠ []
    · obtain ⟨k, r, z, j, gj, vj, zj, a, d, hck, hij, hj, hch, hrn⟩ := sel_recv_any (P := P) (sl := sl) h0 (h1 w) hopen hpart hw
      obtain ⟨i, rfl⟩ : ∃ i, j = i + 1 := ⟨j - 1, by omega⟩
      have hlt : i < ws.length := by have := (Array.getElem?_eq_some_iff.1 hj).1; have := hI.size; omega
      obtain ⟨s, hsi⟩ : ∃ s, ws[i]? = some s := ⟨ws[i], by simp [hlt]⟩
      obtain ⟨y, hy, ha⟩ := hI.act i s hsi
      rw [hj] at hy
      cases hy
      obtain ⟨_, cc, cc', gg, g2, wv, v, zz, rest, hs, hs', q1, ho, hcr, hc', hm, him, hch', hout, htodo, q2, rfl, heq⟩ := act_offers_send (r := r) (k := 0) ha (by rw [offersAt_parked_send]; simp)
      have hoff : (parked gj #[scase r vj zj] .send).offers = (parked g2 #[scase r v zz] .send).offers := by rw [heq]; rfl
      simp only [parked, Option.some.injEq, Prod.mk.injEq, and_true] at hoff
      have hoff2 : scase r vj zj = scase r v zz := by simpa using hoff
      obtain ⟨rfl, rfl⟩ : vj = v ∧ zj = zz := by simpa [scase] using hoff2
      have hfin : gj.finishComm P #[scase r vj zj] .send 0 undef false = g2.finishComm P #[scase r vj zj] .send 0 undef false := by
        rw [← finishComm_parked P gj #[scase r vj zj] #[scase r vj zj] .send .send, heq]
        exact finishComm_parked P g2 #[scase r vj zj] #[scase r vj zj] .send .send 0 undef false
      have hin : ((r, vj) :: rest) ∈ c.com.todo := by
        have := todo_mem hI (List.mem_of_getElem? hsi) (by rw [ho]; simp)
        rw [ho] at this
        exact this
      obtain ⟨T1, T2, hT⟩ := List.append_of_mem hin
      refine ⟨_, _, hrn, .inl ⟨_, rfl, out k r vj z T1 T2 rest hck hT (ws.set i ⟨cc', _, wv, q2, false⟩) _ _ _ sl ?_ ?_⟩⟩
      · have hM := hI.meet (d := d) (x0 := g'.finishComm P cases shape k vj true) (s' := ⟨cc', _, wv, q2, false⟩) (fj := gj.frame.fn) (f0 := g'.frame.fn) (pj := gj.frame.place) (p0 := g'.frame.place) hsi ho hcr hch rfl rfl hm him hch' hout hT (hc k vj (T1 ++ restOf rest ++ T2)).2.1 (hc _ _ _).2.2.1 (hc _ _ _).2.2.2.1 (hc _ _ _).2.2.2.2.2.1
        have e0 : MemOp.ofEvents 0 g.frame.fn g.frame.place #[] = #[] := by simp [MemOp.ofEvents]
        rw [hfin, e0, Array.empty_append]
        exact hM
      · rw [Array.getElem?_setIfInBounds_self_of_lt]
        simp [hI.size]
    · have hno : ∀ cc ∈ cases, NoWays w (gs.setIfInBounds 0 ph) cc := fun cc hcc => by
        refine ⟨?_, Classical.byContradiction fun q => hw ⟨cc, hcc, q⟩⟩
        obtain ⟨r, z, rfl, a, ha⟩ := hopen cc hcc
        exact made_recv z ha
      have hrn := crowd_waits (P := P) (sl := sl) h0 (h1 w) hno
      refine ⟨_, _, hrn, .inl ⟨_, rfl, MI.wait (w0 := w0) (nx := nx) hr hne hall hc out ws _ w _ sl ?_ ?_ ?_⟩⟩
      · have e : t ++ MemOp.ofEvents 0 g.frame.fn g.frame.place #[] = t := by simp [MemOp.ofEvents]
        rw [e]
        exact ⟨by simp [hI.size], fun i s hi => by
          obtain ⟨x, hx, ha⟩ := hI.act i s hi
          exact ⟨x, by rw [Array.getElem?_setIfInBounds_ne (by omega)]; exact hx, ha⟩, hI.rel0, hI.rel, hI.apart0, hI.apart, hI.low0, hI.low, hI.chans, hI.todo, hI.know0, hI.know, hI.tame, hI.race, hI.hand⟩
      · intro s hs
        cases hb : s.parked with
        | false => rfl
        | true =>
          exfalso
          obtain ⟨i, hi⟩ := List.mem_iff_getElem?.1 hs
          obtain ⟨x, hx, ha⟩ := hI.act i s hi
          obtain ⟨c2, gg, wv, tr, p⟩ := s
          simp only at hb
          subst hb
          cases tr with
          | @send _ c' _ g2 _ r v z rest _ _ _ ho hcr hcc hm him hch hout htodo h2 =>
            have e : x = parked g2 #[scase r v z] .send := ha
            have hin : ((r, v) :: rest) ∈ c.com.todo := by
              have := todo_mem hI hs (by simp only; rw [ho]; simp)
              simp only at this
              rw [ho] at this
              exact this
            obtain ⟨r', v', rest', hms, cc, hccm, hcch⟩ := hall _ hin
            cases hms
            obtain ⟨r2, z2, rfl, a, hopn⟩ := hopen cc hccm
            have er : r2 = r := by simpa [rcase] using hcch
            subst er
            have hp : (i + 1, 0) ∈ partners (gs.setIfInBounds 0 ph) r2 true := mem_partners.2 ⟨x, by rw [Array.getElem?_setIfInBounds_ne (by omega)]; exact hx, by rw [e, offersAt_parked_send]; simp⟩
            refine hw ⟨_, hccm, ?_⟩
            simp only [ways, rcase, hopn]
            simp only [Array.size_empty, gt_iff_lt, Nat.lt_irrefl, if_false]
            cases hps : partners (gs.setIfInBounds 0 ph) r2 true with
            | nil => rw [hps] at hp; cases hp
            | cons p ps => simp
          | _ => exact ha.elim
      · rw [Array.getElem?_setIfInBounds_self_of_lt]
        simp [hI.size]
end
end Go.Mac

/-! MacD -/
/- MacD: one operation of a region, taken as one step. No program is in sight. -/
namespace Go.Mac
open Go Go.Conc

/-- What is turned by an operation: what becomes mine, and what nobody writes any more, was mine or is new. -/
structure TurnOk (c c' : Cx) (n0 : Nat) : Prop where
  ext : Ext c c'
  mine : ∀ b, c'.mine b → c.mine b ∨ n0 ≤ b
  imm : ∀ b o, c'.imm b = some o → c.imm b = some o ∨ c.mine b ∨ n0 ≤ b
  com : c'.com = c.com

theorem TurnOk.refl (c : Cx) (n0 : Nat) : TurnOk c c n0 := ⟨.refl c, fun _ h => .inl h, fun _ _ h => .inl h, rfl⟩

/-- What an operation hands back: a value, or nothing ('undef'). -/
def givenBy : Next → Option Value
  | .value v => some v
  | .skip => some undef
  | _ => none

/-- The operation's small program yields a value and blocks that satisfy 'K'. -/
def OpOk (P : Program) (s : Sem Next) (K : AV → List Blk → Prop) (c : Cx) (w : World) : Prop :=
  Ok P c w.heap.size s w fun r => ∃ nx V w' c' v h', r = .ok nx w' ∧ givenBy nx = some V ∧ K v h' ∧ VR c' v V ∧ HR c' w' h' ∧ TurnOk c c' w.heap.size

def isDefer : Op → Bool
  | .defer _ => true
  | _ => false

def putA (sl : List AV) : Option Tmp → AV → List AV
  | some d, v => sl.set d v
  | none, _ => sl

def putV (tmps : Array Value) : Option Tmp → Value → Array Value
  | some d, v => tmps.setIfInBounds d v
  | none, _ => tmps

theorem VRL.put {c : Cx} {sl : List AV} {tmps : Array Value} (h : VRL c sl tmps.toList) (dst : Option Tmp) {v : AV} {V : Value} (hv : VR c v V) : VRL c (putA sl dst v) (putV tmps dst V).toList := by
  cases dst with
  | none => exact h
  | some d => simp only [putA, putV, Array.toList_setIfInBounds]; exact h.set d hv

theorem finish_at' (b : Frame) (tmps : Array Value) (ds : List Deferred) (ops : Array Oper) (i : Nat) (rest : List Nat) (k : List Item) (v : Value) :
    (at' b tmps ds (.inRegion ops (i :: rest) :: k)).finish v = at' b (putV tmps ((ops[i]?).bind (·.dst)) v) ds (.inRegion ops rest :: k) := by
  cases h : (ops[i]?).bind (·.dst) <;> simp [Frame.finish, at', putV, h]

theorem stepG_opA {P : Program} {main : Bool} {b : Frame} {tmps : Array Value} {ds : List Deferred} {ops : Array Oper} {i : Nat} {rest : List Nat} {k : List Item} {cs : List Frame} {w : World} {o : Oper}
    (ho : ops[i]? = some o) (hw : Region.wanted o (yielded ops tmps) = true) (hd : isDefer o.op = false) :
    stepG P main (G (at' b tmps ds (.inRegion ops (i :: rest) :: k)) cs) w =
      stepG.apply P true (at' b tmps ds (.inRegion ops (i :: rest) :: k)) cs none (execOp (at' b tmps ds (.inRegion ops (i :: rest) :: k)).eval o) w := by
  simp only [G, stepG, at', stepG.exec, ho, Option.map_some, hw, Option.getD_some, if_true, stepG.oper, Frame.oper?]
  cases hr : b.roundOf with
  | none => rfl
  | some l => cases hop : o.op <;> first | rfl | (rw [hop] at hd; cases hd)

theorem stepG_skipped {P : Program} {main : Bool} {b : Frame} {tmps : Array Value} {ds : List Deferred} {ops : Array Oper} {i : Nat} {rest : List Nat} {k : List Item} {cs : List Frame} {w : World} {o : Oper}
    (ho : ops[i]? = some o) (hw : Region.wanted o (yielded ops tmps) = false) :
    stepG P main (G (at' b tmps ds (.inRegion ops (i :: rest) :: k)) cs) w = .go (G (at' b (putV tmps o.dst undef) ds (.inRegion ops rest :: k)) cs) w #[] := by
  have hf := finish_at' b tmps ds ops i rest k undef
  rw [ho] at hf
  simp only [Option.bind_some] at hf
  rw [← hf]
  simp [G, stepG, at', stepG.exec, ho, hw]

section
variable {P : Program} {fn : FK} {Q : AExit → AS → Prop} {s : AS} {ops : Array Oper} {i : Nat} {rest : List Nat} {o : Oper}

/-- ████ An operation that is carried out. ████ -/
theorem WPI.op (ho : ops[i]? = some o) (hw : ∀ c tmps, VRL c s.sl tmps.toList → Region.wanted o (yielded ops tmps) = true) (hd : isDefer o.op = false) (K : AV → List Blk → Prop)
    (hop : ∀ (c : Cx) (w : World) (ρ : Operand → Value), (∀ x, VR c (evA s.sl x) (ρ x)) → HR c w s.hp → OpOk P (execOp ρ o) K c w)
    (hk : ∀ v h', K v h' → WPI P fn [.inRegion ops rest] Q { s with sl := putA s.sl o.dst v, hp := h' }) : WPI P fn [.inRegion ops (i :: rest)] Q s := by
  intro main Stop b k cs base c w tmps ds h1 h2 h3 h4
  refine Go'.of_step rfl fun w1 r => ?_
  have h3' := h3.rely r
  rw [List.singleton_append, stepG_opA ho (hw c tmps h3.sl) hd]
  generalize hfr : at' b tmps ds (.inRegion ops (i :: rest) :: k) = fr
  have hρ : ∀ x, VR c (evA s.sl x) (fr.eval x) := fun x => by rw [← hfr]; exact VR_evA h3.sl b ds _ x
  obtain ⟨⟨nx, V, w', c', v, h', e, hv, hK, hV, hH, hT⟩, ev, kp⟩ := Ok.spec #[] (hop c w1 fr.eval hρ h3'.hp) (Nat.le_refl _)
  rw [e] at kp ev
  have hkind : (fr.kind == CallKind.early) = false := by rw [← hfr]; simpa [at'] using h2
  have hfin : fr.finish V = at' b (putV tmps o.dst V) ds (.inRegion ops rest :: k) := by rw [← hfr, finish_at', ho]; rfl
  have hstep : stepG.apply P true fr cs none (execOp fr.eval o) w1 = .go (G (at' b (putV tmps o.dst V) ds (.inRegion ops rest :: k)) cs) w' (seen P fr.fn ((execOp fr.eval o).events P w1 #[])) := by
    rw [← hfin]
    cases nx <;> simp only [givenBy, Option.some.injEq, reduceCtorEq] at hv
    · subst hv; simp [stepG.apply, e, hkind, GStep.after, G]
    · subst hv; simp [stepG.apply, e, hkind, GStep.after, G]
  refine ⟨_, w', _, c', hstep, rfl, ⟨kp, hT.mine, hT.imm, hT.ext.imm, fun x hx => ?_, fun b hb => .inr (hH.low hb), fun r hr => .inl (by rw [hT.com] at hr; exact hr), fun r hr => by rw [hT.com]; exact hr, by rw [hT.com], by rw [hT.com], by rw [hT.com]⟩, ?_⟩
  · rcases ev x (mem_seen hx) with h | h
    · simp at h
    · exact h
  · refine hk v h' hK main Stop b k cs base c' w' _ ds h1 h2 ⟨(h3.sl.ext hT.ext).put o.dst hV, h3.df.ext hT.ext, hH, h3.gh.ext hT.ext (by rw [hT.com]) (by rw [hT.com])⟩ fun e s' c2 w2 t2 d2 q r2 y => h4 e s' c2 w2 t2 d2 q r2 ((hT.ext.toT _).transT y)

/-- An operation without a condition. -/
theorem WPI.op0 (ho : ops[i]? = some o) (hg : o.guard = none) (hd : isDefer o.op = false) (K : AV → List Blk → Prop)
    (hop : ∀ (c : Cx) (w : World) (ρ : Operand → Value), (∀ x, VR c (evA s.sl x) (ρ x)) → HR c w s.hp → OpOk P (execOp ρ o) K c w)
    (hk : ∀ v h', K v h' → WPI P fn [.inRegion ops rest] Q { s with sl := putA s.sl o.dst v, hp := h' }) : WPI P fn [.inRegion ops (i :: rest)] Q s :=
  WPI.op ho (fun _ _ _ => by simp [Region.wanted, hg]) hd K hop hk

theorem yielded_of {c : Cx} {tmps : Array Value} {j d : Nat} {oj : Oper} {t : Bool} (h : VRL c s.sl tmps.toList) (hj : ops[j]? = some oj) (hjd : oj.dst = some d) (ht : s.sl[d]? = some (.bool t)) : yielded ops tmps j = some t := by
  obtain ⟨v, hv, hr⟩ := h.get ht
  have hv' : tmps[d]? = some v := by simpa using hv
  have : v = .bool t := hr
  subst this
  simp [yielded, hj, hjd, hv']

/-- An operation that is left out, its condition not being met. -/
theorem WPI.op_out (ho : ops[i]? = some o) {j d : Nat} {want t : Bool} {oj : Oper} (hg : o.guard = some (j, want)) (hj : ops[j]? = some oj) (hjd : oj.dst = some d) (ht : s.sl[d]? = some (.bool t)) (hne : t ≠ want)
    (hk : WPI P fn [.inRegion ops rest] Q { s with sl := putA s.sl o.dst (.tup []) }) : WPI P fn [.inRegion ops (i :: rest)] Q s := by
  intro main Stop b k cs base c w tmps ds h1 h2 h3 h4
  have hw : Region.wanted o (yielded ops tmps) = false := by
    simp only [Region.wanted, hg, yielded_of h3.sl hj hjd ht]
    cases t <;> cases want <;> simp_all
  refine Go'.idle rfl rfl (fun w1 => stepG_skipped ho hw) ?_
  exact hk main Stop b k cs base c w _ ds h1 h2 ⟨h3.sl.put o.dst ⟨[], rfl, rfl⟩, h3.df, h3.hp, h3.gh⟩ h4

theorem WPI.op_in (ho : ops[i]? = some o) {j d : Nat} {want t : Bool} {oj : Oper} (hg : o.guard = some (j, want)) (hj : ops[j]? = some oj) (hjd : oj.dst = some d) (ht : s.sl[d]? = some (.bool t)) (he : t = want)
    (hd : isDefer o.op = false) (K : AV → List Blk → Prop)
    (hop : ∀ (c : Cx) (w : World) (ρ : Operand → Value), (∀ x, VR c (evA s.sl x) (ρ x)) → HR c w s.hp → OpOk P (execOp ρ o) K c w)
    (hk : ∀ v h', K v h' → WPI P fn [.inRegion ops rest] Q { s with sl := putA s.sl o.dst v, hp := h' }) : WPI P fn [.inRegion ops (i :: rest)] Q s :=
  WPI.op ho (fun c tmps h => by simp [Region.wanted, hg, yielded_of h hj hjd ht, he]) hd K hop hk
end
end Go.Mac

/-! MacE -/
/- MacE: the blocks under a store and a new block; the model's helpers ('underlying', 'loadVar', 'storeVar' ..) within 'Ok'. No program is in sight. -/
namespace Go.Mac
open Go Go.Conc

section
variable {P : Program} {c : Cx} {n0 : Nat} {w : World}

theorem Ok.then {α β : Type} {s : Sem α} {f : α → Sem β} {Q : Result β → Prop} {a : α} (h : Ok P c n0 s w (fun r => r = .ok a w)) (h' : Ok P c n0 (f a) w Q) : Ok P c n0 (s >>= f) w Q :=
  Ok.bind' (h.mono fun r e => by subst e; exact h')

theorem Ok.then' {α β : Type} {s : Sem α} {f : α → Sem β} {Q : Result β → Prop} {R : α → World → Prop} (h : Ok P c n0 s w (fun r => ∃ a w', r = .ok a w' ∧ R a w')) (h' : ∀ a w', R a w' → Ok P c n0 (f a) w' Q) : Ok P c n0 (s >>= f) w Q :=
  Ok.bind' (h.mono fun r e => by obtain ⟨a, w', rfl, hr⟩ := e; exact h' a w' hr)

theorem ok_pure {α : Type} {a : α} {Q : Result α → Prop} (h : Q (.ok a w)) : Ok P c n0 (pure a : Sem α) w Q := h

theorem ok_underlying {t : TypeId} {d : TypeDesc} (h : P.underlying t = some d) : Ok P c n0 (underlying t) w (fun r => r = .ok d w) := by
  show Ok P c n0 (Sem.bind program _) w _
  simp only [program, Sem.bind, Ok, h]
  rfl

theorem ok_typeInfo {t : TypeId} {i : TypeInfo} (h : P.info? t = some i) : Ok P c n0 (typeInfo t) w (fun r => r = .ok i w) := by
  show Ok P c n0 (Sem.bind program _) w _
  simp only [program, Sem.bind, Ok, h]
  rfl

theorem ok_sizeOf {t : TypeId} {i : TypeInfo} (h : P.info? t = some i) : Ok P c n0 (sizeOf t) w (fun r => r = .ok i.size w) :=
  Ok.then (ok_typeInfo h) (ok_pure rfl)

theorem ok_zeroValue {t : TypeId} {i : TypeInfo} {z : Value} (h : P.info? t = some i) (hz : i.zero = some z) : Ok P c n0 (zeroValue t) w (fun r => r = .ok z w) :=
  Ok.then (ok_typeInfo h) (by rw [hz]; exact ok_pure rfl)

/-- Is a value of the type made of several cells? -/
def aggD : TypeDesc → Bool
  | .struct _ | .array _ _ => true
  | _ => false

theorem ok_isAgg {t : TypeId} {d : TypeDesc} (h : P.underlying t = some d) : Ok P c n0 (isAgg t) w (fun r => r = .ok (aggD d) w) :=
  Ok.then (ok_underlying h) (by cases d <;> exact ok_pure rfl)

theorem add_eq (b o i : Nat) : (⟨b, o, none⟩ : Addr).add i = ⟨b, o + i, none⟩ := by
  unfold Addr.add
  split
  · rename_i h; simp [h]
  · rfl

theorem ok_load {b o : Nat} {arr : Array Value} {el : TypeId} {fz : Nat × Nat} {v : Value} (ha : c.mine b ∨ n0 ≤ b ∨ (c.imm b).isSome) (hb : w.heap[b]? = some (.cells arr el fz)) (hv : arr[o]? = some v) :
    Ok P c n0 (load ⟨b, o, none⟩) w (fun r => r = .ok v w) :=
  ⟨rfl, ha, v, by simp [World.cell?, hb, hv], rfl⟩

theorem ok_loadCellsFrom {b o : Nat} {arr : Array Value} {el : TypeId} {fz : Nat × Nat} (ha : c.mine b ∨ n0 ≤ b ∨ (c.imm b).isSome) (hb : w.heap[b]? = some (.cells arr el fz)) :
    ∀ (n i : Nat) (acc : Array Value) (l : List Value), l.length = n → (∀ j v, l[j]? = some v → arr[o + i + j]? = some v) → Ok P c n0 (loadCellsFrom ⟨b, o, none⟩ i n acc) w (fun r => r = .ok (acc ++ l.toArray) w)
  | 0, i, acc, l, hl, _ => by
    have : l = [] := List.length_eq_zero_iff.1 hl
    subst this
    exact ok_pure (by simp)
  | n + 1, i, acc, [], hl, _ => by simp at hl
  | n + 1, i, acc, v :: l, hl, h => by
    have h0 := h 0 v rfl
    refine Ok.then (a := v) ?_ ?_
    · rw [add_eq]; exact ok_load ha hb (by simpa using h0)
    · refine (ok_loadCellsFrom ha hb n (i + 1) (acc.push v) l (by simpa using hl) fun j x hj => ?_).mono fun r e => by rw [e]; simp
      have := h (j + 1) x (by simpa using hj)
      rw [← this]; congr 1; omega

theorem ok_loadCells {b o : Nat} {arr : Array Value} {el : TypeId} {fz : Nat × Nat} {l : List Value} {n : Nat} (ha : c.mine b ∨ n0 ≤ b ∨ (c.imm b).isSome) (hb : w.heap[b]? = some (.cells arr el fz)) (hl : l.length = n)
    (h : l <+: arr.toList.drop o) : Ok P c n0 (loadCells ⟨b, o, none⟩ n) w (fun r => r = .ok l.toArray w) := by
  refine (ok_loadCellsFrom ha hb n 0 #[] l hl fun j v hj => ?_).mono fun r e => by rw [e]; simp
  obtain ⟨t, ht⟩ := h
  have : (arr.toList.drop o)[j]? = some v := by rw [← ht, List.getElem?_append_left (List.getElem?_eq_some_iff.1 hj).1]; exact hj
  simpa using this

/-- Reading a variable whose cells are known. -/
theorem ok_loadVar {t : TypeId} {d : TypeDesc} {i : TypeInfo} {b o : Nat} {arr : Array Value} {el : TypeId} {fz : Nat × Nat} {l : List Value} (hd : P.underlying t = some d) (hi : P.info? t = some i)
    (ha : c.mine b ∨ n0 ≤ b ∨ (c.imm b).isSome) (hb : w.heap[b]? = some (.cells arr el fz)) (hl : (if aggD d then i.size else 1) ≤ l.length) (h : l <+: arr.toList.drop o) :
    Ok P c n0 (loadVar t ⟨b, o, none⟩) w (fun r => r = .ok (if aggD d then .agg (l.take i.size).toArray else l.getD 0 default) w) := by
  refine Ok.then (ok_isAgg hd) ?_
  cases hg : aggD d with
  | true =>
    simp only [hg, if_true] at hl ⊢
    refine Ok.then (ok_sizeOf hi) (Ok.then (ok_loadCells ha hb (l := l.take i.size) (by simp; omega) ?_) (ok_pure rfl))
    exact (List.take_prefix _ _).trans h
  | false =>
    simp only [hg, Bool.false_eq_true, if_false] at hl ⊢
    cases l with
    | nil => simp at hl
    | cons v l =>
      obtain ⟨t, ht⟩ := h
      refine ok_load ha hb ?_
      have : (arr.toList.drop o)[0]? = some v := by rw [← ht]; rfl
      simpa using this

theorem setCell_eq {b o : Nat} {arr : Array Value} {el : TypeId} {v : Value} (hb : w.heap[b]? = some (.cells arr el (0, 0))) :
    w.setCell ⟨b, o, none⟩ v = { w with heap := w.heap.setIfInBounds b (.cells (arr.setIfInBounds o v) el (0, 0)) } := by
  unfold World.setCell
  congr 1
  apply Array.ext_getElem?
  intro j
  by_cases hj : b = j
  · subst hj
    have hlt : b < w.heap.size := (Array.getElem?_eq_some_iff.1 hb).1
    have hg := (Array.getElem?_eq_some_iff.1 hb).2
    simp [hlt, Array.getElem_modify, hg]
  · simp [Array.getElem?_modify, hj]

/-- The world with one block turned. -/
def putBlk (w : World) (b : Nat) (o : Obj) : World := { w with heap := w.heap.setIfInBounds b o }

@[simp] theorem putBlk_size (w : World) (b : Nat) (o : Obj) : (putBlk w b o).heap.size = w.heap.size := by simp [putBlk]
theorem putBlk_same {b : Nat} {o : Obj} (h : b < w.heap.size) : (putBlk w b o).heap[b]? = some o := by simp [putBlk, h]
theorem putBlk_other {b b' : Nat} {o : Obj} (h : b ≠ b') : (putBlk w b o).heap[b']? = w.heap[b']? := by simp [putBlk, h]
theorem putBlk_putBlk (b : Nat) (o o' : Obj) : putBlk (putBlk w b o) b o' = putBlk w b o' := by simp [putBlk]
theorem putBlk_id {b : Nat} {o : Obj} (h : w.heap[b]? = some o) : putBlk w b o = w := by
  have : w.heap.setIfInBounds b o = w.heap := by
    apply Array.ext_getElem?
    intro j
    by_cases hj : b = j
    · subst hj; rw [Array.getElem?_setIfInBounds_self]; simp [(Array.getElem?_eq_some_iff.1 h).1, (Array.getElem?_eq_some_iff.1 h).2]
    · simp [hj]
  simp [putBlk, this]

/-- Cells written one behind the other. -/
def setMany {α : Type} : List α → Nat → List α → List α
  | cs, _, [] => cs
  | cs, o, v :: vs => setMany (cs.set o v) (o + 1) vs

@[simp] theorem setMany_length {α : Type} : ∀ (vs cs : List α) (o : Nat), (setMany cs o vs).length = cs.length
  | [], _, _ => rfl
  | _ :: vs, cs, o => by simp [setMany, setMany_length vs]

theorem VRL.setAll {c : Cx} : ∀ {vs : List AV} {ls : List Value} {cs : List AV} {l : List Value} {o : Nat}, VRL c vs ls → VRL c cs l → VRL c (Mac.setMany cs o vs) (Mac.setMany l o ls)
  | [], _, _, _, _, h, h' => by cases h; exact h'
  | v :: vs, _, cs, l, o, h, h' => by
    obtain ⟨u, us, rfl, h1, h2⟩ := h
    show VRL c (Mac.setMany (cs.set o v) (o + 1) vs) (Mac.setMany (l.set o u) (o + 1) us)
    exact VRL.setAll h2 (h'.set o h1)

theorem setMany_prefix : ∀ (vs l m : List Value) (o : Nat), l <+: m → o + vs.length ≤ l.length → Mac.setMany l o vs <+: Mac.setMany m o vs
  | [], l, m, o, h, _ => h
  | v :: vs, l, m, o, h, hl => by
    refine setMany_prefix vs (l.set o v) (m.set o v) (o + 1) ?_ (by simp at hl ⊢; omega)
    obtain ⟨t, rfl⟩ := h
    refine ⟨t, ?_⟩
    rw [List.set_append_left _ _ (by simp at hl; omega)]

theorem setMany_append : ∀ (vs l t : List Value) (o : Nat), o + vs.length ≤ l.length → Mac.setMany (l ++ t) o vs = Mac.setMany l o vs ++ t
  | [], l, t, o, _ => rfl
  | v :: vs, l, t, o, hl => by
    simp only [Mac.setMany]
    rw [List.set_append_left _ _ (by simp at hl; omega), setMany_append vs _ _ _ (by simp at hl ⊢; omega)]

theorem ok_storeCells {b : Nat} {el : TypeId} (ha : c.mine b ∨ n0 ≤ b) : ∀ (vs : List Value) (o i : Nat) (w : World) (arr : Array Value), w.heap[b]? = some (.cells arr el (0, 0)) → o + i + vs.length ≤ arr.size → (∀ v ∈ vs, v.oneCell' = true) →
    Ok P c n0 (storeCells ⟨b, o, none⟩ vs i) w (fun r => r = .ok () (putBlk w b (.cells (Mac.setMany arr.toList (o + i) vs).toArray el (0, 0))))
  | [], o, i, w, arr, hb, _, _ => by
    refine ok_pure ?_
    simp only [Mac.setMany]
    rw [putBlk_id (by simpa using hb)]
  | v :: vs, o, i, w, arr, hb, hl, h1 => by
    have hlt : b < w.heap.size := (Array.getElem?_eq_some_iff.1 hb).1
    have ho : o + i < arr.size := by simp at hl; omega
    show Ok P c n0 (Sem.bind (store ((⟨b, o, none⟩ : Addr).add i) v) fun _ => storeCells ⟨b, o, none⟩ vs (i + 1)) w _
    rw [add_eq]
    refine ⟨rfl, ha, h1 v List.mem_cons_self, by simp [World.cell?, hb, ho], by simp [World.frozen?, hb], ?_⟩
    rw [setCell_eq hb]
    have hb' : (putBlk w b (.cells (arr.setIfInBounds (o + i) v) el (0, 0))).heap[b]? = some (.cells (arr.setIfInBounds (o + i) v) el (0, 0)) := putBlk_same hlt
    refine (ok_storeCells ha vs o (i + 1) _ (arr.setIfInBounds (o + i) v) hb' (by simp at hl ⊢; omega) (fun x hx => h1 x (List.mem_cons_of_mem _ hx))).mono fun r e => ?_
    rw [e, putBlk_putBlk]
    simp [Mac.setMany, Nat.add_assoc]

theorem ok_storeVar {t : TypeId} {i : TypeInfo} {b o : Nat} {arr : Array Value} {el : TypeId} {V : Value} (hi : P.info? t = some i) (ha : c.mine b ∨ n0 ≤ b) (hb : w.heap[b]? = some (.cells arr el (0, 0)))
    (hs : V.cells.size = i.size) (hl : o + i.size ≤ arr.size) (h1 : ∀ v ∈ V.cells.toList, v.oneCell' = true) :
    Ok P c n0 (storeVar t ⟨b, o, none⟩ V) w (fun r => r = .ok () (putBlk w b (.cells (Mac.setMany arr.toList o V.cells.toList).toArray el (0, 0)))) := by
  refine Ok.then (ok_sizeOf hi) ?_
  simp only [hs, ne_eq, not_true_eq_false, if_false]
  refine (ok_storeCells ha V.cells.toList o 0 w arr hb (by simp; omega) h1).mono fun r e => by rw [e]; rfl
end

/-! ### The blocks -/
theorem HR.update {c : Cx} {w w' : World} {h : List Blk} (x : HR c w h) {i : Nat} {e : Ent} {b k : Nat} {old new : Blk} (hi : c.own[i]? = some e) (ho : h[i]? = some old) (hlive : old.live = true) (hs : e.seat = some (b, k)) (hm : c.mine b)
    (hsz : w'.heap.size = w.heap.size) (hw : ∀ j, j ≠ b → w'.heap[j]? = w.heap[j]?) (hn : BR c w' e new) : HR c w' (h.set i new) where
  len := by simp [x.len]
  blk j ej bj h1 h2 := by
    by_cases hij : i = j
    · subst hij
      rw [List.getElem?_set_self (by exact (List.getElem?_eq_some_iff.1 ho).1)] at h2
      cases h2
      rw [hi] at h1
      cases h1
      exact hn
    · rw [List.getElem?_set_ne hij] at h2
      have hb := x.blk j ej bj h1 h2
      cases hl : bj.live with
      | false => cases bj with | dead => trivial | role m => exact hb | _ => cases hl
      | true =>
        have hne : ∀ y, ej.seat = some y → y.1 ≠ b := fun y hy hyb => x.apart i j e ej old bj (b, k) y hij hi h1 ho h2 hlive hl hs hy hyb.symm
        cases bj with
        | dead => cases hl
        | cells g cs =>
          obtain ⟨h0, h1 | ⟨b', k', arr, el, l, h1, h2, h3, h4⟩⟩ := hb
          · exact ⟨h0, .inl h1⟩
          · exact ⟨h0, .inr ⟨b', k', arr, el, l, h1, h2, by rw [hw _ (hne _ h1)]; exact h3, h4⟩⟩
        | map ks vs => obtain ⟨h0, b', k', ents, clk, h1, h2, h3, h4⟩ := hb; exact ⟨h0, b', k', ents, clk, h1, h2, by rw [hw _ (hne _ h1)]; exact h3, h4⟩
        | loop st pend fn slots params assign body => obtain ⟨h0, b', k', tm, d, h1, h2, h3, h4⟩ := hb; exact ⟨h0, b', k', tm, d, h1, h2, by rw [hw _ (hne _ h1)]; exact h3, h4⟩
        | defd => obtain ⟨h0, b', k', h1, h2, h3⟩ := hb; exact ⟨h0, b', k', h1, h2, by rw [hw _ (hne _ h1)]; exact h3⟩
        | iter s pos => obtain ⟨h0, b', k', h1, h2, h3⟩ := hb; exact ⟨h0, b', k', h1, h2, by rw [hw _ (hne _ h1)]; exact h3⟩
        | chan g => exact hb
        | role m => exact hb
  apart i1 j1 e1 e2 b1 b2 y1 y2 hne h1 h2 h3 h4 l1 l2 s1 s2 := by
    have key : ∀ (m : Nat) (bm : Blk), (h.set i new)[m]? = some bm → bm.live = true → ∃ bm', h[m]? = some bm' ∧ bm'.live = true := by
      intro m bm hm hl
      by_cases him : i = m
      · subst him; exact ⟨old, ho, hlive⟩
      · rw [List.getElem?_set_ne him] at hm; exact ⟨bm, hm, hl⟩
    obtain ⟨b1', h3', l1'⟩ := key i1 b1 h3 l1
    obtain ⟨b2', h4', l2'⟩ := key j1 b2 h4 l2
    exact x.apart i1 j1 e1 e2 b1' b2' y1 y2 hne h1 h2 h3' h4' l1' l2' s1 s2
  mine y hy := by rw [hsz]; exact x.mine y hy
  imm y o hy := ⟨(x.imm y o hy).1, by rw [hw y (by rintro rfl; exact (x.imm y o hy).1 hm)]; exact (x.imm y o hy).2⟩
  chan y hy := ⟨(x.chan y hy).1, (x.chan y hy).2.1, by unfold OpenChan; rw [hw y (by rintro rfl; exact (x.chan y hy).1 hm)]; exact (x.chan y hy).2.2⟩

/-- What is held behind a new block. -/
def Cx.new (c : Cx) (w : World) (k : Nat) : Cx := { c with own := c.own ++ [⟨0, some (w.heap.size, k)⟩], mine := fun b => c.mine b ∨ b = w.heap.size }

theorem Ext.new (c : Cx) (w : World) (k : Nat) : Ext c (c.new w k) where
  own i e h := ⟨e, by simp only [Cx.new]; rw [List.getElem?_append_left (List.getElem?_eq_some_iff.1 h).1]; exact h, Nat.le_refl _, fun _ => rfl⟩
  imm _ _ h := h

theorem TurnOk.new (c : Cx) (w : World) (k : Nat) : TurnOk c (c.new w k) w.heap.size where
  ext := .new c w k
  mine b h := by rcases h with h | rfl; exact .inl h; exact .inr (Nat.le_refl _)
  imm b o h := .inl h
  com := rfl

theorem BR.grow {c c' : Cx} {w w' : World} (x : Ext c c') (hc : ∀ r, c.com.chans r → c'.com.chans r) (hm : ∀ b, c.mine b → c'.mine b) (hw : ∀ b, c.mine b → w'.heap[b]? = w.heap[b]?) {e : Ent} {b : Blk} (h : BR c w e b) : BR c' w' e b := by
  cases b with
  | dead => trivial
  | cells g cs =>
    obtain ⟨h0, h1 | ⟨b, k, arr, el, l, h1, h2, h3, h4, h5, h6⟩⟩ := h
    · exact ⟨h0, .inl h1⟩
    · exact ⟨h0, .inr ⟨b, k, arr, el, l, h1, hm _ h2, by rw [hw b h2]; exact h3, h4, h5.ext x, h6⟩⟩
  | map ks vs => obtain ⟨h0, b, k, ents, clk, h1, h2, h3, h4, h5⟩ := h; exact ⟨h0, b, k, ents, clk, h1, hm _ h2, by rw [hw b h2]; exact h3, h4.ext x, h5.ext x⟩
  | loop st pend fn slots params assign body => obtain ⟨h0, b, k, tm, d, h1, h2, h3, h4⟩ := h; exact ⟨h0, b, k, tm, d, h1, hm _ h2, by rw [hw b h2]; exact h3, h4.ext x⟩
  | defd => obtain ⟨h0, b, k, h1, h2, h3⟩ := h; exact ⟨h0, b, k, h1, hm _ h2, by rw [hw b h2]; exact h3⟩
  | iter s pos => obtain ⟨h0, b, k, h1, h2, h3⟩ := h; exact ⟨h0, b, k, h1, hm _ h2, by rw [hw b h2]; exact h3⟩
  | chan g => obtain ⟨h0, b, k, h1, h2⟩ := h; exact ⟨h0, b, k, h1, hc b h2⟩
  | role m => exact x.main.trans h

theorem heap_alloc_old (w : World) (o : Obj) {b : Nat} (h : b < w.heap.size) : (w.alloc o).heap[b]? = w.heap[b]? := by
  show (w.heap.push o)[b]? = w.heap[b]?
  simp [Array.getElem?_push, Nat.ne_of_lt h]
theorem heap_alloc_self (w : World) (o : Obj) : (w.alloc o).heap[w.heap.size]? = some o := by
  show (w.heap.push o)[w.heap.size]? = some o
  simp

theorem BR.seat_mine {c : Cx} {w : World} {e : Ent} {b : Blk} (h : BR c w e b) (hl : b.live = true) {x : Nat × Nat} (hs : e.seat = some x) : c.mine x.1 ∨ c.com.chans x.1 := by
  cases b with
  | dead => cases hl
  | cells g cs =>
    obtain ⟨_, h1 | ⟨b, k, arr, el, l, h1, h2, _⟩⟩ := h
    · rw [h1.1] at hs; cases hs
    · rw [h1] at hs; cases hs; exact .inl h2
  | map ks vs => obtain ⟨_, b, k, ents, clk, h1, h2, _⟩ := h; rw [h1] at hs; cases hs; exact .inl h2
  | loop st pend fn slots params assign body => obtain ⟨_, b, k, tm, d, h1, h2, _⟩ := h; rw [h1] at hs; cases hs; exact .inl h2
  | defd => obtain ⟨_, b, k, h1, h2, _⟩ := h; rw [h1] at hs; cases hs; exact .inl h2
  | iter s pos => obtain ⟨_, b, k, h1, h2, _⟩ := h; rw [h1] at hs; cases hs; exact .inl h2
  | chan g => obtain ⟨_, b, k, h1, h2⟩ := h; rw [h1] at hs; cases hs; exact .inr h2
  | role m => cases hl

theorem HR.seat_lt {c : Cx} {w : World} {h : List Blk} (x : HR c w h) {e : Ent} {b : Blk} (hb : BR c w e b) (hl : b.live = true) {y : Nat × Nat} (hs : e.seat = some y) : y.1 < w.heap.size := by
  rcases hb.seat_mine hl hs with h | h
  · exact x.mine _ h
  · exact (x.chan _ h).2.2.lt

theorem HR.new {c : Cx} {w : World} {h : List Blk} (x : HR c w h) (o : Obj) (k : Nat) {blk : Blk} (hb : BR (c.new w k) (w.alloc o) ⟨0, some (w.heap.size, k)⟩ blk) : HR (c.new w k) (w.alloc o) (h ++ [blk]) where
  len := by simp [Cx.new, x.len]
  blk i e b h1 h2 := by
    simp only [Cx.new] at h1
    by_cases hi : i < h.length
    · rw [List.getElem?_append_left (by rw [← x.len]; exact hi)] at h1
      rw [List.getElem?_append_left hi] at h2
      exact (x.blk i e b h1 h2).grow (.new c w k) (fun _ h => h) (fun _ h => .inl h) fun b hb => heap_alloc_old w o (x.mine b hb)
    · have hi' : i = h.length := by
        have := (List.getElem?_eq_some_iff.1 h2).1
        simp at this; omega
      subst hi'
      rw [x.len] at h1
      simp at h1 h2
      subst h1; subst h2
      exact hb
  apart i j ei ej bi bj y1 y2 hne h1 h2 h3 h4 l1 l2 s1 s2 := by
    simp only [Cx.new] at h1 h2
    have key : ∀ (m : Nat) (em : Ent) (bm : Blk) (y : Nat × Nat), (c.own ++ [⟨0, some (w.heap.size, k)⟩])[m]? = some em → (h ++ [blk])[m]? = some bm → bm.live = true → em.seat = some y →
        (m < h.length ∧ c.own[m]? = some em ∧ h[m]? = some bm ∧ y.1 < w.heap.size) ∨ (m = h.length ∧ y.1 = w.heap.size) := by
      intro m em bm y g1 g2 g3 g4
      by_cases hm : m < h.length
      · rw [List.getElem?_append_left (by rw [← x.len]; exact hm)] at g1
        rw [List.getElem?_append_left hm] at g2
        exact .inl ⟨hm, g1, g2, x.seat_lt (x.blk m em bm g1 g2) g3 g4⟩
      · have hm' : m = h.length := by
          have := (List.getElem?_eq_some_iff.1 g2).1
          simp at this; omega
        subst hm'
        rw [x.len] at g1
        simp at g1
        subst g1
        cases g4
        exact .inr ⟨rfl, rfl⟩
    rcases key i ei bi y1 h1 h3 l1 s1 with ⟨a1, a2, a3, a4⟩ | ⟨a1, a2⟩ <;> rcases key j ej bj y2 h2 h4 l2 s2 with ⟨b1, b2, b3, b4⟩ | ⟨b1, b2⟩
    · exact x.apart i j ei ej bi bj y1 y2 hne a2 b2 a3 b3 l1 l2 s1 s2
    · omega
    · omega
    · omega
  mine b hb := by rcases hb with hb | rfl; exact Nat.lt_of_lt_of_le (x.mine b hb) (by simp); simp
  imm b o' hb := by
    obtain ⟨h1, h2⟩ := x.imm b o' hb
    have hlt : b < w.heap.size := (Array.getElem?_eq_some_iff.1 h2).1
    exact ⟨by rintro (h | rfl); exact h1 h; omega, by rw [heap_alloc_old w o hlt]; exact h2⟩
  chan r hr := by
    obtain ⟨h1, h2, h3⟩ := x.chan r hr
    have hlt := h3.lt
    exact ⟨by rintro (h | rfl); exact h1 h; omega, h2, by unfold OpenChan; rw [heap_alloc_old w o hlt]; exact h3⟩

end Go.Mac

/-! MacF -/
/- MacF: the operations, one by one: loads, stores, new cells, addresses, parts. No program is in sight. -/
namespace Go.Mac
open Go Go.Conc

/-- What is asked of a small program that yields a value. -/
def VOk (P : Program) (s : Sem Value) (K : AV → List Blk → Prop) (c : Cx) (w : World) : Prop :=
  Ok P c w.heap.size s w fun r => ∃ V w' c' v h', r = .ok V w' ∧ K v h' ∧ VR c' v V ∧ HR c' w' h' ∧ TurnOk c c' w.heap.size

section
variable {P : Program} {c : Cx} {w : World} {h : List Blk} {K : AV → List Blk → Prop}

theorem VOk.pure {s : Sem Value} {v : AV} (hs : Ok P c w.heap.size s w (fun r => ∃ V, r = .ok V w ∧ VR c v V)) (hH : HR c w h) (hK : K v h) : VOk P s K c w :=
  hs.mono fun _ ⟨V, e, hV⟩ => ⟨V, w, c, v, h, e, hK, hV, hH, .refl c _⟩

theorem OpOk.value {s : Sem Value} (h : VOk P s K c w) : OpOk P (do pure (.value (← s))) K c w :=
  Ok.bind' (h.mono fun _ ⟨V, w', c', v, h', e, r⟩ => by subst e; exact ⟨_, V, w', c', v, h', rfl, rfl, r⟩)

/-- .. that yields nothing. -/
def UOk (P : Program) (s : Sem Unit) (K : List Blk → Prop) (c : Cx) (w : World) : Prop :=
  Ok P c w.heap.size s w fun r => ∃ w' c' h', r = .ok () w' ∧ K h' ∧ HR c' w' h' ∧ TurnOk c c' w.heap.size

theorem OpOk.unit {s : Sem Unit} (h : UOk P s (K (.tup [])) c w) : OpOk P (do s; pure .skip) K c w :=
  Ok.bind' (h.mono fun _ ⟨w', c', h', e, k, hH, t⟩ => by subst e; exact ⟨_, undef, w', c', .tup [], h', rfl, rfl, k, ⟨[], rfl, rfl⟩, hH, t⟩)

theorem OpOk.pure {v : AV} {V : Value} (hV : VR c v V) (hH : HR c w h) (hK : K v h) : OpOk P (pure (.value V)) K c w :=
  ⟨_, V, w, c, v, h, rfl, rfl, hK, hV, hH, .refl c _⟩

/-- What is asked of a type: its make, its number of cells, its zero cells, its bytes. -/
structure TF where
  d : TypeDesc
  sz : Nat
  ze : Option (List AV)
  bytes : Nat

def tyT (P : Program) (t : TypeId) : Option TF :=
  match P.info? t, P.underlying t with
  | some i, some d => some { d, sz := i.size, ze := i.zero.map fun z => z.cells.toList.map constA, bytes := i.bytes }
  | _, _ => none

theorem tyT_some {t : TypeId} {f : TF} (h : tyT P t = some f) : ∃ i, P.info? t = some i ∧ P.underlying t = some f.d ∧ i.size = f.sz ∧ (i.zero.map fun z => z.cells.toList.map constA) = f.ze ∧ i.bytes = f.bytes := by
  unfold tyT at h
  split at h
  · rename_i i d h1 h2
    cases h
    exact ⟨i, h1, h2, rfl, rfl, rfl⟩
  · cases h

theorem VRL_constA (c : Cx) : ∀ (l : List Value), VRL c (l.map constA) l
  | [] => rfl
  | v :: l => ⟨v, l, rfl, VR_constA c v, VRL_constA c l⟩

/-- The cells of a value that lies in one variable. -/
def leafA : AV → Bool
  | .agg _ | .tup _ | .any => false
  | _ => true

def valCells : AV → Option (List AV)
  | .agg cs => some cs
  | .tup _ | .any => none
  | v => some [v]

theorem leaf_cell {a : AV} {V : Value} (hl : leafA a = true) (h : VR c a V) : V.oneCell' = true := by
  cases a with
  | any => cases hl
  | agg => cases hl
  | tup => cases hl
  | bool b => cases h; rfl
  | int k n => cases h; rfl
  | str s => cases h; rfl
  | nilptr => cases h; rfl
  | nilsl => cases h; rfl
  | nilmap => cases h; rfl
  | chan r => obtain ⟨⟨r, rfl⟩, _⟩ := h; rfl
  | nilfn => cases h; rfl
  | niliface => cases h; rfl
  | pptr cs => obtain ⟨b, o, arr, el, fz, l, rfl, _⟩ := h; rfl
  | psl cs len => rcases h with ⟨_, _, rfl⟩ | ⟨b, o, arr, el, fz, l, cap, rfl, _⟩ <;> rfl
  | pmap ks vs => rcases h with ⟨_, _, rfl⟩ | ⟨b, ents, clk, rfl, _⟩ <;> rfl
  | fn f a b => obtain ⟨l1, l2, rfl, _⟩ := h; rfl
  | iface t v => obtain ⟨x, rfl, _⟩ := h; rfl
  | ptr n o => obtain ⟨⟨a, rfl⟩, _⟩ := h; rfl
  | sl n z o l => obtain ⟨⟨a, l, k, rfl⟩, _⟩ := h; rfl
  | map n => obtain ⟨⟨r, rfl⟩, _⟩ := h; rfl
  | yield n => obtain ⟨⟨l, rfl⟩, _⟩ := h; rfl

theorem cells_of_oneCell {V : Value} (h : V.oneCell' = true) : V.cells = #[V] := by
  cases V <;> first | rfl | cases h

theorem leaf_cells {a : AV} {V : Value} (hl : leafA a = true) (h : VR c a V) : V.cells = #[V] := cells_of_oneCell (leaf_cell hl h)

theorem valCells_leaf {a : AV} (hl : leafA a = true) : valCells a = some [a] := by cases a <;> first | rfl | cases hl

theorem VR_cells {a : AV} {V : Value} {cs : List AV} (hc : valCells a = some cs) (h : VR c a V) : VRL c cs V.cells.toList := by
  cases hl : leafA a with
  | true =>
    rw [valCells_leaf hl] at hc
    cases hc
    rw [leaf_cells hl h]
    exact ⟨V, [], rfl, h, rfl⟩
  | false =>
    cases a <;> first | cases hl | skip
    · cases hc
    · cases hc
      obtain ⟨l, rfl, hv⟩ := h
      exact hv
    · cases hc

theorem leaf_all : ∀ {cs : List AV} {l : List Value}, cs.all leafA = true → VRL c cs l → ∀ v ∈ l, v.oneCell' = true
  | [], _, _, h => by cases h; simp
  | a :: cs, _, hl, h => by
    obtain ⟨v, vs, rfl, h1, h2⟩ := h
    simp only [List.all_cons, Bool.and_eq_true] at hl
    intro x hx
    rcases List.mem_cons.1 hx with rfl | hx
    · exact leaf_cell hl.1 h1
    · exact leaf_all hl.2 h2 x hx

/-- The cells that a pointer leads to, from its place on. -/
def cellsAt (h : List Blk) : AV → Option (List AV)
  | .ptr n off => match h[n.id]? with
    | some (.cells g cs) => if g = n.gen then some (cs.drop off) else none
    | _ => none
  | .pptr cells => some cells
  | _ => none

/-- What a pointer to known cells is. -/
structure Leads (c : Cx) (w : World) (V : Value) (cs : List AV) : Prop where
  ex : ∃ b o arr el fz l, V = .pointer (some ⟨b, o, none⟩) ∧ (c.mine b ∨ (c.imm b).isSome) ∧ w.heap[b]? = some (.cells arr el fz) ∧ VRL c cs l ∧ l <+: arr.toList.drop o

theorem drop_prefix {α : Type} {l m : List α} (h : l <+: m) (n : Nat) (hn : n ≤ l.length) : l.drop n <+: m.drop n := by
  obtain ⟨t, rfl⟩ := h
  exact ⟨t, by rw [List.drop_append_of_le_length hn]⟩

/-- The place of a name that is up to date. -/
theorem own_cells {n : Nm} {cs : List AV} (hH : HR c w h) (hb : h[n.id]? = some (.cells n.gen cs)) {S : Option (Nat × Nat) → Prop} (ha : c.At n S) :
    ∃ e, c.own[n.id]? = some e ∧ e.gen = n.gen ∧ S e.seat ∧ ((e.seat = none ∧ cs = []) ∨ ∃ b k arr el l, e.seat = some (b, k) ∧ c.mine b ∧ w.heap[b]? = some (.cells arr el (0, 0)) ∧ arr.size = k ∧ VRL c cs l ∧ l <+: arr.toList) := by
  obtain ⟨e, he, hg, hp⟩ := ha
  obtain ⟨h0, h1⟩ := hH.blk n.id e _ he hb
  exact ⟨e, he, h0, hp h0.symm, h1⟩

theorem leads_of {a : AV} {V : Value} {cs : List AV} (hc : cellsAt h a = some cs) (hv : VR c a V) (hH : HR c w h) : Leads c w V cs := by
  cases a <;> simp only [cellsAt, reduceCtorEq, Option.some.injEq] at hc
  case ptr n off =>
    split at hc
    · rename_i g cs' hb
      split at hc
      · rename_i hg
        subst hg
        cases hc
        obtain ⟨e, he, hg, ⟨b, k, hs, rfl⟩, h1⟩ := own_cells hH hb hv.2
        rcases h1 with ⟨h1, _⟩ | ⟨b', k', arr, el, l, h1, h2, h3, h4, h5, h6⟩
        · rw [h1] at hs; cases hs
        · rw [h1] at hs; cases hs
          by_cases ho : off ≤ l.length
          · exact ⟨_, _, arr, el, _, _, rfl, .inl h2, h3, h5.drop off, drop_prefix h6 off ho⟩
          · refine ⟨_, _, arr, el, _, [], rfl, .inl h2, h3, ?_, List.nil_prefix⟩
            rw [List.drop_eq_nil_of_le (by rw [← h5.length]; omega)]
            rfl
      · cases hc
    · cases hc
  case pptr cells =>
    subst hc
    obtain ⟨b, o, arr, el, fz, l, rfl, hi, hl, hp⟩ := hv
    exact ⟨b, o, arr, el, fz, l, rfl, .inr (by rw [hi]; rfl), (hH.imm b _ hi).2, hl, hp⟩

/-- What is read. -/
def readA (f : TF) (cs : List AV) : AV := if aggD f.d then .agg (cs.take f.sz) else cs.getD 0 .any

theorem VRL.getD {cs : List AV} {l : List Value} (h : VRL c cs l) (i : Nat) (d : Value) : VR c (cs.getD i .any) (l.getD i d) := by
  cases hi : cs[i]? with
  | none => simp [List.getD, hi, VR]
  | some a =>
    obtain ⟨v, hv, hr⟩ := h.get hi
    simp [List.getD, hi, hv, hr]

theorem opk_load {t : TypeId} {f : TF} {a : AV} {A : Value} {cs : List AV} (ht : tyT P t = some f) (hc : cellsAt h a = some cs) (hl : (if aggD f.d then f.sz else 1) ≤ cs.length) (hv : VR c a A) (hH : HR c w h)
    (hK : K (readA f cs) h) : VOk P (Instr.loadAt t A) K c w := by
  obtain ⟨i, h1, h2, h3, h4, _⟩ := tyT_some ht
  obtain ⟨b, o, arr, el, fz, l, rfl, ha, hb, hr, hp⟩ := (leads_of hc hv hH).ex
  refine VOk.pure ?_ hH hK
  have ha' : c.mine b ∨ w.heap.size ≤ b ∨ (c.imm b).isSome := by rcases ha with h | h; exact .inl h; exact .inr (.inr h)
  refine (ok_loadVar h2 h1 ha' hb (by rw [hr.length, h3]; exact hl) hp).mono fun r e => ⟨_, e, ?_⟩
  unfold readA
  cases hg : aggD f.d with
  | true => exact ⟨l.take i.size, by simp, by rw [← h3]; exact hr.take _⟩
  | false => simpa using hr.getD 0 default

/-- A store through a pointer to a block of mine. -/
theorem opk_store {t : TypeId} {f : TF} {n : Nm} {off : Nat} {A V : Value} {v : AV} {cs vs : List AV} (ht : tyT P t = some f) (hb : h[n.id]? = some (.cells n.gen cs)) (hvs : valCells v = some vs) (hleaf : vs.all leafA = true)
    (hsz : vs.length = f.sz) (hl : off + vs.length ≤ cs.length) (hA : VR c (.ptr n off) A) (hV : VR c v V) (hH : HR c w h) {K : List Blk → Prop}
    (hK : K (h.set n.id (.cells n.gen (setMany cs off vs)))) : UOk P (Instr.storeAt t A V) K c w := by
  obtain ⟨i, h1, h2, h3, h4, _⟩ := tyT_some ht
  obtain ⟨e, he, hg, ⟨b, k, hs, rfl⟩, hx⟩ := own_cells hH hb hA.2
  rcases hx with ⟨hx, _⟩ | ⟨b', k', arr, el, l, hx, hm, hw, hk, hr, hp⟩
  · rw [hx] at hs; cases hs
  rw [hx] at hs
  cases hs
  have hcs := VR_cells hvs hV
  have hlen : V.cells.toList.length = vs.length := hcs.length
  have hll : l.length = cs.length := hr.length
  have hla : l.length ≤ arr.toList.length := hp.length_le
  have hb' : b < w.heap.size := (Array.getElem?_eq_some_iff.1 hw).1
  refine (ok_storeVar h1 (.inl hm) hw (by rw [h3, ← hsz, ← hlen]; simp) (by rw [h3, ← hsz]; simp at hla; omega) (leaf_all hleaf hcs)).mono fun r e' => ?_
  refine ⟨_, c, _, e', hK, ?_, .refl c _⟩
  refine hH.update he hb rfl hx hm (putBlk_size _ _ _) (fun j hj => putBlk_other (Ne.symm hj)) ⟨hg, .inr ⟨b, k, _, el, _, hx, hm, putBlk_same hb', by simpa using hk, VRL.setAll hcs hr, ?_⟩⟩
  obtain ⟨t', ht'⟩ := hp
  refine ⟨t', ?_⟩
  rw [← ht', setMany_append _ _ _ _ (by omega)]

/-- A new row of cells. -/
theorem ok_newRow {el : TypeId} {cells : Array Value} {cs : List AV} (hv : VRL c cs cells.toList) (hH : HR c w h) {n0 : Nat} (hn : n0 = w.heap.size) :
    Ok P c n0 (newRow el cells) w (fun r => ∃ a w' c' h', r = .ok a w' ∧ a = ⟨w.heap.size, 0, none⟩ ∧ w' = w.alloc (.cells cells el (0, 0)) ∧ c' = c.new w cells.size ∧ h' = h ++ [.cells 0 cs] ∧ HR c' w' h') := by
  subst hn
  refine ⟨_, _, _, _, rfl, rfl, rfl, rfl, rfl, hH.new _ _ ⟨rfl, .inr ⟨w.heap.size, cells.size, cells, el, cells.toList, rfl, .inr rfl, heap_alloc_self _ _, rfl, hv.ext (.new c w _), List.prefix_refl _⟩⟩⟩

theorem VR_newptr (hH : HR c w h) (k : Nat) : VR (c.new w k) (.ptr ⟨h.length, 0⟩ 0) (.pointer (some ⟨w.heap.size, 0, none⟩)) :=
  ⟨⟨_, rfl⟩, ⟨0, some (w.heap.size, k)⟩, by simp [Cx.new, hH.len], Nat.le_refl _, fun _ => ⟨w.heap.size, k, rfl, rfl⟩⟩

theorem opk_new {el : TypeId} {V : Value} {cs : List AV} (hv : VRL c cs V.cells.toList) (hH : HR c w h) (hK : K (.ptr ⟨h.length, 0⟩ 0) (h ++ [.cells 0 cs])) :
    VOk P (do pure (.pointer (some (← newVar el V)))) K c w := by
  refine Ok.bind' ((ok_newRow hv hH rfl).mono ?_)
  rintro _ ⟨a, w', c', h', rfl, rfl, rfl, rfl, rfl, hH'⟩
  exact ⟨_, _, _, _, _, rfl, hK, VR_newptr hH _, hH', .new c w _⟩

theorem opk_alloc {t : TypeId} {f : TF} {z : List AV} (ht : tyT P t = some f) (hz : f.ze = some z) (hH : HR c w h) (hK : K (.ptr ⟨h.length, 0⟩ 0) (h ++ [.cells 0 z])) : VOk P (Instr.alloc t true (.tuple #[])) K c w := by
  obtain ⟨i, h1, h2, h3, h4, _⟩ := tyT_some ht
  rw [hz] at h4
  cases hi : i.zero with
  | none => rw [hi] at h4; cases h4
  | some Z =>
    rw [hi] at h4
    simp only [Option.map_some, Option.some.injEq] at h4
    refine Ok.then (ok_zeroValue h1 hi) ?_
    exact opk_new (by rw [← h4]; exact VRL_constA c _) hH hK

theorem opk_box {t : TypeId} {v : AV} {V : Value} {cs : List AV} (hc : valCells v = some cs) (hv : VR c v V) (hH : HR c w h) (hK : K (.ptr ⟨h.length, 0⟩ 0) (h ++ [.cells 0 cs])) : VOk P (Instr.box t V) K c w :=
  opk_new (VR_cells hc hv) hH hK

/-- A pointer further on. -/
theorem VR_add {a : AV} {V : Value} {k : Nat} (hv : VR c a V) : ∀ {a' : AV}, (match a with | .ptr n off => a' = .ptr n (off + k) | .pptr cs => a' = .pptr (cs.drop k) ∧ k ≤ cs.length | _ => False) → ∃ ad, V = .pointer (some ad) ∧ VR c a' (.pointer (some (ad.add k))) := by
  intro a' h
  cases a <;> simp only at h
  case ptr n off =>
    subst h
    obtain ⟨⟨ad, rfl⟩, e, he, hg, hp⟩ := hv
    exact ⟨ad, rfl, ⟨_, rfl⟩, e, he, hg, fun hge => by obtain ⟨b, k', hs, h2⟩ := hp hge; cases h2; exact ⟨b, k', hs, by rw [add_eq]⟩⟩
  case pptr cs =>
    obtain ⟨rfl, hk⟩ := h
    obtain ⟨b, o, arr, el, fz, l, rfl, hi, hl, hp⟩ := hv
    refine ⟨_, rfl, b, o + k, arr, el, fz, l.drop k, by rw [add_eq], hi, hl.drop k, ?_⟩
    rw [← List.drop_drop]
    exact drop_prefix hp k (by rw [hl.length]; exact hk)

def addA (a : AV) (k : Nat) : Option AV :=
  match a with
  | .ptr n off => some (.ptr n (off + k))
  | .pptr cs => some (.pptr (cs.drop k))
  | _ => none

def reachA (a : AV) (k : Nat) : Prop :=
  match a with
  | .pptr cs => k ≤ cs.length
  | _ => True

theorem VR_addA {a a' : AV} {V : Value} {k : Nat} (h : addA a k = some a') (hr : reachA a k) (hv : VR c a V) : ∃ ad, V = .pointer (some ad) ∧ VR c a' (.pointer (some (ad.add k))) := by
  cases a <;> simp only [addA, reduceCtorEq, Option.some.injEq] at h
  · exact VR_add hv (by simp [← h])
  · exact VR_add hv (by simp [← h]; exact hr)

theorem opk_fieldAddr {t : TypeId} {f ff : TF} {fs : Array Field} {i : Nat} {fd : Field} {a a' : AV} {A : Value} (ht : tyT P t = some f) (hd : f.d = .struct fs) (hf : fs[i]? = some fd) (hft : tyT P fd.type = some ff) (hnz : ff.sz ≠ 0)
    (ha : addA a fd.offset = some a') (hr : reachA a fd.offset) (hv : VR c a A) (hH : HR c w h) (hK : K a' h) : VOk P (Instr.fieldAt t A i) K c w := by
  obtain ⟨j, h1, h2, h3, h4, _⟩ := tyT_some ht
  obtain ⟨j', g1, g2, g3, g4, _⟩ := tyT_some hft
  obtain ⟨ad, rfl, hv'⟩ := VR_addA ha hr hv
  refine VOk.pure ?_ hH hK
  refine Ok.then (ok_underlying h2) ?_
  simp only [hd, hf]
  refine Ok.then (a := ad) (ok_pure rfl) (Ok.then (a := ad.add fd.offset) ?_ (ok_pure ⟨_, rfl, hv'⟩))
  refine Ok.then (ok_sizeOf g1) ?_
  rw [g3]
  simp only [hnz, if_false]
  exact ok_pure rfl

theorem opk_extract {vs : List AV} {i : Nat} {v : AV} {V : Value} (hi : vs[i]? = some v) (hv : VR c (.tup vs) V) (hH : HR c w h) (hK : K v h) : VOk P (Instr.extract V i) K c w := by
  obtain ⟨l, rfl, hl⟩ := hv
  obtain ⟨x, hx, hr⟩ := hl.get hi
  refine VOk.pure ?_ hH hK
  simp only [Instr.extract, List.getElem?_toArray, hx]
  exact ok_pure ⟨_, rfl, hr⟩
end
end Go.Mac

/-! MacG -/
/- MacG: the operations, one by one: numbers, bools, strings, indices, parts, slices of slices. No program is in sight. -/
namespace Go.Mac
open Go Go.Conc

/-- Operators on bits. -/
def andK (k : IntKind) (a b : Int) : Int := k.wrap ((BitVec.ofInt k.bits a &&& BitVec.ofInt k.bits b).toNat : Int)
def orK (k : IntKind) (a b : Int) : Int := k.wrap ((BitVec.ofInt k.bits a ||| BitVec.ofInt k.bits b).toNat : Int)
def xorK (k : IntKind) (a b : Int) : Int := k.wrap ((BitVec.ofInt k.bits a ^^^ BitVec.ofInt k.bits b).toNat : Int)
def andNotK (k : IntKind) (a b : Int) : Int := k.wrap ((BitVec.ofInt k.bits a &&& ~~~ BitVec.ofInt k.bits b).toNat : Int)
def shlK (k : IntKind) (a b : Int) : Int := k.wrap (a * 2 ^ (min b.toNat k.bits))
def shrK (k : IntKind) (a b : Int) : Int := a.fdiv (2 ^ (min b.toNat k.bits))

/-- An operator on two whole numbers of one kind; 'none': not met here. -/
def binInt (op : BinOp) (k : IntKind) (a b : Int) : Option AV :=
  match op with
  | .add => some (.int k (k.wrap (a + b)))
  | .sub => some (.int k (k.wrap (a - b)))
  | .mul => some (.int k (k.wrap (a * b)))
  | .and => some (.int k (andK k a b))
  | .or => some (.int k (orK k a b))
  | .xor => some (.int k (xorK k a b))
  | .andNot => some (.int k (andNotK k a b))
  | .eql => some (.bool (a == b))
  | .neq => some (.bool (a != b))
  | .lss => some (.bool (decide (a < b)))
  | .leq => some (.bool (decide (a ≤ b)))
  | .gtr => some (.bool (decide (a > b)))
  | .geq => some (.bool (decide (a ≥ b)))
  | _ => none

def divInt (op : BinOp) (k : IntKind) (a b : Int) : Option AV :=
  match op with
  | .quo => some (.int k (k.wrap (a.tdiv b)))
  | .rem => some (.int k (a.tmod b))
  | _ => none

def shInt (op : BinOp) (k : IntKind) (a b : Int) : Option AV :=
  match op with
  | .shl => some (.int k (shlK k a b))
  | .shr => some (.int k (shrK k a b))
  | _ => none

def binStr (op : BinOp) (a b : List UInt8) : Option AV :=
  match op with
  | .add => some (.str (a ++ b))
  | .eql => some (.bool (a == b))
  | .neq => some (.bool (!(a == b)))
  | .lss => some (.bool (Op.bytesLess a b))
  | .leq => some (.bool (Op.bytesLess a b || a == b))
  | .gtr => some (.bool (!(Op.bytesLess a b || a == b)))
  | .geq => some (.bool (!Op.bytesLess a b))
  | _ => none

section
variable {P : Program} {c : Cx} {w : World} {h : List Blk} {K : AV → List Blk → Prop}

theorem opk_binInt {op : BinOp} {t : TypeId} {x y : Operand} {k : IntKind} {a b : Int} {v : AV} (hb : binInt op k a b = some v) (hH : HR c w h) (hK : K v h) :
    VOk P (do eqGuard op t x y (.int k a) (.int k b); binOp op t (.int k a) (.int k b)) K c w := by
  refine VOk.pure (v := v) ?_ hH hK
  cases op <;> simp only [binInt, reduceCtorEq, Option.some.injEq] at hb <;> subst hb <;> refine Ok.then (a := ()) rfl ?_ <;> simp only [binOp, ne_eq, not_true_eq_false, if_false] <;> exact ⟨_, rfl, rfl⟩

theorem opk_divInt {op : BinOp} {t : TypeId} {x y : Operand} {k : IntKind} {a b : Int} {v : AV} (hb : divInt op k a b = some v) (h0 : b ≠ 0) (hH : HR c w h) (hK : K v h) :
    VOk P (do eqGuard op t x y (.int k a) (.int k b); binOp op t (.int k a) (.int k b)) K c w := by
  refine VOk.pure (v := v) ?_ hH hK
  cases op <;> simp only [divInt, reduceCtorEq, Option.some.injEq] at hb <;> subst hb <;> refine Ok.then (a := ()) rfl ?_ <;> simp only [binOp, ne_eq, not_true_eq_false, if_false, Op.intDiv, h0] <;> exact ⟨_, rfl, rfl⟩

theorem opk_shInt {op : BinOp} {t : TypeId} {x y : Operand} {k k' : IntKind} {a b : Int} {v : AV} (hb : shInt op k a b = some v) (h0 : ¬ b < 0) (hH : HR c w h) (hK : K v h) :
    VOk P (do eqGuard op t x y (.int k a) (.int k' b); binOp op t (.int k a) (.int k' b)) K c w := by
  refine VOk.pure (v := v) ?_ hH hK
  cases op <;> simp only [shInt, reduceCtorEq, Option.some.injEq] at hb <;> subst hb <;> refine Ok.then (a := ()) rfl ?_ <;> simp only [binOp, Op.shift, h0, if_false] <;> exact ⟨_, rfl, rfl⟩

theorem toList_mk' (l : List UInt8) : (⟨l.toArray⟩ : ByteArray).toList = l := by rw [ByteArray.toList_eq]

theorem opk_binStr {op : BinOp} {t : TypeId} {x y : Operand} {a b : List UInt8} {v : AV} (hb : binStr op a b = some v) (h0 : a.length + b.length ≤ 9223372036854775807) (hH : HR c w h) (hK : K v h) :
    VOk P (do eqGuard op t x y (.string ⟨a.toArray⟩) (.string ⟨b.toArray⟩); binOp op t (.string ⟨a.toArray⟩) (.string ⟨b.toArray⟩)) K c w := by
  refine VOk.pure (v := v) ?_ hH hK
  have hs : ¬ (((⟨a.toArray⟩ : ByteArray).size + (⟨b.toArray⟩ : ByteArray).size : Nat) : Int) > IntKind.i64.max := by
    have e1 : (⟨a.toArray⟩ : ByteArray).size = a.length := by simp [ByteArray.size]
    have e2 : (⟨b.toArray⟩ : ByteArray).size = b.length := by simp [ByteArray.size]
    have e3 : IntKind.i64.max = 9223372036854775807 := by decide
    rw [e1, e2, e3]; omega
  have happ : (⟨a.toArray⟩ : ByteArray) ++ ⟨b.toArray⟩ = ⟨(a ++ b).toArray⟩ := by
    apply ByteArray.ext
    simp
  cases op <;> simp only [binStr, reduceCtorEq, Option.some.injEq] at hb <;> subst hb <;> refine Ok.then (a := ()) rfl ?_ <;> simp only [binOp, Op.stringOp, toList_mk', hs, if_false]
  case add => exact ⟨_, rfl, by rw [happ]; rfl⟩
  all_goals exact ⟨_, rfl, rfl⟩

theorem opk_not {b : Bool} (hH : HR c w h) (hK : K (.bool !b) h) : VOk P (Op.unary .not (.bool b)) K c w := VOk.pure (v := .bool !b) ⟨_, rfl, rfl⟩ hH hK
theorem opk_neg {k : IntKind} {n : Int} (hH : HR c w h) (hK : K (.int k (k.wrap (0 - n))) h) : VOk P (Op.unary .neg (.int k n)) K c w := VOk.pure (v := .int k (k.wrap (0 - n))) ⟨_, rfl, rfl⟩ hH hK

theorem opk_eqBool {op : BinOp} {t : TypeId} {x y : Operand} {a b : Bool} {f : TF} (ht : tyT P t = some f) (hd : f.d = .bool) (hop : op = .eql ∨ op = .neq) (hH : HR c w h) (hK : K (.bool (if op = .eql then a == b else a != b)) h) :
    VOk P (do eqGuard op t x y (.bool a) (.bool b); binOp op t (.bool a) (.bool b)) K c w := by
  obtain ⟨i, h1, h2, h3, h4, _⟩ := tyT_some ht
  rw [hd] at h2
  have he : Ok P c w.heap.size (Op.equal t (.bool a) (.bool b)) w (fun r => r = .ok (a == b) w) := by
    unfold Op.equal Op.maxDepth
    show Ok P c _ (Op.equalIn (9999 + 1) t _ _) w _
    rw [Op.equalIn]
    exact Ok.then (ok_underlying h2) (ok_pure rfl)
  refine VOk.pure (v := .bool (if op = .eql then a == b else a != b)) ?_ hH hK
  rcases hop with rfl | rfl
  · refine Ok.then (a := ()) rfl ?_
    simp only [binOp]
    exact Ok.then he (ok_pure ⟨_, rfl, rfl⟩)
  · refine Ok.then (a := ()) rfl ?_
    simp only [binOp]
    exact Ok.then he (ok_pure ⟨_, rfl, rfl⟩)

/-- A conversion between kinds of whole numbers. -/
theorem opk_convInt {s d : TypeId} {fs fd : TF} {k k' : IntKind} {n : Int} (hs : tyT P s = some fs) (hd : tyT P d = some fd) (hk : fd.d = .int k) (hH : HR c w h) (hK : K (.int k (k.wrap n)) h) :
    VOk P (convert s d (.int k' n)) K c w := by
  obtain ⟨i, h1, h2, _⟩ := tyT_some hs
  obtain ⟨j, g1, g2, _⟩ := tyT_some hd
  rw [hk] at g2
  refine VOk.pure (v := .int k (k.wrap n)) ?_ hH hK
  refine Ok.then (ok_underlying h2) (Ok.then (ok_underlying g2) ?_)
  exact ⟨_, rfl, rfl⟩

theorem opk_convStr {s d : TypeId} {fs fd : TF} {l : List UInt8} (hs : tyT P s = some fs) (hd : tyT P d = some fd) (hk : fd.d = .string) (hH : HR c w h) (hK : K (.str l) h) :
    VOk P (convert s d (.string ⟨l.toArray⟩)) K c w := by
  obtain ⟨i, h1, h2, _⟩ := tyT_some hs
  obtain ⟨j, g1, g2, _⟩ := tyT_some hd
  rw [hk] at g2
  refine VOk.pure (v := .str l) ?_ hH hK
  refine Ok.then (ok_underlying h2) (Ok.then (ok_underlying g2) ?_)
  cases fs.d <;> exact ⟨_, rfl, rfl⟩

/-- A part of a value of several cells. -/
def partA (f : TF) (cs : List AV) (off : Nat) : AV := if aggD f.d then .agg ((cs.drop off).take f.sz) else cs.getD off .any

theorem ok_part {t : TypeId} {f : TF} {cs : List AV} {l : List Value} {off n0 : Nat} (ht : tyT P t = some f) (hv : VRL c cs l) (hl : aggD f.d = false → off < cs.length) :
    Ok P c n0 (part t l.toArray off) w (fun r => ∃ V, r = .ok V w ∧ VR c (partA f cs off) V) := by
  obtain ⟨i, h1, h2, h3, _⟩ := tyT_some ht
  refine Ok.then (ok_isAgg h2) ?_
  unfold partA
  cases hg : aggD f.d with
  | true =>
    simp only [if_true]
    refine Ok.then (ok_sizeOf h1) (ok_pure ⟨_, rfl, (l.drop off).take i.size, ?_, ?_⟩)
    · simp [List.extract_eq_take_drop]
    · rw [← h3]; exact (hv.drop off).take _
  | false =>
    simp only [Bool.false_eq_true, if_false]
    have hlt := hl hg
    have : off < l.length := by rw [hv.length]; exact hlt
    obtain ⟨v, hv1, hv2⟩ := hv.get (show cs[off]? = some cs[off] by simp [hlt])
    simp only [List.getElem?_toArray, hv1]
    exact ok_pure ⟨_, rfl, by simpa [List.getD, hlt] using hv2⟩

theorem opk_field {t : TypeId} {f ff : TF} {fs : Array Field} {i : Nat} {fd : Field} {cs : List AV} {V : Value} (ht : tyT P t = some f) (hd : f.d = .struct fs) (hf : fs[i]? = some fd) (hft : tyT P fd.type = some ff)
    (hl : aggD ff.d = false → fd.offset < cs.length) (hv : VR c (.agg cs) V) (hH : HR c w h) (hK : K (partA ff cs fd.offset) h) : VOk P (Instr.field t V i) K c w := by
  obtain ⟨j, h1, h2, _⟩ := tyT_some ht
  obtain ⟨l, rfl, hv⟩ := hv
  refine VOk.pure ?_ hH hK
  refine Ok.then (ok_underlying h2) ?_
  simp only [hd, hf]
  exact Ok.then (a := l.toArray) rfl (ok_part hft hv hl)

/-- An element of a value of an array's type. -/
theorem opk_indexArr {t e : TypeId} {f fe : TF} {len : Nat} {k : IntKind} {i : Int} {cs : List AV} {V : Value} (ht : tyT P t = some f) (hd : f.d = .array len e) (hte : tyT P e = some fe) (h0 : 0 ≤ i) (h1 : i < len)
    (hl : aggD fe.d = false → i.toNat * fe.sz < cs.length) (hv : VR c (.agg cs) V) (hH : HR c w h) (hK : K (partA fe cs (i.toNat * fe.sz)) h) : VOk P (Instr.index t V (.int k i)) K c w := by
  obtain ⟨j, g1, g2, _⟩ := tyT_some ht
  obtain ⟨j', g1', g2', g3', _⟩ := tyT_some hte
  obtain ⟨l, rfl, hv⟩ := hv
  refine VOk.pure ?_ hH hK
  refine Ok.then (a := (k, i)) rfl (Ok.then (ok_underlying g2) ?_)
  simp only [hd, h0, h1, and_self, if_true]
  refine Ok.then (ok_sizeOf g1') ?_
  rw [g3']
  exact ok_part hte hv hl

/-- A byte of a string. -/
theorem opk_indexStr {t : TypeId} {f : TF} {k : IntKind} {i : Int} {s : List UInt8} {b : UInt8} (ht : tyT P t = some f) (hd : f.d = .string) (h0 : 0 ≤ i) (hb : s[i.toNat]? = some b) (hH : HR c w h) (hK : K (.int .u8 b.toNat) h) :
    VOk P (Instr.index t (.string ⟨s.toArray⟩) (.int k i)) K c w := by
  obtain ⟨j, g1, g2, _⟩ := tyT_some ht
  refine VOk.pure (v := .int .u8 b.toNat) ?_ hH hK
  refine Ok.then (a := (k, i)) rfl (Ok.then (ok_underlying g2) ?_)
  have e : (⟨s.toArray⟩ : ByteArray)[i.toNat]? = some b := by
    have hlt := (List.getElem?_eq_some_iff.1 hb).1
    have hlt' : i.toNat < (⟨s.toArray⟩ : ByteArray).size := by simpa [ByteArray.size] using hlt
    rw [getElem?_pos (⟨s.toArray⟩ : ByteArray) i.toNat hlt']
    congr 1
    have := (List.getElem?_eq_some_iff.1 hb).2
    simpa [ByteArray.getElem_eq_getElem_data] using this
  simp only [hd, h0, if_true, e]
  exact ok_pure ⟨_, rfl, rfl⟩

/-- The address of an element of a slice of mine. -/
theorem opk_indexSl {t e : TypeId} {f fe : TF} {n : Nm} {off len : Nat} {k : IntKind} {i : Int} {V : Value} (ht : tyT P t = some f) (hd : f.d = .slice e) (hte : tyT P e = some fe) (h0 : 0 ≤ i) (h1 : i < len) (hcur : ∃ cs, h[n.id]? = some (.cells n.gen cs))
    (hv : VR c (.sl n fe.sz off len) V) (hH : HR c w h) (hK : K (.ptr n (off + i.toNat * fe.sz)) h) : VOk P (Instr.indexAt t V (.int k i)) K c w := by
  obtain ⟨j, g1, g2, _⟩ := tyT_some ht
  obtain ⟨j', g1', g2', g3', _⟩ := tyT_some hte
  obtain ⟨cs, hcur⟩ := hcur
  obtain ⟨_, hv⟩ := hv
  obtain ⟨e', he, hg, hp, _⟩ := own_cells hH hcur hv
  rcases hp with ⟨hl0, _⟩ | ⟨b, kk, cap, hs, rfl, hc1, hc2⟩
  · omega
  refine VOk.pure (v := .ptr n (off + i.toNat * fe.sz)) ?_ hH hK
  refine Ok.then (a := (k, i)) rfl (Ok.then (ok_underlying g2) ?_)
  simp only [hd]
  refine Ok.then (a := (some ⟨b, off, none⟩, len, e)) rfl ?_
  simp only []
  refine Ok.then (ok_underlying g2) ?_
  simp only [hd, h0, h1, and_self, if_true]
  refine Ok.then (ok_sizeOf g1') (ok_pure ⟨_, rfl, ⟨_, rfl⟩, e', he, by omega, fun _ => ⟨b, kk, hs, ?_⟩⟩)
  rw [g3', add_eq]

/-- .. of a slice that nobody writes any more. -/
theorem opk_indexPsl {t e : TypeId} {f fe : TF} {cells : List AV} {len : Nat} {k : IntKind} {i : Int} {V : Value} (ht : tyT P t = some f) (hd : f.d = .slice e) (hte : tyT P e = some fe) (h0 : 0 ≤ i) (h1 : i < len) (hr : i.toNat * fe.sz ≤ cells.length)
    (hv : VR c (.psl cells len) V) (hH : HR c w h) (hK : K (.pptr (cells.drop (i.toNat * fe.sz))) h) : VOk P (Instr.indexAt t V (.int k i)) K c w := by
  obtain ⟨j, g1, g2, _⟩ := tyT_some ht
  obtain ⟨j', g1', g2', g3', _⟩ := tyT_some hte
  rcases hv with ⟨_, hl0, _⟩ | ⟨b, o, arr, el, fz, l, cap, rfl, hc1, hi, hl, hp⟩
  · omega
  refine VOk.pure (v := .pptr (cells.drop (i.toNat * fe.sz))) ?_ hH hK
  refine Ok.then (a := (k, i)) rfl (Ok.then (ok_underlying g2) ?_)
  simp only [hd]
  refine Ok.then (a := (some ⟨b, o, none⟩, len, e)) rfl ?_
  simp only []
  refine Ok.then (ok_underlying g2) ?_
  simp only [hd, h0, h1, and_self, if_true]
  refine Ok.then (ok_sizeOf g1') (ok_pure ⟨_, rfl, b, o + i.toNat * fe.sz, arr, el, fz, l.drop (i.toNat * fe.sz), ?_, hi, hl.drop _, ?_⟩)
  · rw [g3', add_eq]
  · rw [← List.drop_drop]
    exact drop_prefix hp _ (by rw [hl.length]; exact hr)

/-- .. of an array behind a pointer. -/
theorem opk_indexPtr {t e : TypeId} {f fe : TF} {a a' : AV} {len : Nat} {k : IntKind} {i : Int} {V : Value} (ht : tyT P t = some f) (hd : f.d = .array len e) (hte : tyT P e = some fe) (h0 : 0 ≤ i) (h1 : i < len)
    (ha : addA a (i.toNat * fe.sz) = some a') (hr : reachA a (i.toNat * fe.sz)) (hv : VR c a V) (hH : HR c w h) (hK : K a' h) : VOk P (Instr.indexAt t V (.int k i)) K c w := by
  obtain ⟨j, g1, g2, _⟩ := tyT_some ht
  obtain ⟨j', g1', g2', g3', _⟩ := tyT_some hte
  obtain ⟨ad, rfl, hv'⟩ := VR_addA ha hr hv
  refine VOk.pure (v := a') ?_ hH hK
  refine Ok.then (a := (k, i)) rfl (Ok.then (ok_underlying g2) ?_)
  simp only [hd]
  refine Ok.then (a := ad) rfl (Ok.then (a := (some ad, len, e)) rfl ?_)
  simp only []
  refine Ok.then (ok_underlying g2) ?_
  simp only [hd, h0, h1, and_self, if_true]
  refine Ok.then (ok_sizeOf g1') (ok_pure ⟨_, rfl, ?_⟩)
  rw [g3']; exact hv'

/-- A length that stands in the value. -/
def lenA : AV → Option Nat
  | .str s => some s.length
  | .nilsl => some 0
  | .psl _ len => some len
  | _ => none

theorem opk_lenStr {t ty : TypeId} {f : TF} {s : List UInt8} (ht : tyT P t = some f) (hd : f.d = .string) (hH : HR c w h) (hK : K (.int .i64 s.length) h) : VOk P (Builtin.len_ #[t] ty #[.string ⟨s.toArray⟩]) K c w := by
  obtain ⟨j, g1, g2, _⟩ := tyT_some ht
  refine VOk.pure (v := .int .i64 s.length) ?_ hH hK
  simp only [Builtin.len_, List.size_toArray, List.length_cons, List.length_nil, Nat.zero_add, Nat.lt_add_one, getElem?_pos, List.getElem_toArray, List.getElem_cons_zero]
  refine Ok.then (ok_underlying g2) ?_
  simp only [hd]
  exact ok_pure ⟨_, rfl, by simp [VR, goInt, ByteArray.size]⟩

theorem opk_lenSlice {t ty : TypeId} {f : TF} {e : TypeId} {a : Option Addr} {n k : Nat} (ht : tyT P t = some f) (hd : f.d = .slice e) (hH : HR c w h) (hK : K (.int .i64 n) h) : VOk P (Builtin.len_ #[t] ty #[.slice a n k]) K c w := by
  obtain ⟨j, g1, g2, _⟩ := tyT_some ht
  refine VOk.pure (v := .int .i64 n) ?_ hH hK
  simp only [Builtin.len_, List.size_toArray, List.length_cons, List.length_nil, Nat.zero_add, Nat.lt_add_one, getElem?_pos, List.getElem_toArray, List.getElem_cons_zero]
  refine Ok.then (ok_underlying g2) ?_
  simp only [hd]
  exact ok_pure ⟨_, rfl, rfl⟩

theorem psl_len {cells : List AV} {len : Nat} {V : Value} (hv : VR c (.psl cells len) V) : ∃ a k, V = .slice a len k := by
  rcases hv with ⟨_, rfl, rfl⟩ | ⟨b, o, arr, el, fz, l, cap, rfl, _⟩
  · exact ⟨_, _, rfl⟩
  · exact ⟨_, _, rfl⟩

theorem sl_len {n : Nm} {sz off len : Nat} {V : Value} {cs : List AV} (hcur : h[n.id]? = some (.cells n.gen cs)) (hH : HR c w h) (hv : VR c (.sl n sz off len) V) : ∃ a k, V = .slice a len k := by
  obtain ⟨_, hv⟩ := hv
  obtain ⟨e', he, hg, hp, _⟩ := own_cells hH hcur hv
  rcases hp with ⟨rfl, rfl, rfl⟩ | ⟨b, kk, cap, hs, rfl, hc1, hc2⟩
  · exact ⟨_, _, rfl⟩
  · exact ⟨_, _, rfl⟩

theorem opk_iface {t : TypeId} {f : TF} {v : AV} {V : Value} (ht : tyT P t = some f) (hd : ∀ ms, f.d ≠ .interface ms) (hv : VR c v V) (hH : HR c w h) (hK : K (.iface t v) h) : VOk P (Instr.makeInterface t V) K c w := by
  obtain ⟨j, g1, g2, _⟩ := tyT_some ht
  refine VOk.pure (v := .iface t v) ?_ hH hK
  refine Ok.then (ok_underlying g2) ?_
  cases hf : f.d with
  | interface ms => exact absurd hf (hd ms)
  | _ => exact ok_pure ⟨_, rfl, V, rfl, hv⟩

theorem opk_makeFunc {fn : Fn} {f1 c1 : List AV} {F C : Array Value} (hf : VRL c f1 F.toList) (hc : VRL c c1 C.toList) (hH : HR c w h) (hK : K (.fn fn f1 c1) h) : VOk P (Instr.makeFunc fn F C) K c w :=
  VOk.pure (v := .fn fn f1 c1) ⟨_, rfl, F.toList, C.toList, by simp, hf, hc⟩ hH hK
end
end Go.Mac

/-! MacH -/
/- MacH: append, copy, new slices, slices of slices, values built of parts. No program is in sight. -/
namespace Go.Mac
open Go Go.Conc

/-- One abstract block is moved or grown. -/
def Cx.rebind (c : Cx) (i : Nat) (e : Ent) : Cx := { c with own := c.own.set i e, mine := fun x => c.mine x ∨ ∃ k, e.seat = some (x, k) }

theorem Ext.rebind {c : Cx} {i : Nat} {e e' : Ent} (he : c.own[i]? = some e) (hg : e.gen < e'.gen) : Ext c (c.rebind i e') where
  own j ej hj := by
    by_cases hij : i = j
    · subst hij
      rw [he] at hj
      cases hj
      exact ⟨e', by simp only [Cx.rebind]; rw [List.getElem?_set_self (List.getElem?_eq_some_iff.1 he).1], by omega, fun h => by omega⟩
    · exact ⟨ej, by simp only [Cx.rebind]; rw [List.getElem?_set_ne hij]; exact hj, Nat.le_refl _, fun _ => rfl⟩
  imm _ _ h := h

theorem HR.rebind {c : Cx} {w w' : World} {h : List Blk} (x : HR c w h) {i : Nat} {e e' : Ent} {old new : Blk} (he : c.own[i]? = some e) (hg : e.gen < e'.gen) (ho : h[i]? = some old)
    (hs : ∀ b k, e'.seat = some (b, k) → b < w'.heap.size ∧ c.imm b = none ∧
      ∀ (j : Nat) (ej : Ent) (bj : Blk) (y : Nat × Nat), j ≠ i → c.own[j]? = some ej → h[j]? = some bj → bj.live = true → ej.seat = some y → y.1 ≠ b)
    (hsz : w.heap.size ≤ w'.heap.size) (hw : ∀ j, j < w.heap.size → (∀ k, e'.seat ≠ some (j, k)) → w'.heap[j]? = w.heap[j]?)
    (hch : ∀ b k, e'.seat = some (b, k) → ¬ c.com.chans b) (hn : BR (c.rebind i e') w' e' new) : HR (c.rebind i e') w' (h.set i new) where
  len := by simp [Cx.rebind, x.len]
  blk j ej bj h1 h2 := by
    simp only [Cx.rebind] at h1
    by_cases hij : i = j
    · subst hij
      rw [List.getElem?_set_self (List.getElem?_eq_some_iff.1 ho).1] at h2
      rw [List.getElem?_set_self (List.getElem?_eq_some_iff.1 he).1] at h1
      cases h1; cases h2
      exact hn
    · rw [List.getElem?_set_ne hij] at h1 h2
      have hb := x.blk j ej bj h1 h2
      have hx := Ext.rebind he hg
      cases hl : bj.live with
      | false => cases bj with | dead => trivial | role m => exact hb | _ => cases hl
      | true =>
        have key : ∀ y, ej.seat = some y → w'.heap[y.1]? = w.heap[y.1]? := fun y hy =>
          hw _ (x.seat_lt hb hl hy) fun k hk => (hs _ _ hk).2.2 j ej bj y (fun h => hij h.symm) h1 h2 hl hy rfl
        cases bj with
        | dead => cases hl
        | cells g cs =>
          obtain ⟨h0, h1 | ⟨b, k, arr, el, l, h1, h2, h3, h4, h5, h6⟩⟩ := hb
          · exact ⟨h0, .inl h1⟩
          · exact ⟨h0, .inr ⟨b, k, arr, el, l, h1, .inl h2, by rw [key _ h1]; exact h3, h4, h5.ext hx, h6⟩⟩
        | map ks vs => obtain ⟨h0, b, k, ents, clk, h1, h2, h3, h4, h5⟩ := hb; exact ⟨h0, b, k, ents, clk, h1, .inl h2, by rw [key _ h1]; exact h3, h4.ext hx, h5.ext hx⟩
        | loop st pend fn slots params assign body => obtain ⟨h0, b, k, tm, d, h1, h2, h3, h4⟩ := hb; exact ⟨h0, b, k, tm, d, h1, .inl h2, by rw [key _ h1]; exact h3, h4.ext hx⟩
        | defd => obtain ⟨h0, b, k, h1, h2, h3⟩ := hb; exact ⟨h0, b, k, h1, .inl h2, by rw [key _ h1]; exact h3⟩
        | iter s pos => obtain ⟨h0, b, k, h1, h2, h3⟩ := hb; exact ⟨h0, b, k, h1, .inl h2, by rw [key _ h1]; exact h3⟩
        | chan g => exact hb
        | role m => exact hb
  apart i1 j1 e1 e2 b1 b2 y1 y2 hne h1 h2 h3 h4 l1 l2 s1 s2 := by
    simp only [Cx.rebind] at h1 h2
    have key : ∀ (m : Nat) (em : Ent) (bm : Blk) (y : Nat × Nat), (c.own.set i e')[m]? = some em → (h.set i new)[m]? = some bm → bm.live = true → em.seat = some y →
        (m = i ∧ e'.seat = some y) ∨ (m ≠ i ∧ c.own[m]? = some em ∧ h[m]? = some bm ∧ ∀ b k, e'.seat = some (b, k) → y.1 ≠ b) := by
      intro m em bm y g1 g2 g3 g4
      by_cases him : i = m
      · subst him
        rw [List.getElem?_set_self (List.getElem?_eq_some_iff.1 he).1] at g1
        cases g1
        exact .inl ⟨rfl, g4⟩
      · rw [List.getElem?_set_ne him] at g1 g2
        exact .inr ⟨fun h => him h.symm, g1, g2, fun b k hk => (hs b k hk).2.2 m em bm y (fun h => him h.symm) g1 g2 g3 g4⟩
    rcases key i1 e1 b1 y1 h1 h3 l1 s1 with ⟨a1, a2⟩ | ⟨a1, a2, a3, a4⟩ <;> rcases key j1 e2 b2 y2 h2 h4 l2 s2 with ⟨g1, g2⟩ | ⟨g1, g2, g3, g4⟩
    · omega
    · exact fun h => g4 _ _ a2 h.symm
    · exact a4 _ _ g2
    · exact x.apart i1 j1 e1 e2 b1 b2 y1 y2 hne a2 g2 a3 g3 l1 l2 s1 s2
  mine b hb := by
    rcases hb with hb | ⟨k, hk⟩
    · exact Nat.lt_of_lt_of_le (x.mine b hb) hsz
    · exact (hs b k hk).1
  imm b o hb := by
    obtain ⟨h1, h2⟩ := x.imm b o hb
    have hb' : c.imm b = some o := hb
    have hne : ∀ k, e'.seat ≠ some (b, k) := fun k hk => by have := (hs b k hk).2.1; rw [hb'] at this; cases this
    exact ⟨by rintro (h | ⟨k, h⟩); exact h1 h; exact hne k h, by rw [hw b (Array.getElem?_eq_some_iff.1 h2).1 hne]; exact h2⟩
  chan r hr := by
    obtain ⟨h1, h2, h3⟩ := x.chan r hr
    have hne : ∀ k, e'.seat ≠ some (r, k) := fun k hk => hch r k hk hr
    exact ⟨by rintro (h | ⟨k, h⟩); exact h1 h; exact hne k h, h2, by unfold OpenChan; rw [hw r h3.lt hne]; exact h3⟩

section
variable {P : Program} {c : Cx} {w : World} {h : List Blk} {K : AV → List Blk → Prop}

/-- The cells of what is appended or copied, and its length. -/
def srcA (h : List Blk) (sz : Nat) : AV → Option (List AV × Nat)
  | .nilsl => some ([], 0)
  | .psl cells len => some (cells.take (len * sz), len)
  | .sl n _ off len => match h[n.id]? with
    | some (.cells g cs) => if g = n.gen then some ((cs.drop off).take (len * sz), len) else none
    | _ => none
  | .str s => some (s.map fun b => .int .u8 b.toNat, s.length)
  | _ => none

/-- What such a source is good for. -/
theorem src_ok {sz m : Nat} {a : AV} {X : Value} {cs : List AV} (hs : srcA h sz a = some (cs, m)) (hl : cs.length = m * sz) (hsz : ∀ s, a = .str s → sz = 1) (hv : VR c a X) (hH : HR c w h) :
    (∀ n0, Ok P c n0 (Builtin.lenOf X) w (fun r => r = .ok m w)) ∧
    ∃ L, VRL c cs L ∧ ∀ q, q ≤ m → Ok P c w.heap.size (Builtin.firstCells sz q X) w (fun r => r = .ok (L.take (q * sz)).toArray w) := by
  cases a <;> simp only [srcA, reduceCtorEq, Option.some.injEq, Prod.mk.injEq] at hs
  case nilsl =>
    obtain ⟨rfl, rfl⟩ := hs
    cases hv
    exact ⟨fun _ => rfl, [], rfl, fun q hq => ok_pure (by simp)⟩
  case str s =>
    obtain ⟨rfl, rfl⟩ := hs
    cases hv
    have h1 := hsz s rfl
    subst h1
    refine ⟨fun _ => ok_pure (by simp [ByteArray.size]), s.map fun b => .int .u8 b.toNat, ?_, fun q hq => ok_pure ?_⟩
    · clear hl hsz
      induction s with
      | nil => rfl
      | cons b s ih => exact ⟨_, _, rfl, rfl, ih⟩
    · simp [List.map_take]
  case psl cells len =>
    obtain ⟨rfl, rfl⟩ := hs
    rcases hv with ⟨rfl, rfl, rfl⟩ | ⟨b, o, arr, el, fz, l, cap, rfl, hc1, hi, hr, hp⟩
    · refine ⟨fun _ => rfl, [], by simp, fun q hq => ?_⟩
      have : q = 0 := by omega
      subst this
      exact ok_pure (by simp)
    · have hlen : len * sz ≤ l.length := by
        rw [hr.length]
        simp at hl; omega
      refine ⟨fun _ => rfl, l.take (len * sz), hr.take _, fun q hq => ?_⟩
      have hq' : q * sz ≤ len * sz := Nat.mul_le_mul_right _ hq
      refine (ok_loadCells (l := (l.take (len * sz)).take (q * sz)) (.inr (.inr (by rw [hi]; rfl))) (hH.imm b _ hi).2 (by simp; omega) ?_)
      exact (List.take_prefix _ _).trans ((List.take_prefix _ _).trans hp)
  case sl n sz' off len =>
    split at hs
    · rename_i g cs' hb
      split at hs
      · rename_i hg
        subst hg
        simp only [Option.some.injEq, Prod.mk.injEq] at hs
        obtain ⟨rfl, rfl⟩ := hs
        obtain ⟨e, he, hg, hp, hx⟩ := own_cells hH hb hv.2
        rcases hp with ⟨rfl, rfl, rfl⟩ | ⟨b, kk, cap, hs, rfl, hc1, hc2⟩
        · refine ⟨fun _ => rfl, [], by simp, fun q hq => ?_⟩
          have : q = 0 := by omega
          subst this
          exact ok_pure (by simp)
        · rcases hx with ⟨hx, _⟩ | ⟨b', k', arr, el, l, hx, hm, hw, hk, hr, hp⟩
          · rw [hx] at hs; cases hs
          rw [hx] at hs
          cases hs
          have hlen : len * sz ≤ (cs'.drop off).length := by simp only [List.length_take] at hl; omega
          have hdl : (l.drop off).length = (cs'.drop off).length := (hr.drop off).length
          refine ⟨fun _ => rfl, (l.drop off).take (len * sz), (hr.drop off).take _, fun q hq => ?_⟩
          have hq' : q * sz ≤ len * sz := Nat.mul_le_mul_right _ hq
          by_cases ho : off ≤ l.length
          · refine (ok_loadCells (l := ((l.drop off).take (len * sz)).take (q * sz)) (.inl hm) hw (by simp only [List.length_take]; omega) ?_)
            exact (List.take_prefix _ _).trans ((List.take_prefix _ _).trans (drop_prefix hp off ho))
          · have hz : len * sz = 0 := by simp at hlen hdl; omega
            have hq0 : q * sz = 0 := by omega
            rw [hq0, List.take_zero]
            exact ok_loadCells (l := []) (.inl hm) hw (by simp [hq0]) List.nil_prefix
      · cases hs
    · cases hs

theorem growBy_le (newLen : Nat) : ∀ (r cc : Nat), 256 ≤ cc → cc ≤ newLen → Builtin.growBy newLen r cc ≤ 2 * newLen + 768
  | 0, cc, _, h => by simp only [Builtin.growBy]; omega
  | r + 1, cc, h1, h => by
    simp only [Builtin.growBy]
    split
    · omega
    · by_cases h2 : cc + (cc + 768) / 4 ≤ newLen
      · exact growBy_le newLen r _ (by omega) h2
      · cases r with
        | zero => simp only [Builtin.growBy]; omega
        | succ r => simp only [Builtin.growBy]; rw [if_pos (by omega)]; omega

theorem nextcap_le {need cap : Nat} (hc : cap < need) : Builtin.nextslicecap need cap ≤ 2 * need + 768 := by
  unfold Builtin.nextslicecap
  split
  · omega
  · split
    · omega
    · exact growBy_le need 4 cap (by omega) (by omega)

theorem setMany_end : ∀ (vs l t : List Value), vs.length ≤ t.length → Mac.setMany (l ++ t) l.length vs = l ++ vs ++ t.drop vs.length
  | [], l, t, _ => by simp [Mac.setMany]
  | v :: vs, l, [], h => by simp at h
  | v :: vs, l, x :: t, h => by
    simp only [Mac.setMany]
    have e : (l ++ x :: t).set l.length v = (l ++ [v]) ++ t := by simp
    have e2 : l.length + 1 = (l ++ [v]).length := by simp
    rw [e, e2, setMany_end vs (l ++ [v]) t (by simpa using h)]
    simp

theorem zeroCells_size (z : Array Value) (n : Nat) : (Builtin.zeroCells z n).size = n * z.size := by simp [Builtin.zeroCells]

/-- append: behind what is there. -/
theorem opk_append {st xt ty e : TypeId} {f fe fx : TF} {z : List AV} {n : Nm} {len m : Nat} {cs new : List AV} {a : AV} {S X : Value} (ht : tyT P st = some f) (hd : f.d = .slice e) (hte : tyT P e = some fe) (hz : fe.ze = some z) (hzl : z.length = fe.sz)
    (htx : tyT P xt = some fx) (hxd : ∀ k, fx.d ≠ .int k) (hb : h[n.id]? = some (.cells n.gen cs)) (hcs : cs.length = len * fe.sz) (hs : srcA h fe.sz a = some (new, m)) (hl : new.length = m * fe.sz) (hsz : ∀ s, a = .str s → fe.sz = 1)
    (hleaf : new.all leafA = true) (hbd : len + m ≤ 4294967296) (hby : fe.bytes ≤ 4096) (hS : VR c (.sl n fe.sz 0 len) S) (hX : VR c a X) (hH : HR c w h)
    (hK : K (.sl ⟨n.id, n.gen + 1⟩ fe.sz 0 (len + m)) (h.set n.id (.cells (n.gen + 1) (cs ++ new)))) : VOk P (Builtin.append_ #[st, xt] ty #[S, X]) K c w := by
  obtain ⟨i, h1, h2, h3, h4, h5⟩ := tyT_some ht
  obtain ⟨ie, g1, g2, g3, g4, g5⟩ := tyT_some hte
  obtain ⟨ix, x1, x2, _⟩ := tyT_some htx
  obtain ⟨hlen, L, hL, hfc⟩ := src_ok (P := P) hs hl hsz hX hH
  have hLl : L.length = m * fe.sz := by rw [hL.length, hl]
  have hfull : Ok P c w.heap.size (Builtin.firstCells fe.sz m X) w (fun r => r = .ok L.toArray w) := (hfc m (Nat.le_refl _)).mono fun r e => by rw [e, List.take_of_length_le (by omega)]
  obtain ⟨en, he, hg, hp, hx⟩ := own_cells hH hb hS.2
  have hsep : ∀ (b k : Nat), en.seat = some (b, k) → ∀ (j : Nat) (ej : Ent) (bj : Blk) (y : Nat × Nat), j ≠ n.id → c.own[j]? = some ej → h[j]? = some bj → bj.live = true → ej.seat = some y → y.1 ≠ b :=
    fun b k hs j ej bj y hj q1 q2 q3 q4 => hH.apart j n.id ej en bj _ y (b, k) hj q1 he q2 hb q3 rfl q4 hs
  have hnone : n.id < h.length := (List.getElem?_eq_some_iff.1 hb).1
  unfold Builtin.append_
  simp only [List.getElem?_toArray, List.getElem?_cons_zero, List.getElem?_cons_succ]
  refine Ok.then (ok_underlying h2) ?_
  simp only [hd]
  obtain ⟨base, sCap, rfl⟩ : ∃ base sCap, S = .slice base len sCap := by
    rcases hp with ⟨rfl, _, rfl⟩ | ⟨b, kk, cap, _, rfl, _⟩ <;> exact ⟨_, _, rfl⟩
  simp only []
  refine Ok.then (ok_sizeOf g1) ?_
  rw [g3]
  refine Ok.then (ok_underlying x2) ?_
  refine Ok.then (a := false) ?_ ?_
  · cases hfx : fx.d with
    | int k => exact absurd hfx (hxd k)
    | _ => exact ok_pure rfl
  simp only [Bool.false_eq_true, if_false, Bool.not_false, if_true]
  refine Ok.then (hlen _) ?_
  have hTurn : ∀ (e' : Ent) (w' : World), (∀ b k, e'.seat = some (b, k) → c.mine b ∨ w.heap.size ≤ b) → e'.gen = en.gen + 1 → TurnOk c (c.rebind n.id e') w.heap.size := fun e' w' hm hge =>
    ⟨Ext.rebind he (by omega), fun b hb => by rcases hb with hb | ⟨k, hk⟩; exact .inl hb; exact hm b k hk, fun b o hb => .inl hb, rfl⟩
  by_cases hroom : len + m ≤ sCap
  · -- it has room
    simp only [hroom, if_true]
    refine Ok.then hfull ?_
    rcases hp with ⟨rfl, _, hv⟩ | ⟨b, kk, cap, hs', hv, hc1, hc2⟩
    · cases hv
      have hm0 : m = 0 := by omega
      subst hm0
      have hnew : new = [] := List.length_eq_zero_iff.1 (by omega)
      subst hnew
      have hcs0 : cs = [] := List.length_eq_zero_iff.1 (by omega)
      subst hcs0
      have hL0 : L = [] := List.length_eq_zero_iff.1 (by omega)
      subst hL0
      have hB : BR (c.rebind n.id ⟨n.gen + 1, en.seat⟩) w ⟨n.gen + 1, en.seat⟩ (.cells (n.gen + 1) ([] ++ [])) := by
        refine ⟨rfl, ?_⟩
        rcases hx with ⟨hx, _⟩ | ⟨b, k, arr, el, l, hx, hm, hw, hk, hr, hp⟩
        · exact .inl ⟨hx, rfl⟩
        · exact .inr ⟨b, k, arr, el, [], hx, .inl hm, hw, hk, rfl, List.nil_prefix⟩
      have hsm : ∀ b k, en.seat = some (b, k) → c.mine b := fun b k hs => by
        rcases hx with ⟨hx, _⟩ | ⟨b', k', arr, el, l, hx, hm, _⟩
        · rw [hx] at hs; cases hs
        · rw [hx] at hs; cases hs; exact hm
      refine ok_pure ⟨_, w, c.rebind n.id ⟨n.gen + 1, en.seat⟩, _, _, rfl, hK, ?_, ?_, hTurn _ w (fun b k hs => .inl (hsm b k hs)) (by simp [hg])⟩
      · exact ⟨⟨_, _, _, rfl⟩, ⟨n.gen + 1, en.seat⟩, by simp only [Cx.rebind]; rw [List.getElem?_set_self (List.getElem?_eq_some_iff.1 he).1], Nat.le_refl _, fun _ => .inl ⟨rfl, rfl, rfl⟩⟩
      · refine hH.rebind he (by simp [hg]) hb (fun b k hs => ⟨hH.mine b (hsm b k hs), ?_, hsep b k hs⟩) (Nat.le_refl _) (fun _ _ _ => rfl) (fun b k hs hc => (hH.chan b hc).1 (hsm b k hs)) hB
        cases hi : c.imm b with
        | none => rfl
        | some o => exact absurd (hsm b k hs) (hH.imm b o hi).1
    · cases hv
      rcases hx with ⟨hx, _⟩ | ⟨b', k', arr, el, l, hx, hm, hw, hk, hr, hp'⟩
      · rw [hx] at hs'; cases hs'
      rw [hx] at hs'
      cases hs'
      simp only [add_eq, Nat.zero_add]
      have hll : l.length = len * fe.sz := by rw [hr.length, hcs]
      have hcapsz : len * fe.sz + m * fe.sz ≤ arr.size := by
        rw [← Nat.add_mul, hk]
        exact Nat.le_trans (Nat.mul_le_mul_right _ hroom) (by omega)
      have hb'' : b < w.heap.size := (Array.getElem?_eq_some_iff.1 hw).1
      have hst : Ok P c w.heap.size (storeCells ⟨b, len * fe.sz, none⟩ L) w (fun r => r = .ok () (putBlk w b (.cells (Mac.setMany arr.toList (len * fe.sz) L).toArray el (0, 0)))) :=
        ok_storeCells (.inl hm) L (len * fe.sz) 0 w arr hw (by omega) (leaf_all hleaf hL)
      refine Ok.bind' (hst.mono fun r e => ?_)
      subst e
      simp only [thenOk]
      have hse : (⟨n.gen + 1, en.seat⟩ : Ent).seat = some (b, kk) := hx
      refine ok_pure ⟨_, _, c.rebind n.id ⟨n.gen + 1, en.seat⟩, _, _, rfl, hK, ?_, ?_, hTurn _ w (fun b2 k2 hs => .inl (by rw [hx] at hs; cases hs; exact hm)) (by simp [hg])⟩
      · refine ⟨⟨_, _, _, rfl⟩, ⟨n.gen + 1, en.seat⟩, by simp only [Cx.rebind]; rw [List.getElem?_set_self (List.getElem?_eq_some_iff.1 he).1], Nat.le_refl _, fun _ => .inr ⟨b, kk, sCap, hx, rfl, hroom, hc2⟩⟩
      · refine hH.rebind he (by simp [hg]) hb (fun b2 k2 hs => ?_) (by simp) (fun j hj hne => putBlk_other (fun hjb => hne kk (by rw [hse, hjb]))) (fun b2 k2 hs hc => by rw [hse] at hs; cases hs; exact (hH.chan _ hc).1 hm) ?_
        · rw [hse] at hs
          cases hs
          refine ⟨by simpa using hb'', ?_, hsep b kk hx⟩
          cases hi : c.imm b with
          | none => rfl
          | some o => exact absurd hm (hH.imm b o hi).1
        · refine ⟨rfl, .inr ⟨b, kk, _, el, l ++ L, hx, .inl hm, putBlk_same hb'', by simpa using hk, (hr.append hL).ext (Ext.rebind he (by simp [hg])), ?_⟩⟩
          obtain ⟨t, ht⟩ := hp'
          have htl : L.length ≤ t.length := by
            have : arr.size = l.length + t.length := by rw [← List.length_append, ht]; simp
            omega
          have e := setMany_end L l t htl
          rw [ht, hll] at e
          show l ++ L <+: (Mac.setMany arr.toList (len * fe.sz) L).toArray.toList
          rw [List.toList_toArray, e]
          exact List.prefix_append _ _
  · -- a new row
    simp only [hroom, if_false]
    have hneed : sCap < len + m := by omega
    have hcapb : ¬ (((len + m : Nat) : Int) > IntKind.i64.max ∧ (False ∨ ie.bytes = 0)) := by
      have e3 : IntKind.i64.max = 9223372036854775807 := by decide
      rw [e3]; omega
    have hbig : ¬ Builtin.nextslicecap (len + m) sCap * ie.bytes > 2 ^ 48 := by
      have h1' := nextcap_le hneed
      have h2' : Builtin.nextslicecap (len + m) sCap * ie.bytes ≤ (2 * (len + m) + 768) * 4096 := Nat.mul_le_mul h1' (by omega)
      omega
    refine Ok.then (ok_typeInfo g1) ?_
    rw [if_neg hcapb]
    refine Ok.then (ok_typeInfo g1) ?_
    rw [if_neg hbig]
    show Ok P c w.heap.size (Sem.choose (.appendCap (len + m) sCap e) _) w _
    intro newCap _ hcap d
    obtain ⟨t0, hnew⟩ := hcap rfl
    have hge : len + m ≤ newCap := by rw [hnew]; simp only [Question.cut]; omega
    generalize hw2 : ({ w with drawn := d } : World) = w2
    have hheap : w2.heap = w.heap := by rw [← hw2]
    have hH2 : HR c w2 h := by rw [← hw2]; exact hH.rely (RL.at c w d)
    obtain ⟨_, L2, hL2, hfc2⟩ := src_ok (P := P) hs hl hsz hX hH2
    have hL2l : L2.length = m * fe.sz := by rw [hL2.length, hl]
    have hfull2 : Ok P c w.heap.size (Builtin.firstCells fe.sz m X) w2 (fun r => r = .ok L2.toArray w2) := by
      have := hfc2 m (Nat.le_refl _)
      rw [hheap] at this
      exact this.mono fun r e => by rw [e, List.take_of_length_le (by omega)]
    have hold : ∃ l0, VRL c cs l0 ∧ Ok P c w.heap.size (Builtin.firstCells fe.sz len (.slice base len sCap)) w2 (fun r => r = .ok l0.toArray w2) := by
      rcases hp with ⟨rfl, _, hv⟩ | ⟨b, kk, cap, hs', hv, hc1, hc2⟩
      · cases hv
        have hcs0 : cs = [] := List.length_eq_zero_iff.1 (by omega)
        subst hcs0
        exact ⟨[], rfl, rfl⟩
      · cases hv
        rcases hx with ⟨hx, _⟩ | ⟨b', k', arr, el, l, hx, hm, hw, hk, hr, hp'⟩
        · rw [hx] at hs'; cases hs'
        rw [hx] at hs'
        cases hs'
        have hll : l.length = len * fe.sz := by rw [hr.length, hcs]
        exact ⟨l, hr, ok_loadCells (.inl hm) (by rw [hheap]; exact hw) hll (by simpa using hp')⟩
    obtain ⟨l0, hl0, hold⟩ := hold
    cases hiz : ie.zero with
    | none => rw [hiz] at g4; rw [hz] at g4; cases g4
    | some Z =>
      rw [hiz, hz] at g4
      simp only [Option.map_some, Option.some.injEq] at g4
      have hZs : Z.cells.size = fe.sz := by rw [← hzl, ← g4]; simp
      refine Ok.then (a := newCap) rfl (Ok.then (ok_typeInfo g1) (Ok.then (a := ()) ?_ ?_))
      · unfold askRoom
        split
        · exact ⟨rfl, rfl⟩
        · exact ok_pure rfl
      refine Ok.then hold (Ok.then hfull2 (Ok.then (ok_zeroValue g1 hiz) ?_))
      have hsize : w2.heap.size = w.heap.size := by rw [hheap]
      show Ok P c w.heap.size (Sem.new (.cells (l0.toArray ++ L2.toArray ++ Builtin.zeroCells Z.cells (newCap - (len + m))) e) _) w2 _
      refine ⟨_, _, c.rebind n.id ⟨n.gen + 1, some (w2.heap.size, (l0.toArray ++ L2.toArray ++ Builtin.zeroCells Z.cells (newCap - (len + m))).size)⟩, _, _, rfl, hK, ?_, ?_,
        hTurn _ w (fun b k hs => by cases hs; exact .inr (by omega)) (by simp [hg])⟩
      · refine ⟨⟨_, _, _, rfl⟩, ⟨n.gen + 1, _⟩, by simp only [Cx.rebind]; rw [List.getElem?_set_self (List.getElem?_eq_some_iff.1 he).1], Nat.le_refl _, fun _ => .inr ⟨_, _, newCap, rfl, rfl, hge, ?_⟩⟩
        have e1 : l0.length = len * fe.sz := by rw [hl0.length, hcs]
        simp only [Array.size_append, List.size_toArray, e1, hL2l, zeroCells_size, hZs]
        rw [← Nat.add_mul, ← Nat.add_mul]
        exact Nat.le_of_eq (by rw [Nat.zero_add]; congr 1; omega)
      · refine hH2.rebind he (by simp [hg]) hb (fun b k hs => ?_) (by simp) (fun j hj _ => heap_alloc_old w2 _ hj) (fun b k hs hc => by cases hs; exact absurd (hH2.chan _ hc).2.2.lt (Nat.lt_irrefl _)) ?_
        · cases hs
          refine ⟨by simp, ?_, fun j ej bj y hj q1 q2 q3 q4 hyb => ?_⟩
          · cases hi : c.imm w2.heap.size with
            | none => rfl
            | some o => exact absurd (Array.getElem?_eq_some_iff.1 (hH2.imm _ o hi).2).1 (Nat.lt_irrefl _)
          · have := hH2.seat_lt (hH2.blk j ej bj q1 q2) q3 q4
            omega
        · refine ⟨rfl, .inr ⟨_, _, _, e, l0 ++ L2, rfl, .inr ⟨_, rfl⟩, heap_alloc_self w2 _, rfl, (hl0.append hL2).ext (Ext.rebind he (by simp [hg])), ?_⟩⟩
          simp only [Array.toList_append]
          exact List.prefix_append _ _
end
end Go.Mac

/-! MacI -/
/- MacI: values built of parts, new rows, slices of slices and strings, copy, least and greatest, assertions of types. No program is in sight. -/
namespace Go.Mac
open Go Go.Conc

/-- Parts laid into cells. -/
def fillA (place : Nat → Option (Nat × Nat)) (cells : List AV) : List (Nat × AV) → Option (List AV)
  | [] => some cells
  | (i, v) :: rest =>
    match place i, valCells v with
    | some (off, size), some cs => if cs.length = size ∧ off + cs.length ≤ cells.length then fillA place (setMany cells off cs) rest else none
    | _, _ => none

theorem foldl_setMany (off : Nat) : ∀ (l : List Value) (k : Nat) (cs : Array Value),
    (l.zipIdx k).foldl (fun cs (x : Value × Nat) => cs.setIfInBounds (off + x.2) x.1) cs = (Mac.setMany cs.toList (off + k) l).toArray
  | [], k, cs => by simp [Mac.setMany]
  | v :: l, k, cs => by
    simp only [List.zipIdx_cons, List.foldl_cons, Mac.setMany]
    rw [foldl_setMany off l (k + 1)]
    simp [Nat.add_assoc]

/-- Pairs of a place and a value, one by one. -/
def VRP (c : Cx) : List (Nat × AV) → List (Nat × Value) → Prop
  | [], l => l = []
  | (i, a) :: as, l => ∃ v vs, l = (i, v) :: vs ∧ VR c a v ∧ VRP c as vs

theorem fill_ok {c : Cx} {place : Nat → Option (Nat × Nat)} : ∀ {parts : List (Nat × AV)} {vs : List (Nat × Value)} {cells out : List AV} {L : List Value}, fillA place cells parts = some out → VRL c cells L → VRP c parts vs →
    ∃ out', Instr.fill place L.toArray vs = some out' ∧ VRL c out out'.toList
  | [], _, cells, out, L, h, hL, hv => by
    cases hv
    cases h
    exact ⟨_, rfl, hL⟩
  | (i, a) :: parts, _, cells, out, L, h, hL, hv => by
    obtain ⟨v, vs, rfl, h1, h2⟩ := hv
    simp only [fillA] at h
    split at h
    · rename_i off size cs hp hc
      split at h
      · rename_i hcond
        have hcs := VR_cells hc h1
        have hlen : v.cells.size = cs.length := by have := hcs.length; simpa using this
        have hll := hL.length
        obtain ⟨out', e, r⟩ := fill_ok h (hcs.setAll hL) h2
        refine ⟨out', ?_, r⟩
        simp only [Instr.fill, hp]
        have hn : (v.cells.size ≠ size || decide (off + v.cells.size > L.toArray.size)) = false := by
          simp only [hlen, hcond.1, ne_eq, not_true_eq_false, decide_false, Bool.false_or, decide_eq_false_iff_not, List.size_toArray]
          have := hcond.2; omega
        rw [if_neg (by simpa using hn)]
        have e1 : (v.cells.zipIdx.foldl (fun cs (x : Value × Nat) => cs.setIfInBounds (off + x.2) x.1) L.toArray) = (Mac.setMany L off v.cells.toList).toArray := by
          rw [← Array.foldl_toList, Array.toList_zipIdx]
          have := foldl_setMany off v.cells.toList 0 L.toArray
          simpa using this
        show Instr.fill place (v.cells.zipIdx.foldl (fun cs (x : Value × Nat) => cs.setIfInBounds (off + x.2) x.1) L.toArray) vs = some out'
        rw [e1]
        exact e
      · cases h
    · cases h

theorem VRL_map_range {c : Cx} {f : Nat → AV} {g : Nat → Value} : ∀ (n : Nat), (∀ j, j < n → VR c (f j) (g j)) → VRL c ((List.range n).map f) ((List.range n).map g)
  | 0, _ => rfl
  | n + 1, h => by
    rw [List.range_succ, List.map_append, List.map_append]
    exact (VRL_map_range n fun j hj => h j (by omega)).append ⟨_, _, rfl, h n (by omega), rfl⟩

/-- So many copies of a row of zero cells. -/
def zeroRow (z : List AV) (n : Nat) : List AV := (List.range n).map fun j => z.getD (j % z.length) .any

theorem VRL_zeroRow (c : Cx) (Z : Array Value) (n : Nat) : VRL c (zeroRow (Z.toList.map constA) n) ((Array.range n).map (Z[· % Z.size]!)).toList := by
  simp only [zeroRow, Array.toList_map, Array.toList_range, List.length_map, Array.length_toList]
  refine VRL_map_range n fun j _ => ?_
  by_cases hz : Z.size = 0
  · have : Z = #[] := Array.eq_empty_of_size_eq_zero hz
    subst this
    simp [List.getD, VR]
  · have hlt : j % Z.size < Z.size := Nat.mod_lt _ (by omega)
    have e1 : (Z.toList.map constA).getD (j % Z.size) .any = constA Z[j % Z.size] := by simp [List.getD, hlt]
    have e2 : Z[j % Z.size]! = Z[j % Z.size] := by simp [hlt]
    rw [e1, e2]
    exact VR_constA c _

@[simp] theorem zeroRow_one (v : AV) (n : Nat) : zeroRow [v] n = List.replicate n v := by
  apply List.ext_getElem
  · simp [zeroRow]
  · intro i h1 h2; simp [zeroRow, Nat.mod_one, List.getD]

@[simp] theorem zeroRow_length (z : List AV) (n : Nat) : (zeroRow z n).length = n := by simp [zeroRow]

section
variable {P : Program} {c : Cx} {w : World} {h : List Blk} {K : AV → List Blk → Prop}

/-- The places of a struct's fields. -/
def placesA (P : Program) : List Field → Option (List (Nat × Nat))
  | [] => some []
  | f :: fs => match tyT P f.type, placesA P fs with
    | some t, some l => some ((f.offset, t.sz) :: l)
    | _, _ => none

theorem ok_places {n0 : Nat} : ∀ {fs : List Field} {l : List (Nat × Nat)}, placesA P fs = some l → Ok P c n0 (fs.mapM fun f => do pure (f.offset, ← sizeOf f.type)) w (fun r => r = .ok l w)
  | [], l, h => by cases h; simp only [List.mapM_nil]; exact ok_pure rfl
  | f :: fs, l, h => by
    simp only [placesA] at h
    split at h
    · rename_i t l' ht hl
      cases h
      obtain ⟨i, h1, h2, h3, _⟩ := tyT_some ht
      simp only [List.mapM_cons]
      refine Ok.then (a := (f.offset, t.sz)) (Ok.then (ok_sizeOf h1) (by rw [h3]; exact ok_pure rfl)) (Ok.then (ok_places hl) (ok_pure rfl))
    · cases h

theorem opk_buildStruct {t : TypeId} {f : TF} {fs : Array Field} {z out : List AV} {pl : List (Nat × Nat)} {parts : List (Nat × AV)} {vs : Array (Nat × Value)} (ht : tyT P t = some f) (hd : f.d = .struct fs) (hz : f.ze = some z) (hp : placesA P fs.toList = some pl)
    (hf : fillA (pl[·]?) z parts = some out) (hv : VRP c parts vs.toList) (hH : HR c w h) (hK : K (.agg out) h) : VOk P (Instr.build t vs) K c w := by
  obtain ⟨i, h1, h2, h3, h4, _⟩ := tyT_some ht
  rw [hz] at h4
  cases hi : i.zero with
  | none => rw [hi] at h4; cases h4
  | some Z =>
    rw [hi] at h4
    simp only [Option.map_some, Option.some.injEq] at h4
    have hzL : VRL c z Z.cells.toList := by rw [← h4]; exact VRL_constA c _
    obtain ⟨out', e, r⟩ := fill_ok hf hzL hv
    refine VOk.pure (v := .agg out) ?_ hH hK
    refine Ok.then (ok_zeroValue h1 hi) (Ok.then (ok_underlying h2) ?_)
    simp only [hd]
    have hpl : Ok P c w.heap.size (fs.mapM fun f => do pure (f.offset, ← sizeOf f.type)) w (fun r => r = .ok pl.toArray w) := by
      rw [Array.mapM_eq_mapM_toList]
      have hb : Ok P c w.heap.size ((fs.toList.mapM fun (f : Field) => (do pure (f.offset, ← sizeOf f.type) : Sem (Nat × Nat))).bind fun l => Sem.pure l.toArray) w (fun r => r = .ok pl.toArray w) :=
        Ok.bind ((ok_places hp).mono fun r e => by subst e; exact rfl)
      exact hb
    refine Ok.then hpl ?_
    have e' : Instr.fill (fun x => pl.toArray[x]?) Z.cells vs.toList = some out' := by simpa using e
    simp only [e']
    exact ok_pure ⟨_, rfl, out'.toList, by simp, r⟩

theorem opk_buildArr {t te : TypeId} {f fe : TF} {len : Nat} {z out : List AV} {parts : List (Nat × AV)} {vs : Array (Nat × Value)} (ht : tyT P t = some f) (hd : f.d = .array len te) (hz : f.ze = some z) (hte : tyT P te = some fe)
    (hf : fillA (fun i => some (i * fe.sz, fe.sz)) z parts = some out) (hv : VRP c parts vs.toList) (hH : HR c w h) (hK : K (.agg out) h) : VOk P (Instr.build t vs) K c w := by
  obtain ⟨i, h1, h2, h3, h4, _⟩ := tyT_some ht
  obtain ⟨ie, g1, g2, g3, _⟩ := tyT_some hte
  rw [hz] at h4
  cases hi : i.zero with
  | none => rw [hi] at h4; cases h4
  | some Z =>
    rw [hi] at h4
    simp only [Option.map_some, Option.some.injEq] at h4
    have hzL : VRL c z Z.cells.toList := by rw [← h4]; exact VRL_constA c _
    obtain ⟨out', e, r⟩ := fill_ok hf hzL hv
    refine VOk.pure (v := .agg out) ?_ hH hK
    refine Ok.then (ok_zeroValue h1 hi) (Ok.then (ok_underlying h2) ?_)
    simp only [hd]
    refine Ok.then (ok_sizeOf g1) ?_
    rw [g3]
    have e' : Instr.fill (fun i => some (i * fe.sz, fe.sz)) Z.cells vs.toList = some out' := by simpa using e
    simp only [e']
    exact ok_pure ⟨_, rfl, out'.toList, by simp, r⟩

theorem VR_newsl (hH : HR c w h) {sz len : Nat} (k : Nat) (hk : len * sz ≤ k) : VR (c.new w k) (.sl ⟨h.length, 0⟩ sz 0 len) (.slice (some ⟨w.heap.size, 0, none⟩) len len) :=
  ⟨⟨_, _, _, rfl⟩, ⟨0, some (w.heap.size, k)⟩, by simp [Cx.new, hH.len], Nat.le_refl _, fun _ => .inr ⟨w.heap.size, k, len, rfl, rfl, Nat.le_refl _, by omega⟩⟩

theorem opk_buildSlice {t te : TypeId} {f fe : TF} {len : Nat} {z out : List AV} {parts : List (Nat × AV)} {vs : Array (Nat × Value)} (ht : tyT P t = some f) (hd : f.d = .slice te) (hte : tyT P te = some fe) (hz : fe.ze = some z)
    (hb : len * fe.sz ≤ 16777216) (hf : fillA (fun i => some (i * fe.sz, fe.sz)) (if len * fe.sz = 0 then [] else zeroRow z (len * fe.sz)) parts = some out) (hl : out.length = len * fe.sz) (hv : VRP c parts vs.toList) (hH : HR c w h)
    (hK : K (.sl ⟨h.length, 0⟩ fe.sz 0 len) (h ++ [.cells 0 out])) : VOk P (Instr.buildSlice t len vs) K c w := by
  obtain ⟨i, h1, h2, h3, h4, _⟩ := tyT_some ht
  obtain ⟨ie, g1, g2, g3, g4, _⟩ := tyT_some hte
  rw [hz] at g4
  cases hi : ie.zero with
  | none => rw [hi] at g4; cases g4
  | some Z =>
    rw [hi] at g4
    simp only [Option.map_some, Option.some.injEq] at g4
    refine Ok.then (ok_underlying h2) ?_
    simp only [hd]
    refine Ok.then (ok_sizeOf g1) ?_
    rw [g3]
    have hnb : ¬ len * fe.sz > 2 ^ 24 := by omega
    simp only [hnb, if_false]
    have tail : ∀ Zc : Array Value, VRL c (if len * fe.sz = 0 then [] else zeroRow z (len * fe.sz)) ((Array.range (len * fe.sz)).map (Zc[· % Zc.size]!)).toList →
        Ok P c w.heap.size (do
          let some cells := Instr.fill (fun i => some (i * fe.sz, fe.sz)) ((Array.range (len * fe.sz)).map (Zc[· % Zc.size]!)) vs.toList | stuck "buildSlice: a part of the wrong size"
          pure (.slice (some (← newRow te cells)) len len)) w (fun r => ∃ V w' c' v h', r = .ok V w' ∧ K v h' ∧ VR c' v V ∧ HR c' w' h' ∧ TurnOk c c' w.heap.size) := by
      intro Zc hz2
      obtain ⟨out', e, r⟩ := fill_ok hf hz2 hv
      have e' : Instr.fill (fun i => some (i * fe.sz, fe.sz)) ((Array.range (len * fe.sz)).map (Zc[· % Zc.size]!)) vs.toList = some out' := by rw [← e, Array.toArray_toList]
      simp only [e']
      refine Ok.bind' ((ok_newRow r hH rfl).mono ?_)
      rintro _ ⟨a, w', c', h', rfl, rfl, rfl, rfl, rfl, hH'⟩
      have hs : out'.size = len * fe.sz := by have := r.length; simpa [hl] using this
      exact ⟨_, _, _, _, _, rfl, hK, VR_newsl hH _ (by omega), hH', .new c w _⟩
    by_cases h0 : len * fe.sz = 0
    · rw [if_pos h0]
      exact Ok.then (a := #[]) rfl (tail #[] (by rw [if_pos h0, h0]; simp))
    · rw [if_neg h0]
      exact Ok.then (ok_zeroValue g1 hi) (Ok.then (a := Z.cells) rfl (tail Z.cells (by rw [if_neg h0, ← g4]; exact VRL_zeroRow c _ _)))

theorem opk_makeSlice {t te : TypeId} {f fe : TF} {k1 k2 : IntKind} {n : Int} {z : List AV} (ht : tyT P t = some f) (hd : f.d = .slice te) (hte : tyT P te = some fe) (hz : fe.ze = some z) (h0 : 0 ≤ n) (hb : fe.bytes * n ≤ 281474976710656) (hn : n ≤ 281474976710656)
    (hH : HR c w h) (hK : K (.sl ⟨h.length, 0⟩ fe.sz 0 n.toNat) (h ++ [.cells 0 (if n.toNat * fe.sz = 0 then [] else zeroRow z (n.toNat * fe.sz))])) : VOk P (Instr.makeSlice t (.int k1 n) (.int k2 n)) K c w := by
  obtain ⟨i, h1, h2, h3, h4, _⟩ := tyT_some ht
  obtain ⟨ie, g1, g2, g3, g4, g5⟩ := tyT_some hte
  rw [hz] at g4
  cases hi : ie.zero with
  | none => rw [hi] at g4; cases g4
  | some Z =>
    rw [hi] at g4
    simp only [Option.map_some, Option.some.injEq] at g4
    refine Ok.then (ok_underlying h2) ?_
    simp only [hd]
    refine Ok.then (a := n) (Ok.then (a := (k1, n)) rfl rfl) (Ok.then (a := n) (Ok.then (a := (k2, n)) rfl rfl) (Ok.then (ok_typeInfo g1) ?_))
    have hw : IntKind.i64.wrap n = n := by
      simp only [IntKind.wrap, IntKind.bits, IntKind.signed]
      have : n % (2 ^ 64 : Int) = n := Int.emod_eq_of_lt h0 (by omega)
      simp only [this]
      rw [if_neg]
      simp; omega
    simp only [hw]
    have tail : ∀ Zc : Array Value, VRL c (if n.toNat * fe.sz = 0 then [] else zeroRow z (n.toNat * fe.sz)) ((Array.range (n.toNat * fe.sz)).map (Zc[· % Zc.size]!)).toList →
        Ok P c w.heap.size (do
          let a ← newRow te ((Array.range (n.toNat * fe.sz)).map (Zc[· % Zc.size]!))
          pure (.slice (some a) n.toNat n.toNat)) w (fun r => ∃ V w' c' v h', r = .ok V w' ∧ K v h' ∧ VR c' v V ∧ HR c' w' h' ∧ TurnOk c c' w.heap.size) := by
      intro Zc hz2
      refine Ok.bind' ((ok_newRow hz2 hH rfl).mono ?_)
      rintro _ ⟨a, w', c', h', rfl, rfl, rfl, rfl, rfl, hH'⟩
      exact ⟨_, _, _, _, _, rfl, hK, VR_newsl hH _ (by simp), hH', .new c w _⟩
    have hcond : ¬ ((decide (n < 0) || decide ((ie.bytes : Int) * n > 2 ^ 48) || decide (n < 0) || decide (n > n)) = true) := by
      rw [g5]; simp; omega
    rw [if_neg hcond]
    refine Ok.then (a := ()) ?_ (Ok.then (ok_sizeOf g1) ?_)
    · unfold askRoom
      split
      · exact ⟨rfl, rfl⟩
      · exact ok_pure rfl
    rw [g3]
    by_cases h0 : n.toNat * fe.sz = 0
    · rw [if_pos h0]
      exact Ok.then (a := #[]) rfl (tail #[] (by rw [if_pos h0, h0]; simp))
    · rw [if_neg h0]
      exact Ok.then (ok_zeroValue g1 hi) (Ok.then (a := Z.cells) rfl (tail Z.cells (by rw [if_neg h0, ← g4]; exact VRL_zeroRow c _ _)))

/-- A bound of a slice expression that is met. -/
theorem ok_bound {n0 : Nat} {k : IntKind} {x : Int} {y : Nat} {code : BoundsCode} (h0 : 0 ≤ x) (h1 : x ≤ y) : Ok P c n0 (Instr.sliceBound (.int k x) y code) w (fun r => r = .ok x.toNat w) :=
  Ok.then (a := (k, x)) rfl (by simp only [h0, h1, and_self, if_true]; exact ok_pure rfl)

/-- The bounds of a slice expression. -/
def loB : Option AV → Option Int
  | none => some 0
  | some (.int _ x) => some x
  | _ => none
def hiB (d : Nat) : Option AV → Option Int
  | none => some d
  | some (.int _ x) => some x
  | _ => none

theorem ok_bounds {n0 len cap : Nat} {isS : Bool} {lo hi : Option AV} {LO HI : Option Value} {l u : Int} (hlo : loB lo = some l) (hhi : hiB len hi = some u) (h0 : 0 ≤ l) (h1 : l ≤ u) (h2 : u ≤ cap) (_hl : len ≤ cap)
    (hvl : ∀ a, lo = some a → ∃ V, LO = some V ∧ VR c a V) (hvl' : lo = none → LO = none) (hvh : ∀ a, hi = some a → ∃ V, HI = some V ∧ VR c a V) (hvh' : hi = none → HI = none) :
    Ok P c n0 (Instr.sliceBounds isS len cap LO HI none) w (fun r => r = .ok (l.toNat, u.toNat, cap) w) := by
  have hl' : ∀ (Q : Result (Nat × Nat × Nat) → Prop), Q (.ok (l.toNat, u.toNat, cap) w) → Ok P c n0 (match LO with
      | some v => do
        let l ← Instr.sliceBound v u.toNat .sliceB
        pure (l, u.toNat, cap)
      | none => do
        let l ← pure 0
        pure (l, u.toNat, cap)) w Q := by
    intro Q hQ
    cases lo with
    | none => rw [hvl' rfl]; simp only [loB, Option.some.injEq] at hlo; subst hlo; exact hQ
    | some a =>
      obtain ⟨V, rfl, hV⟩ := hvl a rfl
      cases a <;> simp only [loB, reduceCtorEq, Option.some.injEq] at hlo
      subst hlo
      cases hV
      exact Ok.then (ok_bound (by omega) (by omega)) hQ
  unfold Instr.sliceBounds
  refine Ok.then (a := cap) rfl ?_
  cases hi with
  | none =>
    rw [hvh' rfl]
    simp only [hiB, Option.some.injEq] at hhi
    subst hhi
    exact Ok.then (a := len) rfl (hl' _ rfl)
  | some a =>
    obtain ⟨V, rfl, hV⟩ := hvh a rfl
    cases a <;> simp only [hiB, reduceCtorEq, Option.some.injEq] at hhi
    subst hhi
    cases hV
    exact Ok.then (ok_bound (by omega) h2) (hl' _ rfl)

theorem opk_sliceStr {t : TypeId} {f : TF} {s : List UInt8} {lo hi : Option AV} {LO HI : Option Value} {l u : Int} (ht : tyT P t = some f) (hd : f.d = .string) (hlo : loB lo = some l) (hhi : hiB s.length hi = some u) (h0 : 0 ≤ l) (h1 : l ≤ u) (h2 : u ≤ s.length)
    (hvl : ∀ a, lo = some a → ∃ V, LO = some V ∧ VR c a V) (hvl' : lo = none → LO = none) (hvh : ∀ a, hi = some a → ∃ V, HI = some V ∧ VR c a V) (hvh' : hi = none → HI = none)
    (hH : HR c w h) (hK : K (.str ((s.drop l.toNat).take (u.toNat - l.toNat))) h) : VOk P (Instr.sliceAt t (.string ⟨s.toArray⟩) LO HI none) K c w := by
  obtain ⟨i, g1, g2, _⟩ := tyT_some ht
  refine VOk.pure (v := .str ((s.drop l.toNat).take (u.toNat - l.toNat))) ?_ hH hK
  refine Ok.then (ok_underlying g2) ?_
  simp only [hd]
  refine Ok.then (ok_underlying g2) ?_
  simp only [hd, Option.isSome_none, Bool.false_eq_true, if_false]
  have hs : (⟨s.toArray⟩ : ByteArray).size = s.length := by simp [ByteArray.size]
  refine Ok.then (a := (l.toNat, u.toNat, s.length)) (by rw [hs]; exact ok_bounds hlo hhi h0 h1 h2 (Nat.le_refl _) hvl hvl' hvh hvh') (ok_pure ⟨_, rfl, ?_⟩)
  show Value.string _ = Value.string _
  congr 1
  apply ByteArray.ext
  simp [List.extract_eq_take_drop]

theorem opk_slicePsl {t te : TypeId} {f fe : TF} {cells : List AV} {len : Nat} {V : Value} {lo hi : Option AV} {LO HI : Option Value} {l u : Int} (ht : tyT P t = some f) (hd : f.d = .slice te) (hte : tyT P te = some fe)
    (hlo : loB lo = some l) (hhi : hiB len hi = some u) (h0 : 0 ≤ l) (h1 : l ≤ u) (h2 : u ≤ len) (hcl : len * fe.sz ≤ cells.length)
    (hvl : ∀ a, lo = some a → ∃ V, LO = some V ∧ VR c a V) (hvl' : lo = none → LO = none) (hvh : ∀ a, hi = some a → ∃ V, HI = some V ∧ VR c a V) (hvh' : hi = none → HI = none)
    (hv : VR c (.psl cells len) V) (hH : HR c w h) (hK : K (.psl ((cells.drop (l.toNat * fe.sz)).take ((u.toNat - l.toNat) * fe.sz)) (u.toNat - l.toNat)) h) : VOk P (Instr.sliceAt t V LO HI none) K c w := by
  obtain ⟨i, g1, g2, _⟩ := tyT_some ht
  obtain ⟨ie, e1, e2, e3, _⟩ := tyT_some hte
  refine VOk.pure (v := .psl ((cells.drop (l.toNat * fe.sz)).take ((u.toNat - l.toNat) * fe.sz)) (u.toNat - l.toNat)) ?_ hH hK
  refine Ok.then (ok_underlying g2) ?_
  simp only [hd]
  refine Ok.then (ok_underlying g2) ?_
  rcases hv with ⟨rfl, rfl, rfl⟩ | ⟨b, o, arr, el, fz, L, cap, rfl, hc1, hi', hL, hp⟩
  · simp only [hd]
    refine Ok.then (a := (l.toNat, u.toNat, 0)) (ok_bounds hlo hhi h0 h1 h2 (Nat.le_refl _) hvl hvl' hvh hvh') (Ok.then (ok_sizeOf e1) (ok_pure ⟨_, rfl, .inl ⟨by simp, by omega, ?_⟩⟩))
    have hu : u = 0 := by omega
    have hl0 : l = 0 := by omega
    subst hu; subst hl0
    rfl
  · simp only [hd]
    refine Ok.then (a := (l.toNat, u.toNat, cap)) (ok_bounds hlo hhi h0 h1 (by omega) hc1 hvl hvl' hvh hvh') (Ok.then (ok_sizeOf e1) (ok_pure ?_))
    simp only [Option.map_some, e3]
    by_cases hm : cap = l.toNat
    · have hz : u.toNat - l.toNat = 0 := by omega
      rw [if_pos hm, hz]
      exact ⟨_, rfl, .inr ⟨b, o, arr, el, fz, [], cap - l.toNat, rfl, by omega, hi', by simp, List.nil_prefix⟩⟩
    · rw [if_neg hm, add_eq]
      refine ⟨_, rfl, .inr ⟨b, o + l.toNat * fe.sz, arr, el, fz, (L.drop (l.toNat * fe.sz)).take ((u.toNat - l.toNat) * fe.sz), cap - l.toNat, rfl, by omega, hi', (hL.drop _).take _, ?_⟩⟩
      rw [← List.drop_drop]
      refine (List.take_prefix _ _).trans (drop_prefix hp _ ?_)
      have : l.toNat * fe.sz ≤ len * fe.sz := Nat.mul_le_mul_right _ (by omega)
      rw [hL.length]; omega

theorem opk_sliceSl {t te : TypeId} {f fe : TF} {n : Nm} {off len : Nat} {cs : List AV} {V : Value} {lo hi : Option AV} {LO HI : Option Value} {l u : Int} (ht : tyT P t = some f) (hd : f.d = .slice te) (hte : tyT P te = some fe)
    (hcur : h[n.id]? = some (.cells n.gen cs))
    (hlo : loB lo = some l) (hhi : hiB len hi = some u) (h0 : 0 ≤ l) (h1 : l ≤ u) (h2 : u ≤ len) (h3 : l < len ∨ l = 0)
    (hvl : ∀ a, lo = some a → ∃ V, LO = some V ∧ VR c a V) (hvl' : lo = none → LO = none) (hvh : ∀ a, hi = some a → ∃ V, HI = some V ∧ VR c a V) (hvh' : hi = none → HI = none)
    (hv : VR c (.sl n fe.sz off len) V) (hH : HR c w h) (hK : K (.sl n fe.sz (off + l.toNat * fe.sz) (u.toNat - l.toNat)) h) : VOk P (Instr.sliceAt t V LO HI none) K c w := by
  obtain ⟨i, g1, g2, _⟩ := tyT_some ht
  obtain ⟨ie, e1, e2, e3, _⟩ := tyT_some hte
  refine VOk.pure (v := .sl n fe.sz (off + l.toNat * fe.sz) (u.toNat - l.toNat)) ?_ hH hK
  refine Ok.then (ok_underlying g2) ?_
  simp only [hd]
  refine Ok.then (ok_underlying g2) ?_
  obtain ⟨en, he, hg, hp, _⟩ := own_cells hH hcur hv.2
  rcases hp with ⟨rfl, rfl, rfl⟩ | ⟨b, kk, cap, hs, rfl, hc1, hc2⟩
  · simp only [hd]
    refine Ok.then (a := (l.toNat, u.toNat, 0)) (ok_bounds hlo hhi h0 h1 h2 (Nat.le_refl _) hvl hvl' hvh hvh') (Ok.then (ok_sizeOf e1) (ok_pure ?_))
    have hu : u = 0 := by omega
    have hl0 : l = 0 := by omega
    subst hu; subst hl0
    exact ⟨_, rfl, ⟨_, _, _, rfl⟩, en, he, by omega, fun _ => .inl ⟨by simp, by simp, rfl⟩⟩
  · simp only [hd]
    refine Ok.then (a := (l.toNat, u.toNat, cap)) (ok_bounds hlo hhi h0 h1 (by omega) hc1 hvl hvl' hvh hvh') (Ok.then (ok_sizeOf e1) (ok_pure ?_))
    simp only [Option.map_some, e3]
    have hcap : off + l.toNat * fe.sz + (cap - l.toNat) * fe.sz ≤ kk := by
      have : l.toNat * fe.sz + (cap - l.toNat) * fe.sz = cap * fe.sz := by rw [← Nat.add_mul]; congr 1; omega
      omega
    by_cases hm : cap = l.toNat
    · have hl0 : l.toNat = 0 := by omega
      rw [if_pos hm]
      refine ⟨_, rfl, ⟨_, _, _, rfl⟩, en, he, by omega, fun _ => .inr ⟨b, kk, cap - l.toNat, hs, ?_, by omega, hcap⟩⟩
      simp [hl0]
    · rw [if_neg hm, add_eq]
      exact ⟨_, rfl, ⟨_, _, _, rfl⟩, en, he, by omega, fun _ => .inr ⟨b, kk, cap - l.toNat, hs, rfl, by omega, hcap⟩⟩

/-- What a zero value of a type is. -/
def zeroA (f : TF) (z : List AV) : AV := if aggD f.d then .agg z else z.getD 0 .any

/-- The model's zero value of a type is a row of cells just where the type's values are. -/
def zeroFits (P : Program) (t : TypeId) : Bool :=
  match P.info? t, P.underlying t with
  | some i, some d => match i.zero with
    | some (.agg _) => aggD d
    | some (.tuple _) => false
    | some _ => !aggD d
    | none => false
  | _, _ => false

theorem ok_zeroA {n0 : Nat} {t : TypeId} {f : TF} {z : List AV} (ht : tyT P t = some f) (hz : f.ze = some z) (hf : zeroFits P t = true) : Ok P c n0 (zeroValue t) w (fun r => ∃ V, r = .ok V w ∧ VR c (zeroA f z) V) := by
  obtain ⟨i, h1, h2, h3, h4, _⟩ := tyT_some ht
  rw [hz] at h4
  cases hi : i.zero with
  | none => rw [hi] at h4; cases h4
  | some Z =>
    rw [hi] at h4
    simp only [Option.map_some, Option.some.injEq] at h4
    refine (ok_zeroValue h1 hi).mono fun r e => ⟨Z, e, ?_⟩
    simp only [zeroFits, h1, h2, hi] at hf
    unfold zeroA
    cases hg : aggD f.d with
    | true =>
      rw [hg] at hf
      simp only [if_true]
      cases Z <;> simp only [Bool.not_true, Bool.false_eq_true] at hf
      rename_i cells
      exact ⟨cells.toList, by simp, by rw [← h4]; exact VRL_constA c _⟩
    | false =>
      rw [hg] at hf
      simp only [Bool.false_eq_true, if_false]
      have hz1 : Z.cells = #[Z] := by cases Z <;> first | rfl | cases hf
      rw [← h4, hz1]
      exact VR_constA c Z

/-- The dynamic type is the one that is asked for, or another one. -/
theorem opk_assert {xt at_ t : TypeId} {f : TF} {v : AV} {V : Value} (ht : tyT P at_ = some f) (hd : ∀ ms, f.d ≠ .interface ms) (hv : VR c (.iface t v) V) (hH : HR c w h)
    (h1 : t = at_ → K (.tup [v, .bool true]) h) (h2 : t ≠ at_ → ∃ z, f.ze = some z ∧ zeroFits P at_ = true ∧ K (.tup [zeroA f z, .bool false]) h) : VOk P (Instr.typeAssert V xt at_ true) K c w := by
  obtain ⟨i, g1, g2, g3, g4, _⟩ := tyT_some ht
  obtain ⟨x, rfl, hx⟩ := hv
  refine Ok.then (ok_underlying g2) ?_
  have key : ∀ d, f.d = d → (∀ ms, d ≠ .interface ms) → Ok P c w.heap.size (if t = at_ then pure (.tuple #[x, .bool true]) else do pure (.tuple #[← zeroValue at_, .bool false])) w
      (fun r => ∃ V w' c' v h', r = .ok V w' ∧ K v h' ∧ VR c' v V ∧ HR c' w' h' ∧ TurnOk c c' w.heap.size) := by
    intro d _ _
    by_cases he : t = at_
    · rw [if_pos he]
      exact ok_pure ⟨_, w, c, _, h, rfl, h1 he, ⟨[x, .bool true], rfl, x, _, rfl, hx, _, _, rfl, rfl, rfl⟩, hH, .refl c _⟩
    · rw [if_neg he]
      obtain ⟨z, hz, hf, hK⟩ := h2 he
      refine Ok.bind' ((ok_zeroA ht hz hf).mono ?_)
      rintro _ ⟨Z, rfl, hZ⟩
      simp only [thenOk]
      exact ok_pure ⟨_, w, c, _, h, rfl, hK, ⟨[Z, .bool false], rfl, Z, _, rfl, hZ, _, _, rfl, rfl, rfl⟩, hH, .refl c _⟩
  cases hfd : f.d with
  | interface ms => exact absurd hfd (hd ms)
  | _ => exact key _ hfd (by intro ms h; cases h)

/-- .. of an interface value that is nil. -/
theorem opk_assertNil {xt at_ : TypeId} {f : TF} {z : List AV} (ht : tyT P at_ = some f) (hd : ∀ ms, f.d ≠ .interface ms) (hz : f.ze = some z) (hf : zeroFits P at_ = true) (hH : HR c w h)
    (hK : K (.tup [zeroA f z, .bool false]) h) : VOk P (Instr.typeAssert .nilIface xt at_ true) K c w := by
  obtain ⟨i, g1, g2, g3, g4, _⟩ := tyT_some ht
  refine Ok.then (ok_underlying g2) ?_
  have key : Ok P c w.heap.size (do pure (.tuple #[← zeroValue at_, .bool false])) w
      (fun r => ∃ V w' c' v h', r = .ok V w' ∧ K v h' ∧ VR c' v V ∧ HR c' w' h' ∧ TurnOk c c' w.heap.size) := by
    refine Ok.bind' ((ok_zeroA ht hz hf).mono ?_)
    rintro _ ⟨Z, rfl, hZ⟩
    simp only [thenOk]
    exact ok_pure ⟨_, w, c, _, h, rfl, hK, ⟨[Z, .bool false], rfl, Z, _, rfl, hZ, _, _, rfl, rfl, rfl⟩, hH, .refl c _⟩
  cases hfd : f.d with
  | interface ms => exact absurd hfd (hd ms)
  | _ => exact key

/-- copy into a slice of mine. -/
theorem opk_copy {st xt ty te : TypeId} {f fe : TF} {n : Nm} {off len m : Nat} {cs src : List AV} {a : AV} {S X : Value} (ht : tyT P st = some f) (hd : f.d = .slice te) (hte : tyT P te = some fe) (hb : h[n.id]? = some (.cells n.gen cs)) (hcs : off + len * fe.sz ≤ cs.length)
    (hs : srcA h fe.sz a = some (src, m)) (hl : src.length = m * fe.sz) (hsz : ∀ s, a = .str s → fe.sz = 1) (hleaf : src.all leafA = true) (hS : VR c (.sl n fe.sz off len) S) (hX : VR c a X) (hH : HR c w h)
    (hK : K (.int .i64 (Nat.min m len)) (h.set n.id (.cells n.gen (setMany cs off (src.take (Nat.min m len * fe.sz)))))) : VOk P (Builtin.copy_ #[st, xt] ty #[S, X]) K c w := by
  obtain ⟨i, h1, h2, h3, h4, h5⟩ := tyT_some ht
  obtain ⟨ie, g1, g2, g3, g4, g5⟩ := tyT_some hte
  obtain ⟨hlen, L, hL, hfc⟩ := src_ok (P := P) hs hl hsz hX hH
  have hLl : L.length = m * fe.sz := by rw [hL.length, hl]
  obtain ⟨en, he, hg, hp, hx⟩ := own_cells hH hb hS.2
  have hmin1 : Nat.min m len ≤ m := Nat.min_le_left _ _
  have hmin2 : Nat.min m len ≤ len := Nat.min_le_right _ _
  have hfull := hfc (Nat.min m len) hmin1
  unfold Builtin.copy_
  simp only [List.getElem?_toArray, List.getElem?_cons_zero, List.getElem?_cons_succ]
  refine Ok.then (ok_underlying h2) ?_
  simp only [hd]
  have hleafL : ∀ v ∈ L.take (Nat.min m len * fe.sz), v.oneCell' = true := fun v hv => leaf_all hleaf hL v (List.mem_of_mem_take hv)
  rcases hp with ⟨rfl, rfl, rfl⟩ | ⟨b, kk, cap, hs', rfl, hc1, hc2⟩
  · simp only []
    refine Ok.then (hlen _) ?_
    refine Ok.then (ok_sizeOf g1) ?_
    rw [g3]
    refine Ok.then hfull (ok_pure ⟨_, w, c, _, _, rfl, hK, rfl, ?_, .refl c _⟩)
    have hm0 : Nat.min m 0 = 0 := Nat.min_zero m
    rw [hm0, Nat.zero_mul, List.take_zero]
    simp only [Mac.setMany]
    have : h.set n.id (.cells n.gen cs) = h := by
      apply List.ext_getElem?
      intro j
      by_cases hj : n.id = j
      · subst hj; rw [List.getElem?_set_self (List.getElem?_eq_some_iff.1 hb).1, hb]
      · rw [List.getElem?_set_ne hj]
    rw [this]; exact hH
  · rcases hx with ⟨hx, _⟩ | ⟨b', k', arr, el, l, hx, hm, hw, hk, hr, hp⟩
    · rw [hx] at hs'; cases hs'
    rw [hx] at hs'
    cases hs'
    have hb'' : b < w.heap.size := (Array.getElem?_eq_some_iff.1 hw).1
    have hll : l.length = cs.length := hr.length
    have hla : l.length ≤ arr.toList.length := hp.length_le
    have hmul : Nat.min m len * fe.sz ≤ len * fe.sz := Nat.mul_le_mul_right _ hmin2
    have htl : (L.take (Nat.min m len * fe.sz)).length ≤ Nat.min m len * fe.sz := by simp; omega
    simp only []
    refine Ok.then (hlen _) ?_
    refine Ok.then (ok_sizeOf g1) ?_
    rw [g3]
    refine Ok.then hfull ?_
    have hst := ok_storeCells (P := P) (n0 := w.heap.size) (.inl hm) (L.take (Nat.min m len * fe.sz)) off 0 w arr hw (by simp at hla; omega) hleafL
    refine Ok.bind' (hst.mono fun r e => ?_)
    subst e
    simp only [thenOk]
    refine ok_pure ⟨_, _, c, _, _, rfl, hK, rfl, ?_, .refl c _⟩
    refine hH.update he hb rfl hx hm (putBlk_size _ _ _) (fun j hj => putBlk_other (Ne.symm hj)) ⟨hg, .inr ⟨b, kk, _, el, _, hx, hm, putBlk_same hb'', by simpa using hk, VRL.setAll (hL.take _) hr, ?_⟩⟩
    obtain ⟨t', ht'⟩ := hp
    refine ⟨t', ?_⟩
    simp only [Nat.add_zero]
    rw [← ht', setMany_append _ _ _ _ (by omega)]

/-- Bytes out of cells. -/
def bytesA : List AV → Option (List UInt8)
  | [] => some []
  | .int .u8 n :: l => (bytesA l).map (UInt8.ofNat n.toNat :: ·)
  | _ => none

theorem ok_forBytes {n0 : Nat} : ∀ {cs : List AV} {bs : List UInt8} {L : List Value} (r : ByteArray), bytesA cs = some bs → VRL c cs L →
    Ok P c n0 (forIn L r fun v r => (do
      let .int .u8 n := v | stuck "bytesToString: byte expected"
      pure (.yield (r.push (UInt8.ofNat n.toNat))) : Sem (ForInStep ByteArray))) w (fun x => x = .ok ⟨(r.data.toList ++ bs).toArray⟩ w)
  | [], bs, L, r, hb, hv => by
    cases hv
    simp only [bytesA, Option.some.injEq] at hb
    subst hb
    exact ok_pure (by simp)
  | a :: cs, bs, L, r, hb, hv => by
    obtain ⟨v, vs, rfl, h1, h2⟩ := hv
    unfold bytesA at hb
    split at hb
    · rename_i e; cases e
    · rename_i n l e
      cases e
      cases hr : bytesA cs with
      | none => rw [hr] at hb; cases hb
      | some bs' =>
        rw [hr] at hb
        simp only [Option.map_some, Option.some.injEq] at hb
        subst hb
        have h1' : v = .int .u8 n := h1
        subst h1'
        simp only [List.forIn_cons]
        refine Ok.then (a := .yield (r.push (UInt8.ofNat n.toNat))) (ok_pure rfl) ?_
        refine (ok_forBytes (r.push (UInt8.ofNat n.toNat)) hr h2).mono fun x e => ?_
        rw [e]
        simp
    · cases hb

/-- A conversion of bytes to a string. -/
theorem opk_convBytes {s d e : TypeId} {fs fd fe : TF} {cs : List AV} {bs : List UInt8} {m : Nat} {a : AV} {X : Value} (hs : tyT P s = some fs) (hd : tyT P d = some fd) (hks : fs.d = .slice e) (hte : tyT P e = some fe) (hke : fe.d = .int .u8) (hkd : fd.d = .string)
    (ha : (∃ n sz off len, a = .sl n sz off len) ∨ ∃ l len, a = .psl l len) (hsrc : srcA h 1 a = some (cs, m)) (hl : cs.length = m) (hb : bytesA cs = some bs) (hX : VR c a X) (hH : HR c w h) (hK : K (.str bs) h) : VOk P (convert s d X) K c w := by
  obtain ⟨i, h1, h2, _⟩ := tyT_some hs
  obtain ⟨j, g1, g2, _⟩ := tyT_some hd
  obtain ⟨ie, e1, e2, _⟩ := tyT_some hte
  obtain ⟨hlen, L, hL, hfc⟩ := src_ok (P := P) hsrc (by omega) (fun _ _ => rfl) hX hH
  have hfull := hfc m (Nat.le_refl _)
  have hLl : L.length = m := by rw [hL.length, hl]
  have hsl : X = .slice none 0 0 ∨ ∃ o len cap, X = .slice (some o) len cap := by
    rcases ha with ⟨n, sz, off, len, rfl⟩ | ⟨l, len, rfl⟩
    · simp only [srcA] at hsrc
      split at hsrc
      · rename_i g cs' hb'
        split at hsrc
        · rename_i hg
          subst hg
          obtain ⟨_, _, _, hp, _⟩ := own_cells hH hb' hX.2
          rcases hp with ⟨_, _, rfl⟩ | ⟨b, kk, cap, _, rfl, _, _⟩
          · exact .inl rfl
          · exact .inr ⟨_, _, _, rfl⟩
        · cases hsrc
      · cases hsrc
    · rcases hX with ⟨_, _, rfl⟩ | ⟨b, o, arr, el, fz, l', cap, rfl, _⟩
      · exact .inl rfl
      · exact .inr ⟨_, _, _, rfl⟩
  refine VOk.pure (v := .str bs) ?_ hH hK
  rw [hkd] at g2
  refine Ok.then (ok_underlying h2) (Ok.then (ok_underlying g2) ?_)
  rw [hks]
  rcases hsl with rfl | ⟨o, len, cap, rfl⟩
  · have h0 : m = 0 := ((Result.ok.inj (hlen 0)).1).symm
    subst h0
    have : cs = [] := List.length_eq_zero_iff.1 hl
    subst this
    simp only [bytesA, Option.some.injEq] at hb
    subst hb
    refine Ok.then (ok_underlying e2) ?_
    simp only [hke]
    exact ok_pure ⟨_, rfl, rfl⟩
  · have h0 : len = m := (Result.ok.inj (hlen 0)).1
    subst h0
    refine Ok.then (ok_underlying e2) ?_
    simp only [hke]
    have hf : Ok P c w.heap.size (loadCells o (len * 1)) w (fun r => r = .ok (L.take (len * 1)).toArray w) := hfull
    rw [Nat.mul_one] at hf
    refine Ok.then hf ?_
    rw [List.take_of_length_le (by omega)]
    simp only [List.forIn_toArray]
    refine Ok.then (ok_forBytes ByteArray.empty hb hL) ?_
    exact ok_pure ⟨_, rfl, by simp [VR]⟩

/-- Bounds with a greatest one. -/
theorem ok_bounds3 {n0 len cap : Nat} {isS : Bool} {lo : Option AV} {LO : Option Value} {k1 k2 : IntKind} {l u m : Int} (hlo : loB lo = some l) (h0 : 0 ≤ l) (h1 : l ≤ u) (h2 : u ≤ m) (h3 : m ≤ cap)
    (hvl : ∀ a, lo = some a → ∃ V, LO = some V ∧ VR c a V) (hvl' : lo = none → LO = none) :
    Ok P c n0 (Instr.sliceBounds isS len cap LO (some (.int k1 u)) (some (.int k2 m))) w (fun r => r = .ok (l.toNat, u.toNat, m.toNat) w) := by
  unfold Instr.sliceBounds
  refine Ok.then (ok_bound (by omega) h3) (Ok.then (ok_bound (by omega) (by omega)) ?_)
  cases lo with
  | none => rw [hvl' rfl]; simp only [loB, Option.some.injEq] at hlo; subst hlo; exact ok_pure rfl
  | some a =>
    obtain ⟨V, rfl, hV⟩ := hvl a rfl
    cases a <;> simp only [loB, reduceCtorEq, Option.some.injEq] at hlo
    subst hlo
    cases hV
    exact Ok.then (ok_bound (by omega) (by omega)) (ok_pure rfl)

theorem opk_slice3Psl {t te : TypeId} {f fe : TF} {cells : List AV} {len : Nat} {V : Value} {lo : Option AV} {LO : Option Value} {k1 k2 : IntKind} {l u m : Int} (ht : tyT P t = some f) (hd : f.d = .slice te) (hte : tyT P te = some fe)
    (hlo : loB lo = some l) (h0 : 0 ≤ l) (h1 : l ≤ u) (h2 : u ≤ m) (h3 : m ≤ len) (hcl : len * fe.sz ≤ cells.length)
    (hvl : ∀ a, lo = some a → ∃ V, LO = some V ∧ VR c a V) (hvl' : lo = none → LO = none)
    (hv : VR c (.psl cells len) V) (hH : HR c w h) (hK : K (.psl ((cells.drop (l.toNat * fe.sz)).take ((u.toNat - l.toNat) * fe.sz)) (u.toNat - l.toNat)) h) : VOk P (Instr.sliceAt t V LO (some (.int k1 u)) (some (.int k2 m))) K c w := by
  obtain ⟨i, g1, g2, _⟩ := tyT_some ht
  obtain ⟨ie, e1, e2, e3, _⟩ := tyT_some hte
  refine VOk.pure (v := .psl ((cells.drop (l.toNat * fe.sz)).take ((u.toNat - l.toNat) * fe.sz)) (u.toNat - l.toNat)) ?_ hH hK
  refine Ok.then (ok_underlying g2) ?_
  simp only [hd]
  refine Ok.then (ok_underlying g2) ?_
  rcases hv with ⟨rfl, rfl, rfl⟩ | ⟨b, o, arr, el, fz, L, cap, rfl, hc1, hi', hL, hp⟩
  · simp only [hd]
    have hm0 : m.toNat = 0 := by omega
    refine Ok.then (a := (l.toNat, u.toNat, m.toNat)) (ok_bounds3 hlo h0 h1 h2 (by omega) hvl hvl') (Ok.then (ok_sizeOf e1) (ok_pure ⟨_, rfl, .inl ⟨by simp, by omega, ?_⟩⟩))
    have hu : u = 0 := by omega
    have hl0 : l = 0 := by omega
    rw [hm0]
    subst hu; subst hl0
    rfl
  · simp only [hd]
    refine Ok.then (a := (l.toNat, u.toNat, m.toNat)) (ok_bounds3 hlo h0 h1 h2 (by omega) hvl hvl') (Ok.then (ok_sizeOf e1) (ok_pure ?_))
    simp only [Option.map_some, e3]
    by_cases hm : m.toNat = l.toNat
    · have hz : u.toNat - l.toNat = 0 := by omega
      rw [if_pos hm, hz]
      exact ⟨_, rfl, .inr ⟨b, o, arr, el, fz, [], m.toNat - l.toNat, rfl, by omega, hi', by simp, List.nil_prefix⟩⟩
    · rw [if_neg hm, add_eq]
      refine ⟨_, rfl, .inr ⟨b, o + l.toNat * fe.sz, arr, el, fz, (L.drop (l.toNat * fe.sz)).take ((u.toNat - l.toNat) * fe.sz), m.toNat - l.toNat, rfl, by omega, hi', (hL.drop _).take _, ?_⟩⟩
      rw [← List.drop_drop]
      refine (List.take_prefix _ _).trans (drop_prefix hp _ ?_)
      have : l.toNat * fe.sz ≤ len * fe.sz := Nat.mul_le_mul_right _ (by omega)
      rw [hL.length]; omega

/-- clear on a slice of mine. -/
theorem opk_clear {st ty te : TypeId} {f fe : TF} {n : Nm} {off len : Nat} {cs z : List AV} {S : Value} (ht : tyT P st = some f) (hd : f.d = .slice te) (hte : tyT P te = some fe) (hz : fe.ze = some z) (hzl : z.length = fe.sz) (hzleaf : z.all leafA = true) (hb : h[n.id]? = some (.cells n.gen cs)) (hcs : off + len * fe.sz ≤ cs.length)
    (hS : VR c (.sl n fe.sz off len) S) (hH : HR c w h)
    (hK : K (.tup []) (h.set n.id (.cells n.gen (setMany cs off (zeroRow z (len * fe.sz)))))) : VOk P (Builtin.clear_ #[st] ty #[S]) K c w := by
  obtain ⟨i, h1, h2, h3, h4, h5⟩ := tyT_some ht
  obtain ⟨ie, g1, g2, g3, g4, g5⟩ := tyT_some hte
  rw [hz] at g4
  cases hi : ie.zero with
  | none => rw [hi] at g4; cases g4
  | some Z =>
    rw [hi] at g4
    simp only [Option.map_some, Option.some.injEq] at g4
    have hZ : Z.cells.size = fe.sz := by rw [← hzl, ← g4]; simp
    obtain ⟨en, he, hg, hp, hx⟩ := own_cells hH hb hS.2
    have hsame : h.set n.id (.cells n.gen cs) = h := by
      apply List.ext_getElem?
      intro j
      by_cases hj : n.id = j
      · subst hj; rw [List.getElem?_set_self (List.getElem?_eq_some_iff.1 hb).1, hb]
      · rw [List.getElem?_set_ne hj]
    have hzero : len = 0 → K (.tup []) h := fun h0 => by
      subst h0
      have e : zeroRow z (0 * fe.sz) = [] := by simp [zeroRow]
      rw [e] at hK
      simp only [Mac.setMany, hsame] at hK
      exact hK
    unfold Builtin.clear_
    simp only [List.getElem?_toArray, List.getElem?_cons_zero]
    refine Ok.then (ok_underlying h2) ?_
    rcases hp with ⟨rfl, rfl, rfl⟩ | ⟨b, kk, cap, hs', rfl, hc1, hc2⟩
    · simp only [hd]
      exact ok_pure ⟨_, w, c, _, _, rfl, hzero rfl, ⟨[], rfl, rfl⟩, hH, .refl c _⟩
    · rcases hx with ⟨hx, _⟩ | ⟨b', k', arr, el, l, hx, hm, hw, hk, hr, hp⟩
      · rw [hx] at hs'; cases hs'
      rw [hx] at hs'
      cases hs'
      by_cases hl0 : len = 0
      · subst hl0
        simp only [hd]
        exact ok_pure ⟨_, w, c, _, _, rfl, hzero rfl, ⟨[], rfl, rfl⟩, hH, .refl c _⟩
      · obtain ⟨len, rfl⟩ := Nat.exists_eq_succ_of_ne_zero hl0
        have hb'' : b < w.heap.size := (Array.getElem?_eq_some_iff.1 hw).1
        have hll : l.length = cs.length := hr.length
        have hla : l.length ≤ arr.toList.length := hp.length_le
        have hrow : VRL c (zeroRow z ((len + 1) * fe.sz)) (Builtin.zeroCells Z.cells (len + 1)).toList := by
          have := VRL_zeroRow c Z.cells ((len + 1) * fe.sz)
          rw [g4] at this
          unfold Builtin.zeroCells
          rw [hZ]
          rwa [hZ] at this
        have hleaf : (zeroRow z ((len + 1) * fe.sz)).all leafA = true := by
          rw [List.all_eq_true] at *
          intro x hx
          simp only [zeroRow, List.mem_map, List.mem_range] at hx
          obtain ⟨j, hj, rfl⟩ := hx
          have h0 : 0 < z.length := by
            rcases Nat.eq_zero_or_pos z.length with h | h
            · rw [← hzl, h] at hj; simp at hj
            · exact h
          have hlt : j % z.length < z.length := Nat.mod_lt _ h0
          rw [List.getD_eq_getElem?_getD, List.getElem?_eq_getElem hlt]
          exact hzleaf _ (List.getElem_mem hlt)
        have hlen : (Builtin.zeroCells Z.cells (len + 1)).toList.length = (len + 1) * fe.sz := by rw [hrow.length]; simp
        simp only [hd]
        refine Ok.then (ok_zeroValue g1 hi) ?_
        have hst := ok_storeCells (P := P) (n0 := w.heap.size) (.inl hm) (Builtin.zeroCells Z.cells (len + 1)).toList off 0 w arr hw (by have hcs' : off + (len + 1) * fe.sz ≤ cs.length := hcs; simp only [Array.length_toList] at hla; rw [hlen]; omega) (leaf_all hleaf hrow)
        refine Ok.bind' (hst.mono fun r e => ?_)
        subst e
        simp only [thenOk]
        refine ok_pure ⟨_, _, c, _, _, rfl, hK, ⟨[], rfl, rfl⟩, ?_, .refl c _⟩
        refine hH.update he hb rfl hx hm (putBlk_size _ _ _) (fun j hj => putBlk_other (Ne.symm hj)) ⟨hg, .inr ⟨b, kk, _, el, _, hx, hm, putBlk_same hb'', by simpa using hk, VRL.setAll hrow hr, ?_⟩⟩
        obtain ⟨t', ht'⟩ := hp
        refine ⟨t', ?_⟩
        simp only [Nat.add_zero]
        rw [← ht', setMany_append _ _ _ _ (by have hcs' : off + (len + 1) * fe.sz ≤ cs.length := hcs; rw [hlen]; omega)]
end
end Go.Mac


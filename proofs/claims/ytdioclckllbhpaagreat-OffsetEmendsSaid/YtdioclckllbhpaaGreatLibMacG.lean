/- A part of the logic and of the contracts of the functions that the statement reaches; the statement itself is proved in the last text. -/
import Derived.Laws.Strings
import Derived.Test.YtdioclckllbhpaaGreatLibMacF

set_option linter.all false
set_option linter.unusedVariables false
set_option linter.unusedSimpArgs false
set_option linter.unnecessarySimpa false
namespace Go.Mac
open Go Go.Conc
def andK (k : IntKind) (a b : Int) : Int := k.wrap ((BitVec.ofInt k.bits a &&& BitVec.ofInt k.bits b).toNat : Int)
def orK (k : IntKind) (a b : Int) : Int := k.wrap ((BitVec.ofInt k.bits a ||| BitVec.ofInt k.bits b).toNat : Int)
def xorK (k : IntKind) (a b : Int) : Int := k.wrap ((BitVec.ofInt k.bits a ^^^ BitVec.ofInt k.bits b).toNat : Int)
def andNotK (k : IntKind) (a b : Int) : Int := k.wrap ((BitVec.ofInt k.bits a &&& ~~~ BitVec.ofInt k.bits b).toNat : Int)
def shlK (k : IntKind) (a b : Int) : Int := k.wrap (a * 2 ^ (min b.toNat k.bits))
def shrK (k : IntKind) (a b : Int) : Int := a.fdiv (2 ^ (min b.toNat k.bits))
def binInt (op : BinOp) (k : IntKind) (a b : Int) : Option AV :=
  match op with
  | .add => some (.int k (k.wrap (a + b)))
  | .sub => some (.int k (k.wrap (a - b)))
  | .mul => some (.int k (k.wrap (a * b)))
  | .and => some (.int k (andK k a b))
  | .or => some (.int k (orK k a b))
  | .xor => some (.int k (xorK k a b))
  | .andNot => some (.int k (andNotK k a b))
  | .eql => some (.bool (a == b))
  | .neq => some (.bool (a != b))
  | .lss => some (.bool (decide (a < b)))
  | .leq => some (.bool (decide (a ≤ b)))
  | .gtr => some (.bool (decide (a > b)))
  | .geq => some (.bool (decide (a ≥ b)))
  | _ => none
def divInt (op : BinOp) (k : IntKind) (a b : Int) : Option AV :=
  match op with
  | .quo => some (.int k (k.wrap (a.tdiv b)))
  | .rem => some (.int k (a.tmod b))
  | _ => none
def shInt (op : BinOp) (k : IntKind) (a b : Int) : Option AV :=
  match op with
  | .shl => some (.int k (shlK k a b))
  | .shr => some (.int k (shrK k a b))
  | _ => none
def binStr (op : BinOp) (a b : List UInt8) : Option AV :=
  match op with
  | .add => some (.str (a ++ b))
  | .eql => some (.bool (a == b))
  | .neq => some (.bool (!(a == b)))
  | .lss => some (.bool (Op.bytesLess a b))
  | .leq => some (.bool (Op.bytesLess a b || a == b))
  | .gtr => some (.bool (!(Op.bytesLess a b || a == b)))
  | .geq => some (.bool (!Op.bytesLess a b))
  | _ => none
section
variable {P : Program} {c : Cx} {w : World} {h : List Blk} {K : AV → List Blk → Prop}
theorem opk_binInt {op : BinOp} {t : TypeId} {x y : Operand} {k : IntKind} {a b : Int} {v : AV} (hb : binInt op k a b = some v) (hH : HR c w h) (hK : K v h) :
    VOk P (do eqGuard op t x y (.int k a) (.int k b); binOp op t (.int k a) (.int k b)) K c w := by
  refine VOk.pure (v := v) ?_ hH hK
  cases op <;> simp only [binInt, reduceCtorEq, Option.some.injEq] at hb <;> subst hb <;> refine Ok.then (a := ()) rfl ?_ <;> simp only [binOp, ne_eq, not_true_eq_false, if_false] <;> exact ⟨_, rfl, rfl⟩
theorem opk_divInt {op : BinOp} {t : TypeId} {x y : Operand} {k : IntKind} {a b : Int} {v : AV} (hb : divInt op k a b = some v) (h0 : b ≠ 0) (hH : HR c w h) (hK : K v h) :
    VOk P (do eqGuard op t x y (.int k a) (.int k b); binOp op t (.int k a) (.int k b)) K c w := by
  refine VOk.pure (v := v) ?_ hH hK
  cases op <;> simp only [divInt, reduceCtorEq, Option.some.injEq] at hb <;> subst hb <;> refine Ok.then (a := ()) rfl ?_ <;> simp only [binOp, ne_eq, not_true_eq_false, if_false, Op.intDiv, h0] <;> exact ⟨_, rfl, rfl⟩
theorem opk_shInt {op : BinOp} {t : TypeId} {x y : Operand} {k k' : IntKind} {a b : Int} {v : AV} (hb : shInt op k a b = some v) (h0 : ¬ b < 0) (hH : HR c w h) (hK : K v h) :
    VOk P (do eqGuard op t x y (.int k a) (.int k' b); binOp op t (.int k a) (.int k' b)) K c w := by
  refine VOk.pure (v := v) ?_ hH hK
  cases op <;> simp only [shInt, reduceCtorEq, Option.some.injEq] at hb <;> subst hb <;> refine Ok.then (a := ()) rfl ?_ <;> simp only [binOp, Op.shift, h0, if_false] <;> exact ⟨_, rfl, rfl⟩
theorem toList_mk' (l : List UInt8) : (⟨l.toArray⟩ : ByteArray).toList = l := by rw [ByteArray.toList_eq]
theorem opk_binStr {op : BinOp} {t : TypeId} {x y : Operand} {a b : List UInt8} {v : AV} (hb : binStr op a b = some v) (h0 : a.length + b.length ≤ 9223372036854775807) (hH : HR c w h) (hK : K v h) :
    VOk P (do eqGuard op t x y (.string ⟨a.toArray⟩) (.string ⟨b.toArray⟩); binOp op t (.string ⟨a.toArray⟩) (.string ⟨b.toArray⟩)) K c w := by
  refine VOk.pure (v := v) ?_ hH hK
  have hs : ¬ (((⟨a.toArray⟩ : ByteArray).size + (⟨b.toArray⟩ : ByteArray).size : Nat) : Int) > IntKind.i64.max := by
    have e1 : (⟨a.toArray⟩ : ByteArray).size = a.length := by simp [ByteArray.size]
    have e2 : (⟨b.toArray⟩ : ByteArray).size = b.length := by simp [ByteArray.size]
    have e3 : IntKind.i64.max = 9223372036854775807 := by decide
    rw [e1, e2, e3]; omega
  have happ : (⟨a.toArray⟩ : ByteArray) ++ ⟨b.toArray⟩ = ⟨(a ++ b).toArray⟩ := by
    apply ByteArray.ext
    simp
  cases op <;> simp only [binStr, reduceCtorEq, Option.some.injEq] at hb <;> subst hb <;> refine Ok.then (a := ()) rfl ?_ <;> simp only [binOp, Op.stringOp, toList_mk', hs, if_false]
  case add => exact ⟨_, rfl, by rw [happ]; rfl⟩
  all_goals exact ⟨_, rfl, rfl⟩
theorem opk_not {b : Bool} (hH : HR c w h) (hK : K (.bool !b) h) : VOk P (Op.unary .not (.bool b)) K c w := VOk.pure (v := .bool !b) ⟨_, rfl, rfl⟩ hH hK
theorem opk_neg {k : IntKind} {n : Int} (hH : HR c w h) (hK : K (.int k (k.wrap (0 - n))) h) : VOk P (Op.unary .neg (.int k n)) K c w := VOk.pure (v := .int k (k.wrap (0 - n))) ⟨_, rfl, rfl⟩ hH hK
theorem opk_eqBool {op : BinOp} {t : TypeId} {x y : Operand} {a b : Bool} {f : TF} (ht : tyT P t = some f) (hd : f.d = .bool) (hop : op = .eql ∨ op = .neq) (hH : HR c w h) (hK : K (.bool (if op = .eql then a == b else a != b)) h) :
    VOk P (do eqGuard op t x y (.bool a) (.bool b); binOp op t (.bool a) (.bool b)) K c w := by
  obtain ⟨i, h1, h2, h3, h4, _⟩ := tyT_some ht
  rw [hd] at h2
  have he : Ok P c w.heap.size (Op.equal t (.bool a) (.bool b)) w (fun r => r = .ok (a == b) w) := by
    unfold Op.equal Op.maxDepth
    show Ok P c _ (Op.equalIn (9999 + 1) t _ _) w _
    rw [Op.equalIn]
    exact Ok.then (ok_underlying h2) (ok_pure rfl)
  refine VOk.pure (v := .bool (if op = .eql then a == b else a != b)) ?_ hH hK
  rcases hop with rfl | rfl
  · refine Ok.then (a := ()) rfl ?_
    simp only [binOp]
    exact Ok.then he (ok_pure ⟨_, rfl, rfl⟩)
  · refine Ok.then (a := ()) rfl ?_
    simp only [binOp]
    exact Ok.then he (ok_pure ⟨_, rfl, rfl⟩)
theorem opk_convInt {s d : TypeId} {fs fd : TF} {k k' : IntKind} {n : Int} (hs : tyT P s = some fs) (hd : tyT P d = some fd) (hk : fd.d = .int k) (hH : HR c w h) (hK : K (.int k (k.wrap n)) h) :
    VOk P (convert s d (.int k' n)) K c w := by
  obtain ⟨i, h1, h2, _⟩ := tyT_some hs
  obtain ⟨j, g1, g2, _⟩ := tyT_some hd
  rw [hk] at g2
  refine VOk.pure (v := .int k (k.wrap n)) ?_ hH hK
  refine Ok.then (ok_underlying h2) (Ok.then (ok_underlying g2) ?_)
  exact ⟨_, rfl, rfl⟩
theorem opk_convStr {s d : TypeId} {fs fd : TF} {l : List UInt8} (hs : tyT P s = some fs) (hd : tyT P d = some fd) (hk : fd.d = .string) (hH : HR c w h) (hK : K (.str l) h) :
    VOk P (convert s d (.string ⟨l.toArray⟩)) K c w := by
  obtain ⟨i, h1, h2, _⟩ := tyT_some hs
  obtain ⟨j, g1, g2, _⟩ := tyT_some hd
  rw [hk] at g2
  refine VOk.pure (v := .str l) ?_ hH hK
  refine Ok.then (ok_underlying h2) (Ok.then (ok_underlying g2) ?_)
  cases fs.d <;> exact ⟨_, rfl, rfl⟩
def partA (f : TF) (cs : List AV) (off : Nat) : AV := if aggD f.d then .agg ((cs.drop off).take f.sz) else cs.getD off .any
theorem ok_part {t : TypeId} {f : TF} {cs : List AV} {l : List Value} {off n0 : Nat} (ht : tyT P t = some f) (hv : VRL c cs l) (hl : aggD f.d = false → off < cs.length) :
    Ok P c n0 (part t l.toArray off) w (fun r => ∃ V, r = .ok V w ∧ VR c (partA f cs off) V) := by
  obtain ⟨i, h1, h2, h3, _⟩ := tyT_some ht
  refine Ok.then (ok_isAgg h2) ?_
  unfold partA
  cases hg : aggD f.d with
  | true =>
    simp only [if_true]
    refine Ok.then (ok_sizeOf h1) (ok_pure ⟨_, rfl, (l.drop off).take i.size, ?_, ?_⟩)
    · simp [List.extract_eq_take_drop]
    · rw [← h3]; exact (hv.drop off).take _
  | false =>
    simp only [Bool.false_eq_true, if_false]
    have hlt := hl hg
    have : off < l.length := by rw [hv.length]; exact hlt
    obtain ⟨v, hv1, hv2⟩ := hv.get (show cs[off]? = some cs[off] by simp [hlt])
    simp only [List.getElem?_toArray, hv1]
    exact ok_pure ⟨_, rfl, by simpa [List.getD, hlt] using hv2⟩
theorem opk_field {t : TypeId} {f ff : TF} {fs : Array Field} {i : Nat} {fd : Field} {cs : List AV} {V : Value} (ht : tyT P t = some f) (hd : f.d = .struct fs) (hf : fs[i]? = some fd) (hft : tyT P fd.type = some ff)
    (hl : aggD ff.d = false → fd.offset < cs.length) (hv : VR c (.agg cs) V) (hH : HR c w h) (hK : K (partA ff cs fd.offset) h) : VOk P (Instr.field t V i) K c w := by
  obtain ⟨j, h1, h2, _⟩ := tyT_some ht
  obtain ⟨l, rfl, hv⟩ := hv
  refine VOk.pure ?_ hH hK
  refine Ok.then (ok_underlying h2) ?_
  simp only [hd, hf]
  exact Ok.then (a := l.toArray) rfl (ok_part hft hv hl)
theorem opk_indexArr {t e : TypeId} {f fe : TF} {len : Nat} {k : IntKind} {i : Int} {cs : List AV} {V : Value} (ht : tyT P t = some f) (hd : f.d = .array len e) (hte : tyT P e = some fe) (h0 : 0 ≤ i) (h1 : i < len)
    (hl : aggD fe.d = false → i.toNat * fe.sz < cs.length) (hv : VR c (.agg cs) V) (hH : HR c w h) (hK : K (partA fe cs (i.toNat * fe.sz)) h) : VOk P (Instr.index t V (.int k i)) K c w := by
  obtain ⟨j, g1, g2, _⟩ := tyT_some ht
  obtain ⟨j', g1', g2', g3', _⟩ := tyT_some hte
  obtain ⟨l, rfl, hv⟩ := hv
  refine VOk.pure ?_ hH hK
  refine Ok.then (a := (k, i)) rfl (Ok.then (ok_underlying g2) ?_)
  simp only [hd, h0, h1, and_self, if_true]
  refine Ok.then (ok_sizeOf g1') ?_
  rw [g3']
  exact ok_part hte hv hl
theorem opk_indexStr {t : TypeId} {f : TF} {k : IntKind} {i : Int} {s : List UInt8} {b : UInt8} (ht : tyT P t = some f) (hd : f.d = .string) (h0 : 0 ≤ i) (hb : s[i.toNat]? = some b) (hH : HR c w h) (hK : K (.int .u8 b.toNat) h) :
    VOk P (Instr.index t (.string ⟨s.toArray⟩) (.int k i)) K c w := by
  obtain ⟨j, g1, g2, _⟩ := tyT_some ht
  refine VOk.pure (v := .int .u8 b.toNat) ?_ hH hK
  refine Ok.then (a := (k, i)) rfl (Ok.then (ok_underlying g2) ?_)
  have e : (⟨s.toArray⟩ : ByteArray)[i.toNat]? = some b := by
    have hlt := (List.getElem?_eq_some_iff.1 hb).1
    have hlt' : i.toNat < (⟨s.toArray⟩ : ByteArray).size := by simpa [ByteArray.size] using hlt
    rw [getElem?_pos (⟨s.toArray⟩ : ByteArray) i.toNat hlt']
    congr 1
    have := (List.getElem?_eq_some_iff.1 hb).2
    simpa [ByteArray.getElem_eq_getElem_data] using this
  simp only [hd, h0, if_true, e]
  exact ok_pure ⟨_, rfl, rfl⟩
theorem opk_indexSl {t e : TypeId} {f fe : TF} {n : Nm} {off len : Nat} {k : IntKind} {i : Int} {V : Value} (ht : tyT P t = some f) (hd : f.d = .slice e) (hte : tyT P e = some fe) (h0 : 0 ≤ i) (h1 : i < len) (hcur : ∃ cs, h[n.id]? = some (.cells n.gen cs))
    (hv : VR c (.sl n fe.sz off len) V) (hH : HR c w h) (hK : K (.ptr n (off + i.toNat * fe.sz)) h) : VOk P (Instr.indexAt t V (.int k i)) K c w := by
  obtain ⟨j, g1, g2, _⟩ := tyT_some ht
  obtain ⟨j', g1', g2', g3', _⟩ := tyT_some hte
  obtain ⟨cs, hcur⟩ := hcur
  obtain ⟨_, hv⟩ := hv
  obtain ⟨e', he, hg, hp, _⟩ := own_cells hH hcur hv
  rcases hp with ⟨hl0, _⟩ | ⟨b, kk, cap, hs, rfl, hc1, hc2⟩
  · omega
  refine VOk.pure (v := .ptr n (off + i.toNat * fe.sz)) ?_ hH hK
  refine Ok.then (a := (k, i)) rfl (Ok.then (ok_underlying g2) ?_)
  simp only [hd]
  refine Ok.then (a := (some ⟨b, off, none⟩, len, e)) rfl ?_
  simp only []
  refine Ok.then (ok_underlying g2) ?_
  simp only [hd, h0, h1, and_self, if_true]
  refine Ok.then (ok_sizeOf g1') (ok_pure ⟨_, rfl, ⟨_, rfl⟩, e', he, by omega, fun _ => ⟨b, kk, hs, ?_⟩⟩)
  rw [g3', add_eq]
theorem opk_indexPsl {t e : TypeId} {f fe : TF} {cells : List AV} {len : Nat} {k : IntKind} {i : Int} {V : Value} (ht : tyT P t = some f) (hd : f.d = .slice e) (hte : tyT P e = some fe) (h0 : 0 ≤ i) (h1 : i < len) (hr : i.toNat * fe.sz ≤ cells.length)
    (hv : VR c (.psl cells len) V) (hH : HR c w h) (hK : K (.pptr (cells.drop (i.toNat * fe.sz))) h) : VOk P (Instr.indexAt t V (.int k i)) K c w := by
  obtain ⟨j, g1, g2, _⟩ := tyT_some ht
  obtain ⟨j', g1', g2', g3', _⟩ := tyT_some hte
  rcases hv with ⟨_, hl0, _⟩ | ⟨b, o, arr, el, fz, l, cap, rfl, hc1, hi, hl, hp⟩
  · omega
  refine VOk.pure (v := .pptr (cells.drop (i.toNat * fe.sz))) ?_ hH hK
  refine Ok.then (a := (k, i)) rfl (Ok.then (ok_underlying g2) ?_)
  simp only [hd]
  refine Ok.then (a := (some ⟨b, o, none⟩, len, e)) rfl ?_
  simp only []
  refine Ok.then (ok_underlying g2) ?_
  simp only [hd, h0, h1, and_self, if_true]
  refine Ok.then (ok_sizeOf g1') (ok_pure ⟨_, rfl, b, o + i.toNat * fe.sz, arr, el, fz, l.drop (i.toNat * fe.sz), ?_, hi, hl.drop _, ?_⟩)
  · rw [g3', add_eq]
  · rw [← List.drop_drop]
    exact drop_prefix hp _ (by rw [hl.length]; exact hr)
theorem opk_indexPtr {t e : TypeId} {f fe : TF} {a a' : AV} {len : Nat} {k : IntKind} {i : Int} {V : Value} (ht : tyT P t = some f) (hd : f.d = .array len e) (hte : tyT P e = some fe) (h0 : 0 ≤ i) (h1 : i < len)
    (ha : addA a (i.toNat * fe.sz) = some a') (hr : reachA a (i.toNat * fe.sz)) (hv : VR c a V) (hH : HR c w h) (hK : K a' h) : VOk P (Instr.indexAt t V (.int k i)) K c w := by
  obtain ⟨j, g1, g2, _⟩ := tyT_some ht
  obtain ⟨j', g1', g2', g3', _⟩ := tyT_some hte
  obtain ⟨ad, rfl, hv'⟩ := VR_addA ha hr hv
  refine VOk.pure (v := a') ?_ hH hK
  refine Ok.then (a := (k, i)) rfl (Ok.then (ok_underlying g2) ?_)
  simp only [hd]
  refine Ok.then (a := ad) rfl (Ok.then (a := (some ad, len, e)) rfl ?_)
  simp only []
  refine Ok.then (ok_underlying g2) ?_
  simp only [hd, h0, h1, and_self, if_true]
  refine Ok.then (ok_sizeOf g1') (ok_pure ⟨_, rfl, ?_⟩)
  rw [g3']; exact hv'
def lenA : AV → Option Nat
  | .str s => some s.length
  | .nilsl => some 0
  | .psl _ len => some len
  | _ => none
theorem opk_lenStr {t ty : TypeId} {f : TF} {s : List UInt8} (ht : tyT P t = some f) (hd : f.d = .string) (hH : HR c w h) (hK : K (.int .i64 s.length) h) : VOk P (Builtin.len_ #[t] ty #[.string ⟨s.toArray⟩]) K c w := by
  obtain ⟨j, g1, g2, _⟩ := tyT_some ht
  refine VOk.pure (v := .int .i64 s.length) ?_ hH hK
  simp only [Builtin.len_, List.size_toArray, List.length_cons, List.length_nil, Nat.zero_add, Nat.lt_add_one, getElem?_pos, List.getElem_toArray, List.getElem_cons_zero]
  refine Ok.then (ok_underlying g2) ?_
  simp only [hd]
  exact ok_pure ⟨_, rfl, by simp [VR, goInt, ByteArray.size]⟩
theorem opk_lenSlice {t ty : TypeId} {f : TF} {e : TypeId} {a : Option Addr} {n k : Nat} (ht : tyT P t = some f) (hd : f.d = .slice e) (hH : HR c w h) (hK : K (.int .i64 n) h) : VOk P (Builtin.len_ #[t] ty #[.slice a n k]) K c w := by
  obtain ⟨j, g1, g2, _⟩ := tyT_some ht
  refine VOk.pure (v := .int .i64 n) ?_ hH hK
  simp only [Builtin.len_, List.size_toArray, List.length_cons, List.length_nil, Nat.zero_add, Nat.lt_add_one, getElem?_pos, List.getElem_toArray, List.getElem_cons_zero]
  refine Ok.then (ok_underlying g2) ?_
  simp only [hd]
  exact ok_pure ⟨_, rfl, rfl⟩
theorem psl_len {cells : List AV} {len : Nat} {V : Value} (hv : VR c (.psl cells len) V) : ∃ a k, V = .slice a len k := by
  rcases hv with ⟨_, rfl, _, rfl⟩ | ⟨b, o, arr, el, fz, l, cap, rfl, _⟩
  · exact ⟨_, _, rfl⟩
  · exact ⟨_, _, rfl⟩
theorem sl_len {n : Nm} {sz off len : Nat} {V : Value} {cs : List AV} (hcur : h[n.id]? = some (.cells n.gen cs)) (hH : HR c w h) (hv : VR c (.sl n sz off len) V) : ∃ a k, V = .slice a len k := by
  obtain ⟨_, hv⟩ := hv
  obtain ⟨e', he, hg, hp, _⟩ := own_cells hH hcur hv
  rcases hp with ⟨rfl, rfl, rfl⟩ | ⟨b, kk, cap, hs, rfl, hc1, hc2⟩
  · exact ⟨_, _, rfl⟩
  · exact ⟨_, _, rfl⟩
theorem opk_iface {t : TypeId} {f : TF} {v : AV} {V : Value} (ht : tyT P t = some f) (hd : ∀ ms, f.d ≠ .interface ms) (hv : VR c v V) (hH : HR c w h) (hK : K (.iface t v) h) : VOk P (Instr.makeInterface t V) K c w := by
  obtain ⟨j, g1, g2, _⟩ := tyT_some ht
  refine VOk.pure (v := .iface t v) ?_ hH hK
  refine Ok.then (ok_underlying g2) ?_
  cases hf : f.d with
  | interface ms => exact absurd hf (hd ms)
  | _ => exact ok_pure ⟨_, rfl, V, rfl, hv⟩
theorem opk_makeFunc {fn : Fn} {f1 c1 : List AV} {F C : Array Value} (hf : VRL c f1 F.toList) (hc : VRL c c1 C.toList) (hH : HR c w h) (hK : K (.fn fn f1 c1) h) : VOk P (Instr.makeFunc fn F C) K c w :=
  VOk.pure (v := .fn fn f1 c1) ⟨_, rfl, F.toList, C.toList, by simp, hf, hc⟩ hH hK
end
end Go.Mac

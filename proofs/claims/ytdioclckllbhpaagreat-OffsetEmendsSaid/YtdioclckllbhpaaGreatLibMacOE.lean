/- A part of the logic and of the contracts of the functions that the statement reaches; the statement itself is proved in the last text. -/
import Derived.Test.YtdioclckllbhpaaGreatLibMacM
import Derived.Test.YtdioclckllbhpaaGreatLibMacO

set_option linter.all false
set_option linter.unusedVariables false
set_option linter.unusedSimpArgs false
set_option linter.unnecessarySimpa false
namespace Go.Mac
open Go Go.Conc
def stepK (r : Option (Prop × AV × List Blk)) (K : AV → List Blk → Prop) : Prop :=
  match r with
  | some (c, v, h) => c ∧ K v h
  | none => False
@[congr] theorem stepK_congr {r r' : Option (Prop × AV × List Blk)} {K : AV → List Blk → Prop} (e : r = r') : stepK r K = stepK r' K := by rw [e]
theorem stepK_some {c : Prop} {v : AV} {h : List Blk} {K : AV → List Blk → Prop} : stepK (some (c, v, h)) K = (c ∧ K v h) := rfl
def buildE (P : Program) (t : TypeId) (parts : List (Nat × AV)) (h : List Blk) : Option (Prop × AV × List Blk) :=
  match tyT P t with
  | some f => match f.d, f.ze with
    | .struct fs, some z => match placesA P fs.toList with
      | some pl => match fillA (pl[·]?) z parts with
        | some out => some (True, .agg out, h)
        | none => none
      | none => none
    | .array _ te, some z => match tyT P te with
      | some fe => match fillA (fun i => some (i * fe.sz, fe.sz)) z parts with
        | some out => some (True, .agg out, h)
        | none => none
      | none => none
    | _, _ => none
  | none => none
def buildSliceE (P : Program) (t : TypeId) (len : Nat) (parts : List (Nat × AV)) (h : List Blk) : Option (Prop × AV × List Blk) :=
  match tyT P t with
  | some f => match f.d with
    | .slice te => match tyT P te with
      | some fe => match fe.ze with
        | some z => match fillA (fun i => some (i * fe.sz, fe.sz)) (if len * fe.sz = 0 then [] else zeroRow z (len * fe.sz)) parts with
          | some out => some (len * fe.sz ≤ 16777216 ∧ out.length = len * fe.sz, .sl ⟨h.length, 0⟩ fe.sz 0 len, h ++ [.cells 0 out])
          | none => none
        | none => none
      | none => none
    | _ => none
  | none => none
def buildSealE (P : Program) (t : TypeId) (len : Nat) (parts : List (Nat × AV)) (h : List Blk) : Option (Prop × AV × List Blk) :=
  match tyT P t with
  | some f => match f.d with
    | .slice te => match tyT P te with
      | some fe => match fe.ze with
        | some z => match fillA (fun i => some (i * fe.sz, fe.sz)) (if len * fe.sz = 0 then [] else zeroRow z (len * fe.sz)) parts with
          | some out => some (len * fe.sz ≤ 16777216 ∧ out.length = len * fe.sz ∧ belowL h.length out = true, .psl out len, h)
          | none => none
        | none => none
      | none => none
    | _ => none
  | none => none
def loadE (P : Program) (t : TypeId) (a : AV) (h : List Blk) : Option (Prop × AV × List Blk) :=
  match tyT P t, cellsAt h a with
  | some f, some cs => some ((if aggD f.d then f.sz else 1) ≤ cs.length, readA f cs, h)
  | _, _ => none
def storeE (P : Program) (t : TypeId) (a v : AV) (h : List Blk) : Option (Prop × AV × List Blk) :=
  match a, tyT P t, valCells v with
  | .ptr n off, some f, some vs => match h[n.id]? with
    | some (.cells g cs) => some (g = n.gen ∧ vs.all leafA = true ∧ vs.length = f.sz ∧ off + vs.length ≤ cs.length, .tup [], h.set n.id (.cells g (setMany cs off vs)))
    | _ => none
  | _, _, _ => none
def nilCheckE (a : AV) (h : List Blk) : Option (Prop × AV × List Blk) :=
  match a with
  | .ptr .. | .pptr .. => some (True, a, h)
  | .fn (.func _) _ _ => some (True, a, h)
  | .iface _ _ => some (True, a, h)
  | .yield _ => some (True, a, h)
  | _ => none
def binE (P : Program) (op : BinOp) (t : TypeId) (x y : AV) (h : List Blk) : Option (Prop × AV × List Blk) :=
  match x, y with
  | .int k a, .int k' b => match op with
    | .shl | .shr => match shInt op k a b with
      | some v => some (¬ b < 0, v, h)
      | none => none
    | .quo | .rem => match divInt op k a b with
      | some v => some (k = k' ∧ b ≠ 0, v, h)
      | none => none
    | _ => match binInt op k a b with
      | some v => some (k = k', v, h)
      | none => none
  | .str a, .str b => match binStr op a b with
    | some v => some (a.length + b.length ≤ 9223372036854775807, v, h)
    | none => none
  | .bool a, .bool b => match tyT P t, op with
    | some f, .eql => some (f.d = .bool, .bool (a == b), h)
    | some f, .neq => some (f.d = .bool, .bool (a != b), h)
    | _, _ => none
  | .agg a, .agg b => match eqA P 6 t (.agg a) (.agg b), op with
    | some r, .eql => some (P.eqGuardType P.depth t = false, .bool r, h)
    | some r, .neq => some (P.eqGuardType P.depth t = false, .bool (!r), h)
    | _, _ => none
  | _, _ => none
def unE (op : UnOp) (x : AV) (h : List Blk) : Option (Prop × AV × List Blk) :=
  match op, x with
  | .not, .bool b => some (True, .bool !b, h)
  | .neg, .int k n => some (True, .int k (k.wrap (0 - n)), h)
  | _, _ => none
def convBytesE (P : Program) (d : TypeDesc) (x : AV) (h : List Blk) : Option (Prop × AV × List Blk) :=
  match d with
  | .slice e => match tyT P e with
    | some fe => match srcA h 1 x with
      | some (cs, m) => match bytesA cs with
        | some bs => some (fe.d = .int .u8 ∧ cs.length = m, .str bs, h)
        | none => none
      | none => none
    | none => none
  | _ => none
def convE (P : Program) (s d : TypeId) (x : AV) (h : List Blk) : Option (Prop × AV × List Blk) :=
  match tyT P s, tyT P d with
  | some fs, some fd => match fd.d, x with
    | .int k, .int _ n => some (True, .int k (k.wrap n), h)
    | .string, .str l => some (True, .str l, h)
    | .string, .sl n sz off len => convBytesE P fs.d (.sl n sz off len) h
    | .string, .psl l len => convBytesE P fs.d (.psl l len) h
    | _, _ => none
  | _, _ => none
def fieldAddrE (P : Program) (t : TypeId) (a : AV) (i : Nat) (h : List Blk) : Option (Prop × AV × List Blk) :=
  match tyT P t with
  | some f => match f.d with
    | .struct fs => match fs[i]? with
      | some fd => match tyT P fd.type, addA a fd.offset with
        | some ff, some a' => some (ff.sz ≠ 0 ∧ reachA a fd.offset, a', h)
        | _, _ => none
      | none => none
    | _ => none
  | none => none
def fieldE (P : Program) (t : TypeId) (x : AV) (i : Nat) (h : List Blk) : Option (Prop × AV × List Blk) :=
  match tyT P t, x with
  | some f, .agg cs => match f.d with
    | .struct fs => match fs[i]? with
      | some fd => match tyT P fd.type with
        | some ff => some (aggD ff.d = false → fd.offset < cs.length, partA ff cs fd.offset, h)
        | none => none
      | none => none
    | _ => none
  | _, _ => none
def indexAddrE (P : Program) (t : TypeId) (x ix : AV) (h : List Blk) : Option (Prop × AV × List Blk) :=
  match tyT P t, ix with
  | some f, .int _ i => match f.d with
    | .slice e => match tyT P e, x with
      | some fe, .sl n sz off len => some (sz = fe.sz ∧ 0 ≤ i ∧ i < len ∧ (∃ cs, h[n.id]? = some (.cells n.gen cs)), .ptr n (off + i.toNat * fe.sz), h)
      | some fe, .psl cells len => some (0 ≤ i ∧ i < len ∧ i.toNat * fe.sz ≤ cells.length, .pptr (cells.drop (i.toNat * fe.sz)), h)
      | _, _ => none
    | .array len e => match tyT P e with
      | some fe => match addA x (i.toNat * fe.sz) with
        | some a' => some (0 ≤ i ∧ i < len ∧ reachA x (i.toNat * fe.sz), a', h)
        | none => none
      | none => none
    | _ => none
  | _, _ => none
def indexE (P : Program) (t : TypeId) (x ix : AV) (h : List Blk) : Option (Prop × AV × List Blk) :=
  match tyT P t, ix, x with
  | some f, .int _ i, .agg cs => match f.d with
    | .array len e => match tyT P e with
      | some fe => some (0 ≤ i ∧ i < len ∧ (aggD fe.d = false → i.toNat * fe.sz < cs.length), partA fe cs (i.toNat * fe.sz), h)
      | none => none
    | _ => none
  | some f, .int _ i, .str s => match s[i.toNat]? with
    | some b => some (f.d = .string ∧ 0 ≤ i, .int .u8 b.toNat, h)
    | none => none
  | _, _, _ => none
def sliceE (P : Program) (t : TypeId) (x : AV) (lo hi : Option AV) (h : List Blk) : Option (Prop × AV × List Blk) :=
  match tyT P t with
  | some f => match f.d, x with
    | .string, .str s => match loB lo, hiB s.length hi with
      | some l, some u => some (0 ≤ l ∧ l ≤ u ∧ u ≤ s.length, .str ((s.drop l.toNat).take (u.toNat - l.toNat)), h)
      | _, _ => none
    | .slice e, .psl cells len => match tyT P e, loB lo, hiB len hi with
      | some fe, some l, some u => some (0 ≤ l ∧ l ≤ u ∧ u ≤ len ∧ len * fe.sz ≤ cells.length, .psl ((cells.drop (l.toNat * fe.sz)).take ((u.toNat - l.toNat) * fe.sz)) (u.toNat - l.toNat), h)
      | _, _, _ => none
    | .slice e, .sl n sz off len => match tyT P e, loB lo, hiB len hi with
      | some fe, some l, some u => some (sz = fe.sz ∧ 0 ≤ l ∧ l ≤ u ∧ u ≤ len ∧ (l < len ∨ l = 0) ∧ (∃ cs, h[n.id]? = some (.cells n.gen cs)), .sl n fe.sz (off + l.toNat * fe.sz) (u.toNat - l.toNat), h)
      | _, _, _ => none
    | _, _ => none
  | none => none
def slice3E (P : Program) (t : TypeId) (x : AV) (lo hi : Option AV) (mx : AV) (h : List Blk) : Option (Prop × AV × List Blk) :=
  match tyT P t with
  | some f => match f.d, x with
    | .slice e, .psl cells len => match tyT P e, loB lo, hi, mx with
      | some fe, some l, some (.int _ u), .int _ m => some (0 ≤ l ∧ l ≤ u ∧ u ≤ m ∧ m ≤ len ∧ len * fe.sz ≤ cells.length, .psl ((cells.drop (l.toNat * fe.sz)).take ((u.toNat - l.toNat) * fe.sz)) (u.toNat - l.toNat), h)
      | _, _, _, _ => none
    | _, _ => none
  | none => none
def gotA (r : Option Nat) (vs : List AV) (z : AV) : AV :=
  match r with
  | some j => vs.getD j .any
  | none => z
def lookupE (P : Program) (t : TypeId) (x k : AV) (cok : Bool) (h : List Blk) : Option (Prop × AV × List Blk) :=
  match tyT P t with
  | some f => match f.d with
    | .map kt et => match tyT P kt, tyT P et, mapOf h x with
      | some _, some fe, some (ks, vs) => match fe.ze, findA P kt k ks 0 with
        | some z, some r => some (eqA P 6 kt k k = some true ∧ zeroFits P et = true, if cok then .tup [gotA r vs (zeroA fe z), .bool r.isSome] else gotA r vs (zeroA fe z), h)
        | _, _ => none
      | _, _, _ => none
    | _ => none
  | none => none
def mapUpdateE (P : Program) (t : TypeId) (x k v : AV) (h : List Blk) : Option (Prop × AV × List Blk) :=
  match tyT P t, x with
  | some f, .map n => match f.d, h[n.id]? with
    | .map kt _, some (.map ks vs) => match tyT P kt, findA P kt k ks 0 with
      | some _, some (some j) => some (n.gen = 0 ∧ eqA P 6 kt k k = some true ∧ ks[j]? = some k, .tup [], h.set n.id (.map ks (vs.set j v)))
      | some _, some none => some (n.gen = 0 ∧ eqA P 6 kt k k = some true, .tup [], h.set n.id (.map (ks ++ [k]) (vs ++ [v])))
      | _, _ => none
    | _, _ => none
  | _, _ => none
def assertE (P : Program) (at_ : TypeId) (x : AV) (h : List Blk) : Option (Prop × AV × List Blk) :=
  match tyT P at_ with
  | some f => match f.ze with
    | some z => match x with
      | .iface t v => if t = at_ then some (isIfaceD f.d = false, .tup [v, .bool true], h) else some (isIfaceD f.d = false ∧ zeroFits P at_ = true, .tup [zeroA f z, .bool false], h)
      | .niliface => some (isIfaceD f.d = false ∧ zeroFits P at_ = true, .tup [zeroA f z, .bool false], h)
      | _ => none
    | none => none
  | none => none
def appendE (P : Program) (st xt : TypeId) (d a : AV) (h : List Blk) : Option (Prop × AV × List Blk) :=
  match d, tyT P st, tyT P xt with
  | .sl n sz 0 len, some f, some fx => match f.d, h[n.id]? with
    | .slice e, some (.cells g cs) => match tyT P e with
      | some fe => match fe.ze, srcA h fe.sz a with
        | some z, some (new, m) => some (isIntD fx.d = false ∧ sz = fe.sz ∧ g = n.gen ∧ z.length = fe.sz ∧ cs.length = len * fe.sz ∧ new.length = m * fe.sz ∧ (∀ s, a = .str s → fe.sz = 1) ∧ new.all leafA = true ∧ len + m ≤ 4294967296 ∧ fe.bytes ≤ 4096,
            .sl ⟨n.id, n.gen + 1⟩ fe.sz 0 (len + m), h.set n.id (.cells (n.gen + 1) (cs ++ new)))
        | _, _ => none
      | none => none
    | _, _ => none
  | _, _, _ => none
def lenE (P : Program) (t : TypeId) (x : AV) (h : List Blk) : Option (Prop × AV × List Blk) :=
  match tyT P t with
  | some f => match f.d, x with
    | .string, .str s => some (True, .int .i64 s.length, h)
    | .slice _, .psl _ len => some (True, .int .i64 len, h)
    | .slice _, .nilsl => some (True, .int .i64 0, h)
    | .slice _, .sl n _ _ len => some (∃ cs, h[n.id]? = some (.cells n.gen cs), .int .i64 len, h)
    | _, _ => none
  | none => none
def builtinE (P : Program) (b : Builtin) (ats : List TypeId) (args : List AV) (h : List Blk) : Option (Prop × AV × List Blk) :=
  match b, ats, args with
  | .len, [t], [x] => lenE P t x h
  | .append, [st, xt], [d, a] => appendE P st xt d a h
  | .max, _, .int k a :: l => match intsOf k l with
    | some ns => some (True, .int k (ns.foldl (fun x y => if y > x then y else x) a), h)
    | none => none
  | .min, _, .int k a :: l => match intsOf k l with
    | some ns => some (True, .int k (ns.foldl (fun x y => if y < x then y else x) a), h)
    | none => none
  | .copy, [st, _], [.sl n sz off len, a] => match tyT P st with
    | some f => match f.d, h[n.id]? with
      | .slice e, some (.cells g cs) => match tyT P e with
        | some fe => match srcA h fe.sz a with
          | some (src, m) => some (sz = fe.sz ∧ g = n.gen ∧ off + len * fe.sz ≤ cs.length ∧ src.length = m * fe.sz ∧ (∀ s, a = .str s → fe.sz = 1) ∧ src.all leafA = true,
              .int .i64 (Nat.min m len), h.set n.id (.cells n.gen (setMany cs off (src.take (Nat.min m len * fe.sz)))))
          | none => none
        | none => none
      | _, _ => none
    | none => none
  | .clear, [st], [.sl n sz off len] => match tyT P st with
    | some f => match f.d, h[n.id]? with
      | .slice e, some (.cells g cs) => match tyT P e with
        | some fe => match fe.ze with
          | some z => some (sz = fe.sz ∧ g = n.gen ∧ z.length = fe.sz ∧ z.all leafA = true ∧ off + len * fe.sz ≤ cs.length, .tup [], h.set n.id (.cells n.gen (setMany cs off (zeroRow z (len * fe.sz)))))
          | none => none
        | none => none
      | _, _ => none
    | none => none
  | _, _, _ => none
def makeSliceE (P : Program) (t : TypeId) (l cp : AV) (h : List Blk) : Option (Prop × AV × List Blk) :=
  match tyT P t, l, cp with
  | some f, .int _ n, .int _ n' => match f.d with
    | .slice e => match tyT P e with
      | some fe => match fe.ze with
        | some z => some (n' = n ∧ 0 ≤ n ∧ fe.bytes * n ≤ 281474976710656 ∧ n ≤ 281474976710656, .sl ⟨h.length, 0⟩ fe.sz 0 n.toNat, h ++ [.cells 0 (if n.toNat * fe.sz = 0 then [] else zeroRow z (n.toNat * fe.sz))])
        | none => none
      | none => none
    | _ => none
  | _, _, _ => none
def nextE (x : AV) (h : List Blk) : Option (Prop × AV × List Blk) :=
  match x with
  | .ptr n 0 => match h[n.id]? with
    | some (.iter s pos) => if pos < s.length then some (n.gen = 0, .tup [.bool true, .int .i64 pos, .int .i32 (Utf8.decode ⟨s.toArray⟩ pos).1], h.set n.id (.iter s (pos + (Utf8.decode ⟨s.toArray⟩ pos).2))) else some (n.gen = 0, .tup [.bool false], h)
    | _ => none
  | _ => none
def opE (P : Program) (op : Op) (ρ : Operand → AV) (h : List Blk) : Option (Prop × AV × List Blk) :=
  match op with
  | .move x | .assign x => some (True, ρ x, h)
  | .pick x a b => match ρ x with
    | .bool t => some (True, pickA t (ρ a) (ρ b), h)
    | _ => none
  | .alloc e => match tyT P e with
    | some f => match f.ze with
      | some z => some (True, .ptr ⟨h.length, 0⟩ 0, h ++ [.cells 0 z])
      | none => none
    | none => none
  | .box _ x => match valCells (ρ x) with
    | some cs => some (True, .ptr ⟨h.length, 0⟩ 0, h ++ [.cells 0 cs])
    | none => none
  | .build t parts => buildE P t (parts.toList.map fun p => (p.1, ρ p.2)) h
  | .buildSlice t len parts => buildSliceE P t len (parts.toList.map fun p => (p.1, ρ p.2)) h
  | .load t a => loadE P t (ρ a) h
  | .store t a v => storeE P t (ρ a) (ρ v) h
  | .nilCheck x => nilCheckE (ρ x) h
  | .binOp op t x y _ => binE P op t (ρ x) (ρ y) h
  | .unOp op _ x => unE op (ρ x) h
  | .convert s d x => convE P s d (ρ x) h
  | .makeInterface t x => match tyT P t with
    | some f => some (isIfaceD f.d = false, .iface t (ρ x), h)
    | none => none
  | .makeFunc fn first cap => some (True, .fn fn (first.toList.map ρ) (cap.toList.map ρ), h)
  | .makeMap _ none => some (True, .map ⟨h.length, 0⟩, h ++ [.map [] []])
  | .makeSlice t l cp => makeSliceE P t (ρ l) (ρ cp) h
  | .slice t x lo hi none => sliceE P t (ρ x) (lo.map ρ) (hi.map ρ) h
  | .slice t x lo hi (some mx) => slice3E P t (ρ x) (lo.map ρ) (hi.map ρ) (ρ mx) h
  | .fieldAddr t a i => fieldAddrE P t (ρ a) i h
  | .field t x i => fieldE P t (ρ x) i h
  | .indexAddr t x i => indexAddrE P t (ρ x) (ρ i) h
  | .index t x i => indexE P t (ρ x) (ρ i) h
  | .lookup t x k cok => lookupE P t (ρ x) (ρ k) cok h
  | .mapUpdate t x k v | .insert t x k v => mapUpdateE P t (ρ x) (ρ k) (ρ v) h
  | .range t x => match tyT P t, ρ x with
    | some f, .str s => some (f.d = .string, .ptr ⟨h.length, 0⟩ 0, h ++ [.iter s 0])
    | _, _ => none
  | .next x true => nextE (ρ x) h
  | .typeAssert x _ at_ true => assertE P at_ (ρ x) h
  | .extract x i => match ρ x with
    | .tup vs => match vs[i]? with
      | some v => some (True, v, h)
      | none => none
    | _ => none
  | .call cl => match cl.callee with
    | .builtin b => builtinE P b cl.argTypes.toList (cl.args.toList.map ρ) h
    | _ => none
  | _ => none
section
variable {P : Program} {h : List Blk} {K : AV → List Blk → Prop}
theorem stepK_elim {r : Option (Prop × AV × List Blk)} {K : AV → List Blk → Prop} {G : Prop} (hs : stepK r K) (hg : ∀ c v h, r = some (c, v, h) → c → K v h → G) : G := by
  cases r with
  | none => exact hs.elim
  | some x => obtain ⟨c, v, h⟩ := x; exact hg c v h rfl hs.1 hs.2
theorem opE_ok {op : Op} {ρ : Operand → AV} (hs : stepK (opE P op ρ h) K) : opW P op ρ h K := by
  cases op
  all_goals try (simp only [opE] at hs)
  all_goals try (exact hs.elim)
  all_goals try (simp only [opW])
  case move => exact hs.2
  case assign => exact hs.2
  case pick => split at hs <;> first | exact hs.elim | (rename_i heq; simp only [heq]; exact hs.2)
  case alloc =>
    split at hs
    · rename_i f hf
      split at hs
      · rename_i z hz; simp only [hf, hz]; exact hs.2
      · exact hs.elim
    · exact hs.elim
  case box => split at hs <;> first | exact hs.elim | (rename_i heq; simp only [heq]; exact hs.2)
  case build => unfold buildE at hs; unfold buildW; (repeat' split at hs) <;> first | exact hs.elim | (simp only [stepK_some] at hs; simp_all)
  case buildSlice => unfold buildSliceE at hs; unfold buildSliceW; (repeat' split at hs) <;> first | exact hs.elim | (simp only [stepK_some] at hs; simp_all)
  case load => unfold loadE at hs; unfold loadW; (repeat' split at hs) <;> first | exact hs.elim | (simp only [stepK_some] at hs; simp_all)
  case store t a v =>
    unfold storeE at hs
    unfold storeW
    split at hs
    · rename_i n off f vs h1 h2 h3
      split at hs
      · rename_i g cs h4
        simp only [h1, h2, h3, h4]
        exact ⟨hs.1.1, hs.1.2.1, hs.1.2.2.1, hs.1.2.2.2, hs.2⟩
      · exact hs.elim
    · exact hs.elim
  case nilCheck => unfold nilCheckE at hs; unfold nilCheckW; (repeat' split at hs) <;> first | exact hs.elim | (simp only [stepK_some] at hs; simp_all)
  case binOp op t x y t' =>
    unfold binE at hs; unfold binW
    cases op <;> (repeat' split at hs) <;> first | exact hs.elim | (simp only [stepK_some] at hs; simp_all)
  case unOp => unfold unE at hs; unfold unW; (repeat' split at hs) <;> first | exact hs.elim | (simp only [stepK_some] at hs; simp_all)
  case convert => unfold convE convBytesE at hs; unfold convW convBytesW; (repeat' split at hs) <;> first | exact hs.elim | (simp only [stepK_some] at hs; simp_all)
  case makeInterface => split at hs <;> first | exact hs.elim | (rename_i heq; simp only [heq]; exact hs)
  case makeFunc => exact hs.2
  case makeMap t r => cases r <;> first | exact hs.2 | exact hs.elim
  case makeSlice => unfold makeSliceE at hs; (repeat' split at hs) <;> first | exact hs.elim | (simp only [stepK_some] at hs; simp_all)
  case slice t x lo hi mx => cases mx with
    | some m => simp only at hs ⊢; generalize hi.map ρ = hi' at hs ⊢; generalize lo.map ρ = lo' at hs ⊢; unfold slice3E at hs; unfold slice3W; (repeat' split at hs) <;> first | exact hs.elim | (simp only [stepK_some] at hs; simp_all)
    | none => simp only at hs ⊢; unfold sliceE at hs; unfold sliceW; (repeat' split at hs) <;> first | exact hs.elim | (simp only [stepK_some] at hs; simp_all)
  case fieldAddr => unfold fieldAddrE at hs; unfold fieldAddrW; (repeat' split at hs) <;> first | exact hs.elim | (simp only [stepK_some] at hs; simp_all)
  case field => unfold fieldE at hs; unfold fieldW; (repeat' split at hs) <;> first | exact hs.elim | (simp only [stepK_some] at hs; simp_all)
  case indexAddr => unfold indexAddrE at hs; unfold indexAddrW; (repeat' split at hs) <;> first | exact hs.elim | (simp only [stepK_some] at hs; simp_all)
  case index => unfold indexE at hs; unfold indexW; (repeat' split at hs) <;> first | exact hs.elim | (simp only [stepK_some] at hs; simp_all)
  case lookup => unfold lookupE at hs; unfold lookupW; (repeat' split at hs) <;> first | exact hs.elim | (simp only [stepK_some] at hs; simp_all [gotA]; exact hs.2)
  case mapUpdate => unfold mapUpdateE at hs; unfold mapUpdateW; (repeat' split at hs) <;> first | exact hs.elim | (simp only [stepK_some] at hs; simp_all)
  case insert => unfold mapUpdateE at hs; unfold mapUpdateW; (repeat' split at hs) <;> first | exact hs.elim | (simp only [stepK_some] at hs; simp_all)
  case range => (repeat' split at hs) <;> first | exact hs.elim | (simp only [stepK_some] at hs; simp_all)
  case next x b => cases b with
    | false => exact hs.elim
    | true =>
      simp only at hs ⊢
      unfold nextE at hs
      split at hs
      · rename_i n h1
        split at hs
        · rename_i s pos h2
          simp only [h1, h2]
          split at hs
          · rename_i hp; exact ⟨hs.1, fun _ => hs.2, fun hn => absurd hp hn⟩
          · rename_i hp; exact ⟨hs.1, fun hn => absurd hn hp, fun _ => hs.2⟩
        · exact hs.elim
      · exact hs.elim
  case typeAssert x t at_ b => cases b with
    | false => exact hs.elim
    | true => simp only at hs ⊢; unfold assertE at hs; unfold assertW; (repeat' split at hs) <;> first | exact hs.elim | (simp only [stepK_some] at hs; simp_all)
  case extract => (repeat' split at hs) <;> first | exact hs.elim | (simp only [stepK_some] at hs; simp_all)
  case call cl =>
    split at hs
    · rename_i b hb
      simp only [hb]
      generalize cl.args.toList.map ρ = args at hs ⊢
      generalize cl.argTypes.toList = ats at hs ⊢
      unfold builtinE at hs
      unfold builtinW
      split at hs
      · unfold lenE at hs; unfold lenW; (repeat' split at hs) <;> first | exact hs.elim | (simp only [stepK_some] at hs; simp_all)
      · unfold appendE at hs; unfold appendW; (repeat' split at hs) <;> first | exact hs.elim | (simp only [stepK_some] at hs; simp_all)
      · (repeat' split at hs) <;> first | exact hs.elim | (simp only [stepK_some] at hs; simp_all)
      · (repeat' split at hs) <;> first | exact hs.elim | (simp only [stepK_some] at hs; simp_all)
      · (repeat' split at hs) <;> first | exact hs.elim | (simp only [stepK_some] at hs; simp_all)
      · (repeat' split at hs) <;> first | exact hs.elim | (simp only [stepK_some] at hs; simp_all)
      · exact hs.elim
    · exact hs.elim
theorem buildSealE_ok {t : TypeId} {len : Nat} {parts : List (Nat × AV)} (hs : stepK (buildSealE P t len parts h) K) : buildSealW P t len parts h K := by
  unfold buildSealE at hs; unfold buildSealW; (repeat' split at hs) <;> first | exact hs.elim | (simp only [stepK_some] at hs; simp_all)
end
end Go.Mac

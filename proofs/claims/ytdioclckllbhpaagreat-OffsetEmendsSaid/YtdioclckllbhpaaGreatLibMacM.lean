/- A part of the logic and of the contracts of the functions that the statement reaches; the statement itself is proved in the last text. -/
import Derived.Test.YtdioclckllbhpaaGreatLibMacLA

set_option linter.all false
set_option linter.unusedVariables false
set_option linter.unusedSimpArgs false
set_option linter.unnecessarySimpa false
namespace Go.Mac
open Go Go.Conc
def pickA (t : Bool) : AV → AV → AV
  | .bool x, .bool y => .bool (if t then x else y)
  | a, b => if t then a else b
def isIntD : TypeDesc → Bool
  | .int _ => true
  | _ => false
def isIfaceD : TypeDesc → Bool
  | .interface _ => true
  | _ => false
def buildW (P : Program) (t : TypeId) (parts : List (Nat × AV)) (h : List Blk) (K : AV → List Blk → Prop) : Prop :=
  match tyT P t with
  | some f => match f.d, f.ze with
    | .struct fs, some z => match placesA P fs.toList with
      | some pl => match fillA (pl[·]?) z parts with
        | some out => K (.agg out) h
        | none => False
      | none => False
    | .array _ te, some z => match tyT P te with
      | some fe => match fillA (fun i => some (i * fe.sz, fe.sz)) z parts with
        | some out => K (.agg out) h
        | none => False
      | none => False
    | _, _ => False
  | none => False
def buildSliceW (P : Program) (t : TypeId) (len : Nat) (parts : List (Nat × AV)) (h : List Blk) (K : AV → List Blk → Prop) : Prop :=
  match tyT P t with
  | some f => match f.d with
    | .slice te => match tyT P te with
      | some fe => match fe.ze with
        | some z => match fillA (fun i => some (i * fe.sz, fe.sz)) (if len * fe.sz = 0 then [] else zeroRow z (len * fe.sz)) parts with
          | some out => len * fe.sz ≤ 16777216 ∧ out.length = len * fe.sz ∧ K (.sl ⟨h.length, 0⟩ fe.sz 0 len) (h ++ [.cells 0 out])
          | none => False
        | none => False
      | none => False
    | _ => False
  | none => False
def loadW (P : Program) (t : TypeId) (a : AV) (h : List Blk) (K : AV → List Blk → Prop) : Prop :=
  match tyT P t, cellsAt h a with
  | some f, some cs => (if aggD f.d then f.sz else 1) ≤ cs.length ∧ K (readA f cs) h
  | _, _ => False
def storeW (P : Program) (t : TypeId) (a v : AV) (h : List Blk) (K : AV → List Blk → Prop) : Prop :=
  match a, tyT P t, valCells v with
  | .ptr n off, some f, some vs => match h[n.id]? with
    | some (.cells g cs) => g = n.gen ∧ vs.all leafA = true ∧ vs.length = f.sz ∧ off + vs.length ≤ cs.length ∧ K (.tup []) (h.set n.id (.cells g (setMany cs off vs)))
    | _ => False
  | _, _, _ => False
def nilCheckW (a : AV) (h : List Blk) (K : AV → List Blk → Prop) : Prop :=
  match a with
  | .ptr .. | .pptr .. => K a h
  | .fn (.func _) _ _ => K a h
  | .iface _ _ => K a h
  | .yield _ => K a h
  | _ => False
def binW (P : Program) (op : BinOp) (t : TypeId) (x y : AV) (h : List Blk) (K : AV → List Blk → Prop) : Prop :=
  match x, y with
  | .int k a, .int k' b => match op with
    | .shl | .shr => match shInt op k a b with
      | some v => ¬ b < 0 ∧ K v h
      | none => False
    | .quo | .rem => match divInt op k a b with
      | some v => k = k' ∧ b ≠ 0 ∧ K v h
      | none => False
    | _ => match binInt op k a b with
      | some v => k = k' ∧ K v h
      | none => False
  | .str a, .str b => match binStr op a b with
    | some v => a.length + b.length ≤ 9223372036854775807 ∧ K v h
    | none => False
  | .bool a, .bool b => match tyT P t, op with
    | some f, .eql => f.d = .bool ∧ K (.bool (a == b)) h
    | some f, .neq => f.d = .bool ∧ K (.bool (a != b)) h
    | _, _ => False
  | .agg a, .agg b => P.eqGuardType P.depth t = false ∧ match eqA P 6 t (.agg a) (.agg b), op with
    | some r, .eql => K (.bool r) h
    | some r, .neq => K (.bool (!r)) h
    | _, _ => False
  | _, _ => False
def unW (op : UnOp) (x : AV) (h : List Blk) (K : AV → List Blk → Prop) : Prop :=
  match op, x with
  | .not, .bool b => K (.bool !b) h
  | .neg, .int k n => K (.int k (k.wrap (0 - n))) h
  | _, _ => False
def convBytesW (P : Program) (d : TypeDesc) (x : AV) (h : List Blk) (K : AV → List Blk → Prop) : Prop :=
  match d with
  | .slice e => match tyT P e with
    | some fe => match srcA h 1 x with
      | some (cs, m) => match bytesA cs with
        | some bs => fe.d = .int .u8 ∧ cs.length = m ∧ K (.str bs) h
        | none => False
      | none => False
    | none => False
  | _ => False
def convW (P : Program) (s d : TypeId) (x : AV) (h : List Blk) (K : AV → List Blk → Prop) : Prop :=
  match tyT P s, tyT P d with
  | some fs, some fd => match fd.d, x with
    | .int k, .int _ n => K (.int k (k.wrap n)) h
    | .string, .str l => K (.str l) h
    | .string, .sl n sz off len => convBytesW P fs.d (.sl n sz off len) h K
    | .string, .psl l len => convBytesW P fs.d (.psl l len) h K
    | _, _ => False
  | _, _ => False
def fieldAddrW (P : Program) (t : TypeId) (a : AV) (i : Nat) (h : List Blk) (K : AV → List Blk → Prop) : Prop :=
  match tyT P t with
  | some f => match f.d with
    | .struct fs => match fs[i]? with
      | some fd => match tyT P fd.type, addA a fd.offset with
        | some ff, some a' => ff.sz ≠ 0 ∧ reachA a fd.offset ∧ K a' h
        | _, _ => False
      | none => False
    | _ => False
  | none => False
def fieldW (P : Program) (t : TypeId) (x : AV) (i : Nat) (h : List Blk) (K : AV → List Blk → Prop) : Prop :=
  match tyT P t, x with
  | some f, .agg cs => match f.d with
    | .struct fs => match fs[i]? with
      | some fd => match tyT P fd.type with
        | some ff => (aggD ff.d = false → fd.offset < cs.length) ∧ K (partA ff cs fd.offset) h
        | none => False
      | none => False
    | _ => False
  | _, _ => False
def indexAddrW (P : Program) (t : TypeId) (x ix : AV) (h : List Blk) (K : AV → List Blk → Prop) : Prop :=
  match tyT P t, ix with
  | some f, .int _ i => match f.d with
    | .slice e => match tyT P e, x with
      | some fe, .sl n sz off len => sz = fe.sz ∧ 0 ≤ i ∧ i < len ∧ (∃ cs, h[n.id]? = some (.cells n.gen cs)) ∧ K (.ptr n (off + i.toNat * fe.sz)) h
      | some fe, .psl cells len => 0 ≤ i ∧ i < len ∧ i.toNat * fe.sz ≤ cells.length ∧ K (.pptr (cells.drop (i.toNat * fe.sz))) h
      | _, _ => False
    | .array len e => match tyT P e with
      | some fe => match addA x (i.toNat * fe.sz) with
        | some a' => 0 ≤ i ∧ i < len ∧ reachA x (i.toNat * fe.sz) ∧ K a' h
        | none => False
      | none => False
    | _ => False
  | _, _ => False
def indexW (P : Program) (t : TypeId) (x ix : AV) (h : List Blk) (K : AV → List Blk → Prop) : Prop :=
  match tyT P t, ix, x with
  | some f, .int _ i, .agg cs => match f.d with
    | .array len e => match tyT P e with
      | some fe => 0 ≤ i ∧ i < len ∧ (aggD fe.d = false → i.toNat * fe.sz < cs.length) ∧ K (partA fe cs (i.toNat * fe.sz)) h
      | none => False
    | _ => False
  | some f, .int _ i, .str s => f.d = .string ∧ 0 ≤ i ∧ ∃ b, s[i.toNat]? = some b ∧ K (.int .u8 b.toNat) h
  | _, _, _ => False
def sliceW (P : Program) (t : TypeId) (x : AV) (lo hi : Option AV) (h : List Blk) (K : AV → List Blk → Prop) : Prop :=
  match tyT P t with
  | some f => match f.d, x with
    | .string, .str s => match loB lo, hiB s.length hi with
      | some l, some u => 0 ≤ l ∧ l ≤ u ∧ u ≤ s.length ∧ K (.str ((s.drop l.toNat).take (u.toNat - l.toNat))) h
      | _, _ => False
    | .slice e, .psl cells len => match tyT P e, loB lo, hiB len hi with
      | some fe, some l, some u => 0 ≤ l ∧ l ≤ u ∧ u ≤ len ∧ len * fe.sz ≤ cells.length ∧ K (.psl ((cells.drop (l.toNat * fe.sz)).take ((u.toNat - l.toNat) * fe.sz)) (u.toNat - l.toNat)) h
      | _, _, _ => False
    | .slice e, .sl n sz off len => match tyT P e, loB lo, hiB len hi with
      | some fe, some l, some u => sz = fe.sz ∧ 0 ≤ l ∧ l ≤ u ∧ u ≤ len ∧ (l < len ∨ l = 0) ∧ (∃ cs, h[n.id]? = some (.cells n.gen cs)) ∧ K (.sl n fe.sz (off + l.toNat * fe.sz) (u.toNat - l.toNat)) h
      | _, _, _ => False
    | _, _ => False
  | none => False
def slice3W (P : Program) (t : TypeId) (x : AV) (lo hi : Option AV) (mx : AV) (h : List Blk) (K : AV → List Blk → Prop) : Prop :=
  match tyT P t with
  | some f => match f.d, x with
    | .slice e, .psl cells len => match tyT P e, loB lo, hi, mx with
      | some fe, some l, some (.int _ u), .int _ m => 0 ≤ l ∧ l ≤ u ∧ u ≤ m ∧ m ≤ len ∧ len * fe.sz ≤ cells.length ∧ K (.psl ((cells.drop (l.toNat * fe.sz)).take ((u.toNat - l.toNat) * fe.sz)) (u.toNat - l.toNat)) h
      | _, _, _, _ => False
    | _, _ => False
  | none => False
def lookupW (P : Program) (t : TypeId) (x k : AV) (cok : Bool) (h : List Blk) (K : AV → List Blk → Prop) : Prop :=
  match tyT P t with
  | some f => match f.d with
    | .map kt et => match tyT P kt, tyT P et, mapOf h x with
      | some _, some fe, some (ks, vs) => eqA P 6 kt k k = some true ∧ zeroFits P et = true ∧ match fe.ze, findA P kt k ks 0 with
        | some z, some r => K (let v := match r with | some j => vs.getD j .any | none => zeroA fe z; if cok then .tup [v, .bool r.isSome] else v) h
        | _, _ => False
      | _, _, _ => False
    | _ => False
  | none => False
def mapUpdateW (P : Program) (t : TypeId) (x k v : AV) (h : List Blk) (K : AV → List Blk → Prop) : Prop :=
  match tyT P t, x with
  | some f, .map n => match f.d, h[n.id]? with
    | .map kt _, some (.map ks vs) => match tyT P kt, findA P kt k ks 0 with
      | some _, some r => n.gen = 0 ∧ eqA P 6 kt k k = some true ∧ match r with
        | some j => ks[j]? = some k ∧ K (.tup []) (h.set n.id (.map ks (vs.set j v)))
        | none => K (.tup []) (h.set n.id (.map (ks ++ [k]) (vs ++ [v])))
      | _, _ => False
    | _, _ => False
  | _, _ => False
def assertW (P : Program) (at_ : TypeId) (x : AV) (h : List Blk) (K : AV → List Blk → Prop) : Prop :=
  match tyT P at_ with
  | some f => isIfaceD f.d = false ∧ match x with
    | .iface t v => (t = at_ → K (.tup [v, .bool true]) h) ∧ (t ≠ at_ → match f.ze with
      | some z => zeroFits P at_ = true ∧ K (.tup [zeroA f z, .bool false]) h
      | none => False)
    | .niliface => match f.ze with
      | some z => zeroFits P at_ = true ∧ K (.tup [zeroA f z, .bool false]) h
      | none => False
    | _ => False
  | none => False
def appendW (P : Program) (st xt : TypeId) (d a : AV) (h : List Blk) (K : AV → List Blk → Prop) : Prop :=
  match d, tyT P st, tyT P xt with
  | .sl n sz 0 len, some f, some fx => match f.d, h[n.id]? with
    | .slice e, some (.cells g cs) => match tyT P e with
      | some fe => match fe.ze, srcA h fe.sz a with
        | some z, some (new, m) => isIntD fx.d = false ∧ sz = fe.sz ∧ g = n.gen ∧ z.length = fe.sz ∧ cs.length = len * fe.sz ∧ new.length = m * fe.sz ∧ (∀ s, a = .str s → fe.sz = 1) ∧ new.all leafA = true ∧ len + m ≤ 4294967296 ∧ fe.bytes ≤ 4096 ∧
            K (.sl ⟨n.id, n.gen + 1⟩ fe.sz 0 (len + m)) (h.set n.id (.cells (n.gen + 1) (cs ++ new)))
        | _, _ => False
      | none => False
    | _, _ => False
  | _, _, _ => False
def lenW (P : Program) (t : TypeId) (x : AV) (h : List Blk) (K : AV → List Blk → Prop) : Prop :=
  match tyT P t with
  | some f => match f.d, x with
    | .string, .str s => K (.int .i64 s.length) h
    | .slice _, .psl _ len => K (.int .i64 len) h
    | .slice _, .nilsl => K (.int .i64 0) h
    | .slice _, .sl n _ _ len => (∃ cs, h[n.id]? = some (.cells n.gen cs)) ∧ K (.int .i64 len) h
    | _, _ => False
  | none => False
def intsOf (k : IntKind) : List AV → Option (List Int)
  | [] => some []
  | .int k' n :: l => if k' = k then (intsOf k l).map (n :: ·) else none
  | _ :: _ => none
def builtinW (P : Program) (b : Builtin) (ats : List TypeId) (args : List AV) (h : List Blk) (K : AV → List Blk → Prop) : Prop :=
  match b, ats, args with
  | .len, [t], [x] => lenW P t x h K
  | .append, [st, xt], [d, a] => appendW P st xt d a h K
  | .max, _, .int k a :: l => match intsOf k l with
    | some ns => K (.int k (ns.foldl (fun x y => if y > x then y else x) a)) h
    | none => False
  | .min, _, .int k a :: l => match intsOf k l with
    | some ns => K (.int k (ns.foldl (fun x y => if y < x then y else x) a)) h
    | none => False
  | .copy, [st, _], [.sl n sz off len, a] => match tyT P st with
    | some f => match f.d, h[n.id]? with
      | .slice e, some (.cells g cs) => match tyT P e with
        | some fe => match srcA h fe.sz a with
          | some (src, m) => sz = fe.sz ∧ g = n.gen ∧ off + len * fe.sz ≤ cs.length ∧ src.length = m * fe.sz ∧ (∀ s, a = .str s → fe.sz = 1) ∧ src.all leafA = true ∧
              K (.int .i64 (Nat.min m len)) (h.set n.id (.cells n.gen (setMany cs off (src.take (Nat.min m len * fe.sz)))))
          | none => False
        | none => False
      | _, _ => False
    | none => False
  | .clear, [st], [.sl n sz off len] => match tyT P st with
    | some f => match f.d, h[n.id]? with
      | .slice e, some (.cells g cs) => match tyT P e with
        | some fe => match fe.ze with
          | some z => sz = fe.sz ∧ g = n.gen ∧ z.length = fe.sz ∧ z.all leafA = true ∧ off + len * fe.sz ≤ cs.length ∧ K (.tup []) (h.set n.id (.cells n.gen (setMany cs off (zeroRow z (len * fe.sz)))))
          | none => False
        | none => False
      | _, _ => False
    | none => False
  | _, _, _ => False
def opW (P : Program) (op : Op) (ρ : Operand → AV) (h : List Blk) (K : AV → List Blk → Prop) : Prop :=
  match op with
  | .move x | .assign x => K (ρ x) h
  | .pick x a b => match ρ x with
    | .bool t => K (pickA t (ρ a) (ρ b)) h
    | _ => False
  | .alloc e => match tyT P e with
    | some f => match f.ze with
      | some z => K (.ptr ⟨h.length, 0⟩ 0) (h ++ [.cells 0 z])
      | none => False
    | none => False
  | .box _ x => match valCells (ρ x) with
    | some cs => K (.ptr ⟨h.length, 0⟩ 0) (h ++ [.cells 0 cs])
    | none => False
  | .build t parts => buildW P t (parts.toList.map fun p => (p.1, ρ p.2)) h K
  | .buildSlice t len parts => buildSliceW P t len (parts.toList.map fun p => (p.1, ρ p.2)) h K
  | .load t a => loadW P t (ρ a) h K
  | .store t a v => storeW P t (ρ a) (ρ v) h K
  | .nilCheck x => nilCheckW (ρ x) h K
  | .binOp op t x y _ => binW P op t (ρ x) (ρ y) h K
  | .unOp op _ x => unW op (ρ x) h K
  | .convert s d x => convW P s d (ρ x) h K
  | .makeInterface t x => match tyT P t with
    | some f => isIfaceD f.d = false ∧ K (.iface t (ρ x)) h
    | none => False
  | .makeFunc fn first cap => K (.fn fn (first.toList.map ρ) (cap.toList.map ρ)) h
  | .makeMap _ none => K (.map ⟨h.length, 0⟩) (h ++ [.map [] []])
  | .makeSlice t l cp => match tyT P t, ρ l, ρ cp with
    | some f, .int _ n, .int _ n' => match f.d with
      | .slice e => match tyT P e with
        | some fe => match fe.ze with
          | some z => n' = n ∧ 0 ≤ n ∧ fe.bytes * n ≤ 281474976710656 ∧ n ≤ 281474976710656 ∧ K (.sl ⟨h.length, 0⟩ fe.sz 0 n.toNat) (h ++ [.cells 0 (if n.toNat * fe.sz = 0 then [] else zeroRow z (n.toNat * fe.sz))])
          | none => False
        | none => False
      | _ => False
    | _, _, _ => False
  | .slice t x lo hi none => sliceW P t (ρ x) (lo.map ρ) (hi.map ρ) h K
  | .slice t x lo hi (some mx) => slice3W P t (ρ x) (lo.map ρ) (hi.map ρ) (ρ mx) h K
  | .fieldAddr t a i => fieldAddrW P t (ρ a) i h K
  | .field t x i => fieldW P t (ρ x) i h K
  | .indexAddr t x i => indexAddrW P t (ρ x) (ρ i) h K
  | .index t x i => indexW P t (ρ x) (ρ i) h K
  | .lookup t x k cok => lookupW P t (ρ x) (ρ k) cok h K
  | .mapUpdate t x k v | .insert t x k v => mapUpdateW P t (ρ x) (ρ k) (ρ v) h K
  | .range t x => match tyT P t, ρ x with
    | some f, .str s => f.d = .string ∧ K (.ptr ⟨h.length, 0⟩ 0) (h ++ [.iter s 0])
    | _, _ => False
  | .next x true => match ρ x with
    | .ptr n 0 => match h[n.id]? with
      | some (.iter s pos) => n.gen = 0 ∧ (pos < s.length → K (.tup [.bool true, .int .i64 pos, .int .i32 (Utf8.decode ⟨s.toArray⟩ pos).1]) (h.set n.id (.iter s (pos + (Utf8.decode ⟨s.toArray⟩ pos).2)))) ∧
          (¬ pos < s.length → K (.tup [.bool false]) h)
      | _ => False
    | _ => False
  | .typeAssert x _ at_ true => assertW P at_ (ρ x) h K
  | .extract x i => match ρ x with
    | .tup vs => match vs[i]? with
      | some v => K v h
      | none => False
    | _ => False
  | .call cl => match cl.callee with
    | .builtin b => builtinW P b cl.argTypes.toList (cl.args.toList.map ρ) h K
    | _ => False
  | _ => False
section
variable {P : Program} {c : Cx} {w : World} {h : List Blk} {K : AV → List Blk → Prop}
theorem VRP_map {ρA : Operand → AV} {ρ : Operand → Value} (hρ : ∀ x, VR c (ρA x) (ρ x)) : ∀ l : List (Nat × Operand), VRP c (l.map fun p => (p.1, ρA p.2)) (l.map fun p => (p.1, ρ p.2))
  | [] => rfl
  | p :: l => ⟨_, _, rfl, hρ p.2, VRP_map hρ l⟩
theorem VRL_mapO {ρA : Operand → AV} {ρ : Operand → Value} (hρ : ∀ x, VR c (ρA x) (ρ x)) : ∀ l : List Operand, VRL c (l.map ρA) (l.map ρ)
  | [] => rfl
  | p :: l => ⟨_, _, rfl, hρ p, VRL_mapO hρ l⟩
theorem VR_pick {t : Bool} {a b : AV} {A B : Value} (ha : VR c a A) (hb : VR c b B) : VR c (pickA t a b) (if t then A else B) := by
  have key : VR c (if t then a else b) (if t then A else B) := by cases t <;> simpa
  cases a <;> cases b <;> first | exact key | (cases ha; cases hb; cases t <;> rfl)
theorem ints_ok {k : IntKind} : ∀ {l : List AV} {L : List Value} {ns : List Int}, intsOf k l = some ns → VRL c l L → L = ns.map (Value.int k)
  | [], _, _, h, hv => by cases h; exact hv
  | a :: l, _, ns, h, hv => by
    obtain ⟨v, vs, rfl, h1, h2⟩ := hv
    cases a <;> simp only [intsOf, reduceCtorEq] at h
    split at h
    · rename_i hk
      subst hk
      cases hl : intsOf _ l with
      | none => rw [hl] at h; cases h
      | some ns' =>
        rw [hl] at h
        cases h
        rw [ints_ok hl h2]
        cases h1
        rfl
    · cases h
theorem opt_map {ρA : Operand → AV} {ρ : Operand → Value} (hρ : ∀ x, VR c (ρA x) (ρ x)) (o : Option Operand) : (∀ a, o.map ρA = some a → ∃ V, o.map ρ = some V ∧ VR c a V) ∧ (o.map ρA = none → o.map ρ = none) := by
  cases o with
  | none => exact ⟨(fun a h => by cases h), (fun _ => rfl)⟩
  | some x => exact ⟨(fun a h => by cases h; exact ⟨_, rfl, hρ x⟩), (fun h => by cases h)⟩
theorem opW_ok {o : Oper} {ρA : Operand → AV} {ρ : Operand → Value} (hw : opW P o.op ρA h K) (hρ : ∀ x, VR c (ρA x) (ρ x)) (hH : HR c w h) : OpOk P (execOp ρ o) K c w := by
  obtain ⟨dst, op, ty, pos, after, guard⟩ := o
  simp only [execOp]
  cases op <;> simp only [opW] at hw <;> simp only []
  case move x => exact OpOk.pure (hρ x) hH hw
  case assign x => exact OpOk.pure (hρ x) hH hw
  case pick x a b =>
    have hx := hρ x
    split at hw
    · rename_i t e
      rw [e] at hx
      have hx' : ρ x = .bool t := hx
      rw [hx']
      refine Ok.then (a := t) rfl ?_
      exact OpOk.pure (VR_pick (hρ a) (hρ b)) hH hw
    · exact hw.elim
  case alloc e =>
    split at hw
    · rename_i f hf
      split at hw
      · rename_i z hz
        exact OpOk.value (opk_alloc hf hz hH hw)
      · exact hw.elim
    · exact hw.elim
  case box e x =>
    split at hw
    · rename_i cs hc
      exact OpOk.value (opk_box hc (hρ x) hH hw)
    · exact hw.elim
  case build t parts =>
    have hp := VRP_map hρ parts.toList
    have hp' : VRP c (parts.toList.map fun p => (p.1, ρA p.2)) (parts.map fun x => (x.1, ρ x.2)).toList := by simpa using hp
    unfold buildW at hw
    split at hw
    · rename_i f hf
      split at hw
      · rename_i fs z hd hz
        split at hw
        · rename_i pl hpl
          split at hw
          · rename_i out ho
            exact OpOk.value (opk_buildStruct hf hd hz hpl ho hp' hH hw)
          · exact hw.elim
        · exact hw.elim
      · rename_i len te z hd hz
        split at hw
        · rename_i fe hfe
          split at hw
          · rename_i out ho
            exact OpOk.value (opk_buildArr hf hd hz hfe ho hp' hH hw)
          · exact hw.elim
        · exact hw.elim
      · exact hw.elim
    · exact hw.elim
  case buildSlice t len parts =>
    have hp := VRP_map hρ parts.toList
    have hp' : VRP c (parts.toList.map fun p => (p.1, ρA p.2)) (parts.map fun x => (x.1, ρ x.2)).toList := by simpa using hp
    unfold buildSliceW at hw
    split at hw
    · rename_i f hf
      split at hw
      · rename_i te hd
        split at hw
        · rename_i fe hfe
          split at hw
          · rename_i z hz
            split at hw
            · rename_i out ho
              exact OpOk.value (opk_buildSlice hf hd hfe hz hw.1 ho hw.2.1 hp' hH hw.2.2)
            · exact hw.elim
          · exact hw.elim
        · exact hw.elim
      · exact hw.elim
    · exact hw.elim
  case load t a =>
    unfold loadW at hw
    split at hw
    · rename_i f cs hf hc
      exact OpOk.value (opk_load hf hc hw.1 (hρ a) hH hw.2)
    · exact hw.elim
  case store t a v =>
    have ha := hρ a
    unfold storeW at hw
    split at hw
    · rename_i n off f vs e hf hvs
      rw [e] at ha
      split at hw
      · rename_i g cs hb
        obtain ⟨rfl, h1, h2, h3, h4⟩ := hw
        exact OpOk.unit (opk_store hf hb hvs h1 h2 h3 ha (hρ v) hH h4)
      · exact hw.elim
    · exact hw.elim
  case nilCheck x =>
    have hx := hρ x
    unfold nilCheckW at hw
    split at hw
    · rename_i n off e
      rw [e] at hx hw
      obtain ⟨⟨ad, hV⟩, hx2⟩ := hx
      have hx3 : VR c (.ptr n off) (.pointer (some ad)) := by rw [← hV]; exact ⟨⟨ad, hV⟩, hx2⟩
      rw [hV]
      exact OpOk.pure hx3 hH hw
    · rename_i cs e
      rw [e] at hx hw
      have hx3 := hx
      obtain ⟨b, o, arr, el, fz, l, hV, _⟩ := hx
      rw [hV] at hx3 ⊢
      exact OpOk.pure hx3 hH hw
    · rename_i f a b e
      rw [e] at hx hw
      have hx3 := hx
      obtain ⟨l1, l2, hV, _⟩ := hx
      rw [hV] at hx3 ⊢
      exact OpOk.pure hx3 hH hw
    · rename_i t v e
      rw [e] at hx hw
      have hx3 := hx
      obtain ⟨y, hV, _⟩ := hx
      rw [hV] at hx3 ⊢
      exact OpOk.pure hx3 hH hw
    · rename_i n e
      rw [e] at hx hw
      obtain ⟨⟨l, hV⟩, hx2⟩ := hx
      have hx3 : VR c (.yield n) (.func (.yield l) #[] #[]) := by rw [← hV]; exact ⟨⟨l, hV⟩, hx2⟩
      rw [hV]
      exact OpOk.pure hx3 hH hw
    · exact hw.elim
  case binOp op t x y u =>
    have hx := hρ x
    have hy := hρ y
    unfold binW at hw
    split at hw
    · rename_i k a k' b e1 e2
      rw [e1] at hx
      rw [e2] at hy
      have hx' : ρ x = .int k a := hx
      have hy' : ρ y = .int k' b := hy
      rw [hx', hy']
      split at hw
      · split at hw
        · rename_i v hv; exact OpOk.value (opk_shInt hv hw.1 hH hw.2)
        · exact hw.elim
      · split at hw
        · rename_i v hv; exact OpOk.value (opk_shInt hv hw.1 hH hw.2)
        · exact hw.elim
      · split at hw
        · rename_i v hv; obtain ⟨rfl, h0, hK⟩ := hw; exact OpOk.value (opk_divInt hv h0 hH hK)
        · exact hw.elim
      · split at hw
        · rename_i v hv; obtain ⟨rfl, h0, hK⟩ := hw; exact OpOk.value (opk_divInt hv h0 hH hK)
        · exact hw.elim
      · split at hw
        · rename_i v hv; obtain ⟨rfl, hK⟩ := hw; exact OpOk.value (opk_binInt hv hH hK)
        · exact hw.elim
    · rename_i a b e1 e2
      rw [e1] at hx
      rw [e2] at hy
      have hx' : ρ x = .string ⟨a.toArray⟩ := hx
      have hy' : ρ y = .string ⟨b.toArray⟩ := hy
      rw [hx', hy']
      split at hw
      · rename_i v hv; exact OpOk.value (opk_binStr hv hw.1 hH hw.2)
      · exact hw.elim
    · rename_i a b e1 e2
      rw [e1] at hx
      rw [e2] at hy
      have hx' : ρ x = .bool a := hx
      have hy' : ρ y = .bool b := hy
      rw [hx', hy']
      split at hw
      · rename_i f hf; exact OpOk.value (opk_eqBool hf hw.1 (.inl rfl) hH (by simpa using hw.2))
      · rename_i f hf; exact OpOk.value (opk_eqBool hf hw.1 (.inr rfl) hH (by simpa using hw.2))
      · exact hw.elim
    · rename_i a b e1 e2
      rw [e1] at hx
      rw [e2] at hy
      obtain ⟨hgd, hw⟩ := hw
      obtain ⟨l1, hx', hl1⟩ := hx
      obtain ⟨l2, hy', hl2⟩ := hy
      rw [hx', hy']
      have hgu : ∀ op', op' = .eql ∨ op' = .neq → Ok P c w.heap.size (eqGuard op' t x y (.agg l1.toArray) (.agg l2.toArray)) w (fun r => r = .ok () w) := by
        rintro op' (rfl | rfl)
        · refine Ok.then (a := P) rfl (Ok.then (a := P) rfl ?_)
          rw [hgd]
          exact ok_pure rfl
        · refine Ok.then (a := P) rfl (Ok.then (a := P) rfl ?_)
          rw [hgd]
          exact ok_pure rfl
      split at hw
      · rename_i r hr
        refine OpOk.value (VOk.pure (v := .bool r) ?_ hH hw)
        refine Ok.then (hgu _ (.inl rfl)) ?_
        simp only [binOp, Op.equal, Op.maxDepth]
        exact Ok.then (ok_equalIn 6 (by decide) hr ⟨l1, rfl, hl1⟩ ⟨l2, rfl, hl2⟩) (ok_pure ⟨_, rfl, rfl⟩)
      · rename_i r hr
        refine OpOk.value (VOk.pure (v := .bool !r) ?_ hH hw)
        refine Ok.then (hgu _ (.inr rfl)) ?_
        simp only [binOp, Op.equal, Op.maxDepth]
        exact Ok.then (ok_equalIn 6 (by decide) hr ⟨l1, rfl, hl1⟩ ⟨l2, rfl, hl2⟩) (ok_pure ⟨_, rfl, rfl⟩)
      · exact hw.elim
    · exact hw.elim
  case unOp op t x =>
    have hx := hρ x
    unfold unW at hw
    split at hw
    · rename_i b e; rw [e] at hx; have hx' : ρ x = .bool b := hx; rw [hx']; exact OpOk.value (opk_not hH hw)
    · rename_i k n e; rw [e] at hx; have hx' : ρ x = .int k n := hx; rw [hx']; exact OpOk.value (opk_neg hH hw)
    · exact hw.elim
  case convert s d x =>
    have hx := hρ x
    unfold convW at hw
    split at hw
    · rename_i fs fd hs hd
      split at hw
      · rename_i k k' n hk e; rw [e] at hx; have hx' : ρ x = .int k' n := hx; rw [hx']; exact OpOk.value (opk_convInt hs hd hk hH hw)
      · rename_i l hk e; rw [e] at hx; have hx' : ρ x = .string ⟨l.toArray⟩ := hx; rw [hx']; exact OpOk.value (opk_convStr hs hd hk hH hw)
      · rename_i n sz off len hk e
        rw [e] at hx
        unfold convBytesW at hw
        (repeat' split at hw) <;> first | exact hw.elim | skip
        exact OpOk.value (opk_convBytes hs hd (by assumption) (by assumption) hw.1 hk (.inl ⟨_, _, _, _, rfl⟩) (by assumption) hw.2.1 (by assumption) hx hH hw.2.2)
      · rename_i l len hk e
        rw [e] at hx
        unfold convBytesW at hw
        (repeat' split at hw) <;> first | exact hw.elim | skip
        exact OpOk.value (opk_convBytes hs hd (by assumption) (by assumption) hw.1 hk (.inr ⟨_, _, rfl⟩) (by assumption) hw.2.1 (by assumption) hx hH hw.2.2)
      · exact hw.elim
    · exact hw.elim
  case makeInterface t x =>
    split at hw
    · rename_i f hf
      exact OpOk.value (opk_iface hf (by intro ms e; have := hw.1; rw [e] at this; cases this) (hρ x) hH hw.2)
    · exact hw.elim
  case makeFunc fn first cap =>
    exact OpOk.value (opk_makeFunc (by simpa using VRL_mapO hρ first.toList) (by simpa using VRL_mapO hρ cap.toList) hH hw)
  case makeMap t r =>
    cases r with
    | none => exact OpOk.value (opk_makeMap hH hw)
    | some r => exact hw.elim
  case makeSlice t l cp =>
    have hl := hρ l
    have hc := hρ cp
    split at hw
    · rename_i f k n k' n' hf e1 e2
      rw [e1] at hl
      rw [e2] at hc
      have hl' : ρ l = .int k n := hl
      have hc' : ρ cp = .int k' n' := hc
      rw [hl', hc']
      split at hw
      · rename_i e hd
        split at hw
        · rename_i fe hfe
          split at hw
          · rename_i z hz
            obtain ⟨rfl, h0, h1, h2, hK⟩ := hw
            exact OpOk.value (opk_makeSlice hf hd hfe hz h0 h1 h2 hH hK)
          · exact hw.elim
        · exact hw.elim
      · exact hw.elim
    · exact hw.elim
  case slice t x lo hi mx =>
    cases mx with
    | some mx =>
      have hx := hρ x
      have hm := hρ mx
      obtain ⟨a1, a2⟩ := opt_map hρ lo
      simp only [slice3W] at hw
      split at hw
      · rename_i f hf
        split at hw
        · rename_i e cells len hd ex
          rw [ex] at hx
          split at hw
          · rename_i fe l k1 u k2 m hfe hl hhi hmx
            rw [hmx] at hm
            have hm' : ρ mx = .int k2 m := hm
            cases hi with
            | none => cases hhi
            | some y =>
              simp only [Option.map_some, Option.some.injEq] at hhi
              have hy := hρ y
              rw [hhi] at hy
              have hy' : ρ y = .int k1 u := hy
              simp only [Option.map_some, hm', hy']
              exact OpOk.value (opk_slice3Psl hf hd hfe hl hw.1 hw.2.1 hw.2.2.1 hw.2.2.2.1 hw.2.2.2.2.1 a1 a2 hx hH hw.2.2.2.2.2)
          · exact hw.elim
        · exact hw.elim
      · exact hw.elim
    | none =>
      have hx := hρ x
      obtain ⟨a1, a2⟩ := opt_map hρ lo
      obtain ⟨b1, b2⟩ := opt_map hρ hi
      simp only [sliceW] at hw
      split at hw
      · rename_i f hf
        split at hw
        · rename_i s hd e
          rw [e] at hx
          have hx' : ρ x = .string ⟨s.toArray⟩ := hx
          rw [hx']
          split at hw
          · rename_i l u hl hu
            exact OpOk.value (opk_sliceStr hf hd hl hu hw.1 hw.2.1 hw.2.2.1 a1 a2 b1 b2 hH hw.2.2.2)
          · exact hw.elim
        · rename_i e cells len hd ex
          rw [ex] at hx
          split at hw
          · rename_i fe l u hfe hl hu
            exact OpOk.value (opk_slicePsl hf hd hfe hl hu hw.1 hw.2.1 hw.2.2.1 hw.2.2.2.1 a1 a2 b1 b2 hx hH hw.2.2.2.2)
          · exact hw.elim
        · rename_i e n sz off len hd ex
          rw [ex] at hx
          split at hw
          · rename_i fe l u hfe hl hu
            obtain ⟨rfl, h0, h1, h2, h3, ⟨cs, hcur⟩, hK⟩ := hw
            exact OpOk.value (opk_sliceSl hf hd hfe hcur hl hu h0 h1 h2 h3 a1 a2 b1 b2 hx hH hK)
          · exact hw.elim
        · exact hw.elim
      · exact hw.elim
  case fieldAddr t a i =>
    unfold fieldAddrW at hw
    split at hw
    · rename_i f hf
      split at hw
      · rename_i fs hd
        split at hw
        · rename_i fd hfd
          split at hw
          · rename_i ff a' hff ha
            exact OpOk.value (opk_fieldAddr hf hd hfd hff hw.1 ha hw.2.1 (hρ a) hH hw.2.2)
          · exact hw.elim
        · exact hw.elim
      · exact hw.elim
    · exact hw.elim
  case field t x i =>
    have hx := hρ x
    unfold fieldW at hw
    split at hw
    · rename_i f cs hf e
      rw [e] at hx
      split at hw
      · rename_i fs hd
        split at hw
        · rename_i fd hfd
          split at hw
          · rename_i ff hff
            exact OpOk.value (opk_field hf hd hfd hff hw.1 hx hH hw.2)
          · exact hw.elim
        · exact hw.elim
      · exact hw.elim
    · exact hw.elim
  case indexAddr t x i =>
    have hx := hρ x
    have hi := hρ i
    unfold indexAddrW at hw
    split at hw
    · rename_i f k n hf e
      rw [e] at hi
      have hi' : ρ i = .int k n := hi
      rw [hi']
      split at hw
      · rename_i e hd
        split at hw
        · rename_i fe m sz off len hfe ex
          rw [ex] at hx
          obtain ⟨rfl, h0, h1, hcur, hK⟩ := hw
          exact OpOk.value (opk_indexSl hf hd hfe h0 h1 hcur hx hH hK)
        · rename_i fe cells len hfe ex
          rw [ex] at hx
          exact OpOk.value (opk_indexPsl hf hd hfe hw.1 hw.2.1 hw.2.2.1 hx hH hw.2.2.2)
        · exact hw.elim
      · rename_i len e hd
        split at hw
        · rename_i fe hfe
          split at hw
          · rename_i a' ha
            exact OpOk.value (opk_indexPtr hf hd hfe hw.1 hw.2.1 ha hw.2.2.1 hx hH hw.2.2.2)
          · exact hw.elim
        · exact hw.elim
      · exact hw.elim
    · exact hw.elim
  case index t x i =>
    have hx := hρ x
    have hi := hρ i
    unfold indexW at hw
    split at hw
    · rename_i f k n cs hf e1 e2
      rw [e1] at hi
      rw [e2] at hx
      have hi' : ρ i = .int k n := hi
      rw [hi']
      split at hw
      · rename_i len e hd
        split at hw
        · rename_i fe hfe
          exact OpOk.value (opk_indexArr hf hd hfe hw.1 hw.2.1 hw.2.2.1 hx hH hw.2.2.2)
        · exact hw.elim
      · exact hw.elim
    · rename_i f k n s hf e1 e2
      rw [e1] at hi
      rw [e2] at hx
      have hi' : ρ i = .int k n := hi
      have hx' : ρ x = .string ⟨s.toArray⟩ := hx
      rw [hi', hx']
      obtain ⟨hd, h0, b, hb, hK⟩ := hw
      exact OpOk.value (opk_indexStr hf hd h0 hb hH hK)
    · exact hw.elim
  case lookup t x k cok =>
    unfold lookupW at hw
    split at hw
    · rename_i f hf
      split at hw
      · rename_i kt et hd
        split at hw
        · rename_i fk fe ks vs hk he hm
          obtain ⟨h1, h2, hw⟩ := hw
          split at hw
          · rename_i z r hz hr
            exact OpOk.value (opk_lookup hf hd hk he hz h2 hm h1 hr (hρ x) (hρ k) hH hw)
          · exact hw.elim
        · exact hw.elim
      · exact hw.elim
    · exact hw.elim
  case mapUpdate t x k v =>
    have hx := hρ x
    unfold mapUpdateW at hw
    split at hw
    · rename_i f n hf e
      rw [e] at hx
      split at hw
      · rename_i kt et ks vs hd hb
        split at hw
        · rename_i fk r hk hr
          obtain ⟨h1, h2, hw⟩ := hw
          exact OpOk.unit (opk_mapUpdate hf hd hk hb h1 h2 hr hx (hρ k) (hρ v) hH hw)
        · exact hw.elim
      · exact hw.elim
    · exact hw.elim
  case insert t x k v =>
    have hx := hρ x
    unfold mapUpdateW at hw
    split at hw
    · rename_i f n hf e
      rw [e] at hx
      split at hw
      · rename_i kt et ks vs hd hb
        split at hw
        · rename_i fk r hk hr
          obtain ⟨h1, h2, hw⟩ := hw
          exact OpOk.unit (opk_mapUpdate hf hd hk hb h1 h2 hr hx (hρ k) (hρ v) hH hw)
        · exact hw.elim
      · exact hw.elim
    · exact hw.elim
  case range t x =>
    have hx := hρ x
    split at hw
    · rename_i f s hf e
      rw [e] at hx
      have hx' : ρ x = .string ⟨s.toArray⟩ := hx
      rw [hx']
      exact OpOk.value (opk_rangeStr hf hw.1 hH hw.2)
    · exact hw.elim
  case next x st =>
    have hx := hρ x
    cases st with
    | false => exact hw.elim
    | true =>
      simp only [] at hw
      split at hw
      · rename_i n e
        rw [e] at hx
        split at hw
        · rename_i s pos hb
          exact OpOk.value (opk_nextStr hb hw.1 hx hH hw.2.1 hw.2.2)
        · exact hw.elim
      · exact hw.elim
  case typeAssert x xt at_ cok =>
    have hx := hρ x
    cases cok with
    | false => exact hw.elim
    | true =>
      simp only [assertW] at hw
      split at hw
      · rename_i f hf
        obtain ⟨h1, hw⟩ := hw
        have hni : ∀ ms, f.d ≠ .interface ms := by intro ms e; rw [e] at h1; cases h1
        split at hw
        · rename_i t v e
          rw [e] at hx
          refine OpOk.value (opk_assert hf hni hx hH hw.1 fun hne => ?_)
          have := hw.2 hne
          split at this
          · rename_i z hz; exact ⟨z, hz, this.1, this.2⟩
          · exact this.elim
        · rename_i e
          rw [e] at hx
          have hx' : ρ x = .nilIface := hx
          rw [hx']
          split at hw
          · rename_i z hz; exact OpOk.value (opk_assertNil hf hni hz hw.1 hH hw.2)
          · exact hw.elim
        · exact hw.elim
      · exact hw.elim
  case extract x i =>
    have hx := hρ x
    split at hw
    · rename_i vs e
      rw [e] at hx
      split at hw
      · rename_i v hv
        exact OpOk.value (opk_extract hv hx hH hw)
      · exact hw.elim
    · exact hw.elim
  case call cl =>
    obtain ⟨callee, args, ats⟩ := cl
    have hargs : VRL c (args.toList.map ρA) (args.toList.map ρ) := VRL_mapO hρ args.toList
    simp only [] at hw
    split at hw
    · rename_i b
      simp only [resolve]
      refine Ok.then (a := { target := .builtin b ats ty (args.map fun | .const _ => true | _ => false), args := args.map ρ }) rfl ?_
      simp only [invoke]
      have hArr : args.map ρ = (args.toList.map ρ).toArray := by rw [← Array.toList_map, Array.toArray_toList]
      rw [hArr]
      generalize args.toList.map ρA = as at hw hargs
      generalize args.toList.map ρ = Vs at hargs ⊢
      unfold builtinW at hw
      split at hw
      ·
        rename_i t x hats
        have hats' : ats = #[t] := by rw [← Array.toArray_toList (xs := ats), hats]
        subst hats'
        obtain ⟨V, vs, rfl, hV, hvs⟩ := hargs
        cases hvs
        simp only [builtin]
        refine OpOk.value ?_
        unfold lenW at hw
        split at hw
        · rename_i f hf
          split at hw
          · rename_i s hd; cases hV; exact opk_lenStr hf hd hH hw
          · rename_i e cells len hd; obtain ⟨a, k, rfl⟩ := psl_len hV; exact opk_lenSlice hf hd hH hw
          · rename_i e hd; cases hV; exact opk_lenSlice hf hd hH hw
          · rename_i e n sz off len hd; obtain ⟨⟨cs, hcur⟩, hK⟩ := hw; obtain ⟨a, k, rfl⟩ := sl_len hcur hH hV; exact opk_lenSlice hf hd hH hK
          · exact hw.elim
        · exact hw.elim
      ·
        rename_i st xt d a hats
        have hats' : ats = #[st, xt] := by rw [← Array.toArray_toList (xs := ats), hats]
        subst hats'
        obtain ⟨S, vs, rfl, hS, hvs⟩ := hargs
        obtain ⟨X, vs, rfl, hX, hvs⟩ := hvs
        cases hvs
        simp only [builtin]
        refine OpOk.value ?_
        unfold appendW at hw
        split at hw
        · rename_i n sz len f fx hf hfx
          split at hw
          · rename_i e g cs hd hb
            split at hw
            · rename_i fe hfe
              split at hw
              · rename_i z new m hz hs
                obtain ⟨h1, rfl, rfl, h2, h3, h4, h5, h6, h7, h8, hK⟩ := hw
                exact opk_append hf hd hfe hz h2 hfx (by intro k e; rw [e] at h1; cases h1) hb h3 hs h4 h5 h6 h7 h8 hS hX hH hK
              · exact hw.elim
            · exact hw.elim
          · exact hw.elim
        · exact hw.elim
      ·
        rename_i k a l
        obtain ⟨V, vs, rfl, hV, hvs⟩ := hargs
        cases hV
        split at hw
        · rename_i ns hns
          rw [ints_ok hns hvs]
          simp only [builtin]
          exact OpOk.value (opk_max (t := 0) ns hH hw)
        · exact hw.elim
      ·
        rename_i k a l
        obtain ⟨V, vs, rfl, hV, hvs⟩ := hargs
        cases hV
        split at hw
        · rename_i ns hns
          rw [ints_ok hns hvs]
          simp only [builtin]
          exact OpOk.value (opk_min ns hH hw)
        · exact hw.elim
      ·
        rename_i st xt n sz off len a hats
        have hats' : ats = #[st, xt] := by rw [← Array.toArray_toList (xs := ats), hats]
        subst hats'
        obtain ⟨S, vs, rfl, hS, hvs⟩ := hargs
        obtain ⟨X, vs, rfl, hX, hvs⟩ := hvs
        cases hvs
        simp only [builtin]
        refine OpOk.value ?_
        split at hw
        · rename_i f hf
          split at hw
          · rename_i e g cs hd hb
            split at hw
            · rename_i fe hfe
              split at hw
              · rename_i src m hs
                obtain ⟨rfl, rfl, h2, h3, h4, h5, hK⟩ := hw
                exact opk_copy hf hd hfe hb h2 hs h3 h4 h5 hS hX hH hK
              · exact hw.elim
            · exact hw.elim
          · exact hw.elim
        · exact hw.elim
      ·
        rename_i st n sz off len hats
        have hats' : ats = #[st] := by rw [← Array.toArray_toList (xs := ats), hats]
        subst hats'
        obtain ⟨S, vs, rfl, hS, hvs⟩ := hargs
        cases hvs
        simp only [builtin]
        refine OpOk.value ?_
        split at hw
        · rename_i f hf
          split at hw
          · rename_i e g cs hd hb
            split at hw
            · rename_i fe hfe
              split at hw
              · rename_i z hz
                obtain ⟨rfl, rfl, h2, h3, h4, hK⟩ := hw
                exact opk_clear hf hd hfe hz h2 h3 hb h4 hS hH hK
              · exact hw.elim
            · exact hw.elim
          · exact hw.elim
        · exact hw.elim
      · exact hw.elim
    · exact hw.elim
  all_goals exact hw.elim
end
end Go.Mac

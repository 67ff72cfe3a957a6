/- A part of the logic and of the contracts of the functions that the statement reaches; the statement itself is proved in the last text. -/
import Derived.Attr
import Derived.Test.YtdioclckllbhpaaGreatLibMacNW

set_option linter.all false
set_option linter.unusedVariables false
set_option linter.unusedSimpArgs false
set_option linter.unnecessarySimpa false
namespace Go.Mac
open Go Go.Conc
theorem evA_set_eq {l : List AV} {i : Nat} {v : AV} (h : i < l.length) : evA (l.set i v) (.tmp i) = v := by simp [evA, List.getD, h]
theorem evA_set_ne {l : List AV} {i j : Nat} {v : AV} (h : i ≠ j) : evA (l.set i v) (.tmp j) = evA l (.tmp j) := by simp [evA, List.getD, List.getElem?_set_ne h]
theorem evA_const (l : List AV) (v : Value) : evA l (.const v) = constA v := rfl
theorem evA_func (l : List AV) (f : FuncId) : evA l (.func f) = .fn (.func f) [] [] := rfl
def nth : Nat → List AV → AV
  | _, [] => .any
  | 0, a :: _ => a
  | n + 1, _ :: l => nth n l
def setN : Nat → AV → List AV → List AV
  | _, _, [] => []
  | 0, v, _ :: l => v :: l
  | n + 1, v, a :: l => a :: setN n v l
theorem nth_zero {a : AV} {l : List AV} : nth 0 (a :: l) = a := rfl
theorem nth_one {n : Nat} {a : AV} {l : List AV} : nth (n + 1) (a :: l) = nth n l := rfl
theorem nth_four {n : Nat} {a b c d : AV} {l : List AV} : nth (n + 4) (a :: b :: c :: d :: l) = nth n l := rfl
theorem nth_16 {n : Nat} {a b c d a1 b1 c1 d1 a2 b2 c2 d2 a3 b3 c3 d3 : AV} {l : List AV} : nth (n + 16) (a :: b :: c :: d :: a1 :: b1 :: c1 :: d1 :: a2 :: b2 :: c2 :: d2 :: a3 :: b3 :: c3 :: d3 :: l) = nth n l := rfl
theorem setN_zero {a v : AV} {l : List AV} : setN 0 v (a :: l) = v :: l := rfl
theorem setN_one {n : Nat} {a v : AV} {l : List AV} : setN (n + 1) v (a :: l) = a :: setN n v l := rfl
theorem setN_four {n : Nat} {v a b c d : AV} {l : List AV} : setN (n + 4) v (a :: b :: c :: d :: l) = a :: b :: c :: d :: setN n v l := rfl
theorem setN_16 {n : Nat} {v a b c d a1 b1 c1 d1 a2 b2 c2 d2 a3 b3 c3 d3 : AV} {l : List AV} : setN (n + 16) v (a :: b :: c :: d :: a1 :: b1 :: c1 :: d1 :: a2 :: b2 :: c2 :: d2 :: a3 :: b3 :: c3 :: d3 :: l) = a :: b :: c :: d :: a1 :: b1 :: c1 :: d1 :: a2 :: b2 :: c2 :: d2 :: a3 :: b3 :: c3 :: d3 :: setN n v l := rfl
theorem evA_tmp : ∀ {l : List AV} {t : Nat}, evA l (.tmp t) = nth t l
  | [], t => by simp [evA, nth]
  | a :: l, 0 => rfl
  | a :: l, t + 1 => by have := evA_tmp (l := l) (t := t); simpa [evA, nth, List.getD] using this
theorem putA_some : ∀ {l : List AV} {d : Nat} {v : AV}, putA l (some d) v = setN d v l
  | [], _, _ => by simp [putA, setN]
  | a :: l, 0, _ => rfl
  | a :: l, d + 1, v => by have := putA_some (l := l) (d := d) (v := v); simp only [putA, setN, List.set_cons_succ] at *; rw [this]
theorem putA_none {l : List AV} {v : AV} : putA l none v = l := rfl
def junk (j : Nat → AV) : Nat → Nat → List AV
  | _, 0 => []
  | k, m + 1 => j k :: junk j (k + 1) m
theorem junk_zero {j : Nat → AV} {k : Nat} : junk j k 0 = [] := rfl
theorem junk_succ {j : Nat → AV} {k m : Nat} : junk j k (m + 1) = j k :: junk j (k + 1) m := rfl
theorem junk_length (j : Nat → AV) : ∀ m k, (junk j k m).length = m
  | 0, _ => rfl
  | m + 1, k => by simp [junk, junk_length j m]
theorem junk_get (j : Nat → AV) : ∀ m k i, i < m → (junk j k m)[i]? = some (j (k + i))
  | 0, _, _, h => by omega
  | m + 1, k, 0, _ => rfl
  | m + 1, k, i + 1, h => by simp only [junk, List.getElem?_cons_succ]; rw [junk_get j m (k + 1) i (by omega)]; congr 2; omega
theorem slots_lit {l : List AV} {n : Nat} (h : l.length = n) : ∃ j : Nat → AV, l = junk j 0 n := by
  refine ⟨fun k => l.getD k .any, List.ext_getElem? fun i => ?_⟩
  by_cases hi : i < n
  · rw [junk_get _ _ _ _ hi, Nat.zero_add]
    simp [List.getD, h, hi]
  · rw [List.getElem?_eq_none (by omega), List.getElem?_eq_none (by rw [junk_length]; omega)]
theorem entry_lit {l args : List AV} {m : Nat} (h : l.length = args.length + m) (ha : ∀ i a, args[i]? = some a → evA l (.tmp i) = a) : ∃ j : Nat → AV, l = args ++ junk j args.length m := by
  refine ⟨fun k => l.getD k .any, List.ext_getElem? fun i => ?_⟩
  by_cases hi : i < args.length
  · rw [List.getElem?_append_left hi]
    have h1 := ha i _ (List.getElem?_eq_getElem hi)
    have h2 : i < l.length := by omega
    simp only [evA, List.getD, List.getElem?_eq_getElem h2, Option.getD_some] at h1
    rw [List.getElem?_eq_getElem h2, List.getElem?_eq_getElem hi, h1]
  · rw [List.getElem?_append_right (by omega)]
    by_cases hi2 : i < args.length + m
    · rw [junk_get _ _ _ _ (by omega)]
      simp [List.getD, h, hi2, show args.length + (i - args.length) = i by omega]
    · rw [List.getElem?_eq_none (by omega), List.getElem?_eq_none (by rw [junk_length]; omega)]
def withS (sl : List AV) (f : List AV → Prop) : Prop := f sl
theorem withS_eq {sl : List AV} {f : List AV → Prop} : withS sl f = f sl := rfl
@[congr] theorem withS_congr {sl sl' : List AV} {f : List AV → Prop} (e : sl = sl') : withS sl f = withS sl' f := by rw [e]
def tag {α : Type} (a : α) : α := a
theorem tag_eq {α : Type} {a : α} : tag a = a := rfl
def guardD (d : Option Tmp) (sl : List AV) (want : Bool) (yes no : Prop) : Prop :=
  match d with
  | some d => guardV (evA sl (.tmp d)) want yes no
  | none => False
@[congr] theorem guardD_congr {d d' : Option Tmp} {sl : List AV} {want : Bool} {yes no : Prop} (e : d = d') : guardD d sl want yes no = guardD d' sl want yes no := by rw [e]
theorem guardD_some {d : Tmp} {sl : List AV} {want : Bool} {yes no : Prop} : guardD (some d) sl want yes no = guardV (tag (evA sl (.tmp d))) want yes no := rfl
def guardU (g : Option (Nat × Bool)) (ops : Array Oper) (sl : List AV) (yes no : Prop) : Prop :=
  match g with
  | none => yes
  | some (j, want) => guardD ((ops[j]?).bind (·.dst)) sl want yes no
@[congr] theorem guardU_congr {g g' : Option (Nat × Bool)} {ops : Array Oper} {sl : List AV} {yes no : Prop} (e : g = g') : guardU g ops sl yes no = guardU g' ops sl yes no := by rw [e]
theorem guardU_none {ops : Array Oper} {sl : List AV} {yes no : Prop} : guardU none ops sl yes no = yes := rfl
theorem guardU_some {ops : Array Oper} {sl : List AV} {yes no : Prop} {j : Nat} {want : Bool} : guardU (some (j, want)) ops sl yes no = guardD (tag ((ops[j]?).bind (·.dst))) sl want yes no := rfl
def cutsD (l : List Nat) : Option Tmp → Bool
  | some d => l.contains d
  | none => false
theorem cutsD_some {l : List Nat} {d : Tmp} : cutsD l (some d) = l.contains d := rfl
theorem cutsD_none {l : List Nat} : cutsD l none = false := rfl
section
variable {P : Program} {so : Opt} {ops : Array Oper} {o : Oper} {rest : List Oper} {K : AExit → AS → Prop} {sl : List AV} {df : List ADef} {h : List Blk} {gh : Gst}
theorem runL_nil : runL P so ops [] K ⟨sl, df, h, gh⟩ = K .normal ⟨sl, df, h, gh⟩ := rfl
theorem runL_cons : runL P so ops (o :: rest) K ⟨sl, df, h, gh⟩ = guardU (tag o.guard) ops sl
    (stepW P so o ⟨sl, df, h, gh⟩ K fun v h' => cutV (tag (cuts so o)) v h' fun v h' => withS (tag (putA sl o.dst v)) fun sl => runL P so ops rest K ⟨sl, df, h', gh⟩)
    (withS (tag (putA sl o.dst (.tup []))) fun sl => runL P so ops rest K ⟨sl, df, h, gh⟩) := rfl
theorem stepW_mk {next : AV → List Blk → Prop} : stepW P so o ⟨sl, df, h, gh⟩ K next = match o.op with
  | .call cl => match cl.callee with
    | .value f => gh.todo = [] ∧ callW P (tag (evA sl f)) (cl.args.toList.map (evA sl)) h (retQ K ⟨sl, df, h, gh⟩ next)
    | .builtin .panic => panicW K ⟨sl, df, h, gh⟩ ((cl.args.toList.map (evA sl)).getD 0 .any)
    | _ => stepK (tag (opE P o.op (evA sl) h)) next
  | .panic x => panicW K ⟨sl, df, h, gh⟩ (evA sl x)
  | .defer _ => False
  | .buildSlice t len parts => match sealed so o with
    | true => stepK (tag (buildSealE P t len (parts.toList.map fun p => (p.1, evA sl p.2)) h)) next
    | false => stepK (tag (opE P o.op (evA sl) h)) next
  | op => stepK (tag (opE P op (evA sl) h)) next := rfl
theorem quietL_nil {K : List AV → Prop} : quietL P so ops h [] K sl = K sl := rfl
theorem quietL_cons {K : List AV → Prop} : quietL P so ops h (o :: rest) K sl = guardU (tag o.guard) ops sl (quietW P so o sl h fun v => cutV (tag (cuts so o)) v h fun v _ => withS (tag (putA sl o.dst v)) fun sl => quietL P so ops h rest K sl) (withS (tag (putA sl o.dst (.tup []))) fun sl => quietL P so ops h rest K sl) := rfl
theorem quietW_mk {K : AV → Prop} : quietW P so o sl h K = match o.op with
  | .call cl => match cl.callee with
    | .value f => quietC P (tag (evA sl f)) (cl.args.toList.map (evA sl)) h K
    | .builtin .panic => False
    | _ => quietK (tag (opE P o.op (evA sl) h)) h K
  | .buildSlice t len parts => sealed so o = true ∧ quietK (tag (buildSealE P t len (parts.toList.map fun p => (p.1, evA sl p.2)) h)) h K
  | .panic _ | .defer _ => False
  | _ => quietK (tag (opE P o.op (evA sl) h)) h K := rfl
end
@[congr] theorem WPI_congr {P : Program} {fk : FK} {its : List Item} {Q : AExit → AS → Prop} {s s' : AS} (e : s = s') : WPI P fk its Q s = WPI P fk its Q s' := by rw [e]
@[congr] theorem YieldA_congr {P : Program} {n : Nm} {args args' : List AV} {h h' : List Blk} {Q : AEnd → List Blk → Prop} (e1 : args = args') (e2 : h = h') : YieldA P n args h Q = YieldA P n args' h' Q := by rw [e1, e2]
@[congr] theorem CallsA_congr {P : Program} {f : FuncId} {args args' : List AV} {h h' : List Blk} {Q : AEnd → List Blk → Prop} (e1 : args = args') (e2 : h = h') : CallsA P f args h Q = CallsA P f args' h' Q := by rw [e1, e2]
theorem hget0 {α : Type} (h bs : List α) : (h ++ bs)[h.length]? = bs[0]? := by rw [List.getElem?_append_right (Nat.le_refl _), Nat.sub_self]
theorem hget {α : Type} (h bs : List α) (i : Nat) : (h ++ bs)[h.length + i]? = bs[i]? := by rw [List.getElem?_append_right (by omega)]; congr 1; omega
theorem hset0 {α : Type} (h bs : List α) (b : α) : (h ++ bs).set h.length b = h ++ bs.set 0 b := by rw [List.set_append_right _ _ (Nat.le_refl _), Nat.sub_self]
theorem hset {α : Type} (h bs : List α) (i : Nat) (b : α) : (h ++ bs).set (h.length + i) b = h ++ bs.set i b := by rw [List.set_append_right _ _ (by omega)]; congr 2; omega
theorem drop_rows {α β : Type} {f : α → List β} {n : Nat} (hf : ∀ x, (f x).length = n) : ∀ (l : List α) (i : Nat) (h : i < l.length), (l.flatMap f).drop (i * n) = f l[i] ++ (l.drop (i + 1)).flatMap f
  | [], i, h => by simp at h
  | x :: l, 0, h => by simp
  | x :: l, i + 1, h => by
    have hi : i < l.length := by simpa using h
    simp only [List.flatMap_cons, List.getElem_cons_succ, List.drop_succ_cons]
    rw [show (i + 1) * n = n + i * n by rw [Nat.succ_mul]; omega, List.drop_append, hf x]
    rw [show n + i * n - n = i * n by omega, List.drop_eq_nil_of_le (by rw [hf x]; omega), List.nil_append]
    exact drop_rows hf l i hi
theorem length_rows {α β : Type} {f : α → List β} {n : Nat} (hf : ∀ x, (f x).length = n) (l : List α) : (l.flatMap f).length = l.length * n := by
  induction l with
  | nil => simp
  | cons x l ih => simp only [List.flatMap_cons, List.length_append, hf, ih, List.length_cons, Nat.succ_mul]; omega
@[congr] theorem callV_congr {P : Program} {f f' : AV} {args args' : List AV} {h h' : List Blk} {Q : AEnd → List Blk → Prop} (e0 : f = f') (e1 : args = args') (e2 : h = h') : callW P f args h Q = callW P f' args' h' Q := by rw [e0, e1, e2]
inductive Held {α : Type} : α → Type where
  | mk (a : α) : Held a
def held {α : Type} (a : α) (_ : Held a) : α := a
theorem held_one {α : Type} {f : α → Prop} {w : Held f} {x : α} : held f w x = f x := rfl
theorem held_two {α β : Type} {f : α → β → Prop} {w : Held f} {x : α} {y : β} : held f w x y = f x y := rfl
theorem callV_fn {P : Program} {g : FuncId} {first cap args : List AV} {h : List Blk} {Q : AEnd → List Blk → Prop} : callW P (.fn (.func g) first cap) args h Q = (callable P g ∧ CallsA P g (tag (first ++ args ++ cap)) h (held Q (.mk Q))) := rfl
theorem callV_yield {P : Program} {n : Nm} {args : List AV} {h : List Blk} {Q : AEnd → List Blk → Prop} : callW P (.yield n) args h Q = (n.gen = 0 ∧ loopAr h n = some args.length ∧ YieldA P n (tag args) h (held Q (.mk Q))) := rfl
theorem quietC_fnt {P : Program} {g : FuncId} {first cap args : List AV} {h : List Blk} {K : AV → Prop} : quietC P (.fn (.func g) first cap) args h K = (callable P g ∧ QuietCalls P g (tag (first ++ args ++ cap)) h (held K (.mk K))) := rfl
theorem CallsA.use {P : Program} {f : FuncId} {args : List AV} {v : AV} {h : List Blk} {Post : AEnd → List Blk → Prop} (c : PureA P f args v) (hp : Post (.ret v) h) : CallsA P f args h Post :=
  (c h).mono fun e h' q => by rw [q.1, q.2]; exact hp
theorem CallsA.use' {P : Program} {f : FuncId} {args args' : List AV} {v : AV} {h : List Blk} {Post : AEnd → List Blk → Prop} (c : PureA P f args v) (ha : args' = args) (hp : Post (.ret v) h) : CallsA P f args' h Post := by
  subst ha; exact .use c hp
theorem wrap64 {n : Int} (h : -9223372036854775808 ≤ n) (h' : n ≤ 9223372036854775807) : IntKind.i64.wrap n = n := by
  have e : IntKind.i64.wrap n = if n % 18446744073709551616 ≥ 9223372036854775808 then n % 18446744073709551616 - 18446744073709551616 else n % 18446744073709551616 := by
    simp [IntKind.wrap, IntKind.bits, IntKind.signed]
  rw [e]
  split <;> omega
def loopQ {ι : Type} (I : ι → AS → Prop) (μ : ι → Nat) (i : ι) (Q : AExit → AS → Prop) : AExit → AS → Prop
  | .normal, s => ∃ i', I i' s ∧ μ i' < μ i
  | e, s => Q e s
theorem WP.loopI {P : Program} {fk : FK} {Q : AExit → AS → Prop} {s : AS} {body : Code} {ι : Type} (I : ι → AS → Prop) (μ : ι → Nat) (i0 : ι) (h0 : I i0 s) (h : ∀ i s, I i s → WP P fk body (loopQ I μ i Q) s) : WP P fk (.loop body) Q s := by
  have key : ∀ n i s, μ i < n → I i s → WPI P fk [.inLoop body] Q s := by
    intro n
    induction n with
    | zero => intro i s hn; exact absurd hn (Nat.not_lt_zero _)
    | succ n ih =>
      intro i s hn hs
      refine WPI.idle [.code body, .inLoop body] (fun _ _ _ _ _ _ _ _ _ => by simp [G, stepG, stepG.exec, at']) (WPI.cons rfl ((h i s hs).mono fun e s' q => ?_))
      cases e with
      | normal => obtain ⟨i', q1, q2⟩ := q; exact ih i' s' (by omega) q1
      | exit id => exact q
      | goto l => exact q
      | ret => exact q
      | panic v => exact q
  refine WPI.idle [.code body, .inLoop body] (fun _ _ _ _ _ _ _ _ _ => by simp [G, stepG, stepG.exec, at']) (WPI.cons rfl ((h i0 s h0).mono fun e s' q => ?_))
  cases e with
  | normal => obtain ⟨i', q1, q2⟩ := q; exact key (μ i' + 1) i' s' (by omega) q1
  | exit id => exact q
  | goto l => exact q
  | ret => exact q
  | panic v => exact q
theorem resV_tmp {P : Program} {sl : List AV} {h : List Blk} {t : Tmp} : resV sl h P (.tmp t) = some (evA sl (.tmp t)) := rfl
theorem resV_cell {P : Program} {sl : List AV} {h : List Blk} {a : Tmp} {t : TypeId} : resV sl h P (.cell a t) = match tyT P t, cellsAt h (evA sl (.tmp a)) with
    | some f, some cs => if (if aggD f.d then f.sz else 1) ≤ cs.length then some (readA f cs) else none
    | _, _ => none := rfl
theorem retQ0.plain {P : Program} {fn : Func} {h k : List Blk} {v : AV} {e : AExit} {s : AS} (he : e = .normal ∨ e = .ret) (hd : s.df = []) (hg : s.gh = {}) (hr : resA P fn s.sl s.hp = some v) (hh : s.hp = h ++ k) : retQ0 P fn h v e s := by
  rcases he with rfl | rfl <;> exact ⟨s, .refl, hd, hg, hr, k, hh⟩
theorem evA_entry {args l : List AV} (ha : ∀ i a, args[i]? = some a → evA l (.tmp i) = a) : ∀ i, i < args.length → evA l (.tmp i) = args.getD i .any := fun i hi => ha i _ (by simp [List.getD, hi])
theorem tailOf_nil {i : Nat} : tailOf [] i = none := rfl
theorem tailOf_cons {i m id : Nat} {l : List (Nat × Nat)} : tailOf ((i, m) :: l) id = if i = id then some m else tailOf l id := rfl
theorem cuts_mk {so : Opt} {op : Op} {t : TypeId} {p : String} {a : Array Edge} {g : Option (Nat × Bool)} {d : Option Tmp} : cuts so ⟨d, op, t, p, a, g⟩ = cutsD so.cut d := rfl
theorem sealed_mk {so : Opt} {op : Op} {t : TypeId} {p : String} {a : Array Edge} {g : Option (Nat × Bool)} {d : Option Tmp} : sealed so ⟨d, op, t, p, a, g⟩ = cutsD so.shut d := rfl
theorem hasSpecial_nil : hasSpecial [] = false := rfl
theorem hasSpecial_cons {o : Oper} {l : List Oper} : hasSpecial (o :: l) = (specialO o.op || hasSpecial l) := rfl
def ifK (b : Bool) (yes no : Prop) : Prop :=
  match b with
  | true => yes
  | false => no
@[congr] theorem ifK_congr {b b' : Bool} {yes no : Prop} (e : b = b') : ifK b yes no = ifK b' yes no := by rw [e]
theorem ifK_true {yes no : Prop} : ifK true yes no = yes := rfl
theorem ifK_false {yes no : Prop} : ifK false yes no = no := rfl
def optK (b : Option Nat) (yes : Nat → Prop) (no : Prop) : Prop :=
  match b with
  | some m => yes m
  | none => no
@[congr] theorem optK_congr {b b' : Option Nat} {yes : Nat → Prop} {no : Prop} (e : b = b') : optK b yes no = optK b' yes no := by rw [e]
theorem optK_some {m : Nat} {yes : Nat → Prop} {no : Prop} : optK (some m) yes no = yes m := rfl
theorem optK_none {yes : Nat → Prop} {no : Prop} : optK none yes no = no := rfl
section
variable {P : Program} {so : Opt} {k : FK} {K : AExit → AS → Prop} {sl : List AV} {df : List ADef} {h : List Blk} {gh : Gst}
theorem wp_region {id : Nat} {l : List Oper} {s : AS} : wp P so k (.region id l.toArray false) K s = ifK (tag (so.hand.contains id || hasSpecial l)) (WPI P k [.code (.region id l.toArray false)] K (tag s)) (runL P so l.toArray l K s) := by simp only [wp, List.toList_toArray, ifK, tag]; rfl
@[congr] theorem quietL_congr {ops : Array Oper} {l l' : List Oper} {K : List AV → Prop} (e : l = l') : quietL P so ops h l K sl = quietL P so ops h l' K sl := by rw [e]
@[congr] theorem runL_congr {ops : Array Oper} {l l' : List Oper} {s : AS} (e : l = l') : runL P so ops l K s = runL P so ops l' K s := by rw [e]
theorem wp_draw {id : Nat} {l : List Oper} : wp P so k (.region id l.toArray true) K ⟨sl, df, h, gh⟩ = ifK (tag (so.hand.contains id)) (WPI P k [.code (.region id l.toArray true)] K (tag ⟨sl, df, h, gh⟩))
    (gh.todo = [] ∧ optK (tag (tailOf so.tail id)) (fun m => quietL P so l.toArray h (tag (l.take m)) (fun sl => runL P so l.toArray (tag (l.drop m)) K ⟨sl, df, h, gh⟩) sl) (quietL P so l.toArray h l (fun sl => K .normal ⟨sl, df, h, gh⟩) sl)) := by
  simp only [wp, List.toList_toArray, ifK, tag, optK]
  rfl
theorem wp_loop {a : Code} {s : AS} : wp P so k (.loop a) K s = WPI P k [.code (.loop a)] K (tag s) := by simp only [wp]; rfl
theorem wp_range {f : Operand} {ps : Array Tmp} {a b : Code} {s : AS} : wp P so k (.rangeFunc f ps a b) K s = WPI P k [.code (.rangeFunc f ps a b)] K (tag s) := by simp only [wp]; rfl
theorem wp_seq {a b : Code} {s : AS} : wp P so k (.seq a b) K s = wp P so k a (seqK (wp P so k b K) K) s := by simp only [wp]
theorem wp_cond {x : Operand} {a b : Code} : wp P so k (.cond x a b) K ⟨sl, df, h, gh⟩ = condV (tag (evA sl x)) (wp P so k a K ⟨sl, df, h, gh⟩) (wp P so k b K ⟨sl, df, h, gh⟩) := by simp only [wp]; rfl
theorem wp_block {id : Nat} {a : Code} {s : AS} : wp P so k (.block id a) K s = wp P so k a (blockQ id K) s := by simp only [wp]
theorem wp_exit {id : Nat} {s : AS} : wp P so k (.exit id) K s = K (.exit id) s := by simp only [wp]
theorem wp_ret {s : AS} : wp P so k .ret K s = K .ret s := by simp only [wp]
theorem wp_skip {s : AS} : wp P so k .skip K s = K .normal s := by simp only [wp]
end
attribute [go_sem ↓] wp_region wp_draw wp_loop wp_range wp_seq wp_cond wp_block wp_exit wp_ret wp_skip runL_nil runL_cons stepW_mk quietL_nil quietL_cons
attribute [go_sem ↓ high] condB_true condB_false nth_16 setN_16
attribute [go_sem ↓] nth_four setN_four
attribute [go_sem ↓ low] nth_one setN_one nth_zero setN_zero
attribute [go_sem] tailOf_nil tailOf_cons cuts_mk sealed_mk cutsD_some cutsD_none hasSpecial_nil hasSpecial_cons specialO ifK_true ifK_false optK_some optK_none
attribute [go_sem ↓] condB_var loopQ opE seqK blockQ quietW_mk withVH_eq
attribute [go_sem ↓] held_one held_two
attribute [go_sem] withS_eq stepK_some quietK_some quietC_fnt guardU_none guardU_some guardD_some tag_eq loadE.eq_def storeE.eq_def buildE.eq_def buildSliceE.eq_def buildSealE.eq_def nilCheckE.eq_def binE.eq_def unE.eq_def convE.eq_def convBytesE.eq_def slice3E.eq_def fieldAddrE.eq_def fieldE.eq_def indexAddrE.eq_def indexE.eq_def sliceE.eq_def gotA assertE.eq_def appendE.eq_def lenE.eq_def builtinE.eq_def makeSliceE.eq_def nextE.eq_def evA_tmp putA_some putA_none callV_fn callV_yield panicW cutV_false cutV_bool condV_bool guardV_tt guardV_out guardV_ff guardV_tf guardV_ft retQ evA_const evA_func constA valCells setMany placesA fillA leafA addA reachA cellsAt.eq_def readA.eq_def partA binInt.eq_def shInt.eq_def divInt.eq_def binStr.eq_def intsOf aggD isIntD isIfaceD pickA resA resL resV_tmp resV_cell hget0 hget hset0 hset loB hiB zeroA List.contains_cons List.contains_nil Bool.or_false Bool.or_true Bool.true_or Bool.false_or srcA mapOf
attribute [go_sem] List.toList_toArray List.map_cons List.map_nil List.getElem?_cons_zero List.getElem?_cons_succ List.set_cons_zero List.set_cons_succ List.length_cons List.length_nil List.length_set List.length_append List.all_cons List.all_nil List.getD_cons_zero List.getD_cons_succ List.drop_zero List.drop_succ_cons List.take_succ_cons List.take_zero List.getElem?_toArray List.append_assoc List.cons_append List.nil_append List.append_nil List.length_singleton
attribute [go_sem] Bool.true_eq_false false_implies true_implies implies_true Bool.and_true Bool.true_and Bool.and_self Bool.false_eq_true if_false false_and and_false Bool.not_true Bool.not_false Bool.and_false Bool.false_and beq_iff_eq Nat.reduceBEq Nat.reduceLT ne_eq Nat.reduceEqDiff not_false_eq_true Nat.zero_add Nat.add_zero Nat.reduceAdd Nat.reduceMul Nat.reduceLeDiff and_self true_and and_true if_true decide_eq_true_eq eq_self Option.map_some Option.map_none Option.bind_some Option.bind_none Option.getD_some Option.getD_none
def retP (P : Program) (fn : Func) (h : List Blk) (v : AV) : AExit → AS → Prop
  | .normal, s | .ret, s => s.df = [] ∧ s.gh = {} ∧ resA P fn s.sl s.hp = some v ∧ ∃ k, s.hp = h ++ k
  | _, _ => False
section
variable {P : Program} {fn : Func} {h hp : List Blk} {v : AV} {sl : List AV} {df : List ADef} {gh : Gst}
theorem retP_ret : retP P fn h v .ret ⟨sl, df, hp, gh⟩ = (df = [] ∧ gh = {} ∧ resA P fn sl hp = some v ∧ ∃ k, hp = h ++ k) := rfl
theorem retP_normal : retP P fn h v .normal ⟨sl, df, hp, gh⟩ = (df = [] ∧ gh = {} ∧ resA P fn sl hp = some v ∧ ∃ k, hp = h ++ k) := rfl
theorem ex_append {k : List Blk} : (∃ k', h ++ k = h ++ k') = True := eq_true ⟨k, rfl⟩
theorem ex_self : (∃ k', h = h ++ k') = True := eq_true ⟨[], (List.append_nil _).symm⟩
theorem retP.retQ0 {e : AExit} {s : AS} (q : retP P fn h v e s) : retQ0 P fn h v e s := by
  cases e with
  | ret => exact retQ0.plain (.inr rfl) q.1 q.2.1 q.2.2.1 q.2.2.2.choose_spec
  | normal => exact retQ0.plain (.inl rfl) q.1 q.2.1 q.2.2.1 q.2.2.2.choose_spec
  | exit id => exact q.elim
  | goto l => exact q.elim
  | panic v => exact q.elim
end
attribute [go_sem ↓] retP_ret retP_normal
attribute [go_sem] ex_append ex_self Option.some.injEq AV.tup.injEq AV.bool.injEq AV.int.injEq AV.str.injEq List.cons.injEq decide_eq_false_iff_not List.append_cancel_left_eq Blk.cells.injEq exists_eq'
theorem PureA.of_wpl {P : Program} {f : FuncId} {fn : Func} {code : Code} {args : List AV} {v : AV} (so : Opt) (m : Nat) (hm : P.follows .mixedOrders = true) (hf : P.funcs[f]? = some fn) (hn : max args.length fn.ntmps = args.length + m) (hb : fn.body = some code) (hd : drawsOk so code = true) (hv : below 0 v = true)
    (hw : ∀ (h : List Blk) (j : Nat → AV), h.all (belowBlk h.length) = true → wp P so ⟨f, false, h.length⟩ code (retQ0 P fn h v) ⟨args ++ junk j args.length m, [], h, {}⟩) : PureA P f args v :=
  PureA.of_wp so hm hf hb hd hv fun h l h1 h2 h3 => by
    obtain ⟨j, rfl⟩ := entry_lit (h2.trans hn) h3
    exact hw h j h1
theorem PureA.of_wpp {P : Program} {f : FuncId} {fn : Func} {code : Code} {args : List AV} {v : AV} (so : Opt) (m : Nat) (hm : P.follows .mixedOrders = true) (hf : P.funcs[f]? = some fn) (hn : max args.length fn.ntmps = args.length + m) (hb : fn.body = some code) (hd : drawsOk so code = true) (hv : below 0 v = true)
    (hw : ∀ (h : List Blk) (j : Nat → AV), h.all (belowBlk h.length) = true → wp P so ⟨f, false, h.length⟩ code (retP P fn h v) ⟨args ++ junk j args.length m, [], h, {}⟩) : PureA P f args v :=
  PureA.of_WP hf hb hv fun h l h1 h2 h3 => by
    obtain ⟨j, rfl⟩ := entry_lit (h2.trans hn) h3
    exact (wp_ok hm _ hd (hw h j h1)).mono fun e s q => q.retQ0
def nilPsl : AV → AV
  | .nilsl => .psl [] 0
  | a => a
def sealK (a : AV) (hp : List Blk) (K : AV → List Blk → Prop) : Prop :=
  match sealV hp a with
  | some a' => K a' (hp.set (nmOf a) .dead)
  | none => K (nilPsl a) hp
@[congr] theorem sealK_congr {a a' : AV} {hp : List Blk} {K : AV → List Blk → Prop} (e : a = a') : sealK a hp K = sealK a' hp K := by rw [e]
def shutK : List Nat → List AV → List Blk → (List AV → List Blk → Prop) → Prop
  | [], sl, hp, K => K sl hp
  | d :: ds, sl, hp, K => sealK (evA sl (.tmp d)) hp fun a hp => shutK ds (putA sl (some d) a) hp K
def retS (ds : List Nat) (P : Program) (fn : Func) (h : List Blk) (v : AV) : AExit → AS → Prop
  | .normal, s | .ret, s => s.df = [] ∧ s.gh = {} ∧ shutK ds s.sl s.hp fun sl hp => resA P fn sl hp = some v ∧ ∃ k, hp = h ++ k
  | _, _ => False
section
variable {P : Program} {fn : Func} {h hp : List Blk} {v : AV} {sl : List AV} {df : List ADef} {gh : Gst} {K : List AV → List Blk → Prop}
theorem shutK_nil : shutK [] sl hp K = K sl hp := rfl
theorem shutK_cons {d : Nat} {ds : List Nat} : shutK (d :: ds) sl hp K = sealK (tag (evA sl (.tmp d))) hp fun a hp => withS (tag (putA sl (some d) a)) fun sl => shutK ds sl hp K := rfl
theorem retS_ret {ds : List Nat} : retS ds P fn h v .ret ⟨sl, df, hp, gh⟩ = (df = [] ∧ gh = {} ∧ shutK ds sl hp fun sl hp => resA P fn sl hp = some v ∧ ∃ k, hp = h ++ k) := rfl
theorem retS_normal {ds : List Nat} : retS ds P fn h v .normal ⟨sl, df, hp, gh⟩ = (df = [] ∧ gh = {} ∧ shutK ds sl hp fun sl hp => resA P fn sl hp = some v ∧ ∃ k, hp = h ++ k) := rfl
theorem shutK_turns {n0 : Nat} : ∀ {ds : List Nat} {s : AS}, shutK ds s.sl s.hp K → ∃ s', Turns n0 s s' ∧ s'.df = s.df ∧ s'.gh = s.gh ∧ K s'.sl s'.hp
  | [], s, q => ⟨s, .refl, rfl, rfl, q⟩
  | d :: ds, s, q => by
    simp only [shutK, sealK] at q
    split at q
    · rename_i a' ha
      obtain ⟨s', t, h1, h2, h3⟩ := shutK_turns (n0 := n0) (ds := ds) (s := { s with sl := s.sl.set d a', hp := s.hp.set (nmOf (evA s.sl (.tmp d))) .dead }) q
      exact ⟨s', (Turns.shut rfl ha).trans t, h1, h2, h3⟩
    · obtain ⟨s', t, h1, h2, h3⟩ := shutK_turns (n0 := n0) (ds := ds) (s := { s with sl := s.sl.set d (nilPsl (evA s.sl (.tmp d))) }) q
      refine ⟨s', (Turns.slot rfl fun c V hV => ?_).trans t, h1, h2, h3⟩
      unfold nilPsl
      split
      · rename_i e
        rw [e] at hV
        exact .inl ⟨rfl, rfl, _, hV⟩
      · exact hV
theorem retS.retQ0 {ds : List Nat} {e : AExit} {s : AS} (q : retS ds P fn h v e s) : retQ0 P fn h v e s := by
  have key : (s.df = [] ∧ s.gh = {} ∧ shutK ds s.sl s.hp fun sl hp => resA P fn sl hp = some v ∧ ∃ k, hp = h ++ k) → ∃ s', Turns h.length s s' ∧ s'.df = [] ∧ s'.gh = {} ∧ resA P fn s'.sl s'.hp = some v ∧ ∃ k, s'.hp = h ++ k := by
    rintro ⟨h1, h2, h3⟩
    obtain ⟨s', t, g1, g2, g3⟩ := shutK_turns (n0 := h.length) h3
    exact ⟨s', t, g1.trans h1, g2.trans h2, g3.1, g3.2⟩
  cases e with
  | ret => exact key q
  | normal => exact key q
  | exit id => exact q.elim
  | goto l => exact q.elim
  | panic v => exact q.elim
end
attribute [go_sem ↓] retS_ret retS_normal shutK_nil shutK_cons
attribute [go_sem] sealK.eq_def sealV.eq_def nilPsl nmOf zeroRow belowL below List.range_succ List.range_zero
theorem PureA.of_wps {P : Program} {f : FuncId} {fn : Func} {code : Code} {args : List AV} {v : AV} (ds : List Nat) (so : Opt) (m : Nat) (hm : P.follows .mixedOrders = true) (hf : P.funcs[f]? = some fn) (hn : max args.length fn.ntmps = args.length + m) (hb : fn.body = some code) (hd : drawsOk so code = true) (hv : below 0 v = true)
    (hw : ∀ (h : List Blk) (j : Nat → AV), h.all (belowBlk h.length) = true → wp P so ⟨f, false, h.length⟩ code (retS ds P fn h v) ⟨args ++ junk j args.length m, [], h, {}⟩) : PureA P f args v :=
  PureA.of_WP hf hb hv fun h l h1 h2 h3 => by
    obtain ⟨j, rfl⟩ := entry_lit (h2.trans hn) h3
    exact (wp_ok hm _ hd (hw h j h1)).mono fun e s q => q.retQ0
theorem wp_shut {P : Program} {so : Opt} {fk : FK} {Q : AExit → AS → Prop} {sl : List AV} {df : List ADef} {hp : List Blk} {gh : Gst} (ds : List Nat) (hm : P.follows .mixedOrders = true) (c : Code) (hd : drawsOk so c = true) (h : shutK ds sl hp fun sl hp => wp P so fk c Q ⟨sl, df, hp, gh⟩) : WPI P fk [.code c] Q ⟨sl, df, hp, gh⟩ := by
  obtain ⟨⟨sl', df', hp', gh'⟩, t, h1, h2, h3⟩ := shutK_turns (n0 := fk.low) (s := ⟨sl, df, hp, gh⟩) h
  simp only at h1 h2 h3
  subst h1; subst h2
  exact WPI.turn t (wp_ok hm c hd h3)
end Go.Mac

/- A part of the logic and of the contracts of the functions that the statement reaches; the statement itself is proved in the last text. -/
import Derived.Test.YtdioclckllbhpaaGreatLibMacQ

set_option linter.all false
set_option linter.unusedVariables false
set_option linter.unusedSimpArgs false
set_option linter.unnecessarySimpa false
namespace Go.Mac
open Go Go.Conc
def seqK (f : AS → Prop) (K : AExit → AS → Prop) : AExit → AS → Prop
  | .normal, s => f s
  | e, s => K e s
def specialO : Op → Bool
  | .defer _ | .go _ | .send .. | .recv .. | .select .. | .makeChan .. => true
  | _ => false
def hasSpecial : List Oper → Bool
  | [] => false
  | o :: l => specialO o.op || hasSpecial l
def tailOf : List (Nat × Nat) → Nat → Option Nat
  | [], _ => none
  | (i, m) :: l, id => if i = id then some m else tailOf l id
def drawsOk (so : Opt) : Code → Bool
  | .seq a b => drawsOk so a && drawsOk so b
  | .cond _ a b => drawsOk so a && drawsOk so b
  | .block _ a => drawsOk so a
  | .region id ops true => so.hand.contains id || (okRegion ops && match tailOf so.tail id with
    | some m => tailOk ops m
    | none => true)
  | _ => true
def wp (P : Program) (so : Opt) (k : FK) : Code → (AExit → AS → Prop) → AS → Prop
  | .skip, K, s => K .normal s
  | .label _, K, s => K .normal s
  | .seq a b, K, s => wp P so k a (seqK (wp P so k b K) K) s
  | .cond x a b, K, s => condV (evA s.sl x) (wp P so k a K s) (wp P so k b K s)
  | .block id a, K, s => wp P so k a (blockQ id K) s
  | .exit id, K, s => K (.exit id) s
  | .goto l, K, s => K (.goto l) s
  | .ret, K, s => K .ret s
  | .region id ops false, K, s => match so.hand.contains id || hasSpecial ops.toList with
    | true => WPI P k [.code (.region id ops false)] K s
    | false => runL P so ops ops.toList K s
  | .region id ops true, K, s => match so.hand.contains id with
    | true => WPI P k [.code (.region id ops true)] K s
    | false => s.gh.todo = [] ∧ match tailOf so.tail id with
      | some m => quietL P so ops s.hp (ops.toList.take m) (fun sl => runL P so ops (ops.toList.drop m) K { s with sl := sl }) s.sl
      | none => quietL P so ops s.hp ops.toList (fun sl => K .normal { s with sl := sl }) s.sl
  | c, K, s => WPI P k [.code c] K s
section
variable {P : Program} {fk : FK} {so : Opt}
theorem wp_ok (hm : P.follows .mixedOrders = true) : ∀ (c : Code) {K : AExit → AS → Prop} {s : AS}, drawsOk so c = true → wp P so fk c K s → WP P fk c K s
  | .skip, _, _, _, h => WP.skip h
  | .label _, _, _, _, h => WP.label h
  | .seq a b, K, s, hd, h => WP.seq ((wp_ok hm a (by simp only [drawsOk, Bool.and_eq_true] at hd; exact hd.1) h).mono fun e s' q => by
      cases e with
      | normal => exact wp_ok hm b (by simp only [drawsOk, Bool.and_eq_true] at hd; exact hd.2) q
      | exit id => exact q
      | goto l => exact q
      | ret => exact q
      | panic v => exact q)
  | .cond x a b, K, s, hd, h => by
    simp only [drawsOk, Bool.and_eq_true] at hd
    simp only [wp, condV] at h
    split at h
    · rename_i t ht
      exact WP.cond ht (fun e => wp_ok hm a hd.1 (h.1 e)) (fun e => wp_ok hm b hd.2 (h.2 e))
    · exact h.elim
  | .block id a, K, s, hd, h => WP.block (wp_ok hm a hd h)
  | .exit id, _, _, _, h => WP.exit h
  | .goto l, _, _, _, h => WP.goto h
  | .ret, _, _, _, h => WP.ret h
  | .region id ops false, K, s, _, h => by
    simp only [wp] at h
    split at h
    · exact h
    · exact WP.region (by have := runL_ok (fk := fk) (k := 0) (fun j => by simp) h; rw [Array.length_toList] at this; rw [List.range_eq_range']; exact this)
  | .region id ops true, K, s, hd, h => by
    simp only [wp] at h
    split at h
    · exact h
    · rename_i hh
      simp only [drawsOk, hh, Bool.false_or, Bool.and_eq_true] at hd
      obtain ⟨hgt, h⟩ := h
      split at h
      · rename_i m hmt
        have := hd.2
        rw [hmt] at this
        exact WP.quietT so m hgt hm hd.1 this h
      · exact WP.quiet so hgt hm hd.1 h
  | .loop a, K, s, _, h => h
  | .rangeFunc f ps a b, K, s, _, h => h
  | .scope a, K, s, _, h => h
  | .refuse y, K, s, _, h => h
theorem PureA.of_wp {f : FuncId} {fn : Func} {code : Code} {args : List AV} {v : AV} (so : Opt) (hm : P.follows .mixedOrders = true) (hf : P.funcs[f]? = some fn) (hb : fn.body = some code) (hd : drawsOk so code = true) (hv : below 0 v = true)
    (hw : ∀ (h : List Blk) (l : List AV), h.all (belowBlk h.length) = true → l.length = max args.length fn.ntmps → (∀ i a, args[i]? = some a → evA l (.tmp i) = a) → wp P so ⟨f, false, h.length⟩ code (retQ0 P fn h v) { sl := l, df := [], hp := h }) : PureA P f args v :=
  PureA.of_WP hf hb hv fun h l h1 h2 h3 => wp_ok hm _ hd (hw h l h1 h2 h3)
end
end Go.Mac

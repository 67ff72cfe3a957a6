/- A part of the logic and of the contracts of the functions that the statement reaches; the statement itself is proved in the last text. -/
import Derived.Laws.RangeString
import Derived.Laws.RangeAny
import Derived.Test.YtdioclckllbhpaaGreatLibMacT

set_option linter.all false
set_option linter.unusedVariables false
set_option linter.unusedSimpArgs false
set_option linter.unnecessarySimpa false
namespace Go.Mac
open Go Go.Conc Go.Proofs
set_option maxRecDepth 4000
def sliceOf {α : Type} (f : α → List AV) (l : List α) : AV := .psl (l.flatMap f) l.length
def cInt (n : Int) : List AV := [.int .i64 n]
@[simp] theorem cInt_len (n : Int) : (cInt n).length = 1 := rfl
abbrev ints (l : List Int) : AV := sliceOf cInt l
theorem rows_at {α : Type} {f : α → List AV} {n : Nat} (hf : ∀ x, (f x).length = n) {l : List α} {i : Nat} (h : i < l.length) : (l.flatMap f).drop (((i : Nat) : Int).toNat * n) = f l[i] ++ (l.drop (i + 1)).flatMap f := by
  rw [Int.toNat_natCast]; exact drop_rows hf l i h
theorem rows_le {α : Type} {f : α → List AV} {n : Nat} (hf : ∀ x, (f x).length = n) {l : List α} {i : Nat} (h : i < l.length) : (((i : Nat) : Int).toNat * n ≤ (l.flatMap f).length) = True := by
  rw [Int.toNat_natCast, length_rows hf]; exact eq_true (Nat.mul_le_mul_right n (Nat.le_of_lt h))
theorem row1 {α : Type} {f : α → List AV} (hf : ∀ x, (f x).length = 1) {l : List α} {i : Nat} (h : i < l.length) : (l.flatMap f).drop i = f l[i] ++ (l.drop (i + 1)).flatMap f := by
  have := drop_rows hf l i h; rwa [Nat.mul_one] at this
theorem row1_le {α : Type} {f : α → List AV} (hf : ∀ x, (f x).length = 1) {l : List α} {i : Nat} (h : i < l.length) : (i ≤ (l.flatMap f).length) = True := by
  rw [length_rows hf, Nat.mul_one]; exact eq_true (Nat.le_of_lt h)
theorem rowN {α : Type} {f : α → List AV} {n : Nat} (hf : ∀ x, (f x).length = n) {l : List α} {i : Nat} (h : i < l.length) : (l.flatMap f).drop (i * n) = f l[i] ++ (l.drop (i + 1)).flatMap f := drop_rows hf l i h
theorem rowN_le {α : Type} {f : α → List AV} {n : Nat} (hf : ∀ x, (f x).length = n) {l : List α} {i : Nat} (h : i < l.length) : (i * n ≤ (l.flatMap f).length) = True := by
  rw [length_rows hf]; exact eq_true (Nat.mul_le_mul_right n (Nat.le_of_lt h))
theorem wrap_succ {i : Nat} (h : i < 9223372036854775807) : IntKind.i64.wrap ((i : Int) + 1) = ((i + 1 : Nat) : Int) := by rw [wrap64 (by omega) (by omega)]; simp
theorem nat_not_neg (i : Nat) : ((i : Int) < 0) = False := eq_false (by omega)
attribute [go_sem] nat_not_neg sliceOf
theorem nat_nonneg (i : Nat) : (0 ≤ (i : Int)) = True := eq_true (by omega)
theorem nat_lt {i j : Nat} (h : i < j) : ((i : Int) < (j : Int)) = True := eq_true (by omega)
theorem take_eq_succ {α : Type} [DecidableEq α] {a b : List α} {i : Nat} (hi : i < a.length) (hj : i < b.length) (h : a.take i = b.take i) : (a.take (i + 1) = b.take (i + 1)) = (a[i] = b[i]) := by
  apply propext
  rw [List.take_add_one, List.take_add_one, List.getElem?_eq_getElem hi, List.getElem?_eq_getElem hj, h]
  exact ⟨fun e => by have := List.append_cancel_left e; simpa using this, fun e => by rw [e]⟩
theorem eqInts_ok (a b : List Int) (hla : a.length < 9223372036854775807) : PureA Tryz.prog 42 [ints a, ints b] (.bool (a == b)) := by
  refine PureA.of_wpp { cut := [13] } 29 mixed Tryz.func42 (by kernel_rfl) rfl (by kernel_rfl) (rfl) fun h j hB => ?_
  simp only [junk_succ, junk_zero, List.cons_append, List.nil_append, List.length_cons, List.length_nil, Nat.reduceAdd]
  simp (implicitDefEqProofs := false) (dsimp := false) only [go_sem, ints]
  refine WP.loopI (fun (x : Nat × Bool) s => x.1 ≤ a.length ∧ (x.2 = true ↔ a.length = b.length ∧ a.take x.1 = b.take x.1) ∧ s.sl.length = 31 ∧ s.df = [] ∧ s.gh = {} ∧ s.hp = h ∧ evA s.sl (.tmp 0) = ints a ∧ evA s.sl (.tmp 1) = ints b ∧ evA s.sl (.tmp 5) = .bool x.2 ∧ evA s.sl (.tmp 6) = .int .i64 x.1) (fun x => a.length - x.1) (0, a.length == b.length) ?_ ?_
  · simp (implicitDefEqProofs := false) (dsimp := false) only [go_sem, ints]
    refine ⟨Nat.zero_le _, ?_⟩
    rw [Bool.eq_iff_iff]; simp; omega
  · rintro ⟨i, q⟩ ⟨sl, df, hp, gh⟩ ⟨h1, hq, h2, rfl, rfl, rfl, h3, h4, h5, h6⟩
    simp only at h1 hq h2 h3 h4 h5 h6
    obtain ⟨j, rfl⟩ := slots_lit h2; clear h2; simp only [junk_succ, junk_zero, evA_tmp, nth_16, nth_four, nth_one, nth_zero, Nat.zero_add, Nat.reduceAdd] at  h3 h4 h5 h6 ⊢
    refine wp_ok (so := { cut := [13] }) mixed _ (by kernel_rfl) ?_
    cases q with
    | false =>
      simp (implicitDefEqProofs := false) (dsimp := false) only [go_sem, h3, h4, h5, h6, ints]
      symm
      rw [beq_eq_false_iff_ne]
      rintro rfl
      simp at hq
    | true =>
      obtain ⟨e1, e2⟩ := hq.1 rfl
      by_cases hi : i < a.length
      · have hib : i < b.length := by omega
        simp (implicitDefEqProofs := false) (dsimp := false) only [go_sem, h3, h4, h5, h6, ints, row1 cInt_len hi, row1 cInt_len hib, row1_le cInt_len hi, row1_le cInt_len hib, cInt, nat_lt hi, nat_lt hib, decide_true, wrap_succ (show i < 9223372036854775807 by omega)]
        refine ⟨(i + 1, a[i] == b[i]), ⟨hi, ?_, rfl, rfl⟩, by simp only; omega⟩
        rw [beq_iff_eq, take_eq_succ hi hib e2]
        simp [e1]
      · have hs : ((i : Int) < (a.length : Int)) = False := eq_false (by omega)
        simp (implicitDefEqProofs := false) (dsimp := false) only [go_sem, h3, h4, h5, h6, ints, hs, decide_false]
        have : i = a.length := by omega
        subst this
        rw [List.take_length, e1, List.take_length] at e2
        simp [e2]
end Go.Mac
namespace Go.Mac
open Go Go.Conc Go.Proofs
set_option maxRecDepth 4000
theorem valid_ok (n : Int) : PureA Tryz.prog 155 [.int .i64 n] (.bool (decide (0 ≤ n) && decide (n ≤ 63))) := by
  refine PureA.of_wpp { cut := [5] } 8 mixed Tryz.func155 (by kernel_rfl) rfl (by kernel_rfl) (rfl) fun h j hB => ?_
  simp only [junk_succ, junk_zero, List.cons_append, List.nil_append, List.length_cons, List.length_nil, Nat.reduceAdd]
  simp (implicitDefEqProofs := false) (dsimp := false) only [go_sem]
  refine ⟨fun hc => ?_, fun hc => ?_⟩
  · have : 0 ≤ n := hc
    simp [this]
  · have : ¬ 0 ≤ n := by simpa using hc
    simp [this]
def mirB (n : Int) : Int := orK .i64 (orK .i64 (andNotK .i64 n 15) (shlK .i64 (andK .i64 n 5) 1)) (shrK .i64 (andK .i64 n 10) 1)
theorem mirror_ok (n : Int) : PureA Tryz.prog 156 [.int .i64 n] (.int .i64 (mirB n)) := by
  refine PureA.of_wpp {} 12 mixed Tryz.func156 (by kernel_rfl) rfl (by kernel_rfl) (rfl) fun h j hB => ?_
  simp only [junk_succ, junk_zero, List.cons_append, List.nil_append, List.length_cons, List.length_nil, Nat.reduceAdd]
  simp (implicitDefEqProofs := false) (dsimp := false) only [go_sem]
  rfl
theorem same_ok (n : Int) : PureA Tryz.prog 139 [.int .i64 n] (.int .i64 n) := by
  refine PureA.of_wpp {} 3 mixed Tryz.func139 (by kernel_rfl) rfl (by kernel_rfl) (rfl) fun h j hB => ?_
  simp only [junk_succ, junk_zero, List.cons_append, List.nil_append, List.length_cons, List.length_nil, Nat.reduceAdd]
  simp (implicitDefEqProofs := false) (dsimp := false) only [go_sem]
def sizedB (n m : Int) : Int := if n < 1 then 7 else if m < n then 6 else 0
theorem sized_ok (n m : Int) : PureA Tryz.prog 108 [.int .i64 n, .int .i64 m] (.int .i64 (sizedB n m)) := by
  refine PureA.of_wpp {} 10 mixed Tryz.func108 (by kernel_rfl) rfl (by kernel_rfl) (rfl) fun h j hB => ?_
  simp only [junk_succ, junk_zero, List.cons_append, List.nil_append, List.length_cons, List.length_nil, Nat.reduceAdd]
  simp (implicitDefEqProofs := false) (dsimp := false) only [go_sem]
  refine ⟨fun h1 => ?_, fun h1 => ⟨fun h2 => ?_, fun h2 => ?_⟩⟩
  · simp [sizedB, h1]
  · have h1' : ¬ n < 1 := by simpa using h1
    have h2' : m < n := h2
    simp [sizedB, h1', h2']
  · have h1' : ¬ n < 1 := by simpa using h1
    have h2' : ¬ m < n := by simpa using h2
    simp [sizedB, h1', h2']
def turnAt : Nat → Int
  | 0 => 8 | 1 => 4 | 2 => 2 | 3 => 1 | 4 => 32 | _ => 16
def turnAcc (n : Int) : Nat → Int
  | 0 => 0
  | i + 1 => if andK .i64 (shrK .i64 n i) 1 = 1 then orK .i64 (turnAcc n i) (turnAt i) else turnAcc n i
def turnB (n : Int) : Int := turnAcc n 6
theorem turned_ok (n : Int) : PureA Tryz.prog 80 [.int .i64 n] (.int .i64 (turnB n)) := by
  refine PureA.of_wpp {} 20 mixed Tryz.func80 (by kernel_rfl) rfl (by kernel_rfl) (rfl) fun h j hB => ?_
  simp only [junk_succ, junk_zero, List.cons_append, List.nil_append, List.length_cons, List.length_nil, Nat.reduceAdd]
  simp (implicitDefEqProofs := false) (dsimp := false) only [go_sem]
  refine WP.loopI (fun (i : Nat) s => i ≤ 6 ∧ s.sl.length = 21 ∧ s.df = [] ∧ s.gh = {} ∧ s.hp = h ∧ evA s.sl (.tmp 0) = .int .i64 n ∧ evA s.sl (.tmp 3) = .int .i64 (turnAcc n i) ∧ evA s.sl (.tmp 6) = .agg [.int .i64 8, .int .i64 4, .int .i64 2, .int .i64 1, .int .i64 32, .int .i64 16] ∧ evA s.sl (.tmp 7) = .int .i64 i) (fun i => 6 - i) 0 ?_ ?_
  · simp (implicitDefEqProofs := false) (dsimp := false) only [go_sem]
    rfl
  · rintro i ⟨sl, df, hp, gh⟩ ⟨h1, h2, rfl, rfl, rfl, h3, h4, h5, h6⟩
    simp only at h2 h3 h4 h5 h6
    obtain ⟨j, rfl⟩ := slots_lit h2; clear h2; simp only [junk_succ, junk_zero, evA_tmp, nth_16, nth_four, nth_one, nth_zero, Nat.zero_add, Nat.reduceAdd] at  h3 h4 h5 h6 ⊢
    refine wp_ok (so := {}) mixed _ (by kernel_rfl) ?_
    by_cases hi : i < 6
    · have hx : [AV.int IntKind.i64 8, AV.int IntKind.i64 4, AV.int IntKind.i64 2, AV.int IntKind.i64 1, AV.int IntKind.i64 32, AV.int IntKind.i64 16].getD i .any = .int .i64 (turnAt i) := by
        match i, hi with
        | 0, _ => rfl | 1, _ => rfl | 2, _ => rfl | 3, _ => rfl | 4, _ => rfl | 5, _ => rfl
      have hs : ((i : Int) < 6) = True := eq_true (by omega)
      simp (implicitDefEqProofs := false) (dsimp := false) only [go_sem, h3, h4, h5, h6, hs, hi, hx, decide_true, wrap_succ (show i < 9223372036854775807 by omega)]
      refine ⟨fun hc => ⟨i + 1, ⟨by omega, ?_, rfl⟩, by omega⟩, fun hc => ⟨i + 1, ⟨by omega, ?_, rfl⟩, by omega⟩⟩
      · simp only [turnAcc, hc, if_true]
      · have hc' : ¬ andK .i64 (shrK .i64 n i) 1 = 1 := by simpa using hc
        simp only [turnAcc, hc', if_false]
    · have hs : ((i : Int) < 6) = False := eq_false (by omega)
      simp (implicitDefEqProofs := false) (dsimp := false) only [go_sem, h3, h4, h5, h6, hs, decide_false]
      have : i = 6 := by omega
      subst this
      rfl
end Go.Mac
namespace Go.Mac
open Go Go.Conc Go.Proofs
set_option maxRecDepth 4000
structure Glyph where
  name : List UInt8
  strokes : Int
  deriving DecidableEq
structure Trace where
  seen : Int
  bare : Int
  deriving DecidableEq
structure Board where
  glyphs : List Glyph
  pages : List (List (List UInt8))
  cells : List (List Trace)
  deriving DecidableEq
structure Lay where
  page : Int
  turned : Bool
  down : Int
  right : Int
  deriving DecidableEq
def cStr (s : List UInt8) : List AV := [.str s]
def cGlyph (g : Glyph) : List AV := [.str g.name, .int .i64 g.strokes]
def cTrace (t : Trace) : List AV := [.int .i64 t.seen, .int .i64 t.bare]
def cLay (l : Lay) : List AV := [.int .i64 l.page, .bool l.turned, .int .i64 l.down, .int .i64 l.right]
def cPage (p : List (List UInt8)) : List AV := [sliceOf cStr p]
def cTraces (r : List Trace) : List AV := [sliceOf cTrace r]
@[simp] theorem cStr_len (n) : (cStr n).length = 1 := rfl
@[simp] theorem cGlyph_len (n) : (cGlyph n).length = 2 := rfl
@[simp] theorem cTrace_len (n) : (cTrace n).length = 2 := rfl
@[simp] theorem cPage_len (n) : (cPage n).length = 1 := rfl
@[simp] theorem cTraces_len (n) : (cTraces n).length = 1 := rfl
def brdA (b : Board) : List AV := [sliceOf cGlyph b.glyphs, sliceOf cPage b.pages, sliceOf cTraces b.cells]
def bdA (b : Board) (m : List (Int × Int)) : List AV := [sliceOf cGlyph b.glyphs, sliceOf cPage b.pages, sliceOf cTraces b.cells, .pmap (m.map fun p => .int .i32 p.1) (m.map fun p => .int .i64 p.2)]
theorem hasPage_ok (b : Board) (m : List (Int × Int)) (n : Int) : PureA Tryz.prog 59 [.agg (bdA b m), .int .i64 n] (.bool (decide (0 ≤ n) && decide (n < b.pages.length))) := by
  refine PureA.of_wpp { cut := [7] } 13 mixed Tryz.func59 (by kernel_rfl) rfl (by kernel_rfl) (rfl) fun h j hB => ?_
  simp only [junk_succ, junk_zero, List.cons_append, List.nil_append, List.length_cons, List.length_nil, Nat.reduceAdd]
  simp (implicitDefEqProofs := false) (dsimp := false) only [go_sem, bdA]
  refine ⟨fun hc => ?_, fun hc => ?_⟩
  · simp [hc]
  · have : ¬ 0 ≤ n := by simpa using hc
    simp [this]
def mirroredB (n : Int) : Int := if 0 ≤ n ∧ n ≤ 63 then mirB n else 0
def mirrorErr (n : Int) : Int := if 0 ≤ n ∧ n ≤ 63 then 0 else 1
theorem Mirror_ok (n : Int) : PureA Tryz.prog 150 [.int .i64 n] (.tup [.int .i64 (mirroredB n), .int .i64 (mirrorErr n)]) := by
  refine PureA.of_wpp {} 8 mixed Tryz.func150 (by kernel_rfl) rfl (by kernel_rfl) (rfl) fun h j hB => ?_
  simp only [junk_succ, junk_zero, List.cons_append, List.nil_append, List.length_cons, List.length_nil, Nat.reduceAdd]
  simp (implicitDefEqProofs := false) (dsimp := false) only [go_sem]
  (first | refine CallsA.use (valid_ok n) ?_ | refine QuietCalls.use (valid_ok n) ?_)
  simp (implicitDefEqProofs := false) (dsimp := false) only [go_sem]
  refine ⟨fun hc => ?_, fun hc => ?_⟩
  · have : ¬ (0 ≤ n ∧ n ≤ 63) := by simp at hc; omega
    simp [mirroredB, mirrorErr, this]
  · (first | refine CallsA.use (mirror_ok n) ?_ | refine QuietCalls.use (mirror_ok n) ?_)
    simp (implicitDefEqProofs := false) (dsimp := false) only [go_sem]
    have : 0 ≤ n ∧ n ≤ 63 := by simpa using hc
    simp [mirroredB, mirrorErr, this]
theorem mirrored_ok (n : Int) : PureA Tryz.prog 140 [.int .i64 n] (.int .i64 (mirroredB n)) := by
  refine PureA.of_wpp {} 10 mixed Tryz.func140 (by kernel_rfl) rfl (by kernel_rfl) (rfl) fun h j hB => ?_
  simp only [junk_succ, junk_zero, List.cons_append, List.nil_append, List.length_cons, List.length_nil, Nat.reduceAdd]
  simp (implicitDefEqProofs := false) (dsimp := false) only [go_sem]
  (first | refine CallsA.use (Mirror_ok n) ?_ | refine QuietCalls.use (Mirror_ok n) ?_)
  simp (implicitDefEqProofs := false) (dsimp := false) only [go_sem]
def asB (l : Lay) (n : Int) : Int := mirroredB (if l.turned then turnB n else n)
theorem as_ok (l : Lay) (n : Int) : PureA Tryz.prog 119 [.agg (cLay l), .int .i64 n] (.int .i64 (asB l n)) := by
  refine PureA.of_wpp {} 14 mixed Tryz.func119 (by kernel_rfl) rfl (by kernel_rfl) (rfl) fun h j hB => ?_
  simp only [junk_succ, junk_zero, List.cons_append, List.nil_append, List.length_cons, List.length_nil, Nat.reduceAdd]
  obtain ⟨pg, tu, dn, rt⟩ := l
  cases tu
  · simp (implicitDefEqProofs := false) (dsimp := false) only [go_sem, cLay]
    (first | refine CallsA.use (same_ok n) ?_ | refine QuietCalls.use (same_ok n) ?_)
    simp (implicitDefEqProofs := false) (dsimp := false) only [go_sem]
    (first | refine CallsA.use (mirrored_ok _) ?_ | refine QuietCalls.use (mirrored_ok _) ?_)
    simp (implicitDefEqProofs := false) (dsimp := false) only [go_sem]
    rfl
  · simp (implicitDefEqProofs := false) (dsimp := false) only [go_sem, cLay]
    (first | refine CallsA.use (turned_ok n) ?_ | refine QuietCalls.use (turned_ok n) ?_)
    simp (implicitDefEqProofs := false) (dsimp := false) only [go_sem]
    (first | refine CallsA.use (mirrored_ok _) ?_ | refine QuietCalls.use (mirrored_ok _) ?_)
    simp (implicitDefEqProofs := false) (dsimp := false) only [go_sem]
    rfl
def letterB (p : List (List UInt8)) (l : Lay) (row col : Int) : Int × Int × Bool :=
  let high : Int := p.length
  let wide : Int := (p.headD []).length
  let r := row - l.down
  let c := col - l.right
  if r < 0 ∨ high ≤ r ∨ c < 0 ∨ wide ≤ c then (0, 0, false)
  else if l.turned then (high - 1 - r, c, true) else (r, wide - 1 - c, true)
def tup3 (x : Int × Int × Bool) : AV := .tup [.int .i64 x.1, .int .i64 x.2.1, .bool x.2.2]
theorem letterB_out {p : List (List UInt8)} {l : Lay} {row col : Int} (h : row - l.down < 0 ∨ (p.length : Int) ≤ row - l.down ∨ col - l.right < 0 ∨ ((p.headD []).length : Int) ≤ col - l.right) : letterB p l row col = (0, 0, false) := if_pos h
theorem letterB_in {p : List (List UInt8)} {l : Lay} {row col : Int} (h : ¬ (row - l.down < 0 ∨ (p.length : Int) ≤ row - l.down ∨ col - l.right < 0 ∨ ((p.headD []).length : Int) ≤ col - l.right)) : letterB p l row col = if l.turned then ((p.length : Int) - 1 - (row - l.down), col - l.right, true) else (row - l.down, ((p.headD []).length : Int) - 1 - (col - l.right), true) := if_neg h
theorem letter_ok (b : Board) (m : List (Int × Int)) (l : Lay) (row col : Int) (p : Nat) (hp : l.page = p) (hpl : p < b.pages.length) (h0 : 0 < b.pages[p].length) (hr : -1000 ≤ row ∧ row ≤ 1000) (hc : -1000 ≤ col ∧ col ≤ 1000) (hd : -1000 ≤ l.down ∧ l.down ≤ 1000) (hrt : -1000 ≤ l.right ∧ l.right ≤ 1000) (hh : b.pages[p].length ≤ 1000) (hw : (b.pages[p].headD []).length ≤ 1000) : PureA Tryz.prog 113 [.agg (bdA b m), .agg (cLay l), .int .i64 row, .int .i64 col] (tup3 (letterB b.pages[p] l row col)) := by
  refine PureA.of_wpp { cut := [39, 44, 48] } 61 mixed Tryz.func113 (by kernel_rfl) rfl (by kernel_rfl) (rfl) fun h j hB => ?_
  simp only [junk_succ, junk_zero, List.cons_append, List.nil_append, List.length_cons, List.length_nil, Nat.reduceAdd]
  obtain ⟨pg, tu, dn, rt⟩ := l
  simp only at hp hd hrt
  subst hp
  obtain ⟨row0, rows, e0⟩ : ∃ r0 rs, b.pages[p] = r0 :: rs := by
    cases hq : b.pages[p] with
    | nil => rw [hq] at h0; simp at h0
    | cons a t => exact ⟨a, t, rfl⟩
  rw [e0] at h0 hh hw ⊢
  simp only [List.headD_cons, List.length_cons] at h0 hh hw
  have w1 : IntKind.i64.wrap (row - dn) = row - dn := wrap64 (by omega) (by omega)
  have w2 : IntKind.i64.wrap (col - rt) = col - rt := wrap64 (by omega) (by omega)
  have z0 : (0 < ((rows.length : Int) + 1)) = True := eq_true (by omega)
  simp (implicitDefEqProofs := false) (dsimp := false) only [go_sem, bdA, cLay, row1 cPage_len hpl, row1_le cPage_len hpl, hpl, cPage, e0, w1, w2, cStr, List.flatMap_cons]
  have out := letterB_out (p := row0 :: rows) (l := ⟨p, tu, dn, rt⟩) (row := row) (col := col)
  have inn := letterB_in (p := row0 :: rows) (l := ⟨p, tu, dn, rt⟩) (row := row) (col := col)
  simp only [List.headD_cons, List.length_cons] at out inn
  refine ⟨by omega, by omega, fun c1 => ?_, fun c1 => ⟨fun c2 => ?_, fun c2 => ⟨fun c3 => ?_, fun c3 => ⟨fun c4 => ?_, fun c4 => ⟨fun c5 => ?_, fun c5 => ?_⟩⟩⟩⟩⟩
  · rw [out (by omega)]; rfl
  · rw [out (by omega)]; rfl
  · rw [out (by omega)]; rfl
  · rw [out (by omega)]; rfl
  · rw [inn (by omega), wrap64 (n := (((rows.length + 1 : Nat) : Int) - 1)) (by omega) (by omega), wrap64 (n := ((rows.length + 1 : Nat) : Int) - 1 - (row - dn)) (by omega) (by omega)]
    simp [tup3, c5]
  · rw [inn (by omega), wrap64 (n := ((row0.length : Int) - 1)) (by omega) (by omega), wrap64 (n := (row0.length : Int) - 1 - (col - rt)) (by omega) (by omega)]
    simp [tup3, c5]
end Go.Mac
namespace Go.Mac
open Go Go.Conc Go.Proofs
set_option maxRecDepth 4000
theorem eqA_int {P : Program} {t : TypeId} {f : TF} {k k0 : IntKind} {a b : Int} {n : Nat} (ht : tyT P t = some f) (hd : f.d = .int k0) : eqA P (n + 1) t (.int k a) (.int k b) = some (a == b) := by
  obtain ⟨i, h1, h2, h3, h4, _⟩ := tyT_some ht
  have hu : P.underlying t = some (.int k0) := by rw [h2, hd]
  simp only [eqA, hu, if_true]
theorem findA_int {P : Program} {t : TypeId} {f : TF} {k k0 : IntKind} {α : Type} {g : α → Int} {c : Int} (ht : tyT P t = some f) (hd : f.d = .int k0) : ∀ {m : List α} {i : Nat}, findA P t (.int k c) (m.map fun p => .int k (g p)) i = some ((m.findIdx? fun p => c == g p).map (· + i))
  | [], i => rfl
  | p :: m, i => by
    simp only [List.map_cons, findA, eqA_int (n := 5) ht hd, List.findIdx?_cons]
    cases hc : (c == g p) with
    | true => simp
    | false =>
      simp only [findA_int (m := m) ht hd, Bool.false_eq_true, if_false, Option.map_map]
      congr 2
      funext x
      simp only [Function.comp]
      omega
def inkB (m : List (Int × Int)) (c : Int) : Int :=
  match m.find? (fun p => c == p.1) with
  | some p => p.2
  | none => 0
theorem gotA_ink {c : Int} : ∀ {m : List (Int × Int)}, gotA ((m.findIdx? fun p => c == p.1).map (· + 0)) (m.map fun p => .int .i64 p.2) (.int .i64 0) = .int .i64 (inkB m c)
  | [] => rfl
  | p :: m => by
    simp only [List.findIdx?_cons, inkB, List.find?_cons]
    cases hc : (c == p.1) with
    | true => rfl
    | false =>
      have := gotA_ink (c := c) (m := m)
      simp only [Bool.false_eq_true, if_false]
      simp only [inkB] at this
      rw [← this]
      cases hi : m.findIdx? (fun p => c == p.1) <;> simp [gotA]
theorem fits102 : zeroFits Tryz.prog 110 = true := by kernel_rfl
theorem look92 {m : List (Int × Int)} {c : Int} {h : List Blk} : lookupE Tryz.prog 89 (.pmap (m.map fun p => .int .i32 p.1) (m.map fun p => .int .i64 p.2)) (.int .i32 c) false h = some (True, .int .i64 (inkB m c), h) := by
  simp only [lookupE, ty89, ty21, ty110, mapOf, findA_int (g := fun p : Int × Int => p.1) ty21 rfl, fits102, eqA_int (n := 5) ty21 rfl, beq_self_eq_true, zeroA, aggD, and_self, Bool.false_eq_true, if_false, List.getD_cons_zero, gotA_ink]
structure okPage (p : List (List UInt8)) : Prop where
  pos : 0 < p.length
  most : p.length ≤ 3
  wide : ∀ row ∈ p, row.length = (p.headD []).length
  wpos : 0 < (p.headD []).length
  wmost : (p.headD []).length ≤ 4
theorem okPage.row {p : List (List UInt8)} (h : okPage p) {r : Nat} (hr : r < p.length) : p[r].length = (p.headD []).length := h.wide _ (List.getElem_mem hr)
def charAt (p : List (List UInt8)) (r c : Int) : Int := ((p.getD r.toNat []).getD c.toNat 0).toNat
def shownB (m : List (Int × Int)) (p : List (List UInt8)) (l : Lay) (row col : Int) : Int :=
  let x := letterB p l row col
  if x.2.2 then asB l (inkB m (charAt p x.1 x.2.1)) else 0
theorem letterB_cases {p : List (List UInt8)} (l : Lay) (row col : Int) : letterB p l row col = (0, 0, false) ∨ ∃ r c : Nat, letterB p l row col = ((r : Int), (c : Int), true) ∧ r < p.length ∧ c < (p.headD []).length := by
  by_cases h : row - l.down < 0 ∨ (p.length : Int) ≤ row - l.down ∨ col - l.right < 0 ∨ ((p.headD []).length : Int) ≤ col - l.right
  · exact .inl (letterB_out h)
  · right
    rw [letterB_in h]
    split
    · exact ⟨((p.length : Int) - 1 - (row - l.down)).toNat, (col - l.right).toNat, by rw [Int.toNat_of_nonneg (by omega), Int.toNat_of_nonneg (by omega)], by omega, by omega⟩
    · exact ⟨(row - l.down).toNat, (((p.headD []).length : Int) - 1 - (col - l.right)).toNat, by rw [Int.toNat_of_nonneg (by omega), Int.toNat_of_nonneg (by omega)], by omega, by omega⟩
theorem wrap32 {n : Int} (h : -2147483648 ≤ n) (h' : n ≤ 2147483647) : IntKind.i32.wrap n = n := by
  have e : IntKind.i32.wrap n = if n % 4294967296 ≥ 2147483648 then n % 4294967296 - 4294967296 else n % 4294967296 := by
    simp [IntKind.wrap, IntKind.bits, IntKind.signed]
  rw [e]
  split <;> omega
theorem wrap_byte (b : UInt8) : IntKind.i32.wrap (b.toNat : Int) = b.toNat := by have := b.toNat_lt; exact wrap32 (by omega) (by omega)
theorem shown_ok (b : Board) (m : List (Int × Int)) (l : Lay) (row col : Int) (p : Nat) (hp : l.page = p) (hpl : p < b.pages.length) (ok : okPage b.pages[p]) (hr : -1000 ≤ row ∧ row ≤ 1000) (hc : -1000 ≤ col ∧ col ≤ 1000) (hd : -1000 ≤ l.down ∧ l.down ≤ 1000) (hrt : -1000 ≤ l.right ∧ l.right ≤ 1000) : PureA Tryz.prog 79 [.agg (bdA b m), .agg (cLay l), .int .i64 row, .int .i64 col] (.int .i64 (shownB m b.pages[p] l row col)) := by
  refine PureA.of_wpp {} 37 mixed Tryz.func79 (by kernel_rfl) rfl (by kernel_rfl) (rfl) fun h j hB => ?_
  simp only [junk_succ, junk_zero, List.cons_append, List.nil_append, List.length_cons, List.length_nil, Nat.reduceAdd]
  have c1 := letter_ok b m l row col p hp hpl ok.pos hr hc hd hrt (by have := ok.most; omega) (by have := ok.wmost; omega)
  obtain ⟨pg, tu, dn, rt⟩ := l
  simp only at hp hd hrt
  subst hp
  simp (implicitDefEqProofs := false) (dsimp := false) only [go_sem, bdA, cLay]
  (first | refine CallsA.use (c1) ?_ | refine QuietCalls.use (c1) ?_)
  rcases letterB_cases (p := b.pages[p]) ⟨p, tu, dn, rt⟩ row col with e | ⟨r, c, e, hr', hc'⟩
  · simp (implicitDefEqProofs := false) (dsimp := false) only [go_sem, e, tup3]
    simp [shownB, e]
  · have hw := ok.row hr'
    have hcc : c < b.pages[p][r].length := by omega
    simp (implicitDefEqProofs := false) (dsimp := false) only [go_sem, e, tup3, row1 cPage_len hpl, row1_le cPage_len hpl, hpl, cPage, row1 cStr_len hr', row1_le cStr_len hr', hr', cStr, List.getElem?_eq_getElem hcc, wrap_byte, look92]
    refine ⟨by omega, by omega, ?_⟩
    (first | refine CallsA.use (as_ok ⟨p, tu, dn, rt⟩ _) ?_ | refine QuietCalls.use (as_ok ⟨p, tu, dn, rt⟩ _) ?_)
    simp (implicitDefEqProofs := false) (dsimp := false) only [go_sem, shownB, e, charAt]
    simp [hr', hcc]
structure okCells (cs : List (List Trace)) : Prop where
  pos : 0 < cs.length
  most : cs.length ≤ 3
  wide : ∀ row ∈ cs, row.length = (cs.headD []).length
  wpos : 0 < (cs.headD []).length
  wmost : (cs.headD []).length ≤ 4
theorem okCells.row {cs : List (List Trace)} (h : okCells cs) {r : Nat} (hr : r < cs.length) : cs[r].length = (cs.headD []).length := h.wide _ (List.getElem_mem hr)
def part12 (f : Nat → Int) (n : Nat) : List Int := (List.range 12).map fun k => if k < n then f k else 0
def nums12 (l : List Int) : List AV := l.map fun n => .int .i64 n
theorem part12_len (f : Nat → Int) (n : Nat) : (part12 f n).length = 12 := by simp [part12]
theorem nums12_len (l : List Int) : (nums12 l).length = l.length := by simp [nums12]
theorem part12_zero (f : Nat → Int) : nums12 (part12 f 0) = [.int .i64 0, .int .i64 0, .int .i64 0, .int .i64 0, .int .i64 0, .int .i64 0, .int .i64 0, .int .i64 0, .int .i64 0, .int .i64 0, .int .i64 0, .int .i64 0] := rfl
theorem part12_set (f : Nat → Int) {n : Nat} (hn : n < 12) : (nums12 (part12 f n)).set n (.int .i64 (f n)) = nums12 (part12 f (n + 1)) := by
  unfold nums12 part12
  apply List.ext_getElem?
  intro k
  by_cases hk : k < 12
  · by_cases h : n = k
    · subst h
      simp [List.getElem?_set, hk]
    · simp only [List.getElem?_set, h, if_false, List.getElem?_map, List.getElem?_range hk, Option.map_some]
      by_cases h1 : k < n
      · simp [h1, show k < n + 1 by omega]
      · simp [h1, show ¬ k < n + 1 by omega]
  · rw [List.getElem?_eq_none (by simp; omega), List.getElem?_eq_none (by simp; omega)]
theorem setMany_from {α : Type} : ∀ (vs l t : List α), vs.length ≤ t.length → setMany (l ++ t) l.length vs = l ++ vs ++ t.drop vs.length
  | [], l, t, _ => by simp [setMany]
  | v :: vs, l, [], h => by simp at h
  | v :: vs, l, x :: t, h => by
    have := setMany_from vs (l ++ [v]) t (by simp at h; omega)
    simp only [setMany, List.length_cons, List.drop_succ_cons]
    rw [List.set_append_right _ _ (Nat.le_refl _), Nat.sub_self, List.set_cons_zero]
    simp only [List.length_append, List.length_singleton, List.append_assoc, List.singleton_append] at this
    rw [this]
    simp
theorem setMany_whole {α : Type} {vs t : List α} (h : vs.length = t.length) : setMany t 0 vs = vs := by
  have := setMany_from vs [] t (by omega)
  simp only [List.nil_append, List.length_nil] at this
  rw [this, List.drop_eq_nil_of_le (by omega), List.append_nil]
theorem n12_len (f : Nat → Int) (n : Nat) : (nums12 (part12 f n)).length = 12 := by simp [nums12, part12]
theorem n12_take (f : Nat → Int) (n : Nat) : (nums12 (part12 f n)).take 12 = nums12 (part12 f n) := List.take_of_length_le (by rw [n12_len]; omega)
theorem nums_leaf (l : List Int) : (nums12 l).all leafA = true := by simp [nums12, leafA]
theorem n12_all (f g : Nat → Int) (n k : Nat) : setMany (nums12 (part12 f n)) 0 (nums12 (part12 g k)) = nums12 (part12 g k) := setMany_whole (by rw [n12_len, n12_len])
theorem part12_skip {f : Nat → Int} {n n' : Nat} (h : n ≤ n') (hf : ∀ k, n ≤ k → k < n' → f k = 0) : part12 f n = part12 f n' := by
  unfold part12
  refine List.map_congr_left fun k _ => ?_
  by_cases h1 : k < n
  · simp [h1, show k < n' by omega]
  · by_cases h2 : k < n'
    · simp [h1, h2, hf k (by omega) h2]
    · simp [h1, h2]
def faceAt (m : List (Int × Int)) (p : List (List UInt8)) (cs : List (List Trace)) (l : Lay) (k : Nat) : Int :=
  if k / 4 < cs.length ∧ k % 4 < (cs.headD []).length then shownB m p l (k / 4 : Nat) (k % 4 : Nat) else 0
def faceB (m : List (Int × Int)) (p : List (List UInt8)) (cs : List (List Trace)) (l : Lay) : List Int := part12 (faceAt m p cs l) 12
theorem face_ok (b : Board) (m : List (Int × Int)) (l : Lay) (p : Nat) (hp : l.page = p) (hpl : p < b.pages.length) (ok : okPage b.pages[p]) (okc : okCells b.cells) (hd : -1000 ≤ l.down ∧ l.down ≤ 1000) (hrt : -1000 ≤ l.right ∧ l.right ≤ 1000) : PureA Tryz.prog 87 [.agg (bdA b m), .agg (cLay l)] (.agg (nums12 (faceB m b.pages[p] b.cells l))) := by
  refine PureA.of_wpp { tail := [(8, 8)] } 35 mixed Tryz.func87 (by kernel_rfl) rfl (by kernel_rfl) (rfl) fun h j hB => ?_
  simp only [junk_succ, junk_zero, List.cons_append, List.nil_append, List.length_cons, List.length_nil, Nat.reduceAdd]
  obtain ⟨pg, tu, dn, rt⟩ := l
  simp only at hp hd hrt
  subst hp
  simp (implicitDefEqProofs := false) (dsimp := false) only [go_sem, bdA, cLay]
  refine WP.loopI (fun (i : Nat) s => i ≤ b.cells.length ∧ s.sl.length = 37 ∧ s.df = [] ∧ s.gh = {} ∧ s.hp = h ++ [.cells 0 (bdA b m), .cells 0 (cLay ⟨p, tu, dn, rt⟩), .cells 0 (nums12 (part12 (fun _ => 0) 0)), .cells 0 (nums12 (part12 (faceAt m b.pages[p] b.cells ⟨p, tu, dn, rt⟩) (4 * i)))] ∧ evA s.sl (.tmp 2) = .ptr ⟨h.length, 0⟩ 0 ∧ evA s.sl (.tmp 3) = .ptr ⟨h.length + 1, 0⟩ 0 ∧ evA s.sl (.tmp 4) = .ptr ⟨h.length + 2, 0⟩ 0 ∧ evA s.sl (.tmp 5) = .ptr ⟨h.length + 3, 0⟩ 0 ∧ evA s.sl (.tmp 11) = .int .i64 b.cells.length ∧ evA s.sl (.tmp 12) = .int .i64 i) (fun i => b.cells.length - i) 0 ?_ ?_
  · simp (implicitDefEqProofs := false) (dsimp := false) only [go_sem, bdA, cLay, part12_zero, Nat.mul_zero, Nat.zero_le]
  · rintro i ⟨sl, df, hp, gh⟩ ⟨h1, h2, rfl, rfl, rfl, h3, h4, h5, h6, h7, h8⟩
    simp only at h1 h2 h3 h4 h5 h6 h7 h8
    obtain ⟨j, rfl⟩ := slots_lit h2; clear h2; simp only [junk_succ, junk_zero, evA_tmp, nth_16, nth_four, nth_one, nth_zero, Nat.zero_add, Nat.reduceAdd] at  h3 h4 h5 h6 h7 h8 ⊢
    refine wp_ok (so := { tail := [(8, 8)] }) mixed _ (by kernel_rfl) ?_
    by_cases hi : i < b.cells.length
    · have hw := okc.row hi
      simp (implicitDefEqProofs := false) (dsimp := false) only [go_sem, h3, h4, h5, h6, h7, h8, bdA, cLay, nat_lt hi, decide_true, row1 cTraces_len hi, row1_le cTraces_len hi, hi, cTraces]
      refine WP.loopI (fun (c : Nat) s => c ≤ (b.cells.headD []).length ∧ s.sl.length = 37 ∧ s.df = [] ∧ s.gh = {} ∧ s.hp = h ++ [.cells 0 (bdA b m), .cells 0 (cLay ⟨p, tu, dn, rt⟩), .cells 0 (nums12 (part12 (fun _ => 0) 0)), .cells 0 (nums12 (part12 (faceAt m b.pages[p] b.cells ⟨p, tu, dn, rt⟩) (4 * i + c)))] ∧ evA s.sl (.tmp 2) = .ptr ⟨h.length, 0⟩ 0 ∧ evA s.sl (.tmp 3) = .ptr ⟨h.length + 1, 0⟩ 0 ∧ evA s.sl (.tmp 4) = .ptr ⟨h.length + 2, 0⟩ 0 ∧ evA s.sl (.tmp 5) = .ptr ⟨h.length + 3, 0⟩ 0 ∧ evA s.sl (.tmp 11) = .int .i64 b.cells.length ∧ evA s.sl (.tmp 12) = .int .i64 i ∧ evA s.sl (.tmp 6) = .int .i64 i ∧ evA s.sl (.tmp 21) = .int .i64 (b.cells.headD []).length ∧ evA s.sl (.tmp 22) = .int .i64 c) (fun c => (b.cells.headD []).length - c) 0 ?_ ?_
      · simp (implicitDefEqProofs := false) (dsimp := false) only [go_sem, bdA, cLay, Nat.zero_le, hw]
      · rintro c ⟨sl, df, hp, gh⟩ ⟨k1, k2, rfl, rfl, rfl, k3, k4, k5, k6, k7, k8, k9, k10, k11⟩
        simp only at k1 k2 k3 k4 k5 k6 k7 k8 k9 k10 k11
        obtain ⟨j, rfl⟩ := slots_lit k2; clear k2; simp only [junk_succ, junk_zero, evA_tmp, nth_16, nth_four, nth_one, nth_zero, Nat.zero_add, Nat.reduceAdd] at  k3 k4 k5 k6 k7 k8 k9 k10 k11 ⊢
        refine wp_ok (so := { tail := [(8, 8)] }) mixed _ (by kernel_rfl) ?_
        by_cases hc : c < (b.cells.headD []).length
        · simp (implicitDefEqProofs := false) (dsimp := false) only [go_sem, k3, k4, k5, k6, k7, k8, k9, k10, k11, bdA, cLay, nat_lt hc, decide_true]
          have q1 := okc.most
          have q2 := okc.wmost
          (first | refine CallsA.use (shown_ok b m ⟨p, tu, dn, rt⟩ i c p rfl hpl ok (by omega) (by omega) hd hrt) ?_ | refine QuietCalls.use (shown_ok b m ⟨p, tu, dn, rt⟩ i c p rfl hpl ok (by omega) (by omega) hd hrt) ?_)
          simp (implicitDefEqProofs := false) (dsimp := false) only [go_sem]
          have e : shownB m b.pages[p] ⟨p, tu, dn, rt⟩ i c = faceAt m b.pages[p] b.cells ⟨p, tu, dn, rt⟩ (4 * i + c) := by
            unfold faceAt
            rw [show (4 * i + c) / 4 = i by omega, show (4 * i + c) % 4 = c by omega, if_pos ⟨hi, hc⟩]
          rw [e, show i * 4 + c = 4 * i + c by omega, n12_len, part12_set _ (show 4 * i + c < 12 by omega)]
          exact ⟨by omega, by omega, by omega, c + 1, ⟨by omega, ⟨rfl, rfl, rfl⟩, wrap_succ (by omega)⟩, by omega⟩
        · have hs : ((c : Int) < ((b.cells.headD []).length : Int)) = False := eq_false (by omega)
          simp (implicitDefEqProofs := false) (dsimp := false) only [go_sem, k3, k4, k5, k6, k7, k8, k9, k10, k11, bdA, cLay, hs, decide_false]
          have q1 := okc.most
          have q2 := okc.wmost
          refine ⟨i + 1, ⟨by omega, ?_, wrap_succ (by omega)⟩, by omega⟩
          rw [part12_skip (n := 4 * i + c) (n' := 4 * (i + 1)) (by omega)]
          intro k hk hk'
          unfold faceAt
          rw [if_neg (by omega)]
    · have hs : ((i : Int) < (b.cells.length : Int)) = False := eq_false (by omega)
      simp (implicitDefEqProofs := false) (dsimp := false) only [go_sem, h3, h4, h5, h6, h7, h8, bdA, cLay, hs, decide_false, n12_len, n12_take, nums_leaf, n12_all, Nat.le_refl]
      have : i = b.cells.length := by omega
      subst this
      unfold faceB
      rw [part12_skip (n := 4 * b.cells.length) (n' := 12) (by have := okc.most; omega)]
      intro k hk _
      unfold faceAt
      rw [if_neg (by omega)]
end Go.Mac
namespace Go.Mac
open Go Go.Conc Go.Proofs
set_option maxRecDepth 4000
theorem okCells.at {cs : List (List Trace)} (h : okCells cs) {r c : Nat} (hr : r < cs.length) (hc : c < (cs.headD []).length) : c < cs[r].length := by rw [h.row hr]; exact hc
def fitsB (n : Int) (t : Trace) : Bool := andK .i64 n t.seen == t.seen && andK .i64 n t.bare == 0
def traceAt (cs : List (List Trace)) (r c : Nat) : Trace := (cs.getD r []).getD c ⟨0, 0⟩
theorem traceAt_eq {cs : List (List Trace)} {r c : Nat} (hr : r < cs.length) (hc : c < cs[r].length) : traceAt cs r c = cs[r][c] := by simp [traceAt, List.getD, hr, hc]
theorem nums12_at {f : List Int} {k : Nat} (hf : f.length = 12) (hk : k < 12) : (nums12 f).drop k = .int .i64 (f.getD k 0) :: (nums12 f).drop (k + 1) := by
  have : k < (nums12 f).length := by rw [nums12_len]; omega
  rw [List.drop_eq_getElem_cons this]
  congr 1
  simp [nums12, List.getD, hf, hk]
theorem right_ok (b : Board) (m : List (Int × Int)) (f : List Int) (hf : f.length = 12) (okc : okCells b.cells) (r c : Nat) (hr : r < b.cells.length) (hc : c < (b.cells.headD []).length) : PureA Tryz.prog 123 [.agg (bdA b m), .agg (nums12 f), .int .i64 r, .int .i64 c] (.bool (fitsB (f.getD (4 * r + c) 0) (traceAt b.cells r c))) := by
  refine PureA.of_wpp { cut := [30] } 37 mixed Tryz.func123 (by kernel_rfl) rfl (by kernel_rfl) (rfl) fun h j hB => ?_
  simp only [junk_succ, junk_zero, List.cons_append, List.nil_append, List.length_cons, List.length_nil, Nat.reduceAdd]
  have q1 := okc.most
  have q2 := okc.wmost
  have hcc := okc.at hr hc
  have h12 : (nums12 f).length = 12 := by rw [nums12_len, hf]
  simp (implicitDefEqProofs := false) (dsimp := false) only [go_sem, bdA, row1 cTraces_len hr, row1_le cTraces_len hr, hr, cTraces, rowN cTrace_len hcc, rowN_le cTrace_len hcc, hcc, cTrace, nums12_at (k := r * 4 + c) hf (by omega)]
  rw [traceAt_eq hr hcc, show r * 4 + c = 4 * r + c by omega]
  refine ⟨by omega, by omega, by omega, by omega, fun h1 => ⟨by omega, by omega, ?_⟩, fun h1 => ?_⟩
  · simp only [fitsB, h1, beq_self_eq_true, Bool.true_and]
  · simp only [fitsB, h1, Bool.false_and]
def misAt (f : List Int) (cs : List (List Trace)) (k : Nat) : List (Int × Int) :=
  if fitsB (f.getD k 0) (traceAt cs (k / 4) (k % 4)) then [] else [(((k / 4 : Nat) : Int), ((k % 4 : Nat) : Int))]
def misTo (f : List Int) (cs : List (List Trace)) (n : Nat) : List (Int × Int) :=
  (List.range n).flatMap fun k => if k % 4 < (cs.headD []).length then misAt f cs k else []
def misB (f : List Int) (cs : List (List Trace)) : List (Int × Int) := misTo f cs (4 * cs.length)
theorem misTo_succ (f : List Int) (cs : List (List Trace)) (n : Nat) : misTo f cs (n + 1) = misTo f cs n ++ if n % 4 < (cs.headD []).length then misAt f cs n else [] := by
  simp [misTo, List.range_succ]
theorem misTo_skip {f : List Int} {cs : List (List Trace)} {n : Nat} : ∀ {m : Nat}, (∀ k, n ≤ k → k < n + m → ¬ k % 4 < (cs.headD []).length) → misTo f cs (n + m) = misTo f cs n
  | 0, _ => rfl
  | m + 1, h => by
    rw [← Nat.add_assoc, misTo_succ, if_neg (h (n + m) (by omega) (by omega)), List.append_nil]
    exact misTo_skip fun k h1 h2 => h k h1 (by omega)
def cPair (p : Int × Int) : List AV := [.psl [.int .i64 p.1, .int .i64 p.2] 2]
@[simp] theorem cPair_len (p) : (cPair p).length = 1 := rfl
theorem misTo_len (f : List Int) (cs : List (List Trace)) : ∀ n, (misTo f cs n).length ≤ n
  | 0 => Nat.le_refl _
  | n + 1 => by
    rw [misTo_succ, List.length_append]
    have := misTo_len f cs n
    have h2 : (if n % 4 < (cs.headD []).length then misAt f cs n else []).length ≤ 1 := by
      split
      · unfold misAt; split <;> simp
      · simp
    omega
theorem nums_take {f : List Int} (hf : f.length = 12) : (nums12 f).take 12 = nums12 f := List.take_of_length_le (by rw [nums12_len, hf]; omega)
theorem below_psl {α : Type} {f : α → List AV} (h : ∀ x, (f x).all (below 0) = true) (l : List α) : below 0 (sliceOf f l) = true := by
  simp only [sliceOf, below, belowL_all, List.all_flatMap, h]
  simp
theorem rows_all {α : Type} {f : α → List AV} (hf : ∀ x, (f x).length = 1) (l : List α) : (l.flatMap f).take l.length = l.flatMap f :=
  List.take_of_length_le (by rw [length_rows hf]; omega)
theorem rows_length {α : Type} {f : α → List AV} (hf : ∀ x, (f x).length = 1) (l : List α) : (l.flatMap f).length = l.length := by rw [length_rows hf]; omega
theorem misfits_ok (b : Board) (m : List (Int × Int)) (f : List Int) (hf : f.length = 12) (okc : okCells b.cells) : PureA Tryz.prog 86 [.agg (bdA b m), .agg (nums12 f)] (sliceOf cPair (misB f b.cells)) := by
  refine PureA.of_wps [4] { shut := [34, 35] } 38 mixed Tryz.func86 (by kernel_rfl) rfl (by kernel_rfl) (below_psl (fun _ => rfl) _) fun h j hB => ?_
  simp only [junk_succ, junk_zero, List.cons_append, List.nil_append, List.length_cons, List.length_nil, Nat.reduceAdd]
  have q1 := okc.most
  have q2 := okc.wmost
  simp (implicitDefEqProofs := false) (dsimp := false) only [go_sem, bdA]
  refine WPI.turn (Turns.nilSlot (d := 5) (sz := 1) ?_) ?_
  · simp (implicitDefEqProofs := false) (dsimp := false) only [go_sem]
  refine WP.loopI (fun (i : Nat) s => i ≤ b.cells.length ∧ s.sl.length = 40 ∧ s.df = [] ∧ s.gh = {} ∧ s.hp = h ++ [.cells 0 (bdA b m), .cells 0 (nums12 f), .cells (misTo f b.cells (4 * i)).length ((misTo f b.cells (4 * i)).flatMap cPair)] ∧ evA s.sl (.tmp 2) = .ptr ⟨h.length, 0⟩ 0 ∧ evA s.sl (.tmp 3) = .ptr ⟨h.length + 1, 0⟩ 0 ∧ evA s.sl (.tmp 5) = .sl ⟨h.length + 2, (misTo f b.cells (4 * i)).length⟩ 1 0 (misTo f b.cells (4 * i)).length ∧ evA s.sl (.tmp 11) = .int .i64 b.cells.length ∧ evA s.sl (.tmp 12) = .int .i64 i) (fun i => b.cells.length - i) 0 ?_ ?_
  · simp (implicitDefEqProofs := false) (dsimp := false) only [go_sem, bdA, Nat.mul_zero, Nat.zero_le, List.set_cons_succ, List.set_cons_zero]
    simp [misTo]
  · rintro i ⟨sl, df, hp, gh⟩ ⟨h1, h2, rfl, rfl, rfl, h3, h4, h5, h6, h7⟩
    simp only at h1 h2 h3 h4 h5 h6 h7
    obtain ⟨j, rfl⟩ := slots_lit h2; clear h2; simp only [junk_succ, junk_zero, evA_tmp, nth_16, nth_four, nth_one, nth_zero, Nat.zero_add, Nat.reduceAdd] at  h3 h4 h5 h6 h7 ⊢
    refine wp_ok (so := { shut := [34, 35] }) mixed _ (by kernel_rfl) ?_
    by_cases hi : i < b.cells.length
    · have hw := okc.row hi
      simp (implicitDefEqProofs := false) (dsimp := false) only [go_sem, h3, h4, h5, h6, h7, bdA, nat_lt hi, decide_true, row1 cTraces_len hi, row1_le cTraces_len hi, hi, cTraces]
      refine WP.loopI (fun (c : Nat) s => c ≤ (b.cells.headD []).length ∧ s.sl.length = 40 ∧ s.df = [] ∧ s.gh = {} ∧ s.hp = h ++ [.cells 0 (bdA b m), .cells 0 (nums12 f), .cells (misTo f b.cells (4 * i + c)).length ((misTo f b.cells (4 * i + c)).flatMap cPair)] ∧ evA s.sl (.tmp 2) = .ptr ⟨h.length, 0⟩ 0 ∧ evA s.sl (.tmp 3) = .ptr ⟨h.length + 1, 0⟩ 0 ∧ evA s.sl (.tmp 5) = .sl ⟨h.length + 2, (misTo f b.cells (4 * i + c)).length⟩ 1 0 (misTo f b.cells (4 * i + c)).length ∧ evA s.sl (.tmp 11) = .int .i64 b.cells.length ∧ evA s.sl (.tmp 12) = .int .i64 i ∧ evA s.sl (.tmp 6) = .int .i64 i ∧ evA s.sl (.tmp 21) = .int .i64 (b.cells.headD []).length ∧ evA s.sl (.tmp 22) = .int .i64 c) (fun c => (b.cells.headD []).length - c) 0 ?_ ?_
      · simp (implicitDefEqProofs := false) (dsimp := false) only [go_sem, bdA, Nat.zero_le, hw]
      · rintro c ⟨sl, df, hp, gh⟩ ⟨k1, k2, rfl, rfl, rfl, k3, k4, k5, k6, k7, k8, k9, k10⟩
        simp only at k1 k2 k3 k4 k5 k6 k7 k8 k9 k10
        obtain ⟨j, rfl⟩ := slots_lit k2; clear k2; simp only [junk_succ, junk_zero, evA_tmp, nth_16, nth_four, nth_one, nth_zero, Nat.zero_add, Nat.reduceAdd] at  k3 k4 k5 k6 k7 k8 k9 k10 ⊢
        refine wp_ok (so := { shut := [34, 35] }) mixed _ (by kernel_rfl) ?_
        by_cases hc : c < (b.cells.headD []).length
        · have e : misTo f b.cells (4 * i + (c + 1)) = misTo f b.cells (4 * i + c) ++ if fitsB (f.getD (4 * i + c) 0) (traceAt b.cells i c) then [] else [((i : Int), (c : Int))] := by
            rw [← Nat.add_assoc, misTo_succ]
            simp only [misAt, show (4 * i + c) / 4 = i by omega, show (4 * i + c) % 4 = c by omega, hc, if_true]
          simp (implicitDefEqProofs := false) (dsimp := false) only [go_sem, k3, k4, k5, k6, k7, k8, k9, k10, bdA, nat_lt hc, decide_true, nums12_len, hf, nums_take hf, Nat.le_refl]
          (first | refine CallsA.use (right_ok b m f hf okc i c hi hc) ?_ | refine QuietCalls.use (right_ok b m f hf okc i c hi hc) ?_)
          cases hq : fitsB (f.getD (4 * i + c) 0) (traceAt b.cells i c) with
          | true =>
            simp (implicitDefEqProofs := false) (dsimp := false) only [go_sem]
            refine ⟨c + 1, ?_⟩
            rw [e, hq, wrap_succ (by omega)]
            refine ⟨⟨by omega, ?_⟩, by omega⟩
            simp [bdA, sliceOf]
          | false =>
            simp (implicitDefEqProofs := false) (dsimp := false) only [go_sem]
            have hn := misTo_len f b.cells (4 * i + c)
            refine ⟨⟨rows_length cPair_len _, by omega⟩, c + 1, ?_⟩
            rw [e, hq, wrap_succ (by omega)]
            refine ⟨⟨by omega, ?_⟩, by omega⟩
            simp [cPair, bdA, sliceOf]
        · have hs : ((c : Int) < ((b.cells.headD []).length : Int)) = False := eq_false (by omega)
          simp (implicitDefEqProofs := false) (dsimp := false) only [go_sem, k3, k4, k5, k6, k7, k8, k9, k10, bdA, hs, decide_false]
          refine ⟨i + 1, ?_⟩
          rw [show 4 * (i + 1) = 4 * i + c + (4 - c) by omega, misTo_skip (n := 4 * i + c) (m := 4 - c) (by intro k _ _; omega), wrap_succ (by omega)]
          refine ⟨⟨by omega, ?_⟩, by omega⟩
          simp
    · have hs : ((i : Int) < (b.cells.length : Int)) = False := eq_false (by omega)
      simp (implicitDefEqProofs := false) (dsimp := false) only [go_sem, h3, h4, h5, h6, h7, bdA, hs, decide_false, rows_all cPair_len]
      have : i = b.cells.length := by omega
      subst this
      rfl
end Go.Mac
namespace Go.Mac
open Go Go.Conc Go.Proofs
set_option maxRecDepth 4000
theorem bdA_below (b : Board) (m : List (Int × Int)) : belowL 0 (bdA b m) = true := by
  have h1 := below_psl (f := cGlyph) (fun _ => rfl) b.glyphs
  have h2 := below_psl (f := cPage) (fun p => by have := below_psl (f := cStr) (fun _ => rfl) p; simp [cPage, this]) b.pages
  have h3 := below_psl (f := cTraces) (fun p => by have := below_psl (f := cTrace) (fun _ => rfl) p; simp [cTraces, this]) b.cells
  simp only [bdA, belowL, h1, h2, h3, Bool.and_true, Bool.true_and]
  simp [below, belowL_all, Function.comp_def]
def waysA (b : Board) (m : List (Int × Int)) (page : Int) : AV := .fn (.func 111) [] [.pptr [.int .i64 page], .pptr (bdA b m)]
theorem laysOf_ok (b : Board) (m : List (Int × Int)) (page : Int) : PureA Tryz.prog 61 [.agg (bdA b m), .int .i64 page] (waysA b m page) := by
  refine PureA.of_wpp { hand := [1] } 4 mixed Tryz.func61 (by kernel_rfl) rfl (by kernel_rfl) (by simp only [waysA, below, belowL, bdA_below, Bool.and_true]) fun h j hB => ?_
  simp only [junk_succ, junk_zero, List.cons_append, List.nil_append, List.length_cons, List.length_nil, Nat.reduceAdd]
  simp (implicitDefEqProofs := false) (dsimp := false) only [go_sem, bdA]
  refine wp_shut [2, 3] (so := { }) mixed _ (by kernel_rfl) ?_
  simp (implicitDefEqProofs := false) (dsimp := false) only [go_sem]
  simp [waysA, bdA, sliceOf]
def layN (p : Int) (n : Nat) : Lay := ⟨p, decide (9 ≤ n), ((n % 9 / 3 : Nat) : Int) - 1, ((n % 3 : Nat) : Int) - 1⟩
def wayA (m : List (Int × Int)) (pg : List (List UInt8)) (cs : List (List Trace)) (l : Lay) : List AV := [.agg (cLay l), .agg (nums12 (faceB m pg cs l))]
def ways18 (m : List (Int × Int)) (pg : List (List UInt8)) (cs : List (List Trace)) (p : Int) : List (List AV) := (List.range 18).map fun n => wayA m pg cs (layN p n)
theorem ways18_len (m : List (Int × Int)) (pg : List (List UInt8)) (cs : List (List Trace)) (p : Int) : (ways18 m pg cs p).length = 18 := by simp [ways18]
theorem loopAr_append {h : List Blk} {n : Nm} (b : List Blk) (hn : n.id < h.length) : loopAr (h ++ b) n = loopAr h n := by simp only [loopAr, List.getElem?_append_left hn]
theorem laysOf1_ok (b : Board) (m : List (Int × Int)) (p : Nat) (hpl : p < b.pages.length) (ok : okPage b.pages[p]) (okc : okCells b.cells) : IterA Tryz.prog 111 [.pptr [.int .i64 p], .pptr (bdA b m)] (ways18 m b.pages[p] b.cells p) := by
  intro n L J S hg hJ hS hY h h0
  have hl18 := ways18_len m b.pages[p] b.cells p
  refine CallsA.of_wpe [] { tail := [(4, 5)] } 25 mixed Tryz.func111 (by kernel_rfl) rfl (by kernel_rfl) fun j hB hA => ?_; simp only [junk_succ, junk_zero, List.cons_append, List.nil_append, List.length_cons, List.length_nil, Nat.reduceAdd]
  simp (implicitDefEqProofs := false) (dsimp := false) only [go_sem, bdA]
  refine WP.loopI (fun (k : Nat) s => k ≤ 18 ∧ s.sl.length = 28 ∧ s.df = [] ∧ s.gh = {} ∧ (∃ h1 own, s.hp = h1 ++ own ∧ J k h1) ∧ evA s.sl (.tmp 0) = .yield n ∧ evA s.sl (.tmp 1) = .pptr [.int .i64 p] ∧ evA s.sl (.tmp 2) = .pptr (bdA b m) ∧ evA s.sl (.tmp 6) = .int .i64 k) (fun k => 18 - k) 0 ?_ ?_
  · simp (implicitDefEqProofs := false) (dsimp := false) only [go_sem, bdA, Nat.zero_le]
    exact ⟨h, [], by simp, h0⟩
  · rintro k ⟨sl, df, hp, gh⟩ ⟨h1, h2, rfl, rfl, ⟨hl, own, rfl, hj⟩, h3, h4, h5, h6⟩
    simp only at h1 h2 h3 h4 h5 h6
    obtain ⟨j, rfl⟩ := slots_lit h2; clear h2; simp only [junk_succ, junk_zero, evA_tmp, nth_16, nth_four, nth_one, nth_zero, Nat.zero_add, Nat.reduceAdd] at  h3 h4 h5 h6 ⊢
    refine wp_ok (so := { tail := [(4, 5)] }) mixed _ (by kernel_rfl) ?_
    by_cases hk : k < 18
    · have hs : ((k : Int) < 18) = True := eq_true (by omega)
      have e1 : IntKind.i64.wrap (((k : Int).tmod 9).tdiv 3) = ((k % 9 / 3 : Nat) : Int) := by
        rw [show ((k : Int).tmod 9).tdiv 3 = ((k % 9 / 3 : Nat) : Int) by rw [show (k : Int).tmod 9 = ((k % 9 : Nat) : Int) from rfl]; rfl]
        exact wrap64 (by omega) (by omega)
      have e2 : IntKind.i64.wrap (((k % 9 / 3 : Nat) : Int) - 1) = ((k % 9 / 3 : Nat) : Int) - 1 := wrap64 (by omega) (by omega)
      have e3 : IntKind.i64.wrap ((k : Int).tmod 3 - 1) = ((k % 3 : Nat) : Int) - 1 := by
        rw [show (k : Int).tmod 3 = ((k % 3 : Nat) : Int) from rfl]
        exact wrap64 (by omega) (by omega)
      have e4 : decide ((k : Int) ≥ 9) = decide (9 ≤ k) := decide_eq_decide.2 (by omega)
      obtain ⟨g1, g2, g3, g4⟩ := hJ k hl hj
      simp (implicitDefEqProofs := false) (dsimp := false) only [go_sem, h3, h4, h5, h6, bdA, hs, decide_true, e1, e2, e3, e4]
      (first | refine CallsA.use (face_ok b m (layN p k) p rfl hpl ok okc (by simp only [layN]; omega) (by simp only [layN]; omega)) ?_ | refine QuietCalls.use (face_ok b m (layN p k) p rfl hpl ok okc (by simp only [layN]; omega) (by simp only [layN]; omega)) ?_)
      simp (implicitDefEqProofs := false) (dsimp := false) only [go_sem]
      refine ⟨hg, ?_, ?_⟩
      · rw [loopAr_append _ (by omega), g4 (by omega)]
        simp [ways18, wayA]
      · have hy := hY k hl (own ++ [.cells 0 (cLay (layN p k))]) (by omega) hj
        rw [show (ways18 m b.pages[p] b.cells p)[k]'(by omega) = wayA m b.pages[p] b.cells (layN p k) by simp [ways18]] at hy
        refine YieldA.mono hy ?_
        rintro e h' ⟨q, h2, rfl, rfl, hq⟩
        cases q with
        | true =>
          simp (implicitDefEqProofs := false) (dsimp := false) only [go_sem, bdA]
          exact ⟨k + 1, ⟨by omega, ⟨h2, _, rfl, hq⟩, wrap_succ (by omega)⟩, by omega⟩
        | false =>
          simp (implicitDefEqProofs := false) (dsimp := false) only [go_sem]
          obtain ⟨r1, r2⟩ := hS _ hq
          have r3 := (hJ 0 h h0).1
          refine ⟨_, L, rfl, by omega, by simp [below, belowL], ?_, rfl, .inr ?_⟩
          · rw [List.take_left' r1]; exact r2
          · rw [List.take_left' r1]; exact hq
    · have hs : ((k : Int) < 18) = False := eq_false (by omega)
      simp (implicitDefEqProofs := false) (dsimp := false) only [go_sem, h3, h4, h5, h6, bdA, hs, decide_false]
      have e18 : k = 18 := by omega
      subst e18
      obtain ⟨r1, r2, _⟩ := hJ _ _ hj
      have r3 := (hJ 0 h h0).1
      refine ⟨_, L, rfl, by omega, by simp [below, belowL], ?_, rfl, .inl ?_⟩
      · rw [List.take_left' r1]; exact r2
      · rw [List.take_left' r1, hl18]; exact hj
end Go.Mac
namespace Go.Mac
open Go Go.Conc Go.Proofs
set_option maxRecDepth 4000
def faultA (e : Int) : AV := .iface 160 (.agg [.int .i64 e])
def FaultP (e : Int) (h : List Blk) (r : AEnd) (h' : List Blk) : Prop := (e = 0 ∧ r = .ret (.tup []) ∧ h' = h) ∨ (e ≠ 0 ∧ r = .panic (faultA e) ∧ ∃ k, h' = h ++ k)
def FaultC (f : FuncId) (args : List AV) (e : Int) : Prop := ∀ h, CallsA Tryz.prog f args h (FaultP e h)
theorem FaultP.panic {e e' : Int} {h k : List Blk} (h0 : e' ≠ 0) (h1 : e' = e) : FaultP e h (.panic (.iface 160 (.agg [.int .i64 e']))) (h ++ k) := by
  subst h1; exact .inr ⟨h0, rfl, k, rfl⟩
theorem FaultP.panic0 {e e' : Int} {h : List Blk} (h0 : e' ≠ 0) (h1 : e' = e) : FaultP e h (.panic (.iface 160 (.agg [.int .i64 e']))) h := by
  subst h1; exact .inr ⟨h0, rfl, [], (List.append_nil _).symm⟩
theorem FaultC.use {f : FuncId} {args : List AV} {e : Int} {h : List Blk} {Post : AEnd → List Blk → Prop} (c : FaultC f args e) (h2 : e ≠ 0 → ∀ k, Post (.panic (faultA e)) (h ++ k)) (h1 : e = 0 → Post (.ret (.tup [])) h) : CallsA Tryz.prog f args h Post :=
  (c h).mono fun r h' q => by
    rcases q with ⟨q1, rfl, rfl⟩ | ⟨q1, rfl, k, rfl⟩
    · exact h1 q1
    · exact h2 q1 k
theorem fault_fine {h k : List Blk} {e : Int} (hb : h.all (belowBlk h.length) = true) (he : e = 0) : ∃ v n, AV.tup [] = v ∧ h.length ≤ n ∧ below n v = true ∧ ((h ++ k).take n).all (belowBlk n) = true ∧ FaultP e h (.ret v) ((h ++ k).take n) := by
  refine ⟨_, h.length, rfl, Nat.le_refl _, rfl, ?_, .inl ⟨he, rfl, ?_⟩⟩ <;> rw [List.take_left]
  exact hb
theorem fault_fine0 {h : List Blk} {e : Int} (hb : h.all (belowBlk h.length) = true) (he : e = 0) : ∃ v n, AV.tup [] = v ∧ h.length ≤ n ∧ below n v = true ∧ (h.take n).all (belowBlk n) = true ∧ FaultP e h (.ret v) (h.take n) := by
  have := fault_fine (k := []) hb he; simpa using this
attribute [go_sem] faultA
theorem must_ok (e : Int) : FaultC 106 [.int .i64 e] e := by
  intro h
  refine CallsA.of_wpe [] {} 6 mixed Tryz.func106 (by kernel_rfl) rfl (by kernel_rfl) fun j hB hA => ?_; simp only [junk_succ, junk_zero, List.cons_append, List.nil_append, List.length_cons, List.length_nil, Nat.reduceAdd]
  simp (implicitDefEqProofs := false) (dsimp := false) only [go_sem]
  refine ⟨fun hc => FaultP.panic0 (by simpa using hc) rfl, fun hc => fault_fine0 hB (by simpa using hc)⟩
def hasB (m : List (Int × Int)) (c : Int) : Bool := m.any fun p => c == p.1
theorem look92k {m : List (Int × Int)} {c : Int} {h : List Blk} : lookupE Tryz.prog 89 (.pmap (m.map fun p => .int .i32 p.1) (m.map fun p => .int .i64 p.2)) (.int .i32 c) true h = some (True, .tup [.int .i64 (inkB m c), .bool (hasB m c)], h) := by
  simp only [lookupE, ty89, ty21, ty110, mapOf, findA_int (g := fun p : Int × Int => p.1) ty21 rfl, fits102, eqA_int (n := 5) ty21 rfl, beq_self_eq_true, zeroA, aggD, and_self, Bool.false_eq_true, if_false, if_true, List.getD_cons_zero, gotA_ink]
  simp [hasB, List.findIdx?_isSome]
def charsErr (m : List (Int × Int)) : List UInt8 → Int
  | [] => 0
  | b :: l => if hasB m b.toNat then charsErr m l else 2
def rowsErr (m : List (Int × Int)) (wide : Nat) : List (List UInt8) → Int
  | [] => 0
  | row :: l => if sizedB row.length 4 ≠ 0 then sizedB row.length 4 else if row.length ≠ wide then 9 else if charsErr m row ≠ 0 then 2 else rowsErr m wide l
def pageErr (m : List (Int × Int)) (p : List (List UInt8)) : Int := if sizedB p.length 3 ≠ 0 then sizedB p.length 3 else rowsErr m (p.headD []).length p
theorem charsErr_no {m : List (Int × Int)} {b : UInt8} {l : List UInt8} (h : hasB m b.toNat = false) : charsErr m (b :: l) = 2 := by simp [charsErr, h]
theorem rowsErr_char {m : List (Int × Int)} {w : Nat} {row : List UInt8} {l : List (List UInt8)} (h0 : sizedB row.length 4 = 0) (h1 : row.length = w) (h2 : charsErr m row ≠ 0) : rowsErr m w (row :: l) = 2 := by
  simp only [rowsErr, h0, ne_eq, not_true_eq_false, if_false, h1, h2, not_false_eq_true, if_true]
  rw [← h1, h0]; simp
theorem rowsErr_fine {m : List (Int × Int)} {w : Nat} {row : List UInt8} {l : List (List UInt8)} (h0 : sizedB row.length 4 = 0) (h1 : row.length = w) (h2 : charsErr m row = 0) : rowsErr m w (row :: l) = rowsErr m w l := by
  unfold rowsErr; rw [if_neg (by simp [h0]), if_neg (by simp [h1]), if_neg (by simp [h2])]
  cases l <;> rfl
theorem sizedB_zero {n m : Int} (h : sizedB n m = 0) : 1 ≤ n ∧ n ≤ m := by
  unfold sizedB at h
  split at h
  · cases h
  · split at h
    · cases h
    · omega
def lowKeys (m : List (Int × Int)) : Prop := ∀ p ∈ m, 0 ≤ p.1 ∧ p.1 < 128
theorem hasB_high {m : List (Int × Int)} (h : lowKeys m) {c : Int} (hc : 128 ≤ c) : hasB m c = false := by
  unfold hasB
  rw [List.any_eq_false]
  intro p hp
  have := h p hp
  simp; omega
theorem drop_get {α : Type} {l : List α} {i : Nat} (h : i < l.length) : l.drop i = l[i] :: l.drop (i + 1) := List.drop_eq_getElem_cons h
theorem str_len1 (p : List (List UInt8)) : (p.flatMap cStr).length = p.length := rows_length (fun _ => rfl) p
theorem str_get0 {p : List (List UInt8)} (h : 0 < p.length) : (p.flatMap cStr).getD 0 .any = .str (p.headD []) := by
  cases p with
  | nil => simp at h
  | cons a l => rfl
theorem dec_low {s : List UInt8} {x : Nat} (hx : x < s.length) (h : s[x].toNat < 128) : Utf8.decode ⟨s.toArray⟩ x = (s[x].toNat, 1) := by
  have hz : x < (⟨s.toArray⟩ : ByteArray).size := by simpa [ByteArray.size] using hx
  exact decode_ascii ⟨s.toArray⟩ x hz h
theorem dec_high {s : List UInt8} {x : Nat} (hx : x < s.length) (h : 128 ≤ s[x].toNat) : 128 ≤ (Utf8.decode ⟨s.toArray⟩ x).1 := by
  have hz : x < (⟨s.toArray⟩ : ByteArray).size := by simpa [ByteArray.size] using hx
  exact (decode_high ⟨s.toArray⟩ x hz h).1
theorem checkPage_ok (b : Board) (m : List (Int × Int)) (hm : lowKeys m) (p : List (List UInt8)) : FaultC 109 [.agg (bdA b m), sliceOf cStr p] (pageErr m p) := by
  intro h
  refine CallsA.of_wpe [] {} 46 mixed Tryz.func109 (by kernel_rfl) rfl (by kernel_rfl) fun j hB hA => ?_; simp only [junk_succ, junk_zero, List.cons_append, List.nil_append, List.length_cons, List.length_nil, Nat.reduceAdd]
  simp (implicitDefEqProofs := false) (dsimp := false) only [go_sem, bdA]
  (first | refine CallsA.use (sized_ok _ _) ?_ | refine QuietCalls.use (sized_ok _ _) ?_)
  simp (implicitDefEqProofs := false) (dsimp := false) only [go_sem]
  refine FaultC.use (must_ok _) (fun e1 k => ?_) (fun e0 => ?_)
  · simp (implicitDefEqProofs := false) (dsimp := false) only [go_sem]
    exact .panic e1 (by simp [pageErr, e1])
  have e0' := sizedB_zero e0
  simp (implicitDefEqProofs := false) (dsimp := false) only [go_sem]
  refine WP.loopI (fun (i : Nat) s => (i ≤ p.length ∧ rowsErr m (p.headD []).length (p.drop i) = pageErr m p) ∧ s.sl.length = 48 ∧ s.df = [] ∧ s.gh = {} ∧ (∃ k, s.hp = h ++ .cells 0 (bdA b m) :: k) ∧ evA s.sl (.tmp 1) = sliceOf cStr p ∧ evA s.sl (.tmp 2) = .ptr ⟨h.length, 0⟩ 0 ∧ evA s.sl (.tmp 14) = sliceOf cStr p ∧ evA s.sl (.tmp 15) = .int .i64 p.length ∧ evA s.sl (.tmp 16) = .int .i64 i) (fun (i : Nat) => p.length - i) (0) ?_ ?_
  · simp (implicitDefEqProofs := false) (dsimp := false) only [go_sem, bdA, Nat.zero_le]
    simp [pageErr, e0]
  · rintro i ⟨sl, df, hp, gh⟩ ⟨ab, al, rfl, rfl, ah, a1, a2, a14, a15, a16⟩
    simp only at ab al ah a1 a2 a14 a15 a16
    obtain ⟨j, rfl⟩ := slots_lit al; clear al; simp only [junk_succ, junk_zero, evA_tmp, nth_16, nth_four, nth_one, nth_zero, Nat.zero_add, Nat.reduceAdd] at  a1 a2 a14 a15 a16 ⊢
    refine wp_ok (so := {}) mixed _ (by kernel_rfl) ?_
    obtain ⟨k, rfl⟩ := ah
    obtain ⟨ab, aq⟩ := ab
    by_cases hi : i < p.length
    · rw [drop_get hi] at aq
      simp (implicitDefEqProofs := false) (dsimp := false) only [go_sem, a1, a2, a14, a15, a16, bdA, nat_lt hi, decide_true, row1 cStr_len hi, row1_le cStr_len hi, hi, cStr]
      (first | refine CallsA.use (sized_ok _ _) ?_ | refine QuietCalls.use (sized_ok _ _) ?_)
      simp (implicitDefEqProofs := false) (dsimp := false) only [go_sem]
      refine FaultC.use (must_ok _) (fun f1 k2 => ?_) (fun f0 => ?_)
      · simp (implicitDefEqProofs := false) (dsimp := false) only [go_sem]
        exact .panic f1 (by rw [← aq]; simp [rowsErr, f1])
      have f0' := sizedB_zero f0
      simp (implicitDefEqProofs := false) (dsimp := false) only [go_sem, str_get0 (show 0 < p.length by omega), str_len1, show (1 ≤ p.length) = True from eq_true (by omega)]
      refine ⟨⟨by omega, by omega⟩, fun c9 => ?_, fun c9 => ?_⟩
      · refine FaultC.use (must_ok _) (fun g1 k2 => ?_) (fun g0 => by cases g0)
        simp (implicitDefEqProofs := false) (dsimp := false) only [go_sem]
        have c9' : p[i].length ≠ (p.headD []).length := by
          intro e
          rw [e] at c9
          simp at c9
        exact .panic g1 (by rw [← aq]; simp only [rowsErr, f0, c9', ne_eq, not_true_eq_false, not_false_eq_true, if_true, if_false])
      · refine WP.loopI (fun (x : Nat) s => (x ≤ p[i].length ∧ charsErr m (p[i].drop x) = charsErr m p[i]) ∧ s.sl.length = 48 ∧ s.df = [] ∧ s.gh = {} ∧ (s.hp = h ++ .cells 0 (bdA b m) :: (k ++ [.iter p[i] x])) ∧ evA s.sl (.tmp 1) = sliceOf cStr p ∧ evA s.sl (.tmp 2) = .ptr ⟨h.length, 0⟩ 0 ∧ evA s.sl (.tmp 14) = sliceOf cStr p ∧ evA s.sl (.tmp 15) = .int .i64 p.length ∧ evA s.sl (.tmp 16) = .int .i64 i ∧ evA s.sl (.tmp 33) = .ptr ⟨h.length + (k.length + 1), 0⟩ 0) (fun (x : Nat) => p[i].length - x) (0) ?_ ?_
        · simp (implicitDefEqProofs := false) (dsimp := false) only [go_sem, bdA, Nat.zero_le]
        · rintro x ⟨sl, df, hp, gh⟩ ⟨cb, cl, rfl, rfl, rfl, c1, c2, c14, c15, c16, c33⟩
          simp only at cb cl c1 c2 c14 c15 c16 c33
          obtain ⟨j, rfl⟩ := slots_lit cl; clear cl; simp only [junk_succ, junk_zero, evA_tmp, nth_16, nth_four, nth_one, nth_zero, Nat.zero_add, Nat.reduceAdd] at  c1 c2 c14 c15 c16 c33 ⊢
          refine wp_ok (so := {}) mixed _ (by kernel_rfl) ?_
          obtain ⟨cb, cq⟩ := cb
          have c9' : p[i].length = (p.headD []).length := by
            have := c9
            simp only [bne_eq_false_iff_eq] at this
            omega
          by_cases hx : x < p[i].length
          · rw [drop_get hx] at cq
            by_cases hlow : p[i][x].toNat < 128
            · simp (implicitDefEqProofs := false) (dsimp := false) only [go_sem, c1, c2, c14, c15, c16, c33, bdA, hx, dec_low hx hlow, look92k]
              cases hk : hasB m p[i][x].toNat with
              | true =>
                simp (implicitDefEqProofs := false) (dsimp := false) only [go_sem]
                refine ⟨x + 1, ⟨⟨by omega, ?_⟩, rfl⟩, by omega⟩
                rw [← cq]
                simp [charsErr, hk]
              | false =>
                simp (implicitDefEqProofs := false) (dsimp := false) only [go_sem]
                refine FaultC.use (must_ok _) (fun g1 k2 => ?_) (fun g0 => by cases g0)
                simp (implicitDefEqProofs := false) (dsimp := false) only [go_sem]
                refine .panic g1 ?_
                rw [charsErr_no hk] at cq
                rw [← aq, rowsErr_char f0 c9' (by rw [← cq]; decide)]
            · have hd := dec_high hx (by omega)
              have hk := hasB_high hm (c := ((Utf8.decode ⟨p[i].toArray⟩ x).1 : Int)) (by omega)
              have hk2 := hasB_high hm (c := (p[i][x].toNat : Int)) (by omega)
              simp (implicitDefEqProofs := false) (dsimp := false) only [go_sem, c1, c2, c14, c15, c16, c33, bdA, hx, look92k, hk]
              refine FaultC.use (must_ok _) (fun g1 k2 => ?_) (fun g0 => by cases g0)
              simp (implicitDefEqProofs := false) (dsimp := false) only [go_sem]
              refine .panic g1 ?_
              rw [charsErr_no hk2] at cq
              rw [← aq, rowsErr_char f0 c9' (by rw [← cq]; decide)]
          · simp (implicitDefEqProofs := false) (dsimp := false) only [go_sem, c1, c2, c14, c15, c16, c33, bdA, hx]
            rw [List.drop_eq_nil_of_le (by omega)] at cq
            refine ⟨i + 1, ⟨⟨by omega, ?_⟩, wrap_succ (by omega)⟩, by omega⟩
            rw [← aq, rowsErr_fine f0 c9' cq.symm]
    · have hs : ((i : Int) < (p.length : Int)) = False := eq_false (by omega)
      simp (implicitDefEqProofs := false) (dsimp := false) only [go_sem, a1, a2, a14, a15, a16, hs, decide_false]
      rw [List.drop_eq_nil_of_le (by omega)] at aq
      exact fault_fine hB aq.symm
def traceErr (t : Trace) : Int := if t.seen < 0 ∨ t.bare < 0 ∨ 63 < t.seen ∨ 63 < t.bare then 1 else if andK .i64 t.seen t.bare ≠ 0 then 9 else 0
def tracesErr : List Trace → Int
  | [] => 0
  | t :: l => if traceErr t ≠ 0 then traceErr t else tracesErr l
def cellRowsErr (wide : Nat) : List (List Trace) → Int
  | [] => 0
  | row :: l => if sizedB row.length 4 ≠ 0 then sizedB row.length 4 else if row.length ≠ wide then 9 else if tracesErr row ≠ 0 then tracesErr row else cellRowsErr wide l
def cellsErr (cs : List (List Trace)) : Int := if sizedB cs.length 3 ≠ 0 then sizedB cs.length 3 else cellRowsErr (cs.headD []).length cs
theorem tracesErr_no {t : Trace} {l : List Trace} (h : traceErr t ≠ 0) : tracesErr (t :: l) = traceErr t := by simp [tracesErr, h]
theorem tracesErr_fine {t : Trace} {l : List Trace} (h : traceErr t = 0) : tracesErr (t :: l) = tracesErr l := by simp [tracesErr, h]
theorem cellRowsErr_trace {w : Nat} {row : List Trace} {l : List (List Trace)} (h0 : sizedB row.length 4 = 0) (h1 : row.length = w) (h2 : tracesErr row ≠ 0) : cellRowsErr w (row :: l) = tracesErr row := by
  unfold cellRowsErr; rw [if_neg (by simp [h0]), if_neg (by simp [h1]), if_pos h2]
theorem cellRowsErr_fine {w : Nat} {row : List Trace} {l : List (List Trace)} (h0 : sizedB row.length 4 = 0) (h1 : row.length = w) (h2 : tracesErr row = 0) : cellRowsErr w (row :: l) = cellRowsErr w l := by
  conv => lhs; unfold cellRowsErr
  rw [if_neg (by simp [h0]), if_neg (by simp [h1]), if_neg (by simp [h2])]
theorem cells_len1 (p : List (List Trace)) : (p.flatMap cTraces).length = p.length := rows_length (fun _ => rfl) p
theorem cells_get0 {p : List (List Trace)} (h : 0 < p.length) : (p.flatMap cTraces).getD 0 .any = sliceOf cTrace (p.headD []) := by
  cases p with
  | nil => simp at h
  | cons a l => rfl
theorem min_neg {a b : Int} : (List.foldl (fun x y => if y < x then y else x) a [b] < 0) = (a < 0 ∨ b < 0) := by
  simp only [List.foldl_cons, List.foldl_nil]; apply propext; split <;> omega
theorem max_big {a b : Int} : (List.foldl (fun x y => if y > x then y else x) a [b] > 63) = (63 < a ∨ 63 < b) := by
  simp only [List.foldl_cons, List.foldl_nil]; apply propext; split <;> omega
theorem checkCells_ok (p : List (List Trace)) : FaultC 110 [sliceOf cTraces p] (cellsErr p) := by
  intro h
  refine CallsA.of_wpe [] { cut := [40] } 57 mixed Tryz.func110 (by kernel_rfl) rfl (by kernel_rfl) fun j hB hA => ?_; simp only [junk_succ, junk_zero, List.cons_append, List.nil_append, List.length_cons, List.length_nil, Nat.reduceAdd]
  simp (implicitDefEqProofs := false) (dsimp := false) only [go_sem, bdA]
  (first | refine CallsA.use (sized_ok _ _) ?_ | refine QuietCalls.use (sized_ok _ _) ?_)
  simp (implicitDefEqProofs := false) (dsimp := false) only [go_sem]
  refine FaultC.use (must_ok _) (fun e1 k => ?_) (fun e0 => ?_)
  · simp (implicitDefEqProofs := false) (dsimp := false) only [go_sem]
    exact .panic e1 (by simp [cellsErr, e1])
  have e0' := sizedB_zero e0
  simp (implicitDefEqProofs := false) (dsimp := false) only [go_sem]
  refine WP.loopI (fun (i : Nat) s => (i ≤ p.length ∧ cellRowsErr (p.headD []).length (p.drop i) = cellsErr p) ∧ s.sl.length = 58 ∧ s.df = [] ∧ s.gh = {} ∧ (∃ k, s.hp = h ++ k) ∧ evA s.sl (.tmp 0) = sliceOf cTraces p ∧ evA s.sl (.tmp 10) = sliceOf cTraces p ∧ evA s.sl (.tmp 11) = .int .i64 p.length ∧ evA s.sl (.tmp 12) = .int .i64 i) (fun (i : Nat) => p.length - i) (0) ?_ ?_
  · simp (implicitDefEqProofs := false) (dsimp := false) only [go_sem, Nat.zero_le]
    simp [cellsErr, e0]
  · rintro i ⟨sl, df, hp, gh⟩ ⟨ab, al, rfl, rfl, ah, a0, a10, a11, a12⟩
    simp only at ab al ah a0 a10 a11 a12
    obtain ⟨j, rfl⟩ := slots_lit al; clear al; simp only [junk_succ, junk_zero, evA_tmp, nth_16, nth_four, nth_one, nth_zero, Nat.zero_add, Nat.reduceAdd] at  a0 a10 a11 a12 ⊢
    refine wp_ok (so := { cut := [40] }) mixed _ (by kernel_rfl) ?_
    obtain ⟨k, rfl⟩ := ah
    obtain ⟨ab, aq⟩ := ab
    by_cases hi : i < p.length
    · rw [drop_get hi] at aq
      simp (implicitDefEqProofs := false) (dsimp := false) only [go_sem, a0, a10, a11, a12, nat_lt hi, decide_true, row1 cTraces_len hi, row1_le cTraces_len hi, hi, cTraces]
      (first | refine CallsA.use (sized_ok _ _) ?_ | refine QuietCalls.use (sized_ok _ _) ?_)
      simp (implicitDefEqProofs := false) (dsimp := false) only [go_sem]
      refine FaultC.use (must_ok _) (fun f1 k2 => ?_) (fun f0 => ?_)
      · simp (implicitDefEqProofs := false) (dsimp := false) only [go_sem]
        exact .panic f1 (by rw [← aq]; simp [cellRowsErr, f1])
      have f0' := sizedB_zero f0
      simp (implicitDefEqProofs := false) (dsimp := false) only [go_sem, cells_get0 (show 0 < p.length by omega), cells_len1, show (1 ≤ p.length) = True from eq_true (by omega)]
      refine ⟨⟨by omega, by omega⟩, fun c9 => ?_, fun c9 => ?_⟩
      · refine FaultC.use (must_ok _) (fun g1 k2 => ?_) (fun g0 => by cases g0)
        simp (implicitDefEqProofs := false) (dsimp := false) only [go_sem]
        have c9' : p[i].length ≠ (p.headD []).length := by
          intro e
          rw [e] at c9
          simp at c9
        exact .panic g1 (by rw [← aq]; simp only [cellRowsErr, f0, c9', ne_eq, not_true_eq_false, not_false_eq_true, if_true, if_false])
      · refine WP.loopI (fun (x : Nat) s => (x ≤ p[i].length ∧ tracesErr (p[i].drop x) = tracesErr p[i]) ∧ s.sl.length = 58 ∧ s.df = [] ∧ s.gh = {} ∧ (∃ k, s.hp = h ++ k) ∧ evA s.sl (.tmp 0) = sliceOf cTraces p ∧ evA s.sl (.tmp 10) = sliceOf cTraces p ∧ evA s.sl (.tmp 11) = .int .i64 p.length ∧ evA s.sl (.tmp 12) = .int .i64 i ∧ evA s.sl (.tmp 28) = sliceOf cTrace p[i] ∧ evA s.sl (.tmp 29) = .int .i64 p[i].length ∧ evA s.sl (.tmp 30) = .int .i64 x) (fun (x : Nat) => p[i].length - x) (0) ?_ ?_
        · simp (implicitDefEqProofs := false) (dsimp := false) only [go_sem, Nat.zero_le]
        · rintro x ⟨sl, df, hp, gh⟩ ⟨cb, cl, rfl, rfl, ch, c0, c10, c11, c12, c28, c29, c30⟩
          simp only at cb cl ch c0 c10 c11 c12 c28 c29 c30
          obtain ⟨j, rfl⟩ := slots_lit cl; clear cl; simp only [junk_succ, junk_zero, evA_tmp, nth_16, nth_four, nth_one, nth_zero, Nat.zero_add, Nat.reduceAdd] at  c0 c10 c11 c12 c28 c29 c30 ⊢
          refine wp_ok (so := { cut := [40] }) mixed _ (by kernel_rfl) ?_
          obtain ⟨k3, rfl⟩ := ch
          obtain ⟨cb, cq⟩ := cb
          have c9' : p[i].length = (p.headD []).length := by
            have := c9
            simp only [bne_eq_false_iff_eq] at this
            omega
          by_cases hx : x < p[i].length
          · rw [drop_get hx] at cq
            simp (implicitDefEqProofs := false) (dsimp := false) only [go_sem, c0, c10, c11, c12, c28, c29, c30, nat_lt hx, decide_true, rowN cTrace_len hx, rowN_le cTrace_len hx, hx, cTrace, min_neg, max_big]
            refine ⟨fun c1 => ?_, fun c1 => ⟨fun c2 => ?_, fun c2 => ?_⟩⟩
            · refine FaultC.use (must_ok _) (fun g1 k2 => ?_) (fun g0 => by cases g0)
              simp (implicitDefEqProofs := false) (dsimp := false) only [go_sem]
              have e : traceErr p[i][x] = 1 := if_pos (by omega)
              rw [tracesErr_no (by rw [e]; decide), e] at cq
              exact .panic g1 (by rw [← aq, cellRowsErr_trace f0 c9' (by rw [← cq]; decide), cq])
            · refine FaultC.use (must_ok _) (fun g1 k2 => ?_) (fun g0 => by cases g0)
              simp (implicitDefEqProofs := false) (dsimp := false) only [go_sem]
              have e : traceErr p[i][x] = 1 := if_pos (by omega)
              rw [tracesErr_no (by rw [e]; decide), e] at cq
              exact .panic g1 (by rw [← aq, cellRowsErr_trace f0 c9' (by rw [← cq]; decide), cq])
            · have e : traceErr p[i][x] = if andK .i64 p[i][x].seen p[i][x].bare ≠ 0 then 9 else 0 := if_neg (by simp at c1 c2; omega)
              refine ⟨fun c3 => ?_, fun c3 => ?_⟩
              · refine FaultC.use (must_ok _) (fun g1 k2 => ?_) (fun g0 => by cases g0)
                simp (implicitDefEqProofs := false) (dsimp := false) only [go_sem]
                rw [if_pos (by simpa using c3)] at e
                rw [tracesErr_no (by rw [e]; decide), e] at cq
                exact .panic g1 (by rw [← aq, cellRowsErr_trace f0 c9' (by rw [← cq]; decide), cq])
              · rw [if_neg (by simpa using c3)] at e
                rw [tracesErr_fine e] at cq
                exact ⟨x + 1, ⟨⟨by omega, cq⟩, wrap_succ (by omega)⟩, by omega⟩
          · have hs : ((x : Int) < (p[i].length : Int)) = False := eq_false (by omega)
            simp (implicitDefEqProofs := false) (dsimp := false) only [go_sem, c0, c10, c11, c12, c28, c29, c30, hs, decide_false]
            rw [List.drop_eq_nil_of_le (by omega)] at cq
            refine ⟨i + 1, ⟨⟨by omega, ?_⟩, wrap_succ (by omega)⟩, by omega⟩
            rw [← aq, cellRowsErr_fine f0 c9' cq.symm]
    · have hs : ((i : Int) < (p.length : Int)) = False := eq_false (by omega)
      simp (implicitDefEqProofs := false) (dsimp := false) only [go_sem, a0, a10, a11, a12, hs, decide_false]
      rw [List.drop_eq_nil_of_le (by omega)] at aq
      exact fault_fine hB aq.symm
end Go.Mac
namespace Go.Mac
open Go Go.Conc Go.Proofs
set_option maxRecDepth 4000
def QuietAt (f : FuncId) (args : List AV) (h : List Blk) (v : AV) : Prop := CallsA Tryz.prog f args h fun e h' => e = .ret v ∧ h' = h
theorem QuietAt.use {f : FuncId} {args : List AV} {v : AV} {h : List Blk} {Post : AEnd → List Blk → Prop} (c : QuietAt f args h v) (hp : Post (.ret v) h) : CallsA Tryz.prog f args h Post :=
  CallsA.mono c fun e h' q => by rw [q.1, q.2]; exact hp
theorem QuietAt.of {f : FuncId} {args : List AV} {v : AV} (c : PureA Tryz.prog f args v) (h : List Blk) : QuietAt f args h v := c h
theorem quiet_fine {h k : List Blk} {v : AV} (hb : h.all (belowBlk h.length) = true) (hv : below h.length v = true) : ∃ v' n, v = v' ∧ h.length ≤ n ∧ below n v' = true ∧ ((h ++ k).take n).all (belowBlk n) = true ∧ AEnd.ret v' = .ret v ∧ (h ++ k).take n = h := by
  refine ⟨_, h.length, rfl, Nat.le_refl _, hv, ?_, rfl, ?_⟩ <;> rw [List.take_left]
  exact hb
theorem quiet_fine0 {h : List Blk} {v : AV} (hb : h.all (belowBlk h.length) = true) (hv : below h.length v = true) : ∃ v' n, v = v' ∧ h.length ≤ n ∧ below n v' = true ∧ (h.take n).all (belowBlk n) = true ∧ AEnd.ret v' = .ret v ∧ h.take n = h := by
  have := quiet_fine (k := []) hb hv; simpa using this
def idxFrom {α : Type} (p : α → Bool) : List α → Nat → Int
  | [], _ => -1
  | x :: l, i => if p x then i else idxFrom p l (i + 1)
theorem idxFrom_any {α : Type} {p : α → Bool} : ∀ {l : List α} {i : Nat}, decide (idxFrom p l i ≥ 0) = l.any p
  | [], i => by simp [idxFrom]
  | x :: l, i => by
    by_cases hp : p x = true
    · have h0 : ((i : Nat) : Int) ≥ 0 := by omega
      simp [idxFrom, hp, h0]
    · have hq : p x = false := by simpa using hp
      simp only [idxFrom, List.any_cons, hq, Bool.false_eq_true, if_false, Bool.false_or]
      exact idxFrom_any
theorem indexGlyph_ok (l : List Glyph) (hl : l.length < 9223372036854775807) (g : FuncId) (hc : callable Tryz.prog g = True) (cap : List AV) (p : Glyph → Bool) (h : List Blk) (hF : ∀ x ∈ l, QuietAt g (.agg (cGlyph x) :: cap) h (.bool (p x))) :
    QuietAt 152 [sliceOf cGlyph l, .fn (.func g) [] cap] h (.int .i64 (idxFrom p l 0)) := by
  unfold QuietAt
  refine CallsA.of_wpe [] {} 17 mixed Tryz.func152 (by kernel_rfl) rfl (by kernel_rfl) fun j hB hA => ?_; simp only [junk_succ, junk_zero, List.cons_append, List.nil_append, List.length_cons, List.length_nil, Nat.reduceAdd]
  simp (implicitDefEqProofs := false) (dsimp := false) only [go_sem]
  refine WP.loopI (fun (i : Nat) s => (i ≤ l.length ∧ idxFrom p (l.drop i) i = idxFrom p l 0) ∧ s.sl.length = 19 ∧ s.df = [] ∧ s.gh = {} ∧ (s.hp = h) ∧ evA s.sl (.tmp 0) = sliceOf cGlyph l ∧ evA s.sl (.tmp 1) = .fn (.func g) [] cap ∧ evA s.sl (.tmp 7) = .int .i64 l.length ∧ evA s.sl (.tmp 8) = .int .i64 i) (fun (i : Nat) => l.length - i) (0) ?_ ?_
  · simp (implicitDefEqProofs := false) (dsimp := false) only [go_sem, Nat.zero_le]
  · rintro i ⟨sl, df, hp, gh⟩ ⟨ab, al, rfl, rfl, rfl, a0, a1, a7, a8⟩
    simp only at ab al a0 a1 a7 a8
    obtain ⟨j, rfl⟩ := slots_lit al; clear al; simp only [junk_succ, junk_zero, evA_tmp, nth_16, nth_four, nth_one, nth_zero, Nat.zero_add, Nat.reduceAdd] at  a0 a1 a7 a8 ⊢
    refine wp_ok (so := {}) mixed _ (by kernel_rfl) ?_
    obtain ⟨ab, aq⟩ := ab
    by_cases hi : i < l.length
    · rw [drop_get hi] at aq
      simp (implicitDefEqProofs := false) (dsimp := false) only [go_sem, a0, a1, a7, a8, nat_lt hi, decide_true, rowN cGlyph_len hi, rowN_le cGlyph_len hi, hi, cGlyph, hc]
      refine QuietAt.use (hF _ (List.getElem_mem hi)) ?_
      cases hp : p l[i] with
      | true =>
        simp (implicitDefEqProofs := false) (dsimp := false) only [go_sem]
        rw [show (i : Int) = idxFrom p l 0 by rw [← aq]; simp [idxFrom, hp]]
        exact quiet_fine0 hB rfl
      | false =>
        simp (implicitDefEqProofs := false) (dsimp := false) only [go_sem]
        refine ⟨i + 1, ⟨⟨by omega, ?_⟩, wrap_succ (by omega)⟩, by omega⟩
        rw [← aq]; simp [idxFrom, hp]
    · have hs : ((i : Int) < (l.length : Int)) = False := eq_false (by omega)
      simp (implicitDefEqProofs := false) (dsimp := false) only [go_sem, a0, a1, a7, a8, hs, decide_false]
      rw [List.drop_eq_nil_of_le (by omega)] at aq
      rw [← aq]
      exact quiet_fine0 hB rfl
theorem containsGlyph_ok (l : List Glyph) (hl : l.length < 9223372036854775807) (g : FuncId) (hc : callable Tryz.prog g = True) (cap : List AV) (p : Glyph → Bool) (h : List Blk) (hF : ∀ x ∈ l, QuietAt g (.agg (cGlyph x) :: cap) h (.bool (p x))) :
    QuietAt 146 [sliceOf cGlyph l, .fn (.func g) [] cap] h (.bool (l.any p)) := by
  unfold QuietAt
  refine CallsA.of_wpe [] {} 7 mixed Tryz.func146 (by kernel_rfl) rfl (by kernel_rfl) fun j hB hA => ?_; simp only [junk_succ, junk_zero, List.cons_append, List.nil_append, List.length_cons, List.length_nil, Nat.reduceAdd]
  simp (implicitDefEqProofs := false) (dsimp := false) only [go_sem]
  refine QuietAt.use (indexGlyph_ok l hl g hc cap p h hF) ?_
  simp (implicitDefEqProofs := false) (dsimp := false) only [go_sem, idxFrom_any]
  exact quiet_fine0 hB rfl
theorem sameStrokes_ok (x g : Glyph) (n : Nat) (h : List Blk) (hn : h[n]? = some (.cells 0 (cGlyph g))) : QuietAt 147 [.agg (cGlyph x), .ptr ⟨n, 0⟩ 0] h (.bool (x.strokes == g.strokes)) := by
  unfold QuietAt
  have hlt : n < h.length := (List.getElem?_eq_some_iff.1 hn).1
  refine CallsA.of_wpe [] {} 7 mixed Tryz.func147 (by kernel_rfl) rfl (by kernel_rfl) fun j hB hA => ?_; simp only [junk_succ, junk_zero, List.cons_append, List.nil_append, List.length_cons, List.length_nil, Nat.reduceAdd]
  simp (implicitDefEqProofs := false) (dsimp := false) only [go_sem, cGlyph]
  have hn2 : ∀ k, (h ++ k)[n]? = some (.cells 0 (cGlyph g)) := fun k => by rw [List.getElem?_append_left hlt]; exact hn
  simp (implicitDefEqProofs := false) (dsimp := false) only [go_sem, hn2, cGlyph]
  exact quiet_fine hB rfl
def lastName (l : List Glyph) : List UInt8 := (l.getLastD ⟨[], 0⟩).name
def gliErr (before : List Glyph) : List Glyph → Int
  | [] => 0
  | g :: l => if g.name.length ≠ 1 ∨ Op.bytesLess g.name [97] = true ∨ (Op.bytesLess g.name [122] || g.name == [122]) = false then 2
    else if before ≠ [] ∧ (Op.bytesLess g.name (lastName before) || g.name == lastName before) = true then 5
    else if g.strokes < 1 ∨ 63 < g.strokes then 1
    else if before.any (fun x => x.strokes == g.strokes) then 4
    else gliErr (before ++ [g]) l
def glyphsErr (gs : List Glyph) : Int := if gs.length = 0 then 7 else if 6 < gs.length then 6 else gliErr [] gs
def sheetA (gs : List Glyph) : AV := .agg [sliceOf cGlyph gs, .psl [.nilsl] 1, .nilsl]
theorem take_rows {α β : Type} {f : α → List β} {n : Nat} (hf : ∀ x, (f x).length = n) : ∀ (l : List α) (i : Nat), (l.flatMap f).take (i * n) = (l.take i).flatMap f
  | [], i => by simp
  | x :: l, 0 => by simp
  | x :: l, i + 1 => by
    simp only [List.flatMap_cons, List.take_succ_cons]
    rw [show (i + 1) * n = n + i * n by rw [Nat.succ_mul]; omega, List.take_append, hf x]
    rw [show n + i * n - n = i * n by omega, List.take_of_length_le (by rw [hf x]; omega), take_rows hf l i]
theorem call_f123 : callable Tryz.prog 147 = True := eq_true ⟨_, Tryz.func147, rfl, rfl⟩
theorem checkGlyphs_ok (gs : List Glyph) : PureA Tryz.prog 135 [sheetA gs] (.int .i64 (glyphsErr gs)) := by
  refine PureA.of_wpp { cut := [33, 38, 46, 61] } 70 mixed Tryz.func135 (by kernel_rfl) rfl (by kernel_rfl) (rfl) fun h j hB => ?_
  simp only [junk_succ, junk_zero, List.cons_append, List.nil_append, List.length_cons, List.length_nil, Nat.reduceAdd]
  simp (implicitDefEqProofs := false) (dsimp := false) only [go_sem, sheetA]
  refine ⟨fun c0 => ?_, fun c0 => ⟨fun c1 => ?_, fun c1 => ?_⟩⟩
  · have : gs.length = 0 := by simpa using c0
    simp [glyphsErr, this]
  · have h0 : gs.length ≠ 0 := by intro e; rw [e] at c0; simp at c0
    simp only [glyphsErr, h0, if_false]; rw [if_pos (by omega)]
  have hne : gs.length ≠ 0 := by intro e; rw [e] at c0; simp at c0
  have eg : gliErr [] gs = glyphsErr gs := by simp only [glyphsErr, hne, if_false]; rw [if_neg (by omega)]
  refine WP.loopI (fun (i : Nat) s => (i ≤ gs.length ∧ gliErr (gs.take i) (gs.drop i) = glyphsErr gs ∧ (lastName (gs.take i)).length ≤ 1) ∧ s.sl.length = 71 ∧ s.df = [] ∧ s.gh = {} ∧ (∃ k, s.hp = h ++ .cells 0 [sliceOf cGlyph gs, .psl [.nilsl] 1, .nilsl] :: k) ∧ evA s.sl (.tmp 1) = .ptr ⟨h.length, 0⟩ 0 ∧ evA s.sl (.tmp 17) = sliceOf cGlyph gs ∧ evA s.sl (.tmp 18) = .int .i64 gs.length ∧ evA s.sl (.tmp 19) = .int .i64 i) (fun (i : Nat) => gs.length - i) (0) ?_ ?_
  · simp (implicitDefEqProofs := false) (dsimp := false) only [go_sem, Nat.zero_le]
    exact ⟨eg, by simp [lastName]⟩
  · rintro i ⟨sl, df, hp, gh⟩ ⟨ab, al, rfl, rfl, ah, a1, a17, a18, a19⟩
    simp only at ab al ah a1 a17 a18 a19
    obtain ⟨j, rfl⟩ := slots_lit al; clear al; simp only [junk_succ, junk_zero, evA_tmp, nth_16, nth_four, nth_one, nth_zero, Nat.zero_add, Nat.reduceAdd] at  a1 a17 a18 a19 ⊢
    refine wp_ok (so := { cut := [33, 38, 46, 61] }) mixed _ (by kernel_rfl) ?_
    obtain ⟨k, rfl⟩ := ah
    obtain ⟨ab, aq, hlen⟩ := ab
    by_cases hi : i < gs.length
    · rw [drop_get hi] at aq
      have htl : (gs.take i).length = i := by simp; omega
      have hne : gs.take i = [] ↔ i = 0 := by rw [← List.length_eq_zero_iff, htl]
      simp (implicitDefEqProofs := false) (dsimp := false) only [go_sem, a1, a17, a18, a19, nat_lt hi, decide_true, rowN cGlyph_len hi, rowN_le cGlyph_len hi, hi, cGlyph, length_rows cGlyph_len, take_rows cGlyph_len, Nat.sub_zero]
      refine ⟨by omega, ⟨by omega, by omega⟩, fun d1 => ?_, fun d1 => ⟨?_, fun d2 => ?_, fun d2 => ⟨?_, fun d3 => ?_, fun d3 => ⟨fun d4 => ?_, fun d4 => ?_⟩⟩⟩⟩
      · have : gs[i].name.length ≠ 1 := by intro e; rw [e] at d1; simp at d1
        rw [← aq, gliErr, if_pos (.inl this)]
      · have : gs[i].name.length = 1 := by simp at d1; omega
        omega
      · rw [← aq, gliErr, if_pos (.inr (.inl d2))]
      · have : gs[i].name.length = 1 := by simp at d1; omega
        omega
      · rw [← aq, gliErr, if_pos (.inr (.inr (by simpa using d3)))]
      · have hl1 : gs[i].name.length = 1 := by simp at d1; omega
        have w : IntKind.i64.wrap ((i : Int) - 1) = ((i - 1 : Nat) : Int) := by rw [wrap64 (by omega) (by omega)]; omega
        have hi1 : i - 1 < (gs.take i).length := by omega
        have hlast : (gs.take i)[i - 1].name = lastName (gs.take i) := by
          unfold lastName
          rw [List.getLastD_eq_getLast?, List.getLast?_eq_getElem?, htl, List.getElem?_eq_getElem hi1]; rfl
        have p2 : ¬ (gs[i].name.length ≠ 1 ∨ Op.bytesLess gs[i].name [97] = true ∨ (Op.bytesLess gs[i].name [122] || gs[i].name == [122]) = false) := by
          rintro (e | e | e)
          · exact e hl1
          · rw [d2] at e; cases e
          · rw [e] at d3; cases d3
        simp (implicitDefEqProofs := false) (dsimp := false) only [go_sem, w, rowN cGlyph_len hi1, rowN_le cGlyph_len hi1, cGlyph, htl, hlast]
        refine ⟨⟨by omega, by omega⟩, by omega, fun d5 => ?_, fun d5 => ?_⟩
        · rw [← aq, gliErr, if_neg p2, if_pos ⟨by rw [ne_eq, hne]; omega, d5⟩]
        have Q5 : ¬ (gs.take i ≠ [] ∧ (Op.bytesLess gs[i].name (lastName (gs.take i)) || gs[i].name == lastName (gs.take i)) = true) := by
          rintro ⟨_, e⟩
          rw [d5] at e; cases e
        refine ⟨fun d6 => ?_, fun d6 => ⟨fun d7 => ?_, fun d7 => ?_⟩⟩
        · rw [← aq, gliErr, if_neg p2, if_neg Q5, if_pos (.inl d6)]
        · rw [← aq, gliErr, if_neg p2, if_neg Q5, if_pos (.inr d7)]
        · rw [show (AV.psl ((gs.take i).flatMap cGlyph) i) = sliceOf cGlyph (gs.take i) by rw [sliceOf, htl]]
          refine QuietAt.use (containsGlyph_ok (gs.take i) (by omega) _ call_f123 _ (fun x => x.strokes == gs[i].strokes) _ fun x _ => sameStrokes_ok x gs[i] _ _ (by rw [hget]; simp [cGlyph])) ?_
          cases d8 : (gs.take i).any fun x => x.strokes == gs[i].strokes with
          | true =>
            simp (implicitDefEqProofs := false) (dsimp := false) only [go_sem]
            rw [← aq, gliErr, if_neg p2, if_neg Q5, if_neg (by omega), if_pos d8]
          | false =>
            simp (implicitDefEqProofs := false) (dsimp := false) only [go_sem]
            refine ⟨i + 1, ⟨⟨by omega, ?_, ?_⟩, wrap_succ (by omega)⟩, by omega⟩
            · rw [← aq]
              conv => rhs; rw [gliErr, if_neg p2, if_neg Q5, if_neg (by omega), if_neg (by rw [d8]; decide)]
              rw [List.take_add_one, List.getElem?_eq_getElem hi]; rfl
            · rw [List.take_add_one, List.getElem?_eq_getElem hi]
              simp only [lastName, Option.toList_some, List.getLastD_concat]; omega
      · have hl1 : gs[i].name.length = 1 := by simp at d1; omega
        have p2 : ¬ (gs[i].name.length ≠ 1 ∨ Op.bytesLess gs[i].name [97] = true ∨ (Op.bytesLess gs[i].name [122] || gs[i].name == [122]) = false) := by
          rintro (e | e | e)
          · exact e hl1
          · rw [d2] at e; cases e
          · rw [e] at d3; cases d3
        have Q5 : ¬ (gs.take i ≠ [] ∧ (Op.bytesLess gs[i].name (lastName (gs.take i)) || gs[i].name == lastName (gs.take i)) = true) := by
          rintro ⟨e, _⟩
          exact e (hne.2 (by omega))
        refine ⟨fun d6 => ?_, fun d6 => ⟨fun d7 => ?_, fun d7 => ?_⟩⟩
        · rw [← aq, gliErr, if_neg p2, if_neg Q5, if_pos (.inl d6)]
        · rw [← aq, gliErr, if_neg p2, if_neg Q5, if_pos (.inr d7)]
        · rw [show (AV.psl ((gs.take i).flatMap cGlyph) i) = sliceOf cGlyph (gs.take i) by rw [sliceOf, htl]]
          refine QuietAt.use (containsGlyph_ok (gs.take i) (by omega) _ call_f123 _ (fun x => x.strokes == gs[i].strokes) _ fun x _ => sameStrokes_ok x gs[i] _ _ (by rw [hget]; simp [cGlyph])) ?_
          cases d8 : (gs.take i).any fun x => x.strokes == gs[i].strokes with
          | true =>
            simp (implicitDefEqProofs := false) (dsimp := false) only [go_sem]
            rw [← aq, gliErr, if_neg p2, if_neg Q5, if_neg (by omega), if_pos d8]
          | false =>
            simp (implicitDefEqProofs := false) (dsimp := false) only [go_sem]
            refine ⟨i + 1, ⟨⟨by omega, ?_, ?_⟩, wrap_succ (by omega)⟩, by omega⟩
            · rw [← aq]
              conv => rhs; rw [gliErr, if_neg p2, if_neg Q5, if_neg (by omega), if_neg (by rw [d8]; decide)]
              rw [List.take_add_one, List.getElem?_eq_getElem hi]; rfl
            · rw [List.take_add_one, List.getElem?_eq_getElem hi]
              simp only [lastName, Option.toList_some, List.getLastD_concat]; omega
    · have hs : ((i : Int) < (gs.length : Int)) = False := eq_false (by omega)
      simp (implicitDefEqProofs := false) (dsimp := false) only [go_sem, a1, a17, a18, a19, hs, decide_false]
      rw [List.drop_eq_nil_of_le (by omega)] at aq
      exact aq
theorem checkLights_ok (gs : List Glyph) : PureA Tryz.prog 136 [sheetA gs] (.int .i64 0) := by
  refine PureA.of_wpp { cut := [38] } 48 mixed Tryz.func136 (by kernel_rfl) rfl (by kernel_rfl) (rfl) fun h j hB => ?_
  simp only [junk_succ, junk_zero, List.cons_append, List.nil_append, List.length_cons, List.length_nil, Nat.reduceAdd]
  simp (implicitDefEqProofs := false) (dsimp := false) only [go_sem, sheetA]
  refine WP.loopI (fun (i : Nat) s => (i ≤ 1) ∧ s.sl.length = 49 ∧ s.df = [] ∧ s.gh = {} ∧ (s.hp = h ++ [.cells 0 [sliceOf cGlyph gs, .psl [.nilsl] 1, .nilsl]]) ∧ evA s.sl (.tmp 18) = .psl [.nilsl] 1 ∧ evA s.sl (.tmp 19) = .int .i64 1 ∧ evA s.sl (.tmp 20) = .int .i64 i) (fun (i : Nat) => 1 - i) (0) ?_ ?_
  · simp (implicitDefEqProofs := false) (dsimp := false) only [go_sem, Nat.zero_le]
  · rintro i ⟨sl, df, hp, gh⟩ ⟨ab, al, rfl, rfl, rfl, a18, a19, a20⟩
    simp only at ab al a18 a19 a20
    obtain ⟨j, rfl⟩ := slots_lit al; clear al; simp only [junk_succ, junk_zero, evA_tmp, nth_16, nth_four, nth_one, nth_zero, Nat.zero_add, Nat.reduceAdd] at  a18 a19 a20 ⊢
    refine wp_ok (so := { cut := [38] }) mixed _ (by kernel_rfl) ?_
    by_cases hi : i = 0
    · subst hi
      simp (implicitDefEqProofs := false) (dsimp := false) only [go_sem, a18, a19, a20]
      refine WP.loopI (fun (x : Nat) s => (x = 0) ∧ s.sl.length = 49 ∧ s.df = [] ∧ s.gh = {} ∧ (s.hp = h ++ [.cells 0 [sliceOf cGlyph gs, .psl [.nilsl] 1, .nilsl]]) ∧ evA s.sl (.tmp 18) = .psl [.nilsl] 1 ∧ evA s.sl (.tmp 19) = .int .i64 1 ∧ evA s.sl (.tmp 20) = .int .i64 0 ∧ evA s.sl (.tmp 24) = .nilsl ∧ evA s.sl (.tmp 25) = .int .i64 0 ∧ evA s.sl (.tmp 26) = .int .i64 0) (fun (x : Nat) => 0) (0) ?_ ?_
      · simp (implicitDefEqProofs := false) (dsimp := false) only [go_sem, a18, a19, a20]
      · rintro x ⟨sl, df, hp, gh⟩ ⟨cb, cl, rfl, rfl, rfl, c18, c19, c20, c24, c25, c26⟩
        simp only at cb cl c18 c19 c20 c24 c25 c26
        obtain ⟨j, rfl⟩ := slots_lit cl; clear cl; simp only [junk_succ, junk_zero, evA_tmp, nth_16, nth_four, nth_one, nth_zero, Nat.zero_add, Nat.reduceAdd] at  c18 c19 c20 c24 c25 c26 ⊢
        refine wp_ok (so := { cut := [38] }) mixed _ (by kernel_rfl) ?_
        simp (implicitDefEqProofs := false) (dsimp := false) only [go_sem, c18, c19, c20, c24, c25, c26]
        exact ⟨1, by decide⟩
    · have : i = 1 := by omega
      subst this
      simp (implicitDefEqProofs := false) (dsimp := false) only [go_sem, a18, a19, a20]
theorem checkCells0_ok (gs : List Glyph) : PureA Tryz.prog 137 [sheetA gs] (.int .i64 0) := by
  refine PureA.of_wpp {} 39 mixed Tryz.func137 (by kernel_rfl) rfl (by kernel_rfl) (rfl) fun h j hB => ?_
  simp only [junk_succ, junk_zero, List.cons_append, List.nil_append, List.length_cons, List.length_nil, Nat.reduceAdd]
  simp (implicitDefEqProofs := false) (dsimp := false) only [go_sem, sheetA]
  refine WP.loopI (fun (i : Nat) s => (i = 0) ∧ s.sl.length = 40 ∧ s.df = [] ∧ s.gh = {} ∧ (s.hp = h ++ [.cells 0 [sliceOf cGlyph gs, .psl [.nilsl] 1, .nilsl]]) ∧ evA s.sl (.tmp 1) = .ptr ⟨h.length, 0⟩ 0 ∧ evA s.sl (.tmp 13) = .nilsl ∧ evA s.sl (.tmp 14) = .int .i64 0 ∧ evA s.sl (.tmp 15) = .int .i64 0) (fun (i : Nat) => 0) (0) ?_ ?_
  · simp (implicitDefEqProofs := false) (dsimp := false) only [go_sem]
  · rintro i ⟨sl, df, hp, gh⟩ ⟨ab, al, rfl, rfl, rfl, a1, a13, a14, a15⟩
    simp only at ab al a1 a13 a14 a15
    obtain ⟨j, rfl⟩ := slots_lit al; clear al; simp only [junk_succ, junk_zero, evA_tmp, nth_16, nth_four, nth_one, nth_zero, Nat.zero_add, Nat.reduceAdd] at  a1 a13 a14 a15 ⊢
    refine wp_ok (so := {}) mixed _ (by kernel_rfl) ?_
    simp (implicitDefEqProofs := false) (dsimp := false) only [go_sem, a1, a13, a14, a15]
theorem lightCheck_ok (gs : List Glyph) : PureA Tryz.prog 107 [sheetA gs] (.int .i64 (glyphsErr gs)) := by
  refine PureA.of_wpp {} 16 mixed Tryz.func107 (by kernel_rfl) rfl (by kernel_rfl) (rfl) fun h j hB => ?_
  simp only [junk_succ, junk_zero, List.cons_append, List.nil_append, List.length_cons, List.length_nil, Nat.reduceAdd]
  simp (implicitDefEqProofs := false) (dsimp := false) only [go_sem, sheetA]
  refine WP.loopI (fun (i : Nat) s => (i ≤ 3 ∧ (0 < i → glyphsErr gs = 0)) ∧ s.sl.length = 17 ∧ s.df = [] ∧ s.gh = {} ∧ (s.hp = h ++ [.cells 0 [sliceOf cGlyph gs, .psl [.nilsl] 1, .nilsl]]) ∧ evA s.sl (.tmp 1) = .ptr ⟨h.length, 0⟩ 0 ∧ evA s.sl (.tmp 6) = .agg [.fn (.func 135) [] [], .fn (.func 136) [] [], .fn (.func 137) [] []] ∧ evA s.sl (.tmp 7) = .int .i64 i) (fun (i : Nat) => 3 - i) (0) ?_ ?_
  · simp (implicitDefEqProofs := false) (dsimp := false) only [go_sem]
  · rintro i ⟨sl, df, hp, gh⟩ ⟨ab, al, rfl, rfl, rfl, a1, a6, a7⟩
    simp only at ab al a1 a6 a7
    obtain ⟨j, rfl⟩ := slots_lit al; clear al; simp only [junk_succ, junk_zero, evA_tmp, nth_16, nth_four, nth_one, nth_zero, Nat.zero_add, Nat.reduceAdd] at  a1 a6 a7 ⊢
    refine wp_ok (so := {}) mixed _ (by kernel_rfl) ?_
    obtain ⟨ab, aq⟩ := ab
    by_cases h0 : i = 0
    · subst h0
      simp (implicitDefEqProofs := false) (dsimp := false) only [go_sem, a1, a6, a7, Int.cast_ofNat_Int, Nat.zero_mul]
      (first | refine CallsA.use (checkGlyphs_ok gs) ?_ | refine QuietCalls.use (checkGlyphs_ok gs) ?_)
      simp (implicitDefEqProofs := false) (dsimp := false) only [go_sem]
      intro c1
      exact ⟨1, ⟨⟨by omega, fun _ => by simpa using c1⟩, rfl⟩, by omega⟩
    · have e0 := aq (by omega)
      by_cases h1 : i = 1
      · subst h1
        simp (implicitDefEqProofs := false) (dsimp := false) only [go_sem, a1, a6, a7]
        (first | refine CallsA.use (checkLights_ok gs) ?_ | refine QuietCalls.use (checkLights_ok gs) ?_)
        simp (implicitDefEqProofs := false) (dsimp := false) only [go_sem]
        exact ⟨2, ⟨⟨by omega, fun _ => e0⟩, rfl⟩, by omega⟩
      · by_cases h2 : i = 2
        · subst h2
          simp (implicitDefEqProofs := false) (dsimp := false) only [go_sem, a1, a6, a7]
          (first | refine CallsA.use (checkCells0_ok gs) ?_ | refine QuietCalls.use (checkCells0_ok gs) ?_)
          simp (implicitDefEqProofs := false) (dsimp := false) only [go_sem]
          exact ⟨3, ⟨⟨by omega, fun _ => e0⟩, rfl⟩, by omega⟩
        · have : i = 3 := by omega
          subst this
          simp (implicitDefEqProofs := false) (dsimp := false) only [go_sem, a1, a6, a7]
          exact e0.symm
end Go.Mac

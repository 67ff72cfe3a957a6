/- Part 43 of the logic and of the contracts of the functions that the statement reaches; the statement itself is proved in the last text. -/
import Derived.Test.YtdioclckllbhpaaLib42

set_option linter.all false
set_option linter.unusedVariables false
set_option linter.unusedSimpArgs false
set_option linter.unnecessarySimpa false
namespace Go.Mac
open Go Go.Conc Go.Proofs
set_option maxRecDepth 4000
def layK (k : Nat) : Lay := layN ((k / 18 : Nat) : Int) (k % 18)
def laysTo (k : Nat) : List Lay := (List.range k).map layK
theorem laysTo_len (k : Nat) : (laysTo k).length = k := by simp [laysTo]
theorem laysTo_succ (k : Nat) : laysTo (k + 1) = laysTo k ++ [layK k] := by simp [laysTo, List.range_succ]
theorem laysTo_get {n k : Nat} (h : k < n) : (laysTo n)[k]'(by rw [laysTo_len]; exact h) = layK k := by simp [laysTo]
theorem layK_at {p t d e : Nat} (ht : t < 2) (hd : d < 3) (he : e < 3) : cLay (layK (18 * p + 9 * t + 3 * d + e)) = [.int .i64 p, .bool ((t : Int) == 1), .int .i64 ((d : Int) - 1), .int .i64 ((e : Int) - 1)] := by
  have e1 : (18 * p + 9 * t + 3 * d + e) / 18 = p := by omega
  have e2 : (18 * p + 9 * t + 3 * d + e) % 18 = 9 * t + 3 * d + e := by omega
  have e3 : (9 * t + 3 * d + e) % 9 / 3 = d := by omega
  have e4 : (9 * t + 3 * d + e) % 3 = e := by omega
  have e5 : decide (9 ≤ 9 * t + 3 * d + e) = ((t : Int) == 1) := by rw [Bool.eq_iff_iff]; simp; omega
  simp only [layK, layN, cLay, e1, e2, e3, e4, e5]
theorem LaysOf_ok (n : Nat) (hn : n ≤ 1000) : PureA Try.prog 24 [.int .i64 n] (sliceOf cLay (laysTo (18 * n))) := by
  refine PureA.of_wps [2] { shut := [32] } 34 mixed Try.func24 (by kernel_rfl) rfl (by kernel_rfl) (below_psl (fun _ => rfl) _) fun h j hB => ?_
  simp only [junk_succ, junk_zero, List.cons_append, List.nil_append, List.length_cons, List.length_nil, Nat.reduceAdd]
  simp (implicitDefEqProofs := false) (dsimp := false) only [go_sem]
  refine WPI.turn (Turns.nilSlot (d := 3) (sz := 4) ?_) ?_
  · simp (implicitDefEqProofs := false) (dsimp := false) only [go_sem]
  simp (implicitDefEqProofs := false) (dsimp := false) only [go_sem]
  refine WP.loopI (fun (p : Nat) s => (p ≤ n) ∧ s.sl.length = 35 ∧ s.df = [] ∧ s.gh = {} ∧ (s.hp = h ++ [.cells (18 * p) ((laysTo (18 * p)).flatMap cLay)]) ∧ evA s.sl (.tmp 0) = .int .i64 n ∧ evA s.sl (.tmp 3) = .sl ⟨h.length, 18 * p⟩ 4 0 (18 * p) ∧ evA s.sl (.tmp 4) = .int .i64 p) (fun (p : Nat) => n - p) (0) ?_ ?_
  · simp (implicitDefEqProofs := false) (dsimp := false) only [go_sem, Nat.zero_le]
    rfl
  · rintro p ⟨sl, df, hp, gh⟩ ⟨ab, al, rfl, rfl, rfl, a0, a3, a4⟩
    simp only at ab al a0 a3 a4
    obtain ⟨j, rfl⟩ := slots_lit al; clear al; simp only [junk_succ, junk_zero, evA_tmp, nth_16, nth_four, nth_one, nth_zero, Nat.zero_add, Nat.reduceAdd] at  a0 a3 a4 ⊢
    refine wp_ok (so := { shut := [32] }) mixed _ (by kernel_rfl) ?_
    by_cases hp : p < n
    · simp (implicitDefEqProofs := false) (dsimp := false) only [go_sem, a0, a3, a4, nat_lt hp, decide_true]
      refine WP.loopI (fun (t : Nat) s => (t ≤ 2) ∧ s.sl.length = 35 ∧ s.df = [] ∧ s.gh = {} ∧ (s.hp = h ++ [.cells (18 * p + 9 * t) ((laysTo (18 * p + 9 * t)).flatMap cLay)]) ∧ evA s.sl (.tmp 0) = .int .i64 n ∧ evA s.sl (.tmp 3) = .sl ⟨h.length, 18 * p + 9 * t⟩ 4 0 (18 * p + 9 * t) ∧ evA s.sl (.tmp 4) = .int .i64 p ∧ evA s.sl (.tmp 5) = .int .i64 t) (fun (t : Nat) => 2 - t) (0) ?_ ?_
      · simp (implicitDefEqProofs := false) (dsimp := false) only [go_sem, Nat.zero_le, Nat.mul_zero]
      · rintro t ⟨sl, df, hp, gh⟩ ⟨bb, bl, rfl, rfl, rfl, b0, b3, b4, b5⟩
        simp only at bb bl b0 b3 b4 b5
        obtain ⟨j, rfl⟩ := slots_lit bl; clear bl; simp only [junk_succ, junk_zero, evA_tmp, nth_16, nth_four, nth_one, nth_zero, Nat.zero_add, Nat.reduceAdd] at  b0 b3 b4 b5 ⊢
        refine wp_ok (so := { shut := [32] }) mixed _ (by kernel_rfl) ?_
        by_cases ht : t < 2
        · have ht' : ((t : Int) < 2) = True := eq_true (by omega)
          simp (implicitDefEqProofs := false) (dsimp := false) only [go_sem, b0, b3, b4, b5, ht', decide_true]
          refine WP.loopI (fun (d : Nat) s => (d ≤ 3) ∧ s.sl.length = 35 ∧ s.df = [] ∧ s.gh = {} ∧ (s.hp = h ++ [.cells (18 * p + 9 * t + 3 * d) ((laysTo (18 * p + 9 * t + 3 * d)).flatMap cLay)]) ∧ evA s.sl (.tmp 0) = .int .i64 n ∧ evA s.sl (.tmp 3) = .sl ⟨h.length, 18 * p + 9 * t + 3 * d⟩ 4 0 (18 * p + 9 * t + 3 * d) ∧ evA s.sl (.tmp 4) = .int .i64 p ∧ evA s.sl (.tmp 5) = .int .i64 t ∧ evA s.sl (.tmp 6) = .int .i64 ((d : Int) - 1)) (fun (d : Nat) => 3 - d) (0) ?_ ?_
          · simp (implicitDefEqProofs := false) (dsimp := false) only [go_sem, Nat.zero_le, Nat.mul_zero]
            rfl
          · rintro d ⟨sl, df, hp, gh⟩ ⟨cb, cl, rfl, rfl, rfl, c0, c3, c4, c5, c6⟩
            simp only at cb cl c0 c3 c4 c5 c6
            obtain ⟨j, rfl⟩ := slots_lit cl; clear cl; simp only [junk_succ, junk_zero, evA_tmp, nth_16, nth_four, nth_one, nth_zero, Nat.zero_add, Nat.reduceAdd] at  c0 c3 c4 c5 c6 ⊢
            refine wp_ok (so := { shut := [32] }) mixed _ (by kernel_rfl) ?_
            by_cases hd : d < 3
            · have hd' : ((d : Int) - 1 ≤ 1) = True := eq_true (by omega)
              simp (implicitDefEqProofs := false) (dsimp := false) only [go_sem, c0, c3, c4, c5, c6, hd', decide_true]
              refine WP.loopI (fun (f : Nat) s => (f ≤ 3) ∧ s.sl.length = 35 ∧ s.df = [] ∧ s.gh = {} ∧ (s.hp = h ++ [.cells (18 * p + 9 * t + 3 * d + f) ((laysTo (18 * p + 9 * t + 3 * d + f)).flatMap cLay)]) ∧ evA s.sl (.tmp 0) = .int .i64 n ∧ evA s.sl (.tmp 3) = .sl ⟨h.length, 18 * p + 9 * t + 3 * d + f⟩ 4 0 (18 * p + 9 * t + 3 * d + f) ∧ evA s.sl (.tmp 4) = .int .i64 p ∧ evA s.sl (.tmp 5) = .int .i64 t ∧ evA s.sl (.tmp 6) = .int .i64 ((d : Int) - 1) ∧ evA s.sl (.tmp 7) = .int .i64 ((f : Int) - 1)) (fun (f : Nat) => 3 - f) (0) ?_ ?_
              · simp (implicitDefEqProofs := false) (dsimp := false) only [go_sem, Nat.zero_le, Nat.mul_zero]
                rfl
              · rintro f ⟨sl, df, hp, gh⟩ ⟨eb, el, rfl, rfl, rfl, e0, e3, e4, e5, e6, e7⟩
                simp only at eb el e0 e3 e4 e5 e6 e7
                obtain ⟨j, rfl⟩ := slots_lit el; clear el; simp only [junk_succ, junk_zero, evA_tmp, nth_16, nth_four, nth_one, nth_zero, Nat.zero_add, Nat.reduceAdd] at  e0 e3 e4 e5 e6 e7 ⊢
                refine wp_ok (so := { shut := [32] }) mixed _ (by kernel_rfl) ?_
                by_cases hf : f < 3
                · have hf' : ((f : Int) - 1 ≤ 1) = True := eq_true (by omega)
                  have hw : IntKind.i64.wrap ((f : Int) - 1 + 1) = ((f + 1 : Nat) : Int) - 1 := by rw [wrap64 (by omega) (by omega)]; omega
                  have hl : ((laysTo (18 * p + 9 * t + 3 * d + f)).flatMap cLay).length = (18 * p + 9 * t + 3 * d + f) * 4 := by rw [length_rows cLay_len, laysTo_len]
                  simp (implicitDefEqProofs := false) (dsimp := false) only [go_sem, e0, e3, e4, e5, e6, e7, hf', decide_true, hw, hl]
                  rw [← layK_at ht hd hf]
                  exact ⟨by omega, f + 1, ⟨by omega, ⟨rfl, by rw [← Nat.add_assoc, laysTo_succ, List.flatMap_append]; simp⟩, rfl, rfl⟩, by omega⟩
                · have hs : ((f : Int) - 1 ≤ 1) = False := eq_false (by omega)
                  have hw : IntKind.i64.wrap ((d : Int) - 1 + 1) = ((d + 1 : Nat) : Int) - 1 := by rw [wrap64 (by omega) (by omega)]; omega
                  simp (implicitDefEqProofs := false) (dsimp := false) only [go_sem, e0, e3, e4, e5, e6, e7, hs, decide_false, hw]
                  rw [show 18 * p + 9 * t + 3 * d + f = 18 * p + 9 * t + 3 * (d + 1) by omega]
                  exact ⟨d + 1, ⟨by omega, ⟨rfl, rfl⟩, rfl, rfl⟩, by omega⟩
            · have hs : ((d : Int) - 1 ≤ 1) = False := eq_false (by omega)
              simp (implicitDefEqProofs := false) (dsimp := false) only [go_sem, c0, c3, c4, c5, c6, hs, decide_false]
              rw [show 18 * p + 9 * t + 3 * d = 18 * p + 9 * (t + 1) by omega]
              exact ⟨t + 1, ⟨by omega, ⟨rfl, rfl⟩, rfl, wrap_succ (by omega)⟩, by omega⟩
        · have hs : ((t : Int) < 2) = False := eq_false (by omega)
          simp (implicitDefEqProofs := false) (dsimp := false) only [go_sem, b0, b3, b4, b5, hs, decide_false]
          rw [show 18 * p + 9 * t = 18 * (p + 1) by omega]
          exact ⟨p + 1, ⟨by omega, ⟨rfl, rfl⟩, rfl, wrap_succ (by omega)⟩, by omega⟩
    · have hs : ((p : Int) < (n : Int)) = False := eq_false (by omega)
      have e3 : p = n := by omega
      subst e3
      simp (implicitDefEqProofs := false) (dsimp := false) only [go_sem, a0, a3, a4, hs, decide_false]
      rw [List.take_of_length_le (by rw [length_rows cLay_len, laysTo_len]; exact Nat.le_refl _), laysTo_len]
end Go.Mac
namespace Go.Mac
open Go Go.Conc Go.Proofs
set_option maxRecDepth 4000
def cellB (b : Board) (r c : Int) : Bool := decide (0 ≤ r) && decide (r < b.cells.length) && (decide (0 ≤ c) && decide (c < (b.cells.headD []).length))
def ShownR (b : Board) (l : Lay) (row col : Int) : Int × Int :=
  if boardErr b ≠ 0 then (0, boardErr b)
  else if layErr b l ≠ 0 then (0, layErr b l)
  else if cellB b row col = false then (0, 3)
  else (shownB (mapB b.glyphs) (b.pages.getD l.page.toNat []) l row col, 0)
theorem layErr_zero {b : Board} {l : Lay} (h : layErr b l = 0) : 0 ≤ l.page ∧ l.page < b.pages.length ∧ -1 ≤ l.down ∧ l.down ≤ 1 ∧ -1 ≤ l.right ∧ l.right ≤ 1 := by
  unfold layErr at h
  by_cases c1 : 0 ≤ l.page ∧ l.page < b.pages.length
  · rw [if_neg (by simpa using c1)] at h
    by_cases c2 : 1 < l.down ∨ l.down < -1 ∨ 1 < l.right ∨ l.right < -1
    · rw [if_pos c2] at h; cases h
    · omega
  · rw [if_pos c1] at h; cases h
theorem dice_new (r : Option (List Int)) {h : List Blk} (hb : h.all (belowBlk h.length) = true) : ∃ v n, AV.ptr ⟨h.length, 0⟩ 0 = v ∧ h.length ≤ n ∧ below n v = true ∧ ((h ++ [diceB r 1]).take n).all (belowBlk n) = true ∧ AEnd.ret v = AEnd.ret (.ptr ⟨h.length, 0⟩ 0) ∧ (h ++ [diceB r 1]).take n = h ++ [diceB r 1] := by
  refine ⟨_, h.length + 1, rfl, by omega, by simp [below], ?_, rfl, List.take_of_length_le (by simp)⟩
  rw [List.take_of_length_le (by simp), List.all_append, allBelow_mono (by omega) hb]
  simp [diceB_below]
theorem NewDice_ok (r : Option (List Int)) (h : List Blk) : CallsA Try.prog 16 [leftA r] h fun e h' => e = .ret (.ptr ⟨h.length, 0⟩ 0) ∧ h' = h ++ [diceB r 1] := by
  cases r with
  | none =>
    refine CallsA.of_wpe [] {} 5 mixed Try.func16 (by kernel_rfl) rfl (by kernel_rfl) fun j hB hA => ?_; simp only [junk_succ, junk_zero, List.cons_append, List.nil_append, List.length_cons, List.length_nil, Nat.reduceAdd]
    simp (implicitDefEqProofs := false) (dsimp := false) only [go_sem, leftA]
    exact dice_new none hB
  | some l =>
    refine CallsA.of_wpe [] {} 5 mixed Try.func16 (by kernel_rfl) rfl (by kernel_rfl) fun j hB hA => ?_; simp only [junk_succ, junk_zero, List.cons_append, List.nil_append, List.length_cons, List.length_nil, Nat.reduceAdd]
    simp (implicitDefEqProofs := false) (dsimp := false) only [go_sem, leftA, ints]
    exact dice_new (some l) hB
theorem Shown_ok (b : Board) (l : Lay) (row col : Int) (hd : isI64 l.down) (hr : isI64 l.right) : PureA Try.prog 35 [.agg (brdA b), .agg (cLay l), .int .i64 row, .int .i64 col] (pairA (ShownR b l row col)) := by
  refine PureA.of_wpp {} 31 mixed Try.func35 (by kernel_rfl) rfl (by kernel_rfl) (rfl) fun h j hB => ?_
  simp only [junk_succ, junk_zero, List.cons_append, List.nil_append, List.length_cons, List.length_nil, Nat.reduceAdd]
  simp (implicitDefEqProofs := false) (dsimp := false) only [go_sem, brdA, cLay]
  refine open_use (fun e0 => ?_) (fun e1 e2 x y z t f1 f2 f3 f4 => ?_)
  · simp (implicitDefEqProofs := false) (dsimp := false) only [go_sem, bdA]
    (first | refine CallsA.use (checkLay_ok b (mapB b.glyphs) l hd hr) ?_ | refine QuietCalls.use (checkLay_ok b (mapB b.glyphs) l hd hr) ?_)
    simp (implicitDefEqProofs := false) (dsimp := false) only [go_sem]
    refine ⟨fun c => ?_, fun c => ?_⟩
    · have c' : layErr b l ≠ 0 := by simpa using c
      rw [ShownR, if_neg (by simp [e0]), if_pos c']; rfl
    · have c0 : layErr b l = 0 := by simpa using c
      obtain ⟨p0, p1, q⟩ := layErr_zero c0
      have okb := okBoard.of e0
      (first | refine CallsA.use (hasCell_ok b (mapB b.glyphs) row col okb.cells.pos) ?_ | refine QuietCalls.use (hasCell_ok b (mapB b.glyphs) row col okb.cells.pos) ?_)
      simp (implicitDefEqProofs := false) (dsimp := false) only [go_sem]
      refine ⟨fun c1 => ?_, fun c1 => ?_⟩
      · have c2 : cellB b row col = false := by simpa only [cellB, Bool.not_eq_true'] using c1
        rw [ShownR, if_neg (by simp [e0]), if_neg (by simp [c0]), if_pos c2]; rfl
      · have c2 : cellB b row col = true := by simpa [cellB] using c1
        have c3 := c2
        simp only [cellB, Bool.and_eq_true, decide_eq_true_eq] at c3
        have g1 := okb.cells.most
        have g2 := okb.cells.wmost
        have hp : l.page.toNat < b.pages.length := by omega
        have hpg : b.pages.getD l.page.toNat [] = b.pages[l.page.toNat] := by simp [List.getD, hp]
        (first | refine CallsA.use (shown_ok b (mapB b.glyphs) l row col l.page.toNat (by omega) hp (okb.page _ (List.getElem_mem hp)) (by omega) (by omega) (by omega) (by omega)) ?_ | refine QuietCalls.use (shown_ok b (mapB b.glyphs) l row col l.page.toNat (by omega) hp (okb.page _ (List.getElem_mem hp)) (by omega) (by omega) (by omega) (by omega)) ?_)
        simp (implicitDefEqProofs := false) (dsimp := false) only [go_sem]
        rw [ShownR, if_neg (by simp [e0]), if_neg (by simp [c0]), if_neg (by simp [c2]), hpg]; rfl
  · simp only [leafA] at f1 f2 f3 f4
    simp (implicitDefEqProofs := false) (dsimp := false) only [go_sem, f1, f2, f3, f4, e2, eq_false e1]
    rw [ShownR, if_pos e1]; exact fun _ => rfl
end Go.Mac
namespace Go.Mac
open Go Go.Conc Go.Proofs
def is64 (n : Int) : Prop := 0 ≤ n ∧ n ≤ 63
def all64 (p : Int → Int → Bool) : Bool := (List.range 64).all fun a => (List.range 64).all fun b => p a b
theorem all64_get {p : Int → Int → Bool} (h : all64 p = true) {a b : Int} (ha : is64 a) (hb : is64 b) : p a b = true := by
  obtain ⟨x, rfl⟩ : ∃ x : Nat, a = x := ⟨a.toNat, by have := ha.1; omega⟩
  obtain ⟨y, rfl⟩ : ∃ y : Nat, b = y := ⟨b.toNat, by have := hb.1; omega⟩
  have h1 := List.all_eq_true.1 h x (List.mem_range.2 (by have := ha.2; omega))
  exact List.all_eq_true.1 h1 y (List.mem_range.2 (by have := hb.2; omega))
def in64 (n : Int) : Bool := decide (0 ≤ n) && decide (n ≤ 63)
theorem in64_iff {n : Int} : in64 n = true ↔ is64 n := by simp [in64, is64]
theorem and_nat : all64 (fun a b => andK .i64 a b == ((a.toNat &&& b.toNat : Nat) : Int) && in64 (andK .i64 a b)) = true := by kernel_rfl
theorem or_nat : all64 (fun a b => orK .i64 a b == ((a.toNat ||| b.toNat : Nat) : Int) && in64 (orK .i64 a b)) = true := by kernel_rfl
theorem not_nat : all64 (fun s u => andK .i64 s (andNotK .i64 u s) == 0 && in64 (andNotK .i64 u s)) = true := by kernel_rfl
theorem mir64 : (List.range 64).all (fun n => in64 (mirB n) && in64 (turnB n)) = true := by kernel_rfl
theorem and64 {a b : Int} (ha : is64 a) (hb : is64 b) : andK .i64 a b = ((a.toNat &&& b.toNat : Nat) : Int) ∧ is64 (andK .i64 a b) := by
  have := all64_get and_nat ha hb
  simpa [in64_iff] using this
theorem or64 {a b : Int} (ha : is64 a) (hb : is64 b) : orK .i64 a b = ((a.toNat ||| b.toNat : Nat) : Int) ∧ is64 (orK .i64 a b) := by
  have := all64_get or_nat ha hb
  simpa [in64_iff] using this
theorem not64 {s u : Int} (hs : is64 s) (hu : is64 u) : andK .i64 s (andNotK .i64 u s) = 0 ∧ is64 (andNotK .i64 u s) := by
  have := all64_get not_nat hs hu
  simpa [in64_iff] using this
def okPr (s : Int) (t : Trace) : Prop := is64 t.seen ∧ is64 t.bare ∧ andK .i64 t.seen t.bare = 0 ∧ fitsB s t = true
theorem okPr.of {s v u : Int} (hs : is64 s) (hv : is64 v) (hu : is64 u) : okPr s ⟨andK .i64 s v, andNotK .i64 u s⟩ := by
  obtain ⟨a1, a2⟩ := and64 hs hv
  obtain ⟨b1, b2⟩ := not64 hs hu
  have hsa : andK .i64 s (andK .i64 s v) = andK .i64 s v := by
    rw [(and64 hs a2).1, a1, Int.toNat_natCast, ← Nat.and_assoc, Nat.and_self]
  have hz : s.toNat &&& (andNotK .i64 u s).toNat = 0 := by
    have := (and64 hs b2).1
    rw [b1] at this
    omega
  have hab : andK .i64 (andK .i64 s v) (andNotK .i64 u s) = 0 := by
    rw [(and64 a2 b2).1, a1, Int.toNat_natCast, Nat.and_comm s.toNat v.toNat, Nat.and_assoc, hz, Nat.and_zero]; rfl
  exact ⟨a2, b2, hab, by simp [fitsB, hsa, b1]⟩
theorem okPr.err {s : Int} {t : Trace} (h : okPr s t) : traceErr t = 0 := by
  obtain ⟨h1, h2, h3, _⟩ := h
  unfold is64 at h1 h2
  unfold traceErr
  rw [if_neg (by omega), if_neg (by simp [h3])]
theorem mirB64 {n : Int} (h : is64 n) : is64 (mirB n) ∧ is64 (turnB n) := by
  obtain ⟨x, rfl⟩ : ∃ x : Nat, n = x := ⟨n.toNat, by have := h.1; omega⟩
  have := List.all_eq_true.1 mir64 x (List.mem_range.2 (by have := h.2; omega))
  simpa [in64_iff] using this
end Go.Mac
namespace Go.Mac
open Go Go.Conc Go.Proofs
set_option maxRecDepth 4000
def dupTo (l : List (List UInt8)) (k : Nat) : List (List UInt8) := l.take k ++ List.replicate (l.length - k) []
theorem dupTo_zero (l : List (List UInt8)) : (if l.length = 0 then [] else (List.range l.length).map fun j => [AV.str []].getD (j % 1) .any) = (dupTo l 0).flatMap cStr := by
  have e : ∀ n, (List.range n).map (fun j => [AV.str []].getD (j % 1) .any) = (List.replicate n ([] : List UInt8)).flatMap cStr := by
    intro n
    induction n with
    | zero => rfl
    | succ n ih => rw [List.range_succ, List.map_append, ih, List.replicate_succ', List.flatMap_append]; simp [cStr, Nat.mod_one]
  simp only [dupTo, List.take_zero, List.nil_append, Nat.sub_zero]
  split
  · rename_i h; rw [h]; rfl
  · exact e _
theorem dupTo_len {l : List (List UInt8)} {k : Nat} (h : k ≤ l.length) : (dupTo l k).length = l.length := by simp [dupTo]; omega
theorem flat_set {α : Type} {f : α → List AV} {g : α → AV} (hf : ∀ x, f x = [g x]) : ∀ {l : List α} {k : Nat} {x : α}, (l.flatMap f).set k (g x) = (l.set k x).flatMap f
  | [], k, x => by simp
  | a :: l, 0, x => by simp [hf]
  | a :: l, k + 1, x => by simp only [List.flatMap_cons, hf, List.set_cons_succ, List.cons_append, List.nil_append]; rw [← flat_set hf]
theorem dupTo_succ {l : List (List UInt8)} {k : Nat} (h : k < l.length) : (dupTo l k).set k l[k] = dupTo l (k + 1) := by
  unfold dupTo
  rw [List.set_append_right _ _ (by simp; omega)]
  simp only [List.length_take, Nat.min_eq_left (Nat.le_of_lt h), Nat.sub_self]
  rw [show l.length - k = (l.length - (k + 1)) + 1 by omega, List.replicate_succ, List.set_cons_zero, List.take_succ_eq_append_getElem h, List.append_assoc]
  rfl
theorem DupStrings_ok (l : List (List UInt8)) (hl : l.length ≤ 1000) : PureA Try.prog 40 [sliceOf cStr l] (sliceOf cStr l) := by
  refine PureA.of_wps [2] {} 21 mixed Try.func40 (by kernel_rfl) rfl (by kernel_rfl) (below_psl (fun _ => rfl) _) fun h j hB => ?_
  simp only [junk_succ, junk_zero, List.cons_append, List.nil_append, List.length_cons, List.length_nil, Nat.reduceAdd]
  simp (implicitDefEqProofs := false) (dsimp := false) only [go_sem, dupTo_zero]
  refine ⟨by omega, ?_⟩
  refine WP.loopI (fun (k : Nat) s => (k ≤ l.length) ∧ s.sl.length = 22 ∧ s.df = [] ∧ s.gh = {} ∧ (s.hp = h ++ [.cells 0 ((dupTo l k).flatMap cStr)]) ∧ evA s.sl (.tmp 0) = sliceOf cStr l ∧ evA s.sl (.tmp 3) = .sl ⟨h.length, 0⟩ 1 0 l.length ∧ evA s.sl (.tmp 4) = .int .i64 k) (fun (k : Nat) => l.length - k) (0) ?_ ?_
  · simp (implicitDefEqProofs := false) (dsimp := false) only [go_sem, Nat.zero_le]
  · rintro k ⟨sl, df, hp, gh⟩ ⟨ab, al, rfl, rfl, rfl, a0, a3, a4⟩
    simp only at ab al a0 a3 a4
    obtain ⟨j, rfl⟩ := slots_lit al; clear al; simp only [junk_succ, junk_zero, evA_tmp, nth_16, nth_four, nth_one, nth_zero, Nat.zero_add, Nat.reduceAdd] at  a0 a3 a4 ⊢
    refine wp_ok (so := {}) mixed _ (by kernel_rfl) ?_
    by_cases hk : k < l.length
    · have hl2 : ((dupTo l k).flatMap cStr).length = l.length := by rw [rows_length (fun _ => rfl), dupTo_len (Nat.le_of_lt hk)]
      simp (implicitDefEqProofs := false) (dsimp := false) only [go_sem, a0, a3, a4, nat_lt hk, decide_true, row1 cStr_len hk, row1_le cStr_len hk, cStr, hl2]
      exact ⟨by omega, k + 1, ⟨by omega, by rw [flat_set (f := cStr) (g := .str) (fun _ => rfl), dupTo_succ hk], wrap_succ (by omega)⟩, by omega⟩
    · have hs : ((k : Int) < (l.length : Int)) = False := eq_false (by omega)
      have e : k = l.length := by omega
      subst e
      have hd : dupTo l l.length = l := by simp [dupTo]
      simp (implicitDefEqProofs := false) (dsimp := false) only [go_sem, a0, a3, a4, hs, decide_false, hd]
      rw [rows_all (f := cStr) (fun _ => rfl)]
structure okSizes (b : Board) : Prop where
  g : b.glyphs.length ≤ 1000
  p : b.pages.length ≤ 1000
  pr : ∀ p ∈ b.pages, p.length ≤ 1000
  c : b.cells.length ≤ 1000
  cr : ∀ r ∈ b.cells, r.length ≤ 1000
def slsFrom (g : Nat) : Nat → List (List Trace) → List AV
  | _, [] => []
  | n, r :: rs => .sl ⟨n, g⟩ 2 0 r.length :: slsFrom g (n + 1) rs
theorem slsFrom_len (g : Nat) : ∀ n rs, (slsFrom g n rs).length = rs.length
  | _, [] => rfl
  | n, r :: rs => by simp [slsFrom, slsFrom_len g (n + 1) rs]
theorem slsFrom_snoc (g : Nat) (r : List Trace) : ∀ n rs, slsFrom g n (rs ++ [r]) = slsFrom g n rs ++ [.sl ⟨n + rs.length, g⟩ 2 0 r.length]
  | n, [] => rfl
  | n, x :: rs => by
    simp only [List.cons_append, slsFrom, slsFrom_snoc g r (n + 1) rs, List.length_cons]
    rw [show n + 1 + rs.length = n + (rs.length + 1) by omega]
theorem slsFrom_drop (g : Nat) : ∀ (n : Nat) (rs : List (List Trace)) (k : Nat) (h : k < rs.length), (slsFrom g n rs).drop k = .sl ⟨n + k, g⟩ 2 0 rs[k].length :: (slsFrom g n rs).drop (k + 1)
  | n, r :: rs, 0, _ => rfl
  | n, r :: rs, k + 1, h => by
    simp only [slsFrom, List.drop_succ_cons, List.getElem_cons_succ]
    rw [slsFrom_drop g (n + 1) rs k (by simpa using h), show n + 1 + k = n + (k + 1) by omega]
def rowB (r : List Trace) : Blk := .cells 1 (r.flatMap cTrace)
def dupA (b : Board) (L : Nat) : AV := .agg [sliceOf cGlyph b.glyphs, .sl ⟨L, b.pages.length⟩ 1 0 b.pages.length, .sl ⟨L + 1, b.cells.length⟩ 1 0 b.cells.length]
def dupH (b : Board) (L : Nat) : List Blk := .cells b.pages.length (b.pages.flatMap cPage) :: .cells b.cells.length (slsFrom 1 (L + 2) b.cells) :: b.cells.map rowB
def z3 : List AV := [.nilsl, .nilsl, .nilsl]
theorem flat_leaf {α : Type} {f : α → List AV} (hf : ∀ x, (f x).all leafA = true) : ∀ l : List α, (l.flatMap f).all leafA = true
  | [] => rfl
  | x :: l => by rw [List.flatMap_cons, List.all_append, hf, flat_leaf hf l]; rfl
theorem slsFrom_below (g : Nat) {n : Nat} : ∀ (m : Nat) (rs : List (List Trace)), m + rs.length ≤ n → belowL n (slsFrom g m rs) = true
  | _, [], _ => rfl
  | m, r :: rs, h => by
    simp only [List.length_cons] at h
    have e := slsFrom_below g (n := n) (m + 1) rs (by omega)
    simp only [slsFrom, belowL, below, e]
    simp
    omega
theorem rowB_below (n : Nat) (r : List Trace) : belowBlk n (rowB r) = true := belowL_mono (Nat.zero_le n) _ (belowL_flat (f := cTrace) (fun _ => rfl) r)
theorem DupBoard_ok (b : Board) (ok : okSizes b) (h : List Blk) : CallsA Try.prog 18 [.agg (brdA b)] h fun e h' => ∃ a0 a1 a2 a3, e = .ret (dupA b (h.length + 4)) ∧ h' = h ++ a0 :: a1 :: a2 :: a3 :: dupH b (h.length + 4) := by
  have hgt : (b.glyphs.flatMap cGlyph).take (b.glyphs.length * 2) = b.glyphs.flatMap cGlyph := List.take_of_length_le (by rw [length_rows cGlyph_len]; exact Nat.le_refl _)
  have hgl : (b.glyphs.flatMap cGlyph).length = b.glyphs.length * 2 := length_rows cGlyph_len _
  refine CallsA.of_wpe [] { shut := [26, 45], hand := [9], tail := [(5, 9)] } 48 mixed Try.func18 (by kernel_rfl) rfl (by kernel_rfl) fun j hB hA => ?_; simp only [junk_succ, junk_zero, List.cons_append, List.nil_append, List.length_cons, List.length_nil, Nat.reduceAdd]
  simp (implicitDefEqProofs := false) (dsimp := false) only [go_sem, brdA, hgt, hgl]
  refine ⟨⟨flat_leaf (fun _ => rfl) _, by have := ok.g; omega⟩, ?_⟩
  refine WPI.turn (Turns.seal_cell (i := h.length + 3) (g := 0) (j := 0) (a := .sl ⟨h.length + 2, 1⟩ 2 0 b.glyphs.length) (a' := sliceOf cGlyph b.glyphs) (by simp only; rw [hget]; rfl) rfl (by simp only [sealV]; rw [hget]; simp [sliceOf, hgt]) (by simp [nmOf])) ?_
  simp only [nmOf, hset, List.set_cons_succ, List.set_cons_zero]
  refine WPI.turn (Turns.nilCell (i := h.length + 3) (j := 1) (sz := 1) (by simp only; rw [hget]; rfl) rfl) ?_
  refine WPI.turn (Turns.nilCell (i := h.length + 3) (j := 2) (sz := 1) (by simp only [List.append_assoc]; rw [hset, List.append_assoc, hget]; rfl) rfl) ?_
  simp only [hset, List.append_assoc, List.set_cons_succ, List.set_cons_zero, List.cons_append, List.nil_append, List.length_append, List.length_cons, List.length_nil, Nat.zero_add, Nat.reduceAdd]
  refine WP.loopI (fun (k : Nat) s => (k ≤ b.pages.length) ∧ s.sl.length = 49 ∧ s.df = [] ∧ s.gh = {} ∧ (s.hp = h ++ [.cells 0 (brdA b), .cells 0 z3, .dead, .cells 0 [sliceOf cGlyph b.glyphs, .sl ⟨h.length + 4, k⟩ 1 0 k, .sl ⟨h.length + 5, 0⟩ 1 0 0], .cells k ((b.pages.take k).flatMap cPage), .cells 0 []]) ∧ evA s.sl (.tmp 1) = .ptr ⟨h.length, 0⟩ 0 ∧ evA s.sl (.tmp 2) = .ptr ⟨h.length + 1, 0⟩ 0 ∧ evA s.sl (.tmp 3) = .ptr ⟨h.length + 3, 0⟩ 0 ∧ evA s.sl (.tmp 4) = .int .i64 k) (fun (k : Nat) => b.pages.length - k) (0) ?_ ?_
  · simp (implicitDefEqProofs := false) (dsimp := false) only [go_sem, brdA, Nat.zero_le]
    exact ⟨rfl, rfl⟩
  · rintro k ⟨sl, df, hp, gh⟩ ⟨ab, al, rfl, rfl, rfl, a1, a2, a3, a4⟩
    simp only at ab al a1 a2 a3 a4
    obtain ⟨j, rfl⟩ := slots_lit al; clear al; simp only [junk_succ, junk_zero, evA_tmp, nth_16, nth_four, nth_one, nth_zero, Nat.zero_add, Nat.reduceAdd] at  a1 a2 a3 a4 ⊢
    refine wp_ok (so := { shut := [26, 45], hand := [9], tail := [(5, 9)] }) mixed _ (by kernel_rfl) ?_
    by_cases hk : k < b.pages.length
    · have hkl : ((b.pages.take k).flatMap cPage).length = k := by rw [cPage_len1, List.length_take]; omega
      simp (implicitDefEqProofs := false) (dsimp := false) only [go_sem, a1, a2, a3, a4, brdA, nat_lt hk, decide_true, row1 cPage_len hk, row1_le cPage_len hk, cPage]
      (first | refine CallsA.use (DupStrings_ok b.pages[k] (ok.pr _ (List.getElem_mem hk))) ?_ | refine QuietCalls.use (DupStrings_ok b.pages[k] (ok.pr _ (List.getElem_mem hk))) ?_)
      simp (implicitDefEqProofs := false) (dsimp := false) only [go_sem, hkl, brdA]
      refine ⟨below_strs _ _, by have := ok.p; omega, k + 1, ⟨by omega, ⟨rfl, rfl, ?_⟩, wrap_succ (by have := ok.p; omega)⟩, by omega⟩
      rw [List.take_succ_eq_append_getElem hk, List.flatMap_append]
      simp [cPage, sliceOf]
    · have hs : ((k : Int) < (b.pages.length : Int)) = False := eq_false (by omega)
      have e : k = b.pages.length := by omega
      subst e
      rw [List.take_length]
      simp (implicitDefEqProofs := false) (dsimp := false) only [go_sem, a1, a2, a3, a4, brdA, hs, decide_false]
      refine WP.loopI (fun (k : Nat) s => (k ≤ b.cells.length) ∧ s.sl.length = 49 ∧ s.df = [] ∧ s.gh = {} ∧ (s.hp = h ++ .cells 0 (brdA b) :: .cells 0 z3 :: .dead :: .cells 0 [sliceOf cGlyph b.glyphs, .sl ⟨h.length + 4, b.pages.length⟩ 1 0 b.pages.length, .sl ⟨h.length + 5, k⟩ 1 0 k] :: .cells b.pages.length (b.pages.flatMap cPage) :: .cells k (slsFrom 1 (h.length + 6) (b.cells.take k)) :: (b.cells.take k).map rowB) ∧ evA s.sl (.tmp 1) = .ptr ⟨h.length, 0⟩ 0 ∧ evA s.sl (.tmp 2) = .ptr ⟨h.length + 1, 0⟩ 0 ∧ evA s.sl (.tmp 3) = .ptr ⟨h.length + 3, 0⟩ 0 ∧ evA s.sl (.tmp 5) = .int .i64 k) (fun (k : Nat) => b.cells.length - k) (0) ?_ ?_
      · simp (implicitDefEqProofs := false) (dsimp := false) only [go_sem, brdA, Nat.zero_le, List.take_zero, List.map_nil, slsFrom]
      · rintro k ⟨sl, df, hp, gh⟩ ⟨cb, cl, rfl, rfl, rfl, c1, c2, c3, c5⟩
        simp only at cb cl c1 c2 c3 c5
        obtain ⟨j, rfl⟩ := slots_lit cl; clear cl; simp only [junk_succ, junk_zero, evA_tmp, nth_16, nth_four, nth_one, nth_zero, Nat.zero_add, Nat.reduceAdd] at  c1 c2 c3 c5 ⊢
        refine wp_ok (so := { shut := [26, 45], hand := [9], tail := [(5, 9)] }) mixed _ (by kernel_rfl) ?_
        by_cases hk : k < b.cells.length
        · simp (implicitDefEqProofs := false) (dsimp := false) only [go_sem, c1, c2, c3, c5, brdA, nat_lt hk, decide_true]
          refine WP.noisy (so := { shut := [26, 45], tail := [(5, 9)] }) 10 [2, 8] [0, 0, 0, 0, 0, 0, 0, 0, 0, 2] [2, 2, 0, 1, 1, 1, 1, 1, 0, 2] ((fun T => [h ++ T, h ++ (T ++ [.cells 0 []]), h ++ (T ++ [rowB b.cells[k]])]) _) rfl mixed (by kernel_rfl) (by kernel_rfl) (by decide) (by kernel_rfl) rfl ?_
          have hrt : (b.cells[k].flatMap cTrace).take (b.cells[k].length * 2) = b.cells[k].flatMap cTrace := List.take_of_length_le (by rw [length_rows cTrace_len]; exact Nat.le_refl _)
          have hrl : (b.cells[k].flatMap cTrace).length = b.cells[k].length * 2 := length_rows cTrace_len _
          have hsl : (slsFrom 1 (h.length + 6) (b.cells.take k)).length = k := by rw [slsFrom_len, List.length_take]; omega
          simp (implicitDefEqProofs := false) (dsimp := false) only [go_sem, brdA, row1 cTraces_len hk, row1_le cTraces_len hk, cTraces, nat_lt hk, hrt, hrl, hsl]
          have hcr := ok.cr _ (List.getElem_mem hk)
          have hcl := ok.c
          refine ⟨⟨flat_leaf (fun _ => rfl) _, by omega⟩, rfl, by omega, by omega, k + 1, ⟨by omega, ⟨rfl, ⟨rfl, ?_⟩, ?_⟩, wrap_succ (by omega)⟩, by omega⟩
          · rw [List.take_succ_eq_append_getElem hk, slsFrom_snoc, List.length_map, show h.length + 6 + (b.cells.take k).length = h.length + ((b.cells.take k).length + 1 + 1 + 1 + 1 + 1 + 1) by omega]
          · rw [List.take_succ_eq_append_getElem hk, List.map_append]; rfl
        · have hs : ((k : Int) < (b.cells.length : Int)) = False := eq_false (by omega)
          have e : k = b.cells.length := by omega
          subst e
          rw [List.take_length]
          simp (implicitDefEqProofs := false) (dsimp := false) only [go_sem, c1, c2, c3, c5, brdA, hs, decide_false, z3]
          have tk : ∀ (A B C D E F : Blk), List.take (h.length + (b.cells.length + 6)) (h ++ A :: B :: C :: D :: E :: F :: b.cells.map rowB) = h ++ A :: B :: C :: D :: E :: F :: b.cells.map rowB := fun A B C D E F => List.take_of_length_le (by simp)
          refine ⟨_, h.length + (b.cells.length + 6), rfl, by omega, ?_, ?_, _, _, _, _, rfl, tk _ _ _ _ _ _⟩
          · have hbl := belowL_mono (Nat.zero_le (h.length + (b.cells.length + 6))) _ (slices_below b)
            simp only [belowL, sliceOf, below, Bool.and_eq_true] at hbl
            simp [below, belowL, hbl]
          · have hbl := belowL_mono (Nat.zero_le (h.length + (b.cells.length + 6))) _ (slices_below b)
            simp only [belowL, sliceOf, below, Bool.and_eq_true] at hbl
            have hsb := slsFrom_below 1 (n := h.length + (b.cells.length + 6)) (h.length + 6) b.cells (by omega)
            rw [tk, List.all_append, allBelow_mono (by omega) hB]
            simp [belowBlk, belowL, below, hbl, hsb]
            exact fun x _ => rowB_below _ x
end Go.Mac
namespace Go.Mac
open Go Go.Conc Go.Proofs
set_option maxRecDepth 4000
def exStep (s : Int) (out : Int) (p : Int × Int) : Int :=
  let o := andNotK .i64 out (orK .i64 p.1 p.2)
  let o := if andK .i64 s p.1 = 0 then o else orK .i64 o p.2
  if andK .i64 s p.2 = 0 then o else orK .i64 o p.1
def exchB (s : Int) (l : List (Int × Int)) : Int := l.foldl (exStep s) s
theorem cPair_len1 (l : List (Int × Int)) : (l.flatMap cPair).length = l.length := rows_length (fun _ => rfl) l
theorem exchanged_ok (z : Int) (l : List (Int × Int)) (hl : l.length ≤ 1000) : PureA Try.prog 79 [.int .i64 z, sliceOf cPair l] (.int .i64 (exchB z l)) := by
  refine PureA.of_wpp {} 46 mixed Try.func79 (by kernel_rfl) rfl (by kernel_rfl) (rfl) fun h j hB => ?_
  simp only [junk_succ, junk_zero, List.cons_append, List.nil_append, List.length_cons, List.length_nil, Nat.reduceAdd]
  simp (implicitDefEqProofs := false) (dsimp := false) only [go_sem]
  refine WP.loopI (fun (k : Nat) s => (k ≤ l.length) ∧ s.sl.length = 48 ∧ s.df = [] ∧ s.gh = {} ∧ (s.hp = h) ∧ evA s.sl (.tmp 0) = .int .i64 z ∧ evA s.sl (.tmp 1) = sliceOf cPair l ∧ evA s.sl (.tmp 5) = .int .i64 ((l.take k).foldl (exStep z) z) ∧ evA s.sl (.tmp 6) = .int .i64 k) (fun (k : Nat) => l.length - k) (0) ?_ ?_
  · simp (implicitDefEqProofs := false) (dsimp := false) only [go_sem, Nat.zero_le, List.take_zero, List.foldl_nil]
  · rintro k ⟨sl, df, hp, gh⟩ ⟨ab, al, rfl, rfl, rfl, a0, a1, a5, a6⟩
    simp only at ab al a0 a1 a5 a6
    obtain ⟨j, rfl⟩ := slots_lit al; clear al; simp only [junk_succ, junk_zero, evA_tmp, nth_16, nth_four, nth_one, nth_zero, Nat.zero_add, Nat.reduceAdd] at  a0 a1 a5 a6 ⊢
    refine wp_ok (so := {}) mixed _ (by kernel_rfl) ?_
    by_cases hk : k < l.length
    · have hst : (l.take (k + 1)).foldl (exStep z) z = exStep z ((l.take k).foldl (exStep z) z) l[k] := by
        rw [List.take_succ_eq_append_getElem hk, List.foldl_append]; rfl
      have hw := wrap_succ (i := k) (by omega)
      simp (implicitDefEqProofs := false) (dsimp := false) only [go_sem, a0, a1, a5, a6, nat_lt hk, decide_true, row1 cPair_len hk, row1_le cPair_len hk, cPair]
      have key : ∀ v, exStep z ((l.take k).foldl (exStep z) z) l[k] = v → ∃ i', (i' ≤ l.length ∧ v = (l.take i').foldl (exStep z) z ∧ IntKind.i64.wrap ((k : Int) + 1) = (i' : Int)) ∧ l.length - i' < l.length - k := fun v e => ⟨k + 1, ⟨by omega, by rw [hst, e], hw⟩, by omega⟩
      refine ⟨fun c1 => ⟨fun c2 => key _ ?_, fun c2 => key _ ?_⟩, fun c1 => ⟨fun c2 => key _ ?_, fun c2 => key _ ?_⟩⟩
      all_goals
        simp only [bne_iff_ne, ne_eq, bne_eq_false_iff_eq] at c1 c2
        simp [exStep, c1, c2]
    · have hs : ((k : Int) < (l.length : Int)) = False := eq_false (by omega)
      have e : k = l.length := by omega
      subst e
      simp (implicitDefEqProofs := false) (dsimp := false) only [go_sem, a0, a1, a5, a6, hs, decide_false, List.take_length]
      rfl
def mirL : List (Int × Int) := [(1, 2), (4, 8)]
def halfL : List (Int × Int) := [(1, 8), (2, 4), (16, 32)]
theorem MirrorOf_ok (s : Int) : PureA Try.prog 88 [.int .i64 s] (.int .i64 (exchB s mirL)) := by
  refine PureA.of_wpp { shut := [4, 5, 6] } 7 mixed Try.func88 (by kernel_rfl) rfl (by kernel_rfl) (rfl) fun h j hB => ?_
  simp only [junk_succ, junk_zero, List.cons_append, List.nil_append, List.length_cons, List.length_nil, Nat.reduceAdd]
  simp (implicitDefEqProofs := false) (dsimp := false) only [go_sem]
  (first | refine CallsA.use (exchanged_ok s mirL (by decide)) ?_ | refine QuietCalls.use (exchanged_ok s mirL (by decide)) ?_)
  simp (implicitDefEqProofs := false) (dsimp := false) only [go_sem]
theorem HalfOf_ok (s : Int) : PureA Try.prog 34 [.int .i64 s] (.int .i64 (exchB s halfL)) := by
  refine PureA.of_wpp { shut := [4, 5, 6, 7] } 8 mixed Try.func34 (by kernel_rfl) rfl (by kernel_rfl) (rfl) fun h j hB => ?_
  simp only [junk_succ, junk_zero, List.cons_append, List.nil_append, List.length_cons, List.length_nil, Nat.reduceAdd]
  simp (implicitDefEqProofs := false) (dsimp := false) only [go_sem]
  (first | refine CallsA.use (exchanged_ok s halfL (by decide)) ?_ | refine QuietCalls.use (exchanged_ok s halfL (by decide)) ?_)
  simp (implicitDefEqProofs := false) (dsimp := false) only [go_sem]
theorem exch_all : (List.range 64).all (fun n => exchB n mirL == mirB n && exchB n halfL == turnB n) = true := by kernel_rfl
theorem exch64 {n : Int} (h : is64 n) : exchB n mirL = mirroredB n ∧ exchB n halfL = turnB n := by
  obtain ⟨x, rfl⟩ : ∃ x : Nat, n = x := ⟨n.toNat, by have := h.1; omega⟩
  have := List.all_eq_true.1 exch_all x (List.mem_range.2 (by have := h.2; omega))
  simp only [Bool.and_eq_true, beq_iff_eq] at this
  rw [mirroredB, if_pos ⟨h.1, h.2⟩]
  exact this
def strokesB : List Glyph → List UInt8 → Int
  | [], _ => 0
  | g :: l, s => if g.name = s then g.strokes else strokesB l s
theorem strokesB_ink {c : UInt8} (hd : c.toNat ≠ 45) : ∀ {gs : List Glyph}, (∀ g ∈ gs, g.name.length = 1) → strokesB gs [c] = inkB (gs.map fun g => ((gkey g : Int), g.strokes)) c.toNat
  | [], _ => rfl
  | g :: l, h => by
    obtain ⟨c', e, hk⟩ := one_name (h g (List.mem_cons_self ..))
    rw [List.map_cons, inkB_cons, strokesB, strokesB_ink hd fun x hx => h x (List.mem_cons_of_mem _ hx)]
    by_cases hc : c = c'
    · subst hc
      rw [if_pos e, if_pos (by simp [hk])]
    · have : ¬ c.toNat = c'.toNat := fun q => hc (UInt8.toNat_inj.1 q)
      rw [if_neg (by rw [e]; simpa using fun q => hc q.symm), if_neg (by simp only [hk, beq_iff_eq]; omega)]
theorem strokesB_dash : ∀ {gs : List Glyph}, (∀ g ∈ gs, g.name.length = 1 ∧ 97 ≤ gkey g) → strokesB gs [45] = 0
  | [], _ => rfl
  | g :: l, h => by
    obtain ⟨h1, h2⟩ := h g (List.mem_cons_self ..)
    obtain ⟨c', e, hk⟩ := one_name h1
    rw [strokesB, if_neg, strokesB_dash fun x hx => h x (List.mem_cons_of_mem _ hx)]
    rw [e]
    intro q
    have : c' = 45 := by simpa using q
    rw [this] at hk
    have : (45 : UInt8).toNat = 45 := rfl
    omega
theorem strokesB_eq {gs : List Glyph} (ok : okGlyphs gs) (c : UInt8) : strokesB gs [c] = inkB (mapB gs) c.toNat := by
  unfold mapB
  rw [inkB_cons]
  by_cases h : c.toNat = 45
  · have : c = 45 := UInt8.toNat_inj.1 h
    subst this
    rw [strokesB_dash fun g hg => ⟨(ok.one g hg).1, (ok.one g hg).2.1⟩]; rfl
  · rw [strokesB_ink h fun g hg => (ok.one g hg).1, if_neg (by simp; omega)]
theorem strokesB_64 {gs : List Glyph} (ok : okGlyphs gs) (s : List UInt8) : is64 (strokesB gs s) := by
  have : ∀ l : List Glyph, (∀ g ∈ l, 1 ≤ g.strokes ∧ g.strokes ≤ 63) → is64 (strokesB l s) := by
    intro l
    induction l with
    | nil => intro _; exact ⟨Int.le_refl 0, by simp [strokesB]⟩
    | cons g l ih =>
      intro h
      rw [strokesB]
      split
      · have := h g (List.mem_cons_self ..); exact ⟨by omega, by omega⟩
      · exact ih fun x hx => h x (List.mem_cons_of_mem _ hx)
  exact this gs fun g hg => by have := ok.one g hg; omega
theorem strokesOn_ok (b : Board) (okg : okGlyphs b.glyphs) (p r c : Nat) (hp : p < b.pages.length) (hr : r < b.pages[p].length) (hc : c < b.pages[p][r].length) (hcs : c ≤ 1000) : PureA Try.prog 89 [.agg (brdA b), .int .i64 p, .int .i64 r, .int .i64 c] (.int .i64 (strokesB b.glyphs [b.pages[p][r][c]])) := by
  refine PureA.of_wpp {} 38 mixed Try.func89 (by kernel_rfl) rfl (by kernel_rfl) (rfl) fun h j hB => ?_
  simp only [junk_succ, junk_zero, List.cons_append, List.nil_append, List.length_cons, List.length_nil, Nat.reduceAdd]
  have hm := okg.most
  simp (implicitDefEqProofs := false) (dsimp := false) only [go_sem, brdA]
  refine WP.loopI (fun (k : Nat) s => (k ≤ b.glyphs.length ∧ strokesB (b.glyphs.drop k) [b.pages[p][r][c]] = strokesB b.glyphs [b.pages[p][r][c]]) ∧ s.sl.length = 42 ∧ s.df = [] ∧ s.gh = {} ∧ (s.hp = h ++ [.cells 0 (brdA b)]) ∧ evA s.sl (.tmp 1) = .int .i64 p ∧ evA s.sl (.tmp 2) = .int .i64 r ∧ evA s.sl (.tmp 3) = .int .i64 c ∧ evA s.sl (.tmp 4) = .ptr ⟨h.length, 0⟩ 0 ∧ evA s.sl (.tmp 9) = .int .i64 k) (fun (k : Nat) => b.glyphs.length - k) (0) ?_ ?_
  · simp (implicitDefEqProofs := false) (dsimp := false) only [go_sem, brdA, Nat.zero_le, List.drop_zero]
  · rintro k ⟨sl, df, hp, gh⟩ ⟨ab, al, rfl, rfl, rfl, a1, a2, a3, a4, a9⟩
    simp only at ab al a1 a2 a3 a4 a9
    obtain ⟨j, rfl⟩ := slots_lit al; clear al; simp only [junk_succ, junk_zero, evA_tmp, nth_16, nth_four, nth_one, nth_zero, Nat.zero_add, Nat.reduceAdd] at  a1 a2 a3 a4 a9 ⊢
    refine wp_ok (so := {}) mixed _ (by kernel_rfl) ?_
    obtain ⟨hk1, hk2⟩ := ab
    by_cases hk : k < b.glyphs.length
    · have hw := wrap_succ (i := c) (by omega)
      have hcw : ((c : Int) < ((c + 1 : Nat) : Int)) = True := eq_true (by omega)
      rw [drop_get hk, strokesB] at hk2
      simp (implicitDefEqProofs := false) (dsimp := false) only [go_sem, a1, a2, a3, a4, a9, brdA, nat_lt hk, decide_true, names_drop hk, names_le hk, row1 cPage_len hp, row1_le cPage_len hp, nat_lt hp, cPage, row1 cStr_len hr, row1_le cStr_len hr, nat_lt hr, cStr, hw]
      have ht : (b.pages[p][r].drop c).take (c + 1 - c) = [b.pages[p][r][c]] := by
        rw [List.drop_eq_getElem_cons hc, Nat.add_sub_cancel_left]; rfl
      rw [ht]
      have hle : k * 2 ≤ (b.glyphs.flatMap cGlyph).length := by rw [length_rows cGlyph_len]; omega
      have h1 := (okg.one _ (List.getElem_mem hk)).1
      refine ⟨hle, ⟨by omega, by omega⟩, by simp; omega, fun e => ⟨hle, ?_⟩, fun e => ⟨k + 1, ⟨⟨by omega, ?_⟩, wrap_succ (by omega)⟩, by omega⟩⟩
      · rw [if_pos e] at hk2; exact hk2
      · rw [if_neg (by simpa using e)] at hk2; exact hk2
    · have hs : ((k : Int) < (b.glyphs.length : Int)) = False := eq_false (by omega)
      simp (implicitDefEqProofs := false) (dsimp := false) only [go_sem, a1, a2, a3, a4, a9, brdA, hs, decide_false]
      rw [List.drop_eq_nil_of_le (by omega)] at hk2
      exact hk2
theorem shownB_64 {b : Board} (okg : okGlyphs b.glyphs) (pg : List (List UInt8)) (l : Lay) (row col : Int) : is64 (shownB (mapB b.glyphs) pg l row col) := by
  have hi : ∀ c : UInt8, is64 (inkB (mapB b.glyphs) c.toNat) := fun c => by rw [← strokesB_eq okg]; exact strokesB_64 okg _
  have hm : ∀ n, is64 n → is64 (mirroredB n) := fun n hn => by rw [mirroredB, if_pos ⟨hn.1, hn.2⟩]; exact (mirB64 hn).1
  unfold shownB
  simp only
  split
  · unfold asB
    refine hm _ ?_
    split
    · exact (mirB64 (by unfold charAt; exact hi _)).2
    · unfold charAt; exact hi _
  · exact ⟨Int.le_refl 0, by decide⟩
theorem ShownOn_ok (b : Board) (okg : okGlyphs b.glyphs) (l : Lay) (row col : Int) (p : Nat) (hlp : l.page = p) (hp : p < b.pages.length) (ok : okPage b.pages[p]) (hr : -1000 ≤ row ∧ row ≤ 1000) (hc : -1000 ≤ col ∧ col ≤ 1000) (hd : -1000 ≤ l.down ∧ l.down ≤ 1000) (hrt : -1000 ≤ l.right ∧ l.right ≤ 1000) : PureA Try.prog 47 [.agg (brdA b), .agg (cLay l), .int .i64 row, .int .i64 col] (.int .i64 (shownB (mapB b.glyphs) b.pages[p] l row col)) := by
  refine PureA.of_wpp { cut := [28, 34, 38] } 69 mixed Try.func47 (by kernel_rfl) rfl (by kernel_rfl) (rfl) fun h j hB => ?_
  simp only [junk_succ, junk_zero, List.cons_append, List.nil_append, List.length_cons, List.length_nil, Nat.reduceAdd]
  obtain ⟨pg, tu, dn, rt⟩ := l
  simp only at hlp hd hrt
  subst hlp
  have h1 := ok.pos
  have h2 := ok.most
  have h3 := ok.wmost
  have hw1 : IntKind.i64.wrap (row - dn) = row - dn := wrap64 (by omega) (by omega)
  have hw2 : IntKind.i64.wrap (col - rt) = col - rt := wrap64 (by omega) (by omega)
  have hhd : (b.pages[p].flatMap cStr).drop 0 = .str (b.pages[p].headD []) :: (b.pages[p].drop 1).flatMap cStr := by
    rw [headD_get h1]
    have := row1 cStr_len h1
    rw [this]; rfl
  simp (implicitDefEqProofs := false) (dsimp := false) only [go_sem, brdA, cLay, row1 cPage_len hp, row1_le cPage_len hp, nat_lt hp, cPage, hw1, hw2, str_get0 h1, str_len1, nat_lt h1]
  have hout : (row - dn < 0 ∨ (b.pages[p].length : Int) ≤ row - dn ∨ col - rt < 0 ∨ ((b.pages[p].headD []).length : Int) ≤ col - rt) → 0 = shownB (mapB b.glyphs) b.pages[p] ⟨p, tu, dn, rt⟩ row col := fun c => by
    simp only [shownB, letterB_out (l := ⟨p, tu, dn, rt⟩) c]; rfl
  refine ⟨fun c => hout (.inl c), fun n1 => ⟨fun c => hout (.inr (.inl c)), fun n2 => ⟨fun c => hout (.inr (.inr (.inl c))), fun n3 => ⟨⟨by omega, by omega⟩, by omega, fun c => hout (.inr (.inr (.inr c))), fun n4 => ?_⟩⟩⟩⟩
  have hin := letterB_in (p := b.pages[p]) (l := ⟨p, tu, dn, rt⟩) (row := row) (col := col) (by simp only; omega)
  obtain ⟨c', hc'⟩ : ∃ c' : Nat, col - rt = c' := ⟨(col - rt).toNat, by omega⟩
  obtain ⟨r', hr'⟩ : ∃ r' : Nat, row - dn = r' := ⟨(row - dn).toNat, by omega⟩
  have hch : ∀ (x y : Nat) (hx : x < b.pages[p].length) (hy : y < b.pages[p][x].length), inkB (mapB b.glyphs) (charAt b.pages[p] x y) = strokesB b.glyphs [b.pages[p][x][y]] := fun x y hx hy => by
    rw [strokesB_eq okg]
    simp [charAt, List.getD, hx, hy]
  refine ⟨fun ct => ?_, fun ct => ?_⟩
  · subst ct
    obtain ⟨r2, hr2⟩ : ∃ r2 : Nat, (b.pages[p].length : Int) - 1 - (row - dn) = r2 := ⟨((b.pages[p].length : Int) - 1 - (row - dn)).toNat, by omega⟩
    have e1 : IntKind.i64.wrap (IntKind.i64.wrap ((b.pages[p].length : Int) - 1) - (row - dn)) = r2 := by rw [wrap64 (n := (b.pages[p].length : Int) - 1) (by omega) (by omega), wrap64 (by omega) (by omega)]; exact hr2
    have hx : r2 < b.pages[p].length := by omega
    have hy : c' < b.pages[p][r2].length := by rw [ok.row hx]; omega
    have hs := strokesB_64 okg [b.pages[p][r2][c']]
    rw [e1, hc']
    (first | refine CallsA.use (strokesOn_ok b okg p r2 c' hp hx hy (by omega)) ?_ | refine QuietCalls.use (strokesOn_ok b okg p r2 c' hp hx hy (by omega)) ?_)
    simp (implicitDefEqProofs := false) (dsimp := false) only [go_sem]
    (first | refine CallsA.use (HalfOf_ok _) ?_ | refine QuietCalls.use (HalfOf_ok _) ?_)
    simp (implicitDefEqProofs := false) (dsimp := false) only [go_sem]
    (first | refine CallsA.use (MirrorOf_ok _) ?_ | refine QuietCalls.use (MirrorOf_ok _) ?_)
    simp (implicitDefEqProofs := false) (dsimp := false) only [go_sem]
    rw [(exch64 hs).2, (exch64 (mirB64 hs).2).1]
    simp only [shownB, hin, if_true, asB]
    rw [hr2, hc', hch r2 c' hx hy]
  · subst ct
    obtain ⟨c2, hc2⟩ : ∃ c2 : Nat, ((b.pages[p].headD []).length : Int) - 1 - (col - rt) = c2 := ⟨(((b.pages[p].headD []).length : Int) - 1 - (col - rt)).toNat, by omega⟩
    have e1 : IntKind.i64.wrap (IntKind.i64.wrap (((b.pages[p].headD []).length : Int) - 1) - (col - rt)) = c2 := by rw [wrap64 (n := ((b.pages[p].headD []).length : Int) - 1) (by omega) (by omega), wrap64 (by omega) (by omega)]; exact hc2
    have hx : r' < b.pages[p].length := by omega
    have hy : c2 < b.pages[p][r'].length := by rw [ok.row hx]; omega
    have hs := strokesB_64 okg [b.pages[p][r'][c2]]
    rw [e1, hr']
    refine ⟨⟨by omega, by omega⟩, by omega, ?_⟩
    (first | refine CallsA.use (strokesOn_ok b okg p r' c2 hp hx hy (by omega)) ?_ | refine QuietCalls.use (strokesOn_ok b okg p r' c2 hp hx hy (by omega)) ?_)
    simp (implicitDefEqProofs := false) (dsimp := false) only [go_sem]
    (first | refine CallsA.use (MirrorOf_ok _) ?_ | refine QuietCalls.use (MirrorOf_ok _) ?_)
    simp (implicitDefEqProofs := false) (dsimp := false) only [go_sem]
    rw [(exch64 hs).1]
    simp only [shownB, hin, if_true, asB, Bool.false_eq_true, if_false]
    rw [hc2, hr', hch r' c2 hx hy]
end Go.Mac
namespace Go.Mac
open Go Go.Conc Go.Proofs
set_option maxRecDepth 4000
def shown2 (b : Board) (l k : Lay) (r c : Nat) : Int := orK .i64 (shownB (mapB b.glyphs) (b.pages.getD l.page.toNat []) l r c) (shownB (mapB b.glyphs) (b.pages.getD k.page.toNat []) k r c)
def setT (cs : List (List Trace)) (r c : Nat) (t : Trace) : List (List Trace) := cs.set r ((cs.getD r []).set c t)
structure shapeT (cs : List (List Trace)) (n w : Nat) : Prop where
  len : cs.length = n
  wide : ∀ row ∈ cs, row.length = w
theorem shapeT.get {cs : List (List Trace)} {n w r : Nat} (h : shapeT cs n w) (hr : r < n) : ∃ hr' : r < cs.length, cs.getD r [] = cs[r] ∧ cs[r].length = w := by
  have hr' : r < cs.length := by rw [h.len]; exact hr
  exact ⟨hr', by simp [List.getD, hr'], h.wide _ (List.getElem_mem hr')⟩
theorem shapeT.set {cs : List (List Trace)} {n w r c : Nat} {t : Trace} (h : shapeT cs n w) (hr : r < n) : shapeT (setT cs r c t) n w := by
  obtain ⟨hr', e, hw⟩ := h.get hr
  refine ⟨by simp [setT, h.len], fun row hrow => ?_⟩
  rcases List.mem_or_eq_of_mem_set hrow with hm | rfl
  · exact h.wide row hm
  · rw [List.length_set, e]; exact hw
theorem traceAt_set {cs : List (List Trace)} {n w r c r' c' : Nat} {t : Trace} (h : shapeT cs n w) (hr : r < n) (hc : c < w) : traceAt (setT cs r c t) r' c' = if r' = r ∧ c' = c then t else traceAt cs r' c' := by
  obtain ⟨hr', e, hw⟩ := h.get hr
  unfold traceAt setT
  by_cases h1 : r' = r
  · subst h1
    have h2 : (cs.set r' ((cs.getD r' []).set c t)).getD r' [] = (cs.getD r' []).set c t := by simp [List.getD, hr']
    rw [h2]
    by_cases h3 : c' = c
    · subst h3
      rw [if_pos ⟨rfl, rfl⟩, e]
      simp [List.getD, hw, hc]
    · rw [if_neg (fun q => h3 q.2)]
      simp [List.getD, List.getElem?_set_ne (Ne.symm h3)]
  · rw [if_neg (fun q => h1 q.1)]
    have h2 : (cs.set r ((cs.getD r []).set c t)).getD r' [] = cs.getD r' [] := by simp [List.getD, List.getElem?_set_ne (Ne.symm h1)]
    rw [h2]
def pressed (f : Nat → Nat → Int) (cs : List (List Trace)) (n w r c : Nat) : Prop := ∀ r' c', r' < n → c' < w → (r' < r ∨ r' = r ∧ c' < c) → okPr (f r' c') (traceAt cs r' c')
theorem pressed.step {f : Nat → Nat → Int} {cs : List (List Trace)} {n w r c : Nat} {t : Trace} (h : pressed f cs n w r c) (hs : shapeT cs n w) (hr : r < n) (hc : c < w) (ht : okPr (f r c) t) : pressed f (setT cs r c t) n w r (c + 1) := by
  intro r' c' h1 h2 h3
  rw [traceAt_set hs hr hc]
  split
  · rename_i e; rw [e.1, e.2]; exact ht
  · rename_i e; exact h r' c' h1 h2 (by omega)
theorem pressed.row {f : Nat → Nat → Int} {cs : List (List Trace)} {n w r : Nat} (h : pressed f cs n w r w) : pressed f cs n w (r + 1) 0 := fun r' c' h1 h2 h3 => h r' c' h1 h2 (by omega)
theorem cTr_set (row : List Trace) (c : Nat) (t : Trace) (h : c < row.length) : ((row.flatMap cTrace).set (c * 2) (.int .i64 t.seen)).set (c * 2 + 1) (.int .i64 t.bare) = (row.set c t).flatMap cTrace := by
  induction row generalizing c with
  | nil => simp at h
  | cons x row ih =>
    cases c with
    | zero => rfl
    | succ c =>
      rw [show (c + 1) * 2 = c * 2 + 1 + 1 by omega]
      simp only [List.flatMap_cons, cTrace, List.cons_append, List.nil_append, List.set_cons_succ]
      rw [ih c (by simpa using h)]
theorem rowB_set {cs : List (List Trace)} {r c : Nat} {t : Trace} (hr : r < cs.length) (hc : c < cs[r].length) : (cs.map rowB).set r (.cells 1 (((cs[r].flatMap cTrace).set (c * 2) (.int .i64 t.seen)).set (c * 2 + 1) (.int .i64 t.bare))) = (setT cs r c t).map rowB := by
  have e : cs.getD r [] = cs[r] := by simp [List.getD, hr]
  rw [cTr_set _ _ _ hc, setT, List.map_set, e]; rfl
theorem slsFrom_same {cs cs' : List (List Trace)} (g : Nat) : ∀ (m : Nat), cs.map List.length = cs'.map List.length → slsFrom g m cs = slsFrom g m cs' := by
  induction cs generalizing cs' with
  | nil => intro m h; cases cs' with | nil => rfl | cons a b => cases h
  | cons x cs ih =>
    intro m h
    cases cs' with
    | nil => cases h
    | cons y cs' =>
      simp only [List.map_cons, List.cons.injEq] at h
      simp only [slsFrom, h.1, ih (m + 1) h.2]
theorem shapeT.lens {cs : List (List Trace)} {n w : Nat} (h : shapeT cs n w) : cs.map List.length = List.replicate n w := by
  rw [← h.len]
  have := h.wide
  clear h
  induction cs with
  | nil => rfl
  | cons x cs ih => simp only [List.map_cons, List.length_cons, List.replicate_succ]; rw [this x (List.mem_cons_self ..), ih fun y hy => this y (List.mem_cons_of_mem _ hy)]
structure okLays (b : Board) (l : Lay) : Prop where
  p0 : 0 ≤ l.page
  p1 : l.page < b.pages.length
  d : -1000 ≤ l.down ∧ l.down ≤ 1000
  r : -1000 ≤ l.right ∧ l.right ≤ 1000
theorem okMade.shape {b : Board} (h : okMade b) : shapeT b.cells b.cells.length (b.cells.headD []).length := ⟨rfl, h.cells.wide⟩
theorem okMade.sizes {b : Board} (h : okMade b) : okSizes b := ⟨by have := h.gl.most; omega, by have := h.most; omega, fun p hp => by have := (h.page p hp).1.most; omega, by have := h.cells.most; omega, fun r hr => by have := h.cells.wide r hr; have := h.cells.wmost; omega⟩
def PressP (b : Board) (l k : Lay) (h : List Blk) (i : Nat) (e : AEnd) (h' : List Blk) : Prop :=
  ∃ cs r x a0 a1 a2 a3 a4 a5 a6 a7 z, shapeT cs b.cells.length (b.cells.headD []).length ∧ pressed (shown2 b l k) cs b.cells.length (b.cells.headD []).length b.cells.length 0 ∧ e = .ret (dupA { b with cells := cs } (h.length + 8)) ∧
    h' = h.set i (diceB r x) ++ a0 :: a1 :: a2 :: a3 :: a4 :: a5 :: a6 :: a7 :: (dupH { b with cells := cs } (h.length + 8) ++ [z])
theorem WPI.below {P : Program} {fk : FK} {its : List Item} {Q : AExit → AS → Prop} {s : AS} (h : s.hp.all (belowBlk s.hp.length) = true → WPI P fk its Q s) : WPI P fk its Q s := by
  intro main Stop b k cs base c w tmps ds h1 h2 h3 h4
  exact h (List.all_eq_true.2 fun b hb => by obtain ⟨i, hi⟩ := List.mem_iff_getElem?.1 hb; exact h3.hp.below hi) main Stop b k cs base c w tmps ds h1 h2 h3 h4
theorem belowBlk_cells (n g : Nat) (cs : List AV) : belowBlk n (.cells g cs) = belowL n cs := rfl
theorem Press_ok (b : Board) (ok : okMade b) (l k : Lay) (okl : okLays b l) (okk : okLays b k) (h : List Blk) (i : Nat) (r : Option (List Int)) (x : Int) (hi : h[i]? = some (diceB r x)) :
    CallsA Try.prog 46 [.ptr ⟨i, 0⟩ 0, .agg (brdA b), .agg (cLay l), .agg (cLay k)] h (PressP b l k h i) := by
  have hl : i < h.length := (List.getElem?_eq_some_iff.1 hi).1
  have hcm := ok.cells.most
  have hwm := ok.cells.wmost
  refine CallsA.of_wpe [] { shut := [53, 59], hand := [9] } 62 mixed Try.func46 (by kernel_rfl) rfl (by kernel_rfl) fun j hB hA => ?_; simp only [junk_succ, junk_zero, List.cons_append, List.nil_append, List.length_cons, List.length_nil, Nat.reduceAdd]
  simp (implicitDefEqProofs := false) (dsimp := false) only [go_sem, brdA, cLay]
  refine CallsA.mono (DupBoard_ok b ok.sizes _) ?_
  rintro _ _ ⟨u0, u1, u2, u3, rfl, rfl⟩
  simp (implicitDefEqProofs := false) (dsimp := false) only [go_sem, dupA, dupH]
  simp only [Nat.add_assoc, Nat.reduceAdd, List.length_map]
  refine WPI.below fun hbel => ?_
  simp only [List.all_append, List.all_cons, List.length_append, List.length_cons, List.length_map, List.length_nil, Bool.and_eq_true, Nat.zero_add, Nat.add_assoc, Nat.reduceAdd] at hbel
  obtain ⟨_, _, _, _, _, bu0, bu1, bu2, bu3, _⟩ := hbel
  have hpl : l.page.toNat < b.pages.length := by have := okl.p0; have := okl.p1; omega
  have hpk : k.page.toNat < b.pages.length := by have := okk.p0; have := okk.p1; omega
  have hsh2 : ∀ r c : Nat, orK .i64 (shownB (mapB b.glyphs) b.pages[l.page.toNat] l r c) (shownB (mapB b.glyphs) b.pages[k.page.toNat] k r c) = shown2 b l k r c := fun r c => by simp [shown2, List.getD, hpl, hpk]
  have hs64 : ∀ r c : Nat, is64 (shown2 b l k r c) := fun r c => (or64 (shownB_64 ok.gl _ _ _ _) (shownB_64 ok.gl _ _ _ _)).2
  refine WP.loopI (fun (r : Nat) s => (r ≤ b.cells.length) ∧ s.sl.length = 66 ∧ s.df = [] ∧ s.gh = {} ∧ (∃ cs d x, shapeT cs b.cells.length (b.cells.headD []).length ∧ pressed (shown2 b l k) cs b.cells.length (b.cells.headD []).length r 0 ∧ s.hp = h.set i (diceB d x) ++ .cells 0 (brdA b) :: .cells 0 (cLay l) :: .cells 0 (cLay k) :: .cells 0 z3 :: u0 :: u1 :: u2 :: u3 :: .cells b.pages.length (b.pages.flatMap cPage) :: .cells b.cells.length (slsFrom 1 (h.length + 10) b.cells) :: (cs.map rowB ++ [.cells 0 [sliceOf cGlyph b.glyphs, .sl ⟨h.length + 8, b.pages.length⟩ 1 0 b.pages.length, .sl ⟨h.length + 9, b.cells.length⟩ 1 0 b.cells.length]])) ∧ evA s.sl (.tmp 0) = .ptr ⟨i, 0⟩ 0 ∧ evA s.sl (.tmp 5) = .ptr ⟨h.length, 0⟩ 0 ∧ evA s.sl (.tmp 6) = .ptr ⟨h.length + 1, 0⟩ 0 ∧ evA s.sl (.tmp 7) = .ptr ⟨h.length + 2, 0⟩ 0 ∧ evA s.sl (.tmp 8) = .ptr ⟨h.length + 3, 0⟩ 0 ∧ evA s.sl (.tmp 9) = .ptr ⟨h.length + (b.cells.length + 10), 0⟩ 0 ∧ evA s.sl (.tmp 10) = .int .i64 r) (fun (r : Nat) => b.cells.length - r) (0) ?_ ?_
  · simp (implicitDefEqProofs := false) (dsimp := false) only [go_sem, Nat.zero_le, brdA, cLay]
    refine ⟨b.cells, r, x, ok.shape, fun r' c' _ _ q => by omega, ?_⟩
    rw [set_same hi]; rfl
  · rintro r ⟨sl, df, hp, gh⟩ ⟨ab, al, rfl, rfl, ah, a0, a5, a6, a7, a8, a9, a10⟩
    simp only at ab al ah a0 a5 a6 a7 a8 a9 a10
    obtain ⟨j, rfl⟩ := slots_lit al; clear al; simp only [junk_succ, junk_zero, evA_tmp, nth_16, nth_four, nth_one, nth_zero, Nat.zero_add, Nat.reduceAdd] at  a0 a5 a6 a7 a8 a9 a10 ⊢
    refine wp_ok (so := { shut := [53, 59], hand := [9] }) mixed _ (by kernel_rfl) ?_
    obtain ⟨cs, d, x, hsh, hpr, rfl⟩ := ah
    have hcl := hsh.len
    have hT : ∀ y : Blk, (cs.map rowB ++ [y])[b.cells.length]? = some y := fun y => by rw [← hcl, ← List.length_map (f := rowB), List.getElem?_append_right (Nat.le_refl _), Nat.sub_self]; rfl
    by_cases hr : r < b.cells.length
    · obtain ⟨hr', he, hw⟩ := hsh.get hr
      have hdr : (slsFrom 1 (h.length + 10) b.cells).drop r = .sl ⟨h.length + (r + 10), 1⟩ 2 0 (b.cells.headD []).length :: (slsFrom 1 (h.length + 10) b.cells).drop (r + 1) := by rw [slsFrom_drop 1 (h.length + 10) b.cells r hr, ok.cells.row hr, show h.length + 10 + r = h.length + (r + 10) by omega]
      have hdl : ∀ g m, (slsFrom g m b.cells).length = b.cells.length := fun g m => slsFrom_len g m _
      simp (implicitDefEqProofs := false) (dsimp := false) only [go_sem, a0, a5, a6, a7, a8, a9, a10, nat_lt hr, decide_true, get_past0, get_past, hT, hdl]
      refine WP.loopI (fun (c : Nat) s => (c ≤ (b.cells.headD []).length) ∧ s.sl.length = 66 ∧ s.df = [] ∧ s.gh = {} ∧ (∃ cs d x, shapeT cs b.cells.length (b.cells.headD []).length ∧ pressed (shown2 b l k) cs b.cells.length (b.cells.headD []).length r c ∧ s.hp = h.set i (diceB d x) ++ .cells 0 (brdA b) :: .cells 0 (cLay l) :: .cells 0 (cLay k) :: .cells 0 z3 :: u0 :: u1 :: u2 :: u3 :: .cells b.pages.length (b.pages.flatMap cPage) :: .cells b.cells.length (slsFrom 1 (h.length + 10) b.cells) :: (cs.map rowB ++ [.cells 0 [sliceOf cGlyph b.glyphs, .sl ⟨h.length + 8, b.pages.length⟩ 1 0 b.pages.length, .sl ⟨h.length + 9, b.cells.length⟩ 1 0 b.cells.length]])) ∧ evA s.sl (.tmp 0) = .ptr ⟨i, 0⟩ 0 ∧ evA s.sl (.tmp 5) = .ptr ⟨h.length, 0⟩ 0 ∧ evA s.sl (.tmp 6) = .ptr ⟨h.length + 1, 0⟩ 0 ∧ evA s.sl (.tmp 7) = .ptr ⟨h.length + 2, 0⟩ 0 ∧ evA s.sl (.tmp 8) = .ptr ⟨h.length + 3, 0⟩ 0 ∧ evA s.sl (.tmp 9) = .ptr ⟨h.length + (b.cells.length + 10), 0⟩ 0 ∧ evA s.sl (.tmp 10) = .int .i64 r ∧ evA s.sl (.tmp 11) = .int .i64 c) (fun (c : Nat) => (b.cells.headD []).length - c) (0) ?_ ?_
      · simp (implicitDefEqProofs := false) (dsimp := false) only [go_sem, Nat.zero_le]
        exact ⟨cs, d, x, hsh, hpr, rfl⟩
      · rintro c ⟨sl, df, hp, gh⟩ ⟨eb, el, rfl, rfl, eh, e0, e5, e6, e7, e8, e9, e10, e11⟩
        simp only at eb el eh e0 e5 e6 e7 e8 e9 e10 e11
        obtain ⟨j, rfl⟩ := slots_lit el; clear el; simp only [junk_succ, junk_zero, evA_tmp, nth_16, nth_four, nth_one, nth_zero, Nat.zero_add, Nat.reduceAdd] at  e0 e5 e6 e7 e8 e9 e10 e11 ⊢
        refine wp_ok (so := { shut := [53, 59], hand := [9] }) mixed _ (by kernel_rfl) ?_
        obtain ⟨cs, d, x, hsh, hpr, rfl⟩ := eh
        have hcl := hsh.len
        obtain ⟨hr', he, hw⟩ := hsh.get hr
        have hT : ∀ y : Blk, (cs.map rowB ++ [y])[b.cells.length]? = some y := fun y => by rw [← hcl, ← List.length_map (f := rowB), List.getElem?_append_right (Nat.le_refl _), Nat.sub_self]; rfl
        have hR : ∀ y : Blk, (cs.map rowB ++ [y])[r]? = some (.cells 1 (cs[r].flatMap cTrace)) := fun y => by rw [List.getElem?_append_left (by rw [List.length_map]; exact hr'), List.getElem?_map, List.getElem?_eq_getElem hr']; rfl
        have hS : ∀ (y z : Blk), (cs.map rowB ++ [y]).set r z = (cs.map rowB).set r z ++ [y] := fun y z => List.set_append_left _ _ (by rw [List.length_map]; exact hr')
        by_cases hc : c < (b.cells.headD []).length
        · simp (implicitDefEqProofs := false) (dsimp := false) only [go_sem, e0, e5, e6, e7, e8, e9, e10, e11, nat_lt hr, nat_lt hc, decide_true, get_past0, get_past, hT, hR, hdl, hdr, brdA, cLay, z3]
          (first | refine CallsA.use (ShownOn_ok b ok.gl l r c l.page.toNat (by have := okl.p0; omega) hpl (ok.page _ (List.getElem_mem hpl)).1 (by omega) (by omega) okl.d okl.r) ?_ | refine QuietCalls.use (ShownOn_ok b ok.gl l r c l.page.toNat (by have := okl.p0; omega) hpl (ok.page _ (List.getElem_mem hpl)).1 (by omega) (by omega) okl.d okl.r) ?_)
          simp (implicitDefEqProofs := false) (dsimp := false) only [go_sem, get_past0, get_past]
          (first | refine CallsA.use (ShownOn_ok b ok.gl k r c k.page.toNat (by have := okk.p0; omega) hpk (ok.page _ (List.getElem_mem hpk)).1 (by omega) (by omega) okk.d okk.r) ?_ | refine QuietCalls.use (ShownOn_ok b ok.gl k r c k.page.toNat (by have := okk.p0; omega) hpk (ok.page _ (List.getElem_mem hpk)).1 (by omega) (by omega) okk.d okk.r) ?_)
          simp (implicitDefEqProofs := false) (dsimp := false) only [go_sem, get_past0, get_past, hsh2]
          obtain ⟨_, d1, x1, ⟨v1, rfl, hv1⟩, q1⟩ := To_det d x 63 (by omega)
          obtain ⟨_, d2, x2, ⟨v2, hm2, rfl⟩, q2⟩ := One_det d1 x1 [0, 63, (v1 : Int)] (by simp) (by simp)
          obtain ⟨_, d3, x3, ⟨v3, rfl, hv3⟩, q3⟩ := To_det d2 x2 63 (by omega)
          obtain ⟨_, d4, x4, ⟨v4, hm4, rfl⟩, q4⟩ := One_det d3 x3 [0, 0, (v3 : Int)] (by simp) (by simp)
          refine WP.noisy (so := { shut := [53, 59], }) 21 [9, 11, 15, 17] [0, 0, 0, 0, 0, 0, 0, 0, 0, 0, 1, 0, 2, 0, 0, 0, 3, 0, 0, 4, 4] [4, 4, 4, 4, 4, 4, 4, 1, 0, 0, 1, 0, 4, 3, 2, 0, 3, 0, 4, 4, 4] ((fun T => [h.set i (diceB d x) ++ T, h.set i (diceB d1 x1) ++ T, h.set i (diceB d2 x2) ++ T, h.set i (diceB d3 x3) ++ T, h.set i (diceB d4 x4) ++ T]) _) rfl mixed (by kernel_rfl) (by kernel_rfl) (by decide) (by kernel_rfl) rfl ?_
          simp (implicitDefEqProofs := false) (dsimp := false) only [go_sem, get_past0, get_past, hT, hR, hdl, hdr, nat_lt hr]
          refine turn_use hl (fun h hi => q1 h i hi) ?_
          simp (implicitDefEqProofs := false) (dsimp := false) only [go_sem]
          refine turn_use hl (fun h hi => q2 h i hi) ?_
          simp (implicitDefEqProofs := false) (dsimp := false) only [go_sem]
          refine turn_use hl (fun h hi => q3 h i hi) ?_
          simp (implicitDefEqProofs := false) (dsimp := false) only [go_sem]
          refine turn_use hl (fun h hi => q4 h i hi) ?_
          simp (implicitDefEqProofs := false) (dsimp := false) only [go_sem, get_past0, get_past, set_past0, set_past, hT, hR, hS, hdl, hdr, nat_lt hr, nat_lt hc]
          have h2 : is64 v2 := by unfold is64; simp at hm2; omega
          have h4 : is64 v4 := by unfold is64; simp at hm4; omega
          have hset := rowB_set (t := ⟨andK .i64 (shown2 b l k r c) v2, andNotK .i64 v4 (shown2 b l k r c)⟩) hr' (by rw [hw]; exact hc)
          simp only at hset
          refine ⟨by rw [length_rows cTrace_len, hw]; omega, c + 1, ⟨by omega, ⟨_, d4, x4, hsh.set hr, hpr.step hsh hr hc (okPr.of (hs64 r c) h2 h4), ?_⟩, wrap_succ (by omega)⟩, by omega⟩
          rw [hset]; rfl
        · have hs : ((c : Int) < ((b.cells.headD []).length : Int)) = False := eq_false (by omega)
          have e : c = (b.cells.headD []).length := by omega
          subst e
          simp (implicitDefEqProofs := false) (dsimp := false) only [go_sem, e0, e5, e6, e7, e8, e9, e10, e11, nat_lt hr, hs, decide_false, get_past0, get_past, hT, hR, hdl, hdr]
          exact ⟨r + 1, ⟨by omega, ⟨cs, d, x, hsh, hpr.row, rfl⟩, wrap_succ (by omega)⟩, by omega⟩
    · have hs : ((r : Int) < (b.cells.length : Int)) = False := eq_false (by omega)
      have e : r = b.cells.length := by omega
      subst e
      simp (implicitDefEqProofs := false) (dsimp := false) only [go_sem, a0, a5, a6, a7, a8, a9, a10, hs, decide_false, get_past0, get_past, set_past, hT, z3]
      have tk : ∀ (A B C D E F G H I J K : Blk), List.take (h.length + (b.cells.length + 11)) (h.set i (diceB d x) ++ A :: B :: C :: D :: E :: F :: G :: H :: I :: J :: (cs.map rowB ++ [K])) = h.set i (diceB d x) ++ A :: B :: C :: D :: E :: F :: G :: H :: I :: J :: (cs.map rowB ++ [K]) := fun A B C D E F G H I J K => List.take_of_length_le (by simp [hcl])
      have hsame := slsFrom_same 1 (h.length + 10) (hsh.lens.trans ok.shape.lens.symm)
      have hbl := belowL_mono (Nat.zero_le (h.length + (b.cells.length + 11))) _ (slices_below b)
      simp only [belowL, sliceOf, below, Bool.and_eq_true] at hbl
      have tk2 : ∀ (A B C D E F G H K : Blk), List.take (h.length + (b.cells.length + 11)) (h.set i (diceB d x) ++ A :: B :: C :: D :: E :: F :: G :: H :: .cells b.pages.length (b.pages.flatMap cPage) :: .cells b.cells.length (slsFrom 1 (h.length + 10) b.cells) :: (cs.map rowB ++ [K])) = h.set i (diceB d x) ++ A :: B :: C :: D :: E :: F :: G :: H :: (dupH { b with cells := cs } (h.length + 8) ++ [K]) := fun A B C D E F G H K => by rw [tk, dupH, hcl, ← hsame]; rfl
      refine ⟨_, h.length + (b.cells.length + 11), rfl, by omega, ?_, ?_, cs, d, x, _, _, _, _, _, _, _, _, _, hsh, hpr, ?_, tk2 _ _ _ _ _ _ _ _ _⟩
      · simp [below, belowL, hbl]
      · rw [tk, List.all_append, all_set (allBelow_mono (by omega) hB) (diceB_below _ _ _)]
        have hsb := slsFrom_below 1 (n := h.length + (b.cells.length + 11)) (h.length + 10) b.cells (by omega)
        simp [belowBlk_cells, belowL, below, hbl, hsb, bu0, bu1, bu2, bu3, cLay, brdA, sliceOf]
        exact fun x _ => rowB_below _ x
      · simp only [dupA, sliceOf, hcl]
end Go.Mac
namespace Go.Mac
open Go Go.Conc Go.Proofs
set_option maxRecDepth 4000
theorem set_at {α : Type} {l m : List α} {a b : α} {k : Nat} (h : l.length = k) : (l ++ a :: m).set k b = l ++ b :: m := by
  subst h; rw [List.set_append_right _ _ (Nat.le_refl _), Nat.sub_self]; rfl
theorem Turns.rows {n0 g : Nat} {sl : List AV} {df : List ADef} {gh : Gst} {A Z : List Blk} : ∀ (todo done : List (List Trace)),
    Turns n0 ⟨sl, df, A ++ .cells g (done.flatMap cTraces ++ slsFrom 1 (A.length + 1 + done.length) todo) :: (List.replicate done.length .dead ++ (todo.map rowB ++ Z)), gh⟩
      ⟨sl, df, A ++ .cells g ((done ++ todo).flatMap cTraces) :: (List.replicate (done ++ todo).length .dead ++ Z), gh⟩
  | [], done => by simp only [slsFrom, List.append_nil, List.map_nil, List.nil_append]; exact Turns.refl
  | r :: todo, done => by
    have hdl : (done.flatMap cTraces).length = done.length := cells_len1 done
    have e1 : (A ++ Blk.cells g (done.flatMap cTraces ++ slsFrom 1 (A.length + 1 + done.length) (r :: todo)) :: (List.replicate done.length Blk.dead ++ ((r :: todo).map rowB ++ Z)))[A.length]? = some (.cells g (done.flatMap cTraces ++ slsFrom 1 (A.length + 1 + done.length) (r :: todo))) := by
      rw [List.getElem?_append_right (Nat.le_refl _), Nat.sub_self]; rfl
    have e2 : (done.flatMap cTraces ++ slsFrom 1 (A.length + 1 + done.length) (r :: todo))[done.length]? = some (.sl ⟨A.length + 1 + done.length, 1⟩ 2 0 r.length) := by
      rw [List.getElem?_append_right (by omega), hdl, Nat.sub_self]; rfl
    have e3 : (A ++ Blk.cells g (done.flatMap cTraces ++ slsFrom 1 (A.length + 1 + done.length) (r :: todo)) :: (List.replicate done.length Blk.dead ++ ((r :: todo).map rowB ++ Z)))[A.length + 1 + done.length]? = some (rowB r) := by
      rw [List.getElem?_append_right (by omega), show A.length + 1 + done.length - A.length = done.length + 1 by omega, List.getElem?_cons_succ, List.getElem?_append_right (by simp), List.length_replicate, Nat.sub_self]; rfl
    refine Turns.trans (Turns.seal_cell (a' := sliceOf cTrace r) e1 e2 (by simp only [sealV, e3, rowB, if_true, List.drop_zero, sliceOf]; rw [List.take_of_length_le (by rw [length_rows cTrace_len]; exact Nat.le_refl _)]) (by simp only [nmOf]; omega)) ?_
    have := Turns.rows (n0 := n0) (g := g) (sl := sl) (df := df) (gh := gh) (A := A) (Z := Z) todo (done ++ [r])
    have e4 : ((A ++ Blk.cells g (done.flatMap cTraces ++ slsFrom 1 (A.length + 1 + done.length) (r :: todo)) :: (List.replicate done.length Blk.dead ++ ((r :: todo).map rowB ++ Z))).set (nmOf (.sl ⟨A.length + 1 + done.length, 1⟩ 2 0 r.length)) .dead).set A.length (.cells g ((done.flatMap cTraces ++ slsFrom 1 (A.length + 1 + done.length) (r :: todo)).set done.length (sliceOf cTrace r))) =
        A ++ .cells g ((done ++ [r]).flatMap cTraces ++ slsFrom 1 (A.length + 1 + (done ++ [r]).length) todo) :: (List.replicate (done ++ [r]).length .dead ++ (todo.map rowB ++ Z)) := by
      simp only [nmOf, slsFrom, List.map_cons, List.cons_append]
      rw [show A ++ Blk.cells g (done.flatMap cTraces ++ AV.sl ⟨A.length + 1 + done.length, 1⟩ 2 0 r.length :: slsFrom 1 (A.length + 1 + done.length + 1) todo) :: (List.replicate done.length Blk.dead ++ rowB r :: (todo.map rowB ++ Z)) = (A ++ Blk.cells g (done.flatMap cTraces ++ AV.sl ⟨A.length + 1 + done.length, 1⟩ 2 0 r.length :: slsFrom 1 (A.length + 1 + done.length + 1) todo) :: List.replicate done.length Blk.dead) ++ rowB r :: (todo.map rowB ++ Z) by simp]
      rw [set_at (by simp; omega), set_at hdl, show (A ++ Blk.cells g (done.flatMap cTraces ++ AV.sl ⟨A.length + 1 + done.length, 1⟩ 2 0 r.length :: slsFrom 1 (A.length + 1 + done.length + 1) todo) :: List.replicate done.length Blk.dead) ++ Blk.dead :: (todo.map rowB ++ Z) = A ++ Blk.cells g (done.flatMap cTraces ++ AV.sl ⟨A.length + 1 + done.length, 1⟩ 2 0 r.length :: slsFrom 1 (A.length + 1 + done.length + 1) todo) :: (List.replicate done.length Blk.dead ++ Blk.dead :: (todo.map rowB ++ Z)) by simp, set_at rfl]
      simp only [List.length_append, List.length_singleton, List.flatMap_append, List.flatMap_cons, List.flatMap_nil, cTraces, List.append_nil, List.append_assoc, List.cons_append, List.nil_append, Nat.add_assoc]
      rw [List.replicate_succ']
      simp
    rw [e4]
    rw [List.append_assoc] at this
    exact this
structure okMadeN (b : Board) (ng np nr nc : Nat) : Prop where
  made : okMade b
  gl : b.glyphs.length ≤ ng
  pl : b.pages.length ≤ np
  rows : ∀ p ∈ b.pages, p.length ≤ nr ∧ (p.headD []).length ≤ nc
theorem okLay.lays {l : Lay} {b : Board} (h : okLay l b.pages.length) : okLays b l := ⟨h.p0, h.p1, by have := h.d; omega, by have := h.r; omega⟩
theorem BlankP.pure {h : List Blk} {i ng np nr nc : Nat} {e : AEnd} {h' : List Blk} (q : BlankP false h i ng np nr nc e h') : ∃ b r x, okBlank b ng np nr nc ∧ e = .ret (.agg (brdA b)) ∧ h' = h.set i (diceB r x) := q
theorem n13 (n : Nat) : n + 12 + 1 = n + 13 := rfl
theorem n14 (n : Nat) : n + 12 + 2 = n + 14 := rfl
theorem cut13 {l T : List Blk} {b1 b2 b3 b4 b5 b6 b7 b8 b9 b10 b11 b12 b13 x : Blk} : l ++ b1 :: b2 :: b3 :: b4 :: b5 :: b6 :: b7 :: b8 :: b9 :: b10 :: b11 :: b12 :: b13 :: x :: T = (l ++ [b1, b2, b3, b4, b5, b6, b7, b8, b9, b10, b11, b12, b13]) ++ x :: T := by simp
theorem WPI.rows {P : Program} {fk : FK} {its : List Item} {Q : AExit → AS → Prop} {g m : Nat} {sl : List AV} {df : List ADef} {gh : Gst} {A Z : List Blk} {cs : List (List Trace)} (hA : A.length + 1 = m)
    (h : WPI P fk its Q ⟨sl, df, A ++ .cells g (cs.flatMap cTraces) :: (List.replicate cs.length .dead ++ Z), gh⟩) : WPI P fk its Q ⟨sl, df, A ++ .cells g (slsFrom 1 m cs) :: (cs.map rowB ++ Z), gh⟩ := by
  subst hA
  exact WPI.turn (Turns.rows (A := A) (Z := Z) cs []) h
theorem extra_ok {v w : Int} (h1 : v ∈ [1, 2, 4, 8, 16]) (h2 : w ∈ [0, 32]) : traceErr ⟨v, w⟩ = 0 := by
  simp only [List.mem_cons, List.mem_nil_iff, or_false] at h1 h2
  rcases h1 with rfl | rfl | rfl | rfl | rfl <;> rcases h2 with rfl | rfl <;> decide
theorem okMade.cells2 {b : Board} (h : okMade b) {cs : List (List Trace)} (hs : shapeT cs b.cells.length (b.cells.headD []).length) (ht : ∀ r' c', r' < b.cells.length → c' < (b.cells.headD []).length → traceErr (traceAt cs r' c') = 0) : okMade { b with cells := cs } := by
  have h0 := h.cells.pos
  have hl := hs.len
  have hd : (cs.headD []).length = (b.cells.headD []).length := by rw [headD_get (show 0 < cs.length by omega)]; exact hs.wide _ (List.getElem_mem _)
  refine ⟨h.gl, h.pos, h.most, h.page, ⟨by simp only; omega, by have := h.cells.most; simp only; omega, fun row hr => by simp only; rw [hd]; exact hs.wide row hr, by simp only; rw [hd]; exact h.cells.wpos, by simp only; rw [hd]; exact h.cells.wmost⟩, ?_⟩
  intro row hr t htm
  simp only at hr
  obtain ⟨i, hi, rfl⟩ := List.mem_iff_getElem.1 hr
  obtain ⟨j, hj, rfl⟩ := List.mem_iff_getElem.1 htm
  have hw := hs.wide _ (List.getElem_mem hi)
  rw [← traceAt_eq hi hj]
  exact ht i j (by omega) (by omega)
theorem BoardOf_ok (h : List Blk) (i : Nat) (r : Option (List Int)) (x : Int) (ng np nr nc : Nat) (hg : 0 < ng ∧ ng ≤ 6) (hp : 0 < np ∧ np ≤ 4) (hr : 0 < nr ∧ nr ≤ 3) (hc : 0 < nc ∧ nc ≤ 4) (hi : h[i]? = some (diceB r x)) :
    Rolls 17 [.ptr ⟨i, 0⟩ 0, .int .i64 ng, .int .i64 np, .int .i64 nr, .int .i64 nc] h i fun a => ∃ b, a = .agg (brdA b) ∧ okMadeN b ng np nr nc := by
  have hl : i < h.length := (List.getElem?_eq_some_iff.1 hi).1
  unfold Rolls
  refine CallsA.of_wpe [] { shut := [62, 65], hand := [6, 9, 10] } 65 mixed Try.func17 (by kernel_rfl) rfl (by kernel_rfl) fun j hB hA => ?_; simp only [junk_succ, junk_zero, List.cons_append, List.nil_append, List.length_cons, List.length_nil, Nat.reduceAdd]
  simp (implicitDefEqProofs := false) (dsimp := false) only [go_sem]
  refine CallsA.mono (BlankOf_walk false _ i r x ng np nr nc hg hp hr hc (get_left hi)) ?_
  intro e1 h1 q1
  obtain ⟨b, r, x, okb, rfl, rfl⟩ := q1.pure
  rw [set_left hl]
  simp (implicitDefEqProofs := false) (dsimp := false) only [go_sem, brdA, get_past0, set_past0, get_past, set_past]
  refine Rolls.use (LayOf_ok _ i r x b.pages.length (by have := okb.made.most; omega) okb.made.pos (get_ahead hl)) ?_
  rintro _ r x ⟨l, rfl, okl⟩
  rw [set_ahead hl]
  simp (implicitDefEqProofs := false) (dsimp := false) only [go_sem, cLay, get_past0, set_past0, get_past, set_past]
  refine Rolls.use (Once_ok _ i r x 4 (by omega) (by omega) (get_ahead hl)) ?_
  rintro _ r x ⟨t, rfl⟩
  rw [set_ahead hl]
  simp (implicitDefEqProofs := false) (dsimp := false) only [go_sem, cLay, get_past0, set_past0, get_past, set_past]
  have hpos := okb.made.pos
  have hmost := okb.made.most
  have hcm := okb.made.cells.most
  have hcp := okb.made.cells.pos
  have hwm := okb.made.cells.wmost
  have hwp := okb.made.cells.wpos
  refine ⟨fun _ => ?A, fun _ => ?B⟩
  case' A =>
    refine Rolls.use (LayOf_ok _ i r x b.pages.length (by omega) hpos (get_ahead hl)) ?_
    rintro _ r x ⟨k, rfl, okk⟩
    rw [set_ahead hl]
    simp (implicitDefEqProofs := false) (dsimp := false) only [go_sem, cLay, get_past0, set_past0, get_past, set_past]
  case' B =>
    have okk := okl
  all_goals
    refine wp_shut [] (so := { shut := [62, 65], }) mixed _ (by kernel_rfl) ?_
    simp (implicitDefEqProofs := false) (dsimp := false) only [go_sem, cLay, get_past0, set_past0, get_past, set_past]
    refine CallsA.mono (Press_ok b okb.made _ _ okl.lays okk.lays _ i r x (get_ahead hl)) ?_
    rintro _ _ ⟨cs, r, x, a0, a1, a2, a3, a4, a5, a6, a7, z, hsh, hpr, rfl, rfl⟩
    rw [set_ahead hl]
    have hcl := hsh.len
    simp only [List.append_assoc, List.cons_append, List.nil_append, List.length_append, List.length_set, List.length_cons, List.length_nil, Nat.zero_add, Nat.add_assoc, Nat.reduceAdd]
    simp (implicitDefEqProofs := false) (dsimp := false) only [go_sem, dupA, dupH, get_past0, set_past0, get_past, set_past, n13, n14]
    refine Rolls.use (Once_ok _ i r x 3 (by omega) (by omega) (get_ahead hl)) ?_
    rintro _ r x ⟨t, rfl⟩
    rw [set_ahead hl]
    have hw1 : IntKind.i64.wrap ((b.cells.length : Int) - 1) = (b.cells.length : Int) - 1 := wrap64 (by omega) (by omega)
    simp (implicitDefEqProofs := false) (dsimp := false) only [go_sem, get_past0, set_past0, get_past, set_past, slsFrom_len, hcl, hw1]
    have htr : ∀ r' c', r' < b.cells.length → c' < (b.cells.headD []).length → traceErr (traceAt cs r' c') = 0 := fun r' c' h1 h2 => (hpr r' c' h1 h2 (by omega)).err
    refine ⟨fun _ => ?_, fun _ => ?_⟩
    refine Rolls.use (To_ok _ i r x _ (by omega) (get_ahead hl)) ?_
    rintro _ r x ⟨v, rfl, hv⟩
    rw [set_ahead hl]
    have hvc : v < b.cells.length := by omega
    obtain ⟨hv', he, hw⟩ := hsh.get hvc
    have hR : ∀ y : Blk, (cs.map rowB ++ [y])[v]? = some (.cells 1 (cs[v].flatMap cTrace)) := fun y => by rw [List.getElem?_append_left (by rw [List.length_map]; exact hv'), List.getElem?_map, List.getElem?_eq_getElem hv']; rfl
    have hS : ∀ (y z : Blk), (cs.map rowB ++ [y]).set v z = (cs.map rowB).set v z ++ [y] := fun y z => List.set_append_left _ _ (by rw [List.length_map]; exact hv')
    have hdr : (slsFrom 1 (h.length + 14) cs).drop v = .sl ⟨h.length + (v + 14), 1⟩ 2 0 (b.cells.headD []).length :: (slsFrom 1 (h.length + 14) cs).drop (v + 1) := by rw [slsFrom_drop 1 (h.length + 14) cs v hv', hw, show h.length + 14 + v = h.length + (v + 14) by omega]
    have hdl : ∀ g m, (slsFrom g m cs).length = b.cells.length := fun g m => by rw [slsFrom_len, hcl]
    have hw2 : IntKind.i64.wrap (((b.cells.headD []).length : Int) - 1) = ((b.cells.headD []).length : Int) - 1 := wrap64 (by omega) (by omega)
    simp (implicitDefEqProofs := false) (dsimp := false) only [go_sem]
    obtain ⟨_, d1, x1, ⟨v1, rfl, hv1⟩, q1⟩ := To_det r x (((b.cells.headD []).length : Int) - 1) (by omega)
    obtain ⟨_, d2, x2, ⟨v2, hm2, rfl⟩, q2⟩ := One_det d1 x1 [1, 2, 4, 8, 16] (by simp) (by simp)
    obtain ⟨_, d3, x3, ⟨v3, hm3, rfl⟩, q3⟩ := One_det d2 x2 [0, 32] (by simp) (by simp)
    have hv1c : v1 < (b.cells.headD []).length := by omega
    refine WP.noisy (so := { shut := [62, 65], }) 21 [13, 16, 19] [0, 0, 0, 0, 0, 0, 0, 0, 0, 0, 0, 0, 0, 0, 0, 0, 0, 0, 0, 0, 3] [3, 3, 3, 3, 3, 0, 0, 0, 0, 0, 0, 0, 0, 0, 1, 1, 0, 2, 2, 0, 3] ((fun T => [h.set i (diceB r x) ++ T, h.set i (diceB d1 x1) ++ T, h.set i (diceB d2 x2) ++ T, h.set i (diceB d3 x3) ++ T]) _) rfl mixed (by kernel_rfl) (by kernel_rfl) (by decide) (by kernel_rfl) rfl ?_
    simp (implicitDefEqProofs := false) (dsimp := false) only [go_sem, get_past0, get_past, hR, hdl, hdr, nat_lt hvc, hw2]
    refine turn_use hl (fun h hi => q1 h i hi) ?_
    simp (implicitDefEqProofs := false) (dsimp := false) only [go_sem]
    refine turn_use hl (fun h hi => q2 h i hi) ?_
    simp (implicitDefEqProofs := false) (dsimp := false) only [go_sem]
    refine turn_use hl (fun h hi => q3 h i hi) ?_
    simp (implicitDefEqProofs := false) (dsimp := false) only [go_sem, get_past0, get_past, set_past0, set_past, hR, hS, hdl, hdr, nat_lt hvc, nat_lt hv1c]
    have hset := rowB_set (t := ⟨v2, v3⟩) hv' (show v1 < cs[v].length by rw [hw]; exact hv1c)
    simp only at hset
    rw [hset]
    refine ⟨by rw [length_rows cTrace_len, hw]; omega, ?_⟩
    have hs2 := hsh.set (c := v1) (t := ⟨v2, v3⟩) hvc
    have ht2 : ∀ r' c', r' < b.cells.length → c' < (b.cells.headD []).length → traceErr (traceAt (setT cs v v1 ⟨v2, v3⟩) r' c') = 0 := fun r' c' h1 h2 => by
      rw [traceAt_set hsh hvc hv1c]
      split
      · exact extra_ok hm2 hm3
      · exact htr r' c' h1 h2
    rw [slsFrom_same 1 (h.length + 14) (hsh.lens.trans hs2.lens.symm)]
    generalize setT cs v v1 ⟨v2, v3⟩ = cs2 at hs2 ht2 ⊢
    generalize hD : diceB d3 x3 = D
    rotate_left
    have hs2 := hsh
    have ht2 := htr
    obtain ⟨cs2, rfl⟩ : ∃ c, c = cs := ⟨cs, rfl⟩
    generalize hD : diceB r x = D
    all_goals
      have hcl2 := hs2.len
      rw [cut13]
      refine WPI.rows (by simp) ?_
      simp only [List.append_assoc, List.cons_append, List.nil_append]
      have hct : (cs2.flatMap cTraces).take b.cells.length = cs2.flatMap cTraces := List.take_of_length_le (by rw [cells_len1]; omega)
      have hpt : (b.pages.flatMap cPage).take b.pages.length = b.pages.flatMap cPage := List.take_of_length_le (by rw [cPage_len1]; exact Nat.le_refl _)
      refine WPI.turn (Turns.seal_cell (i := h.length + 1) (g := 0) (j := 2) (a := .sl ⟨h.length + 13, b.cells.length⟩ 1 0 b.cells.length) (a' := sliceOf cTraces cs2) (by simp only; rw [get_past]; rfl) rfl (by simp only [sealV]; rw [get_past]; simp [sliceOf, hct, hcl2]) (by simp [nmOf])) ?_
      simp only [nmOf, set_past, List.set_cons_succ, List.set_cons_zero]
      refine WPI.turn (Turns.seal_cell (i := h.length + 1) (g := 0) (j := 1) (a := .sl ⟨h.length + 12, b.pages.length⟩ 1 0 b.pages.length) (a' := sliceOf cPage b.pages) (by simp only; rw [get_past]; rfl) rfl (by simp only [sealV]; rw [get_past]; simp [sliceOf, hpt]) (by simp [nmOf])) ?_
      simp only [nmOf, set_past, List.set_cons_succ, List.set_cons_zero]
      refine wp_shut [] (so := { shut := [62, 65], }) mixed _ (by kernel_rfl) ?_
      simp (implicitDefEqProofs := false) (dsimp := false) only [go_sem, get_past0, get_past, set_past0, set_past]
      subst hD
      have hm2 := okb.made.cells2 hs2 ht2
      exact rolls_endK hB (below_mono (Nat.zero_le _) _ (brdA_belowA { b with cells := cs2 })) ⟨{ b with cells := cs2 }, rfl, hm2, okb.gl, okb.pl, okb.rows⟩
end Go.Mac
namespace Go.Mac
open Go Go.Conc Go.Proofs
set_option maxRecDepth 4000
def andTo (fs : List (Lay × List Int)) (i k : Nat) : Int := (fs.take k).foldl (fun a f => andK .i64 a (f.2.getD i 0)) 63
def orTo (fs : List (Lay × List Int)) (i k : Nat) : Int := (fs.take k).foldl (fun a f => orK .i64 a (f.2.getD i 0)) 0
theorem andTo_succ {fs : List (Lay × List Int)} {i k : Nat} (h : k < fs.length) : andTo fs i (k + 1) = andK .i64 (andTo fs i k) (fs[k].2.getD i 0) := by
  rw [andTo, List.take_succ_eq_append_getElem h, List.foldl_append]; rfl
theorem orTo_succ {fs : List (Lay × List Int)} {i k : Nat} (h : k < fs.length) : orTo fs i (k + 1) = orK .i64 (orTo fs i k) (fs[k].2.getD i 0) := by
  rw [orTo, List.take_succ_eq_append_getElem h, List.foldl_append]; rfl
def StrokesR (b : Board) (row col : Int) : Int × Int × Int :=
  if boardErr b ≠ 0 then (0, 0, boardErr b)
  else if cellB b row col = false then (0, 0, 3)
  else if (laysB b).length = 0 then (0, 0, 9)
  else (andTo (laysB b) (4 * row.toNat + col.toNat) (laysB b).length, orTo (laysB b) (4 * row.toNat + col.toNat) (laysB b).length, 0)
def tri (x : Int × Int × Int) : AV := .tup [.int .i64 x.1, .int .i64 x.2.1, .int .i64 x.2.2]
theorem laysB_face {b : Board} (x) (hx : x ∈ laysB b) : x.2.length = 12 := by
  unfold laysB rightsB at hx
  have := (List.mem_filter.1 hx).1
  obtain ⟨k, hk, rfl⟩ := List.mem_iff_getElem.1 this
  exact allWays_face k hk
theorem laysB_le {b : Board} (ok : okBoard b) : (laysB b).length ≤ 72 := by
  unfold laysB rightsB
  have h1 := List.length_filter_le (rightB b) (allWays b (mapB b.glyphs))
  have h2 := allWays_len b (mapB b.glyphs)
  have := ok.most
  omega
theorem Strokes_ok (b : Board) (row col : Int) : PureA Try.prog 48 [.agg (brdA b), .int .i64 row, .int .i64 col] (tri (StrokesR b row col)) := by
  refine PureA.of_wpp {} 55 mixed Try.func48 (by kernel_rfl) rfl (by kernel_rfl) (rfl) fun h j hB => ?_
  simp only [junk_succ, junk_zero, List.cons_append, List.nil_append, List.length_cons, List.length_nil, Nat.reduceAdd]
  simp (implicitDefEqProofs := false) (dsimp := false) only [go_sem, brdA]
  refine open_use (fun e0 => ?_) (fun e1 e2 x y z t f1 f2 f3 f4 => ?_)
  · have okb := okBoard.of e0
    simp (implicitDefEqProofs := false) (dsimp := false) only [go_sem, bdA]
    (first | refine CallsA.use (hasCell_ok b (mapB b.glyphs) row col okb.cells.pos) ?_ | refine QuietCalls.use (hasCell_ok b (mapB b.glyphs) row col okb.cells.pos) ?_)
    simp (implicitDefEqProofs := false) (dsimp := false) only [go_sem]
    refine ⟨fun c1 => ?_, fun c1 => ?_⟩
    · have c2 : cellB b row col = false := by simpa only [cellB, Bool.not_eq_true'] using c1
      rw [StrokesR, if_neg (by simp [e0]), if_pos c2]; rfl
    · have c2 : cellB b row col = true := by simpa [cellB] using c1
      have c3 := c2
      simp only [cellB, Bool.and_eq_true, decide_eq_true_eq] at c3
      have g1 := okb.cells.most
      have g2 := okb.cells.wmost
      have hn := laysB_le okb
      (first | refine CallsA.use (rights_ok b (mapB b.glyphs) okb) ?_ | refine QuietCalls.use (rights_ok b (mapB b.glyphs) okb) ?_)
      simp (implicitDefEqProofs := false) (dsimp := false) only [go_sem, len_eq0]
      refine ⟨fun c4 => ?_, fun c4 => ?_⟩
      · have c5 : (laysB b).length = 0 := by simpa [laysB] using c4
        rw [StrokesR, if_neg (by simp [e0]), if_neg (by simp [c2]), if_pos c5]; rfl
      · have c5 : (laysB b).length ≠ 0 := by simpa [laysB] using c4
        have hres : StrokesR b row col = (andTo (laysB b) (4 * row.toNat + col.toNat) (laysB b).length, orTo (laysB b) (4 * row.toNat + col.toNat) (laysB b).length, 0) := by
          rw [StrokesR, if_neg (by simp [e0]), if_neg (by simp [c2]), if_neg c5]
        rw [hres]
        obtain ⟨r', rfl⟩ : ∃ r' : Nat, row = r' := ⟨row.toNat, by omega⟩
        obtain ⟨c', rfl⟩ : ∃ c' : Nat, col = c' := ⟨col.toNat, by omega⟩
        have hr3 : r' < 3 := by omega
        have hc4 : c' < 4 := by omega
        have hr3' : ((r' : Int) < 3) = True := eq_true (by omega)
        have hc4' : ((c' : Int) < 4) = True := eq_true (by omega)
        refine WP.loopI (fun (k : Nat) s => (k ≤ (laysB b).length) ∧ s.sl.length = 58 ∧ s.df = [] ∧ s.gh = {} ∧ (∃ J, s.hp = h ++ .cells 0 (brdA b) :: .cells 0 (bdA b (mapB b.glyphs)) :: J) ∧ evA s.sl (.tmp 1) = .int .i64 r' ∧ evA s.sl (.tmp 2) = .int .i64 c' ∧ evA s.sl (.tmp 6) = .int .i64 (andTo (laysB b) (4 * r' + c') k) ∧ evA s.sl (.tmp 7) = .int .i64 (orTo (laysB b) (4 * r' + c') k) ∧ evA s.sl (.tmp 35) = sliceOf cFaceF (laysB b) ∧ evA s.sl (.tmp 36) = .int .i64 (laysB b).length ∧ evA s.sl (.tmp 37) = .int .i64 k) (fun (k : Nat) => (laysB b).length - k) (0) ?_ ?_
        · simp (implicitDefEqProofs := false) (dsimp := false) only [go_sem, Nat.zero_le, brdA, bdA]
          exact ⟨rfl, rfl, rfl, rfl⟩
        · rintro k ⟨sl, df, hp, gh⟩ ⟨ab, al, rfl, rfl, ah, a1, a2, a6, a7, a35, a36, a37⟩
          simp only at ab al ah a1 a2 a6 a7 a35 a36 a37
          obtain ⟨j, rfl⟩ := slots_lit al; clear al; simp only [junk_succ, junk_zero, evA_tmp, nth_16, nth_four, nth_one, nth_zero, Nat.zero_add, Nat.reduceAdd] at  a1 a2 a6 a7 a35 a36 a37 ⊢
          refine wp_ok (so := {}) mixed _ (by kernel_rfl) ?_
          obtain ⟨J, rfl⟩ := ah
          by_cases hk : k < (laysB b).length
          · have h12 := laysB_face _ (List.getElem_mem hk)
            have hall : ∀ y ∈ laysB b, (cFaceF y).length = 12 := fun y hy => cFaceF_len12 y (laysB_face y hy)
            have hr := drop_rowsM hall hk
            have hrl : k * 12 ≤ ((laysB b).flatMap cFaceF).length := by rw [length_rowsM hall]; omega
            have hTk : ∀ R, (nums12 (laysB b)[k].2 ++ R).take 12 = nums12 (laysB b)[k].2 := fun R => List.take_left' (by rw [nums12_len, h12])
            have hJ : ∀ y : Blk, (J ++ [y])[J.length]? = some y := fun y => by simp
            have hS : ∀ y z : Blk, (J ++ [y]).set J.length z = J ++ [z] := fun y z => by simp
            have hat := nums12_at h12 (show r' * 4 + c' < 12 by omega)
            simp (implicitDefEqProofs := false) (dsimp := false) only [go_sem, a1, a2, a6, a7, a35, a36, a37, nat_lt hk, decide_true, hr, hrl, cFaceF, hTk, hJ, hS, hr3', hc4', setM12 h12, nums_leaf, nums12_len, h12, nums_take h12, hat, Nat.le_refl]
            have ei : r' * 4 + c' = 4 * r' + c' := by omega
            exact ⟨by omega, k + 1, ⟨by omega, by rw [andTo_succ hk, ei], by rw [orTo_succ hk, ei], wrap_succ (by omega)⟩, by omega⟩
          · have hs : ((k : Int) < ((laysB b).length : Int)) = False := eq_false (by omega)
            have e : k = (laysB b).length := by omega
            subst e
            simp (implicitDefEqProofs := false) (dsimp := false) only [go_sem, a1, a2, a6, a7, a35, a36, a37, hs, decide_false, tri, Int.toNat_natCast]
  · simp only [leafA] at f1 f2 f3 f4
    simp (implicitDefEqProofs := false) (dsimp := false) only [go_sem, f1, f2, f3, f4, e2, eq_false e1]
    rw [StrokesR, if_pos e1]; rfl
end Go.Mac
namespace Go.Mac
open Go Go.Conc Go.Proofs
theorem misB_nil {f : List Int} {cs : List (List Trace)} (h : (misB f cs).length = 0) {r c : Nat} (hr : r < cs.length) (hc : c < (cs.headD []).length) (hc4 : c < 4) : fitsB (f.getD (4 * r + c) 0) (traceAt cs r c) = true := by
  have h0 : misB f cs = [] := List.length_eq_zero_iff.1 h
  unfold misB misTo at h0
  rw [List.flatMap_eq_nil_iff] at h0
  have h1 := h0 (4 * r + c) (List.mem_range.2 (by omega))
  simp only [show (4 * r + c) % 4 = c by omega, hc, if_true, misAt, show (4 * r + c) / 4 = r by omega] at h1
  cases hf : fitsB (f.getD (4 * r + c) 0) (traceAt cs r c) with
  | true => rfl
  | false => rw [hf] at h1; simp at h1
theorem layK_ok {b : Board} {p n : Nat} (hp : p < b.pages.length) (hn : n < 18) : layErr b (layN p n) = 0 := by
  unfold layErr layN
  simp only
  rw [if_neg (by simp; omega), if_neg (by omega)]
theorem mem_ways {b : Board} {m : List (Int × Int)} {x : Lay × List Int} (h : x ∈ allWays b m) : ∃ p n, p < b.pages.length ∧ n < 18 ∧ x = wayN b m p n := by
  unfold allWays at h
  obtain ⟨p, hp, hx⟩ := List.mem_flatMap.1 h
  obtain ⟨n, hn, rfl⟩ := List.mem_map.1 hx
  exact ⟨p, n, List.mem_range.1 hp, List.mem_range.1 hn, rfl⟩
theorem mem_lays {b : Board} {x : Lay × List Int} (h : x ∈ laysB b) : (∃ p n, p < b.pages.length ∧ n < 18 ∧ x = wayN b (mapB b.glyphs) p n) ∧ (misB x.2 b.cells).length = 0 := by
  unfold laysB rightsB at h
  obtain ⟨h1, h2⟩ := List.mem_filter.1 h
  exact ⟨mem_ways h1, by simpa [rightB] using h2⟩
theorem face_get {m : List (Int × Int)} {p : List (List UInt8)} {cs : List (List Trace)} {l : Lay} {r c : Nat} (hr : r < cs.length) (hr3 : cs.length ≤ 3) (hc : c < (cs.headD []).length) (hc4 : (cs.headD []).length ≤ 4) : (faceB m p cs l).getD (4 * r + c) 0 = shownB m p l r c := by
  unfold faceB part12
  have : 4 * r + c < 12 := by omega
  rw [List.getD_eq_getElem?_getD, List.getElem?_map, List.getElem?_range this]
  simp only [Option.map_some, Option.getD_some, this, if_true, faceAt]
  rw [show (4 * r + c) / 4 = r by omega, show (4 * r + c) % 4 = c by omega, if_pos ⟨hr, hc⟩]
theorem wayN_shown {b : Board} (ok : okMade b) {p n r c : Nat} (hp : p < b.pages.length) (hn : n < 18) (hr : r < b.cells.length) (hc : c < (b.cells.headD []).length) : ShownR b (layN p n) r c = ((wayN b (mapB b.glyphs) p n).2.getD (4 * r + c) 0, 0) := by
  have h3 := ok.cells.most
  have h4 := ok.cells.wmost
  unfold ShownR
  rw [if_neg (by simp [ok.err]), if_neg (by simp [layK_ok hp hn]), if_neg (by rw [show cellB b r c = true by simp only [cellB, Bool.and_eq_true, decide_eq_true_eq]; omega]; simp)]
  simp only [wayN, Prod.mk.injEq, and_true]
  rw [face_get hr h3 hc h4]
  rfl
theorem wayN_64 {b : Board} (ok : okMade b) {p n i : Nat} : is64 ((wayN b (mapB b.glyphs) p n).2.getD i 0) := by
  simp only [wayN, faceB, part12]
  rw [List.getD_eq_getElem?_getD]
  by_cases h : i < 12
  · rw [List.getElem?_map, List.getElem?_range h]
    simp only [Option.map_some, Option.getD_some, h, if_true, faceAt]
    split
    · exact shownB_64 ok.gl _ _ _ _
    · exact ⟨Int.le_refl 0, by decide⟩
  · rw [List.getElem?_eq_none (by simpa using h)]
    exact ⟨Int.le_refl 0, by decide⟩
theorem lays_shown {b : Board} (ok : okMade b) {x : Lay × List Int} (h : x ∈ laysB b) {r c : Nat} (hr : r < b.cells.length) (hc : c < (b.cells.headD []).length) : ShownR b x.1 r c = (x.2.getD (4 * r + c) 0, 0) ∧ is64 (x.2.getD (4 * r + c) 0) ∧ fitsB (x.2.getD (4 * r + c) 0) (traceAt b.cells r c) = true := by
  obtain ⟨⟨p, n, hp, hn, rfl⟩, hm⟩ := mem_lays h
  exact ⟨wayN_shown ok hp hn hr hc, wayN_64 ok, misB_nil hm hr hc (by have := ok.cells.wmost; omega)⟩
theorem lays_small {b : Board} {x : Lay × List Int} (h : x ∈ laysB b) : isI64 x.1.down ∧ isI64 x.1.right := by
  obtain ⟨⟨p, n, hp, hn, rfl⟩, _⟩ := mem_lays h
  simp only [wayN, layN, isI64]
  omega
theorem traceErr_64 {t : Trace} (h : traceErr t = 0) : is64 t.seen ∧ is64 t.bare ∧ andK .i64 t.seen t.bare = 0 := by
  unfold traceErr at h
  by_cases c1 : t.seen < 0 ∨ t.bare < 0 ∨ 63 < t.seen ∨ 63 < t.bare
  · rw [if_pos c1] at h; cases h
  · rw [if_neg c1] at h
    by_cases c2 : andK .i64 t.seen t.bare ≠ 0
    · rw [if_pos c2] at h; cases h
    · unfold is64; exact ⟨by omega, by omega, by simpa using c2⟩
theorem okMade.trace64 {b : Board} (ok : okMade b) {r c : Nat} (hr : r < b.cells.length) (hc : c < (b.cells.headD []).length) : is64 (traceAt b.cells r c).seen ∧ is64 (traceAt b.cells r c).bare ∧ andK .i64 (traceAt b.cells r c).seen (traceAt b.cells r c).bare = 0 := by
  have hw := ok.cells.row hr
  rw [traceAt_eq hr (by omega)]
  exact traceErr_64 (ok.trace _ (List.getElem_mem hr) _ (List.getElem_mem _))
section
variable {xs : List (Lay × List Int)} {i : Nat} (h64 : ∀ x ∈ xs, is64 (x.2.getD i 0))
include h64
theorem andTo_64 : ∀ k, k ≤ xs.length → is64 (andTo xs i k)
  | 0, _ => (⟨by decide, by decide⟩ : is64 63)
  | k + 1, h => by rw [andTo_succ (by omega)]; exact (and64 (andTo_64 k (by omega)) (h64 _ (List.getElem_mem (by omega)))).2
theorem orTo_64 : ∀ k, k ≤ xs.length → is64 (orTo xs i k)
  | 0, _ => (⟨by decide, by decide⟩ : is64 0)
  | k + 1, h => by rw [orTo_succ (by omega)]; exact (or64 (orTo_64 k (by omega)) (h64 _ (List.getElem_mem (by omega)))).2
theorem andTo_in {j : Nat} (hj : j < xs.length) : ∀ k, k ≤ xs.length → j < k → (andTo xs i k).toNat &&& (xs[j].2.getD i 0).toNat = (andTo xs i k).toNat
  | 0, _, h => by omega
  | k + 1, h, hjk => by
    have a64 := andTo_64 h64 k (by omega)
    have x64 := h64 _ (List.getElem_mem (show k < xs.length by omega))
    rw [andTo_succ (by omega), (and64 a64 x64).1, Int.toNat_natCast]
    by_cases e : j = k
    · subst e; rw [Nat.and_assoc, Nat.and_self]
    · have := andTo_in hj k (by omega) (by omega)
      rw [Nat.and_assoc, Nat.and_comm (xs[k].2.getD i 0).toNat, ← Nat.and_assoc, this]
theorem orTo_in {j : Nat} (hj : j < xs.length) : ∀ k, k ≤ xs.length → j < k → (xs[j].2.getD i 0).toNat &&& (orTo xs i k).toNat = (xs[j].2.getD i 0).toNat
  | 0, _, h => by omega
  | k + 1, h, hjk => by
    have o64 := orTo_64 h64 k (by omega)
    have x64 := h64 _ (List.getElem_mem (show k < xs.length by omega))
    rw [orTo_succ (by omega), (or64 o64 x64).1, Int.toNat_natCast, Nat.and_or_distrib_left]
    by_cases e : j = k
    · subst e
      rw [Nat.and_self]
      apply Nat.eq_of_testBit_eq
      intro q
      simp only [Nat.testBit_or, Nat.testBit_and]
      cases (xs[j].2.getD i 0).toNat.testBit q <;> simp
    · have := orTo_in hj k (by omega) (by omega)
      rw [this]
      apply Nat.eq_of_testBit_eq
      intro q
      simp only [Nat.testBit_or, Nat.testBit_and]
      cases (xs[j].2.getD i 0).toNat.testBit q <;> simp
theorem and_or (h0 : 0 < xs.length) : andK .i64 (andTo xs i xs.length) (orTo xs i xs.length) = andTo xs i xs.length := by
  have a64 := andTo_64 h64 xs.length (Nat.le_refl _)
  have o64 := orTo_64 h64 xs.length (Nat.le_refl _)
  have h1 := andTo_in h64 h0 xs.length (Nat.le_refl _) h0
  have h2 := orTo_in h64 h0 xs.length (Nat.le_refl _) h0
  have : (andTo xs i xs.length).toNat &&& (orTo xs i xs.length).toNat = (andTo xs i xs.length).toNat := by
    rw [← h1, Nat.and_assoc, h2]
  rw [(and64 a64 o64).1, this]
  have := a64.1
  omega
theorem and_seen {s : Int} (hs : is64 s) (hf : ∀ x ∈ xs, andK .i64 (x.2.getD i 0) s = s) : ∀ k, k ≤ xs.length → andK .i64 (andTo xs i k) s = s
  | 0, _ => by
    have := (and64 (a := 63) ⟨by decide, by decide⟩ hs).1
    show andK .i64 63 s = s
    rw [this]
    have h1 := hs.1
    have h2 := hs.2
    have : ∀ n : Nat, n < 64 → (63 : Nat) &&& n = n := by decide
    rw [show (63 : Int).toNat = 63 from rfl, this _ (by omega)]
    omega
  | k + 1, h => by
    have a64 := andTo_64 h64 k (by omega)
    have hm := List.getElem_mem (show k < xs.length by omega)
    have x64 := h64 _ hm
    have h1 := and_seen hs hf k (by omega)
    have h2 := hf _ hm
    rw [(and64 a64 hs).1] at h1
    rw [(and64 x64 hs).1] at h2
    rw [andTo_succ (by omega), (and64 (and64 a64 x64).2 hs).1, (and64 a64 x64).1, Int.toNat_natCast, Nat.and_assoc]
    have h2' : (xs[k].2.getD i 0).toNat &&& s.toNat = s.toNat := by omega
    rw [h2']; exact h1
theorem or_bare {s : Int} (hs : is64 s) (hf : ∀ x ∈ xs, andK .i64 (x.2.getD i 0) s = 0) : ∀ k, k ≤ xs.length → andK .i64 (orTo xs i k) s = 0
  | 0, _ => by
    show andK .i64 0 s = 0
    rw [(and64 (a := 0) ⟨by decide, by decide⟩ hs).1]; simp
  | k + 1, h => by
    have o64 := orTo_64 h64 k (by omega)
    have hm := List.getElem_mem (show k < xs.length by omega)
    have x64 := h64 _ hm
    have h1 := or_bare hs hf k (by omega)
    have h2 := hf _ hm
    rw [(and64 o64 hs).1] at h1
    rw [(and64 x64 hs).1] at h2
    rw [orTo_succ (by omega), (and64 (or64 o64 x64).2 hs).1, (or64 o64 x64).1, Int.toNat_natCast, Nat.and_or_distrib_right]
    rw [show (orTo xs i k).toNat &&& s.toNat = 0 by omega, show (xs[k].2.getD i 0).toNat &&& s.toNat = 0 by omega]; rfl
end
theorem fits_and {v : Int} {t : Trace} (h : fitsB v t = true) : andK .i64 v t.seen = t.seen ∧ andK .i64 v t.bare = 0 := by
  simpa [fitsB] using h
end Go.Mac
namespace Go.Mac
open Go Go.Conc Go.Proofs
set_option maxRecDepth 4000
theorem dice_at {h k : List Blk} {r : Option (List Int)} {x : Int} : (h ++ diceB r x :: k)[h.length]? = some (diceB r x) := by
  rw [List.getElem?_append_right (Nat.le_refl _), Nat.sub_self]; rfl
theorem dice_set {h k : List Blk} {r r' : Option (List Int)} {x x' : Int} : (h ++ diceB r x :: k).set h.length (diceB r' x') = h ++ diceB r' x' :: k := by
  rw [List.set_append_right _ _ (Nat.le_refl _), Nat.sub_self]; rfl
theorem role_left {h k : List Blk} (hro : h[0]? = some (.role true)) : (h ++ k)[0]? = some (.role true) := by
  rw [List.getElem?_append_left (List.getElem?_eq_some_iff.1 hro).1]; exact hro
set_option maxHeartbeats 1000000 in
theorem Sure_walk (r : Option (List Int)) (h : List Blk) (hro : h[0]? = some (.role true)) : CallsA Try.prog 12 [leftA r] h fun e h' => e = .ret (.bool true) ∧ h' = h := by
  refine CallsA.of_wpe [] { cut := [92, 97, 102, 109, 118] } 125 mixed Try.func12 (by kernel_rfl) rfl (by kernel_rfl) fun j hB hA => ?_; simp only [junk_succ, junk_zero, List.cons_append, List.nil_append, List.length_cons, List.length_nil, Nat.reduceAdd]
  simp (implicitDefEqProofs := false) (dsimp := false) only [go_sem]
  refine CallsA.mono (NewDice_ok r h) ?_
  rintro _ _ ⟨rfl, rfl⟩
  simp (implicitDefEqProofs := false) (dsimp := false) only [go_sem]
  refine Rolls.use (BoardOf_ok _ h.length r 1 4 3 2 3 (by omega) (by omega) (by omega) (by omega) dice_at) ?_
  rintro _ r x ⟨b, rfl, ok⟩
  rw [dice_set]
  have okm := ok.made
  have okb := okm.board
  have g3 := okb.cells.most
  have g4 := okb.cells.wmost
  have hn := laysB_le okb
  generalize diceB r x = D
  simp (implicitDefEqProofs := false) (dsimp := false) only [go_sem, brdA]
  have hL := Lays_ok b
  rw [unless_ok okm.err, okm.err] at hL
  (first | refine CallsA.use (hL) ?_ | refine QuietCalls.use (hL) ?_)
  simp (implicitDefEqProofs := false) (dsimp := false) only [go_sem]
  refine WP.loopI (fun (r : Nat) s => (r ≤ b.cells.length) ∧ s.sl.length = 126 ∧ s.df = [] ∧ s.gh = {} ∧ (∃ J, s.hp = h ++ D :: .cells 0 (brdA b) :: J) ∧ evA s.sl (.tmp 3) = .ptr ⟨h.length + 1, 0⟩ 0 ∧ evA s.sl (.tmp 4) = sliceOf cLayF (laysB b) ∧ evA s.sl (.tmp 6) = .int .i64 r) (fun (r : Nat) => b.cells.length - r) (0) ?_ ?_
  · simp (implicitDefEqProofs := false) (dsimp := false) only [go_sem, Nat.zero_le, brdA]
  · rintro r ⟨sl, df, hp, gh⟩ ⟨ab, al, rfl, rfl, ah, a3, a4, a6⟩
    simp only at ab al ah a3 a4 a6
    obtain ⟨j, rfl⟩ := slots_lit al; clear al; simp only [junk_succ, junk_zero, evA_tmp, nth_16, nth_four, nth_one, nth_zero, Nat.zero_add, Nat.reduceAdd] at  a3 a4 a6 ⊢
    refine wp_ok (so := { cut := [92, 97, 102, 109, 118] }) mixed _ (by kernel_rfl) ?_
    obtain ⟨J, rfl⟩ := ah
    by_cases hr : r < b.cells.length
    · simp (implicitDefEqProofs := false) (dsimp := false) only [go_sem, a3, a4, a6, brdA, nat_lt hr, decide_true]
      refine WP.loopI (fun (c : Nat) s => (c ≤ (b.cells.headD []).length) ∧ s.sl.length = 126 ∧ s.df = [] ∧ s.gh = {} ∧ (∃ J, s.hp = h ++ D :: .cells 0 (brdA b) :: J) ∧ evA s.sl (.tmp 3) = .ptr ⟨h.length + 1, 0⟩ 0 ∧ evA s.sl (.tmp 4) = sliceOf cLayF (laysB b) ∧ evA s.sl (.tmp 6) = .int .i64 r ∧ evA s.sl (.tmp 7) = .int .i64 c) (fun (c : Nat) => (b.cells.headD []).length - c) (0) ?_ ?_
      · simp (implicitDefEqProofs := false) (dsimp := false) only [go_sem, Nat.zero_le, brdA]
      · rintro c ⟨sl, df, hp, gh⟩ ⟨cb, cl, rfl, rfl, ch, c3, c4, c6, c7⟩
        simp only at cb cl ch c3 c4 c6 c7
        obtain ⟨j, rfl⟩ := slots_lit cl; clear cl; simp only [junk_succ, junk_zero, evA_tmp, nth_16, nth_four, nth_one, nth_zero, Nat.zero_add, Nat.reduceAdd] at  c3 c4 c6 c7 ⊢
        refine wp_ok (so := { cut := [92, 97, 102, 109, 118] }) mixed _ (by kernel_rfl) ?_
        obtain ⟨J, rfl⟩ := ch
        have hw := okm.cells.row hr
        by_cases hc : c < (b.cells.headD []).length
        · simp (implicitDefEqProofs := false) (dsimp := false) only [go_sem, c3, c4, c6, c7, brdA, nat_lt hr, nat_lt hc, decide_true, row1 cTraces_len hr, row1_le cTraces_len hr, cTraces, hw]
          (first | refine CallsA.use (Strokes_ok b r c) ?_ | refine QuietCalls.use (Strokes_ok b r c) ?_)
          have hcell : cellB b r c = true := by simp only [cellB, Bool.and_eq_true, decide_eq_true_eq]; omega
          by_cases h0 : (laysB b).length = 0
          · have hS : StrokesR b r c = (0, 0, 9) := by rw [StrokesR, if_neg (by simp [okm.err]), if_neg (by simp [hcell]), if_pos h0]
            rw [hS]
            simp (implicitDefEqProofs := false) (dsimp := false) only [go_sem, tri, h0, brdA]
            exact ⟨c + 1, ⟨by omega, wrap_succ (by omega)⟩, by omega⟩
          · have hS : StrokesR b r c = (andTo (laysB b) (4 * r + c) (laysB b).length, orTo (laysB b) (4 * r + c) (laysB b).length, 0) := by rw [StrokesR, if_neg (by simp [okm.err]), if_neg (by simp [hcell]), if_neg h0]; rfl
            rw [hS]
            have h0' : ((((laysB b).length : Nat) : Int) == 0) = false := by simpa using h0
            simp (implicitDefEqProofs := false) (dsimp := false) only [go_sem, tri, h0']
            refine WP.loopI (fun (k : Nat) s => (k ≤ (laysB b).length) ∧ s.sl.length = 126 ∧ s.df = [] ∧ s.gh = {} ∧ (s.hp = h ++ D :: .cells 0 (brdA b) :: J) ∧ evA s.sl (.tmp 3) = .ptr ⟨h.length + 1, 0⟩ 0 ∧ evA s.sl (.tmp 4) = sliceOf cLayF (laysB b) ∧ evA s.sl (.tmp 6) = .int .i64 r ∧ evA s.sl (.tmp 7) = .int .i64 c ∧ evA s.sl (.tmp 8) = .int .i64 (andTo (laysB b) (4 * r + c) (laysB b).length) ∧ evA s.sl (.tmp 9) = .int .i64 (orTo (laysB b) (4 * r + c) (laysB b).length) ∧ evA s.sl (.tmp 10) = .int .i64 0 ∧ evA s.sl (.tmp 11) = .int .i64 (andTo (laysB b) (4 * r + c) k) ∧ evA s.sl (.tmp 12) = .int .i64 (orTo (laysB b) (4 * r + c) k) ∧ evA s.sl (.tmp 13) = .int .i64 k) (fun (k : Nat) => (laysB b).length - k) (0) ?_ ?_
            · simp (implicitDefEqProofs := false) (dsimp := false) only [go_sem, Nat.zero_le, brdA]
              exact ⟨rfl, rfl⟩
            · rintro k ⟨sl, df, hp, gh⟩ ⟨qb, ql, rfl, rfl, rfl, q3, q4, q6, q7, q8, q9, q10, q11, q12, q13⟩
              simp only at qb ql q3 q4 q6 q7 q8 q9 q10 q11 q12 q13
              obtain ⟨j, rfl⟩ := slots_lit ql; clear ql; simp only [junk_succ, junk_zero, evA_tmp, nth_16, nth_four, nth_one, nth_zero, Nat.zero_add, Nat.reduceAdd] at  q3 q4 q6 q7 q8 q9 q10 q11 q12 q13 ⊢
              refine wp_ok (so := { cut := [92, 97, 102, 109, 118] }) mixed _ (by kernel_rfl) ?_
              by_cases hk : k < (laysB b).length
              · have hm := List.getElem_mem hk
                obtain ⟨hsh, _, _⟩ := lays_shown okm hm hr hc
                obtain ⟨hi1, hi2⟩ := lays_small hm
                simp (implicitDefEqProofs := false) (dsimp := false) only [go_sem, q3, q4, q6, q7, q8, q9, q10, q11, q12, q13, brdA, nat_lt hk, decide_true, rowN cLayF_len hk, rowN_le cLayF_len hk, cLayF, cLay]
                have hS := Shown_ok b (laysB b)[k].1 r c hi1 hi2
                rw [hsh] at hS
                (first | refine CallsA.use (hS) ?_ | refine QuietCalls.use (hS) ?_)
                simp (implicitDefEqProofs := false) (dsimp := false) only [go_sem, pairA, brdA]
                exact ⟨k + 1, ⟨by omega, by rw [andTo_succ hk], by rw [orTo_succ hk], wrap_succ (by omega)⟩, by omega⟩
              · have hs : ((k : Int) < ((laysB b).length : Int)) = False := eq_false (by omega)
                have ek : k = (laysB b).length := by omega
                subst ek
                have hwc : c < b.cells[r].length := by omega
                have htr := okm.trace64 hr hc
                have hfit : ∀ x ∈ laysB b, is64 (x.2.getD (4 * r + c) 0) ∧ fitsB (x.2.getD (4 * r + c) 0) (traceAt b.cells r c) = true := fun x hx => (lays_shown okm hx hr hc).2
                rw [traceAt_eq hr hwc] at htr hfit
                have h64 : ∀ x ∈ laysB b, is64 (x.2.getD (4 * r + c) 0) := fun x hx => (hfit x hx).1
                have e1 := and_or h64 (by omega)
                have e2 := and_seen h64 htr.1 (fun x hx => (fits_and (hfit x hx).2).1) _ (Nat.le_refl _)
                have e3 := or_bare h64 htr.2.1 (fun x hx => (fits_and (hfit x hx).2).2) _ (Nat.le_refl _)
                have hJ : ∀ y : Blk, (J ++ [y])[J.length]? = some y := fun y => by simp
                have hJs : ∀ y z : Blk, (J ++ [y]).set J.length z = J ++ [z] := fun y z => by simp
                simp (implicitDefEqProofs := false) (dsimp := false) only [go_sem, q3, q4, q6, q7, q8, q9, q10, q11, q12, q13, brdA, hs, decide_false, nat_lt hr, nat_lt hc, row1 cTraces_len hr, row1_le cTraces_len hr, cTraces, hw, rowN cTrace_len hwc, rowN_le cTrace_len hwc, cTrace, hJ, hJs, bne_self_eq_false, e1, e2, e3, Nat.le_refl]
                exact ⟨c + 1, ⟨by omega, wrap_succ (by omega)⟩, by omega⟩
        · have hs : ((c : Int) < ((b.cells.headD []).length : Int)) = False := eq_false (by omega)
          simp (implicitDefEqProofs := false) (dsimp := false) only [go_sem, c3, c4, c6, c7, brdA, nat_lt hr, hs, decide_false, row1 cTraces_len hr, row1_le cTraces_len hr, cTraces, hw]
          exact ⟨r + 1, ⟨by omega, wrap_succ (by omega)⟩, by omega⟩
    · have hs : ((r : Int) < (b.cells.length : Int)) = False := eq_false (by omega)
      simp (implicitDefEqProofs := false) (dsimp := false) only [go_sem, a3, a4, a6, brdA, hs, decide_false]
      refine QuietAt.use (pressed_ok _ (role_left hro)) ?_
      simp (implicitDefEqProofs := false) (dsimp := false) only [go_sem]
      exact quiet_fine hB rfl
end Go.Mac

/- A part of the logic and of the contracts of the functions that the statement reaches; the statement itself is proved in the last text. -/
import Derived.Test.YtdioclckllbhpaaLibD
import Derived.Test.YtdioclckllbhpaaLibF
import Derived.Test.YtdioclckllbhpaaLibMacNA

set_option linter.all false
set_option linter.unusedVariables false
set_option linter.unusedSimpArgs false
set_option linter.unnecessarySimpa false
namespace Go.Mac
open Go Go.Conc Go.Proofs
set_option maxRecDepth 4000
end Go.Mac
namespace Go.Mac
open Go Go.Conc Go.Proofs
theorem layK_ok {b : Board} {p n : Nat} (hp : p < b.pages.length) (hn : n < 18) : layErr b (layN p n) = 0 := by
  unfold layErr layN
  simp only
  rw [if_neg (by simp; omega), if_neg (by omega)]
section
variable {xs : List (Lay × List Int)} {i : Nat} (h64 : ∀ x ∈ xs, is64 (x.2.getD i 0))
include h64
end
end Go.Mac
namespace Go.Mac
open Go Go.Conc Go.Proofs
set_option maxRecDepth 4000
theorem layK_small (i : Nat) : isI64 (layK i).down ∧ isI64 (layK i).right := by
  simp only [layK, layN, isI64]; omega
end Go.Mac
namespace Go.Mac
open Go Go.Conc Go.Proofs
set_option maxRecDepth 4000
def wideB (b : Board) : Nat := (b.cells.headD []).length
def showAt (b : Board) (l : Lay) (i : Nat) : Int := shownB (mapB b.glyphs) (b.pages.getD l.page.toNat []) l ((i / wideB b : Nat) : Int) ((i % wideB b : Nat) : Int)
theorem Shown_good {b : Board} (ok : okMade b) {l : Lay} (h0 : layErr b l = 0) {r c : Nat} (hr : r < b.cells.length) (hc : c < wideB b) : ShownR b l r c = (showAt b l (r * wideB b + c), 0) := by
  unfold ShownR
  have hc' : c < (b.cells.headD []).length := hc
  rw [if_neg (by simp [ok.err]), if_neg (by simp [h0]), if_neg (by rw [show cellB b r c = true by simp only [cellB, Bool.and_eq_true, decide_eq_true_eq]; omega]; simp)]
  have e1 : (r * wideB b + c) / wideB b = r := by rw [Nat.mul_comm, Nat.mul_add_div (by omega), Nat.div_eq_of_lt hc, Nat.add_zero]
  have e2 : (r * wideB b + c) % wideB b = c := by rw [Nat.mul_comm, Nat.mul_add_mod, Nat.mod_eq_of_lt hc]
  rw [showAt, e1, e2]
end Go.Mac
namespace Go.Mac
open Go Go.Conc Go.Proofs
end Go.Mac
namespace Go.Mac
open Go Go.Conc Go.Proofs
set_option maxRecDepth 4000
end Go.Mac
namespace Go.Mac
open Go Go.Conc Go.Proofs
set_option maxRecDepth 4000
end Go.Mac
namespace Go.Mac
open Go Go.Conc Go.Proofs
def seenL (b : Board) (l : Lay) (r c : Nat) : Int := shownB (mapB b.glyphs) (b.pages.getD l.page.toNat []) l r c
end Go.Mac
namespace Go.Mac
open Go Go.Conc Go.Proofs
end Go.Mac
namespace Go.Mac
open Go Go.Conc Go.Proofs
theorem seen_show {b : Board} (ok : okMade b) {l : Lay} {r c : Nat} (hc : c < wideB b) : showAt b l (r * wideB b + c) = seenL b l r c := by
  have hw : 0 < wideB b := ok.cells.wpos
  have e1 : (r * wideB b + c) / wideB b = r := by rw [Nat.mul_comm, Nat.mul_add_div hw, Nat.div_eq_of_lt hc]; omega
  have e2 : (r * wideB b + c) % wideB b = c := by rw [Nat.mul_comm, Nat.mul_add_mod, Nat.mod_eq_of_lt hc]
  rw [showAt, e1, e2]; rfl
end Go.Mac
namespace Go.Mac
open Go Go.Conc Go.Proofs
set_option maxRecDepth 4000
end Go.Mac
namespace Go.Mac
open Go Go.Conc Go.Proofs
end Go.Mac
namespace Go.Mac
open Go Go.Conc Go.Proofs
end Go.Mac
namespace Go.Mac
open Go Go.Conc Go.Proofs
def chr2 (p : List (List UInt8)) (r c : Nat) : UInt8 := (p.getD r []).getD c 0
theorem shownB_at {m : List (Int × Int)} {pg : List (List UInt8)} {l : Lay} {r c : Int} {r' c' : Nat} (h : letterB pg l r c = ((r' : Int), (c' : Int), true)) : shownB m pg l r c = asB l (inkB m ((chr2 pg r' c').toNat : Int)) := by
  unfold shownB; rw [h]; rfl
theorem shownB_out {m : List (Int × Int)} {pg : List (List UInt8)} {l : Lay} {r c : Int} (h : (letterB pg l r c).2.2 = false) : shownB m pg l r c = 0 := by
  unfold shownB; simp only [h]; rfl
theorem hasB_nameL {gs : List Glyph} {c : Nat} : hasB (mapB gs) c = true ↔ c ∈ nameL gs := by
  unfold hasB mapB nameL
  simp only [List.any_cons, List.any_map, Bool.or_eq_true, beq_iff_eq, List.any_eq_true, List.mem_cons, List.mem_map, Function.comp]
  constructor
  · rintro (h | ⟨g, hg, h⟩)
    · left; omega
    · right; exact ⟨g, hg, by omega⟩
  · rintro (h | ⟨g, hg, h⟩)
    · left; omega
    · right; exact ⟨g, hg, by omega⟩
end Go.Mac
namespace Go.Mac
open Go Go.Conc Go.Proofs
def namedB : List Glyph → Int → List UInt8
  | [], _ => [45]
  | g :: l, v => if g.strokes = v then g.name else namedB l v
theorem namedB_cases {v : Int} : ∀ {gs : List Glyph}, namedB gs v = [45] ∨ ∃ g ∈ gs, g.strokes = v ∧ namedB gs v = g.name
  | [] => .inl rfl
  | g :: l => by
    rw [namedB]
    by_cases e : g.strokes = v
    · rw [if_pos e]; exact .inr ⟨g, List.mem_cons_self .., e, rfl⟩
    · rw [if_neg e]
      rcases namedB_cases (v := v) (gs := l) with h | ⟨x, h1, h2, h3⟩
      · exact .inl h
      · exact .inr ⟨x, List.mem_cons_of_mem _ h1, h2, h3⟩
theorem strokesB_mem : ∀ {gs : List Glyph}, (gs.Pairwise fun x g => gkey x < gkey g ∧ x.strokes ≠ g.strokes) → ∀ g ∈ gs, strokesB gs g.name = g.strokes
  | [], _, g, hg => by cases hg
  | x :: l, hp, g, hg => by
    rw [List.pairwise_cons] at hp
    rw [strokesB]
    rcases List.mem_cons.1 hg with rfl | hg
    · rw [if_pos rfl]
    · have := (hp.1 g hg).1
      rw [if_neg (fun e => by unfold gkey at this; rw [e] at this; omega)]
      exact strokesB_mem hp.2 g hg
theorem ink_mem {gs : List Glyph} (ok : okGlyphs gs) {g : Glyph} (hg : g ∈ gs) {t : UInt8} (h : g.name = [t]) : inkB (mapB gs) t.toNat = g.strokes := by
  rw [← strokesB_eq ok, ← h]; exact strokesB_mem ok.pair g hg
def yTo (gs : List Glyph) (c : UInt8) (k : Nat) : List UInt8 := (gs.take k).foldl (fun y g => if g.name = [c] then namedB gs (exchB g.strokes halfL) else y) [45]
theorem yTo_succ {gs : List Glyph} {c : UInt8} {k : Nat} (h : k < gs.length) : yTo gs c (k + 1) = if gs[k].name = [c] then namedB gs (exchB gs[k].strokes halfL) else yTo gs c k := by
  rw [yTo, List.take_succ_eq_append_getElem h, List.foldl_append]; rfl
theorem yTo_cases {gs : List Glyph} {c : UInt8} : ∀ k, k ≤ gs.length → yTo gs c k = [45] ∨ ∃ g ∈ gs, g.name = [c] ∧ yTo gs c k = namedB gs (exchB g.strokes halfL)
  | 0, _ => .inl rfl
  | k + 1, h => by
    rw [yTo_succ (by omega)]
    by_cases e : gs[k].name = [c]
    · rw [if_pos e]; exact .inr ⟨gs[k], List.getElem_mem _, e, rfl⟩
    · rw [if_neg e]; exact yTo_cases k (by omega)
def tG (gs : List Glyph) (c : UInt8) : UInt8 := (yTo gs c gs.length).headD 0
def xG (gs : List Glyph) (c : UInt8) : UInt8 := if tG gs c = 45 then 45 else c
theorem tG_spec {gs : List Glyph} (ok : okGlyphs gs) (c : UInt8) : yTo gs c gs.length = [tG gs c] ∧ hasB (mapB gs) (tG gs c).toNat = true ∧ (tG gs c = 45 ∨ turnB (inkB (mapB gs) c.toNat) = inkB (mapB gs) (tG gs c).toNat) := by
  have key : ∃ t, yTo gs c gs.length = [t] ∧ hasB (mapB gs) t.toNat = true ∧ (t = 45 ∨ turnB (inkB (mapB gs) c.toNat) = inkB (mapB gs) t.toNat) := by
    have h45 : hasB (mapB gs) (45 : UInt8).toNat = true := by
      unfold hasB mapB; rw [List.any_cons]; rfl
    rcases yTo_cases (c := c) gs.length (Nat.le_refl _) with h | ⟨g, hg, hn, h⟩
    · exact ⟨45, h, h45, .inl rfl⟩
    · rw [h]
      rcases namedB_cases (v := exchB g.strokes halfL) (gs := gs) with h2 | ⟨x, h1, h3, h4⟩
      · exact ⟨45, h2, h45, .inl rfl⟩
      · obtain ⟨t, ht, hk⟩ := one_name (ok.one x h1).1
        refine ⟨t, by rw [h4, ht], hasB_nameL.2 (List.mem_cons_of_mem _ (List.mem_map.2 ⟨x, h1, hk⟩)), .inr ?_⟩
        rw [ink_mem ok h1 ht, ink_mem ok hg hn, h3]
        have hs := ok.one g hg
        exact (exch64 ⟨by omega, by omega⟩).2.symm
  obtain ⟨t, h1, h2⟩ := key
  have e : tG gs c = t := by rw [tG, h1]; rfl
  rw [e]
  exact ⟨h1, h2⟩
theorem xG_has {gs : List Glyph} {c : UInt8} (h : hasB (mapB gs) c.toNat = true) : hasB (mapB gs) (xG gs c).toNat = true := by
  unfold xG
  split
  · unfold hasB mapB; rw [List.any_cons]; rfl
  · exact h
theorem xG_turn {gs : List Glyph} (ok : okGlyphs gs) (c : UInt8) : turnB (inkB (mapB gs) (xG gs c).toNat) = inkB (mapB gs) (tG gs c).toNat := by
  unfold xG
  by_cases e : tG gs c = 45
  · rw [if_pos e, e]
    have : inkB (mapB gs) (45 : UInt8).toNat = 0 := by unfold mapB; rw [inkB_cons]; rfl
    rw [this]; rfl
  · rw [if_neg e]
    rcases (tG_spec ok c).2.2 with h | h
    · exact absurd h e
    · exact h
def pgX (gs : List Glyph) (p : List (List UInt8)) (k : Nat) : List (List UInt8) := (p.take k).map fun row => row.map (xG gs)
def pgT (gs : List Glyph) (p : List (List UInt8)) (k : Nat) : List (List UInt8) := ((p.take k).map fun row => (row.map (tG gs)).reverse).reverse
theorem pgX_succ {gs : List Glyph} {p : List (List UInt8)} {k : Nat} (h : k < p.length) : pgX gs p (k + 1) = pgX gs p k ++ [p[k].map (xG gs)] := by
  rw [pgX, List.take_succ_eq_append_getElem h, List.map_append]; rfl
theorem pgT_succ {gs : List Glyph} {p : List (List UInt8)} {k : Nat} (h : k < p.length) : pgT gs p (k + 1) = (p[k].map (tG gs)).reverse :: pgT gs p k := by
  rw [pgT, List.take_succ_eq_append_getElem h, List.map_append, List.reverse_append]; rfl
theorem pgX_len {gs : List Glyph} {p : List (List UInt8)} {k : Nat} (h : k ≤ p.length) : (pgX gs p k).length = k := by simp [pgX]; omega
theorem pgT_len {gs : List Glyph} {p : List (List UInt8)} {k : Nat} (h : k ≤ p.length) : (pgT gs p k).length = k := by simp [pgT]; omega
theorem pgX_made {gs : List Glyph} {p : List (List UInt8)} (h : madePage gs p) : madePage gs (pgX gs p p.length) ∧ ((pgX gs p p.length).headD []).length = (p.headD []).length := by
  have hl := pgX_len (gs := gs) (p := p) (k := p.length) (Nat.le_refl _)
  have hp := h.1.pos
  have hw : ∀ s ∈ pgX gs p p.length, s.length = (p.headD []).length := fun s hs => by
    rw [pgX, List.take_length] at hs
    obtain ⟨row, hr, rfl⟩ := List.mem_map.1 hs
    rw [List.length_map]; exact h.1.wide row hr
  have hd : ((pgX gs p p.length).headD []).length = (p.headD []).length := by
    rw [headD_get (show 0 < (pgX gs p p.length).length by omega)]; exact hw _ (List.getElem_mem _)
  refine ⟨⟨⟨by omega, by rw [hl]; exact h.1.most, fun s hs => by rw [hd]; exact hw s hs, by rw [hd]; exact h.1.wpos, by rw [hd]; exact h.1.wmost⟩, fun s hs c hc => ?_⟩, hd⟩
  rw [pgX, List.take_length] at hs
  obtain ⟨row, hr, rfl⟩ := List.mem_map.1 hs
  obtain ⟨ch, hch, rfl⟩ := List.mem_map.1 hc
  exact xG_has (h.2 row hr ch hch)
theorem pgT_made {gs : List Glyph} (ok : okGlyphs gs) {p : List (List UInt8)} (h : madePage gs p) : madePage gs (pgT gs p p.length) ∧ ((pgT gs p p.length).headD []).length = (p.headD []).length := by
  have hl := pgT_len (gs := gs) (p := p) (k := p.length) (Nat.le_refl _)
  have hp := h.1.pos
  have hw : ∀ s ∈ pgT gs p p.length, s.length = (p.headD []).length := fun s hs => by
    rw [pgT, List.take_length, List.mem_reverse] at hs
    obtain ⟨row, hr, rfl⟩ := List.mem_map.1 hs
    rw [List.length_reverse, List.length_map]; exact h.1.wide row hr
  have hd : ((pgT gs p p.length).headD []).length = (p.headD []).length := by
    rw [headD_get (show 0 < (pgT gs p p.length).length by omega)]; exact hw _ (List.getElem_mem _)
  refine ⟨⟨⟨by omega, by rw [hl]; exact h.1.most, fun s hs => by rw [hd]; exact hw s hs, by rw [hd]; exact h.1.wpos, by rw [hd]; exact h.1.wmost⟩, fun s hs c hc => ?_⟩, hd⟩
  rw [pgT, List.take_length, List.mem_reverse] at hs
  obtain ⟨row, hr, rfl⟩ := List.mem_map.1 hs
  rw [List.mem_reverse] at hc
  obtain ⟨ch, hch, rfl⟩ := List.mem_map.1 hc
  exact (tG_spec ok ch).2.1
theorem chr2_get {p : List (List UInt8)} {r c : Nat} (hr : r < p.length) (hc : c < p[r].length) : chr2 p r c = p[r][c] := by
  unfold chr2
  rw [List.getD_eq_getElem?_getD (l := p), List.getElem?_eq_getElem hr, Option.getD_some, List.getD_eq_getElem?_getD, List.getElem?_eq_getElem hc, Option.getD_some]
theorem pgX_chr {gs : List Glyph} {p : List (List UInt8)} {r c : Nat} (hr : r < p.length) (hc : c < p[r].length) : chr2 (pgX gs p p.length) r c = xG gs (chr2 p r c) := by
  have h1 : r < (pgX gs p p.length).length := by rw [pgX_len (Nat.le_refl _)]; exact hr
  have e : (pgX gs p p.length)[r] = p[r].map (xG gs) := by simp [pgX]
  rw [chr2_get h1 (by rw [e, List.length_map]; exact hc), chr2_get hr hc]
  simp [e]
theorem pgT_chr {gs : List Glyph} {p : List (List UInt8)} {r c w : Nat} (hw : ∀ s ∈ p, s.length = w) (hr : r < p.length) (hc : c < w) : chr2 (pgT gs p p.length) (p.length - 1 - r) (w - 1 - c) = tG gs (chr2 p r c) := by
  have hl : p[r].length = w := hw _ (List.getElem_mem hr)
  have h1 : p.length - 1 - r < (pgT gs p p.length).length := by rw [pgT_len (Nat.le_refl _)]; omega
  have e : (pgT gs p p.length)[p.length - 1 - r] = (p[r].map (tG gs)).reverse := by
    simp only [pgT, List.take_length, List.getElem_reverse, List.length_map, List.getElem_map]
    congr 3
    omega
  rw [chr2_get h1 (by rw [e]; simp; omega), chr2_get hr (by omega)]
  simp only [e, List.getElem_reverse, List.length_map, List.getElem_map]
  congr 2
  omega
theorem turned_shows {gs : List Glyph} (ok : okGlyphs gs) {p : List (List UInt8)} (okp : madePage gs p) {l l' : Lay} (h1 : l.turned = true) (h2 : l'.turned = false) (hd : l'.down = l.down) (hr : l'.right = l.right) (row col : Int) :
    shownB (mapB gs) (pgX gs p p.length) l row col = shownB (mapB gs) (pgT gs p p.length) l' row col := by
  have lx := pgX_len (gs := gs) (p := p) (k := p.length) (Nat.le_refl _)
  have lt := pgT_len (gs := gs) (p := p) (k := p.length) (Nat.le_refl _)
  have wx := (pgX_made okp).2
  have wt := (pgT_made ok okp).2
  have hw : ∀ s ∈ p, s.length = (p.headD []).length := okp.1.wide
  by_cases hin : row - l.down < 0 ∨ (p.length : Int) ≤ row - l.down ∨ col - l.right < 0 ∨ ((p.headD []).length : Int) ≤ col - l.right
  · rw [shownB_out (by rw [letterB_out (by rw [lx, wx]; exact hin)]), shownB_out (by rw [letterB_out (by rw [lt, wt, hd, hr]; exact hin)])]
  · obtain ⟨y, hy⟩ : ∃ y : Nat, row - l.down = y := ⟨(row - l.down).toNat, by omega⟩
    obtain ⟨x, hx⟩ : ∃ x : Nat, col - l.right = x := ⟨(col - l.right).toNat, by omega⟩
    have hyl : y < p.length := by omega
    have hxl : x < (p.headD []).length := by omega
    have e1 : letterB (pgX gs p p.length) l row col = (((p.length - 1 - y : Nat) : Int), (x : Int), true) := by
      rw [letterB_in (by rw [lx, wx]; exact hin), if_pos h1, lx, hy, hx, Prod.mk.injEq]
      exact ⟨by omega, rfl⟩
    have e2 : letterB (pgT gs p p.length) l' row col = ((y : Int), (((p.headD []).length - 1 - x : Nat) : Int), true) := by
      rw [letterB_in (by rw [lt, wt, hd, hr]; exact hin), if_neg (by rw [h2]; simp), wt, hd, hr, hy, hx, Prod.mk.injEq, Prod.mk.injEq]
      exact ⟨rfl, by omega, rfl⟩
    rw [shownB_at e1, shownB_at e2]
    have hr2 : p.length - 1 - y < p.length := by omega
    have hl2 : p[p.length - 1 - y].length = (p.headD []).length := hw _ (List.getElem_mem hr2)
    rw [pgX_chr hr2 (by omega)]
    have ht := pgT_chr (gs := gs) (r := p.length - 1 - y) (c := x) hw hr2 hxl
    rw [show p.length - 1 - (p.length - 1 - y) = y by omega] at ht
    rw [ht]
    unfold asB
    rw [h1, h2, if_pos rfl, if_neg (by simp), xG_turn ok]
end Go.Mac
namespace Go.Mac
open Go Go.Conc Go.Proofs
set_option maxRecDepth 4000
theorem dice_at {h k : List Blk} {r : Option (List Int)} {x : Int} : (h ++ diceB r x :: k)[h.length]? = some (diceB r x) := by
  rw [List.getElem?_append_right (Nat.le_refl _), Nat.sub_self]; rfl
theorem dice_set {h k : List Blk} {r r' : Option (List Int)} {x x' : Int} : (h ++ diceB r x :: k).set h.length (diceB r' x') = h ++ diceB r' x' :: k := by
  rw [List.set_append_right _ _ (Nat.le_refl _), Nat.sub_self]; rfl
theorem role_left {h k : List Blk} (hro : h[0]? = some (.role true)) : (h ++ k)[0]? = some (.role true) := by
  rw [List.getElem?_append_left (List.getElem?_eq_some_iff.1 hro).1]; exact hro
end Go.Mac
namespace Go.Mac
open Go Go.Conc Go.Proofs
set_option maxRecDepth 4000
theorem layErr_of {b : Board} {l : Lay} (h1 : 0 ≤ l.page) (h2 : l.page < b.pages.length) (h3 : -1 ≤ l.down) (h4 : l.down ≤ 1) (h5 : -1 ≤ l.right) (h6 : l.right ≤ 1) : layErr b l = 0 := by
  unfold layErr
  rw [if_neg (by omega), if_neg (by omega)]
end Go.Mac
namespace Go.Mac
open Go Go.Conc Go.Proofs
set_option maxRecDepth 4000
theorem named_ok (gs : List Glyph) (v : Int) (hl : gs.length ≤ 1000) : PureA Try.prog 33 [sliceOf cGlyph gs, .int .i64 v] (.str (namedB gs v)) := by
  refine PureA.of_wpp {} 22 mixed Try.func33 (by kernel_rfl) rfl (by kernel_rfl) (rfl) fun h j hB => ?_
  simp only [junk_succ, junk_zero, List.cons_append, List.nil_append, List.length_cons, List.length_nil, Nat.reduceAdd]
  simp (implicitDefEqProofs := false) (dsimp := false) only [go_sem]
  refine WP.loopI (fun (k : Nat) s => (k ≤ gs.length ∧ namedB (gs.drop k) v = namedB gs v) ∧ s.sl.length = 24 ∧ s.df = [] ∧ s.gh = {} ∧ (s.hp = h) ∧ evA s.sl (.tmp 0) = sliceOf cGlyph gs ∧ evA s.sl (.tmp 1) = .int .i64 v ∧ evA s.sl (.tmp 5) = .int .i64 k) (fun (k : Nat) => gs.length - k) (0) ?_ ?_
  · simp (implicitDefEqProofs := false) (dsimp := false) only [go_sem, Nat.zero_le, List.drop_zero]
  · rintro k ⟨sl, df, hp, gh⟩ ⟨ab, al, rfl, rfl, rfl, a0, a1, a5⟩
    simp only at ab al a0 a1 a5
    obtain ⟨j, rfl⟩ := slots_lit al; clear al; simp only [junk_succ, junk_zero, evA_tmp, nth_16, nth_four, nth_one, nth_zero, Nat.zero_add, Nat.reduceAdd] at  a0 a1 a5 ⊢
    refine wp_ok (so := {}) mixed _ (by kernel_rfl) ?_
    obtain ⟨ak, aq⟩ := ab
    by_cases hk : k < gs.length
    · rw [drop_get hk, namedB] at aq
      simp (implicitDefEqProofs := false) (dsimp := false) only [go_sem, a0, a1, a5, nat_lt hk, decide_true, rowN cGlyph_len hk, rowN_le cGlyph_len hk, cGlyph]
      refine ⟨fun e => ?_, fun e => ⟨k + 1, ⟨⟨by omega, ?_⟩, wrap_succ (by omega)⟩, by omega⟩⟩
      · rw [if_pos e] at aq; exact aq
      · rw [if_neg (by simpa using e)] at aq; exact aq
    · have hs : ((k : Int) < (gs.length : Int)) = False := eq_false (by omega)
      rw [List.drop_eq_nil_of_le (by omega)] at aq
      simp (implicitDefEqProofs := false) (dsimp := false) only [go_sem, a0, a1, a5, hs, decide_false]
      exact aq
theorem turn_all : (List.range 64).all (fun n => turnB (turnB n) == n && mirB (turnB n) == turnB (mirB n) && turnErr n == 0) = true := by kernel_rfl
theorem turn_twice {n : Int} (h : is64 n) : turnB (turnB n) = n ∧ mirB (turnB n) = turnB (mirB n) ∧ turnErr n = 0 := by
  obtain ⟨x, rfl⟩ : ∃ x : Nat, n = x := ⟨n.toNat, by have := h.1; omega⟩
  have := List.all_eq_true.1 turn_all x (List.mem_range.2 (by have := h.2; omega))
  simp only [Bool.and_eq_true, beq_iff_eq] at this
  exact ⟨this.1.1, this.1.2, this.2⟩
theorem Turn64 {n : Int} (h : is64 n) : PureA Try.prog 30 [.int .i64 n] (.tup [.int .i64 (turnB n), .int .i64 0]) := by
  have := turn_ok n
  rw [(turn_twice h).2.2, if_pos rfl] at this
  exact this
theorem Mirror64 {n : Int} (h : is64 n) : PureA Try.prog 31 [.int .i64 n] (.tup [.int .i64 (mirB n), .int .i64 0]) := by
  have := Mirror_ok n
  rw [mirroredB, if_pos ⟨h.1, h.2⟩, mirrorErr, if_pos ⟨h.1, h.2⟩] at this
  exact this
theorem cStr_len1 (l : List (List UInt8)) : (l.flatMap cStr).length = l.length := rows_length (fun _ => rfl) l
theorem strs_leaf (l : List (List UInt8)) : (l.flatMap cStr).all leafA = true := by
  induction l with
  | nil => rfl
  | cons x l ih => rw [List.flatMap_cons, List.all_append, ih]; rfl
theorem one_of {row : List UInt8} {c : Nat} (hc : c < row.length) : (row.drop c).take (c + 1 - c) = [row[c]] := by
  rw [List.drop_eq_getElem_cons hc, Nat.add_sub_cancel_left]; rfl
set_option maxHeartbeats 2000000 in
theorem Turn_walk (r : Option (List Int)) (h : List Blk) (hro : h[0]? = some (.role true)) : CallsA Try.prog 5 [leftA r] h fun e h' => e = .ret (.bool true) ∧ h' = h := by
  refine CallsA.of_wpe [] { shut := [171, 179], cut := [65, 69, 73, 77, 81, 86, 238, 242], hand := [15, 30, 42] } 247 mixed Try.func5 (by kernel_rfl) rfl (by kernel_rfl) fun j hB hA => ?_; simp only [junk_succ, junk_zero, List.cons_append, List.nil_append, List.length_cons, List.length_nil, Nat.reduceAdd]
  simp (implicitDefEqProofs := false) (dsimp := false) only [go_sem]
  refine WP.loopI (fun (n : Nat) s => (n ≤ 64) ∧ s.sl.length = 248 ∧ s.df = [] ∧ s.gh = {} ∧ (s.hp = h) ∧ evA s.sl (.tmp 0) = leftA r ∧ evA s.sl (.tmp 3) = .int .i64 n) (fun (n : Nat) => 64 - n) (0) ?_ ?_
  · simp (implicitDefEqProofs := false) (dsimp := false) only [go_sem, Nat.zero_le]
  · rintro n ⟨sl, df, hp, gh⟩ ⟨ab, al, rfl, rfl, ah, a0, a3⟩
    simp only at ab al ah a0 a3
    obtain ⟨j, rfl⟩ := slots_lit al; clear al; simp only [junk_succ, junk_zero, evA_tmp, nth_16, nth_four, nth_one, nth_zero, Nat.zero_add, Nat.reduceAdd] at  a0 a3 ⊢
    refine wp_ok (so := { shut := [171, 179], cut := [65, 69, 73, 77, 81, 86, 238, 242], hand := [15, 30, 42] }) mixed _ (by kernel_rfl) ?_
    have ah := ah.symm
    subst ah
    by_cases hn : n < 64
    · have hle : ((n : Int) ≤ 63) = True := eq_true (by omega)
      have n64 : is64 (n : Int) := ⟨by omega, by omega⟩
      obtain ⟨t1, t2, _⟩ := turn_twice n64
      obtain ⟨m64, tn64⟩ := mirB64 n64
      simp (implicitDefEqProofs := false) (dsimp := false) only [go_sem, a0, a3, hle, decide_true]
      (first | refine CallsA.use (Turn64 n64) ?_ | refine QuietCalls.use (Turn64 n64) ?_)
      simp (implicitDefEqProofs := false) (dsimp := false) only [go_sem]
      (first | refine CallsA.use (Turn64 tn64) ?_ | refine QuietCalls.use (Turn64 tn64) ?_)
      simp (implicitDefEqProofs := false) (dsimp := false) only [go_sem]
      (first | refine CallsA.use (Mirror64 tn64) ?_ | refine QuietCalls.use (Mirror64 tn64) ?_)
      simp (implicitDefEqProofs := false) (dsimp := false) only [go_sem]
      (first | refine CallsA.use (Mirror64 n64) ?_ | refine QuietCalls.use (Mirror64 n64) ?_)
      simp (implicitDefEqProofs := false) (dsimp := false) only [go_sem]
      (first | refine CallsA.use (Turn64 m64) ?_ | refine QuietCalls.use (Turn64 m64) ?_)
      simp (implicitDefEqProofs := false) (dsimp := false) only [go_sem, t1, t2, bne_self_eq_false]
      exact ⟨n + 1, ⟨by omega, wrap_succ (by omega)⟩, by omega⟩
    · have hle : ((n : Int) ≤ 63) = False := eq_false (by omega)
      simp (implicitDefEqProofs := false) (dsimp := false) only [go_sem, a0, a3, hle, decide_false]
      refine CallsA.mono (NewDice_ok r _) ?_
      rintro _ _ ⟨rfl, rfl⟩
      simp (implicitDefEqProofs := false) (dsimp := false) only [go_sem]
      refine CallsA.mono (BlankOf_walk false _ _ r 1 5 1 2 3 (by omega) (by omega) (by omega) (by omega) dice_at) ?_
      intro e1 h1 q1
      obtain ⟨b, r, x, okb, rfl, rfl⟩ := q1.pure
      rw [dice_set]
      have okm := okb.made
      have hpos := okm.pos
      have hp1 : b.pages.length = 1 := by have := okb.pl; omega
      have m3 := okm.cells.most
      have m4 := okm.cells.wmost
      have hgl := okm.gl.most
      generalize diceB r x = D
      obtain ⟨p, hp⟩ : ∃ p, p = b.pages[0] := ⟨_, rfl⟩
      have okp : madePage b.glyphs p := by rw [hp]; exact okm.page _ (List.getElem_mem _)
      have p3 := okp.1.most
      have pw := okp.1.wmost
      have hpw : ∀ k (hk : k < p.length), p[k].length = (p.headD []).length := fun k hk => okp.1.wide _ (List.getElem_mem hk)
      have hr0 : (b.pages.flatMap cPage).getD 0 .any = sliceOf cStr p := by
        have h1 := row1 cPage_len hpos
        rw [hp]
        rw [List.drop_zero] at h1
        rw [h1]; rfl
      have hl0 : ∀ k, k ≤ 1 → k ≤ (b.pages.flatMap cPage).length := fun k hk => by rw [cPage_len1]; omega
      have hll : (b.pages.flatMap cPage).length = b.pages.length := cPage_len1 _
      have h0l : ((0 : Int) < (b.pages.length : Int)) = True := eq_true (by omega)
      have h1l : (1 ≤ b.pages.length) = True := eq_true (by omega)
      simp (implicitDefEqProofs := false) (dsimp := false) only [go_sem, brdA]
      refine WPI.turn (Turns.nilSlot (d := 15) (sz := 1) ?_) ?_
      · simp (implicitDefEqProofs := false) (dsimp := false) only [go_sem]
      refine wp_shut [16] (so := { shut := [171, 179], cut := [65, 69, 73, 77, 81, 86, 238, 242], }) mixed _ (by kernel_rfl) ?_
      simp (implicitDefEqProofs := false) (dsimp := false) only [go_sem]
      refine WP.loopI (fun (q : Nat) s => (q ≤ p.length) ∧ s.sl.length = 248 ∧ s.df = [] ∧ s.gh = {} ∧ (∃ J, s.hp = h ++ D :: .cells 0 (brdA b) :: .cells q ((pgX b.glyphs p q).flatMap cStr) :: J) ∧ evA s.sl (.tmp 14) = .ptr ⟨h.length + 1, 0⟩ 0 ∧ evA s.sl (.tmp 15) = .sl ⟨h.length + 2, q⟩ 1 0 q ∧ evA s.sl (.tmp 16) = .psl ((pgT b.glyphs p q).flatMap cStr) q ∧ evA s.sl (.tmp 17) = .int .i64 q) (fun (q : Nat) => p.length - q) (0) ?_ ?_
      · simp (implicitDefEqProofs := false) (dsimp := false) only [go_sem, Nat.zero_le, brdA]
        exact ⟨⟨_, rfl, rfl⟩, rfl⟩
      · rintro q ⟨sl, df, hp, gh⟩ ⟨cb, cl, rfl, rfl, ch, c14, c15, c16, c17⟩
        simp only at cb cl ch c14 c15 c16 c17
        obtain ⟨j, rfl⟩ := slots_lit cl; clear cl; simp only [junk_succ, junk_zero, evA_tmp, nth_16, nth_four, nth_one, nth_zero, Nat.zero_add, Nat.reduceAdd] at  c14 c15 c16 c17 ⊢
        refine wp_ok (so := { shut := [171, 179], cut := [65, 69, 73, 77, 81, 86, 238, 242], hand := [15, 30, 42] }) mixed _ (by kernel_rfl) ?_
        obtain ⟨J, rfl⟩ := ch
        by_cases hq : q < p.length
        · have hqw := hpw q hq
          simp (implicitDefEqProofs := false) (dsimp := false) only [go_sem, c14, c15, c16, c17, brdA, hr0, hll, h0l, h1l, Nat.zero_le, nat_lt hq, decide_true]
          refine WP.loopI (fun (k : Nat) s => (k ≤ (p.headD []).length) ∧ s.sl.length = 248 ∧ s.df = [] ∧ s.gh = {} ∧ (s.hp = h ++ D :: .cells 0 (brdA b) :: .cells q ((pgX b.glyphs p q).flatMap cStr) :: J) ∧ evA s.sl (.tmp 14) = .ptr ⟨h.length + 1, 0⟩ 0 ∧ evA s.sl (.tmp 15) = .sl ⟨h.length + 2, q⟩ 1 0 q ∧ evA s.sl (.tmp 16) = .psl ((pgT b.glyphs p q).flatMap cStr) q ∧ evA s.sl (.tmp 17) = .int .i64 q ∧ evA s.sl (.tmp 18) = .str ((p[q].take k).map (xG b.glyphs)) ∧ evA s.sl (.tmp 19) = .str ((p[q].take k).map (tG b.glyphs)).reverse ∧ evA s.sl (.tmp 20) = .int .i64 k) (fun (k : Nat) => (p.headD []).length - k) (0) ?_ ?_
          · simp (implicitDefEqProofs := false) (dsimp := false) only [go_sem, Nat.zero_le, brdA]
            rfl
          · rintro k ⟨sl, df, hp, gh⟩ ⟨db, dl, rfl, rfl, rfl, d14, d15, d16, d17, d18, d19, d20⟩
            simp only at db dl d14 d15 d16 d17 d18 d19 d20
            obtain ⟨j, rfl⟩ := slots_lit dl; clear dl; simp only [junk_succ, junk_zero, evA_tmp, nth_16, nth_four, nth_one, nth_zero, Nat.zero_add, Nat.reduceAdd] at  d14 d15 d16 d17 d18 d19 d20 ⊢
            refine wp_ok (so := { shut := [171, 179], cut := [65, 69, 73, 77, 81, 86, 238, 242], hand := [15, 30, 42] }) mixed _ (by kernel_rfl) ?_
            by_cases hk : k < (p.headD []).length
            · have hkl : k < p[q].length := by omega
              have hone := one_of hkl
              have hk1 := wrap_succ (i := k) (by omega)
              simp (implicitDefEqProofs := false) (dsimp := false) only [go_sem, d14, d15, d16, d17, d18, d19, d20, brdA, hr0, hll, h0l, h1l, Nat.zero_le, nat_lt hq, nat_lt hk, decide_true, row1 cStr_len hq, row1_le cStr_len hq, cStr, hqw]
              refine WP.loopI (fun (g : Nat) s => (g ≤ b.glyphs.length) ∧ s.sl.length = 248 ∧ s.df = [] ∧ s.gh = {} ∧ (s.hp = h ++ D :: .cells 0 (brdA b) :: .cells q ((pgX b.glyphs p q).flatMap cStr) :: J) ∧ evA s.sl (.tmp 14) = .ptr ⟨h.length + 1, 0⟩ 0 ∧ evA s.sl (.tmp 15) = .sl ⟨h.length + 2, q⟩ 1 0 q ∧ evA s.sl (.tmp 16) = .psl ((pgT b.glyphs p q).flatMap cStr) q ∧ evA s.sl (.tmp 17) = .int .i64 q ∧ evA s.sl (.tmp 18) = .str ((p[q].take k).map (xG b.glyphs)) ∧ evA s.sl (.tmp 19) = .str ((p[q].take k).map (tG b.glyphs)).reverse ∧ evA s.sl (.tmp 20) = .int .i64 k ∧ evA s.sl (.tmp 21) = .str [45] ∧ evA s.sl (.tmp 22) = .str (yTo b.glyphs p[q][k] g) ∧ evA s.sl (.tmp 23) = .int .i64 g) (fun (g : Nat) => b.glyphs.length - g) (0) ?_ ?_
              · simp (implicitDefEqProofs := false) (dsimp := false) only [go_sem, Nat.zero_le, brdA]
                rfl
              · rintro g ⟨sl, df, hp, gh⟩ ⟨eb, el, rfl, rfl, rfl, e14, e15, e16, e17, e18, e19, e20, e21, e22, e23⟩
                simp only at eb el e14 e15 e16 e17 e18 e19 e20 e21 e22 e23
                obtain ⟨j, rfl⟩ := slots_lit el; clear el; simp only [junk_succ, junk_zero, evA_tmp, nth_16, nth_four, nth_one, nth_zero, Nat.zero_add, Nat.reduceAdd] at  e14 e15 e16 e17 e18 e19 e20 e21 e22 e23 ⊢
                refine wp_ok (so := { shut := [171, 179], cut := [65, 69, 73, 77, 81, 86, 238, 242], hand := [15, 30, 42] }) mixed _ (by kernel_rfl) ?_
                by_cases hg : g < b.glyphs.length
                · obtain ⟨hg1, _⟩ := okm.gl.one _ (List.getElem_mem hg)
                  have hkle : ((k : Int) ≤ ((k + 1 : Nat) : Int)) = True := eq_true (by omega)
                  have hkw : (((k + 1 : Nat) : Int) ≤ ((p.headD []).length : Int)) = True := eq_true (by omega)
                  have hys := yTo_succ (c := p[q][k]) hg
                  by_cases hnm : b.glyphs[g].name = [p[q][k]]
                  · have hb : (b.glyphs[g].name == [p[q][k]]) = true := by rw [hnm]; exact beq_self_eq_true _
                    rw [if_pos hnm] at hys
                    simp (implicitDefEqProofs := false) (dsimp := false) only [go_sem, e14, e15, e16, e17, e18, e19, e20, e21, e22, e23, brdA, hr0, hll, h0l, h1l, Nat.zero_le, nat_lt hq, nat_lt hg, nat_lt hk, decide_true, row1 cStr_len hq, row1_le cStr_len hq, cStr, hqw, names_drop hg, names_le hg, hk1, hone, rowN cGlyph_len hg, rowN_le cGlyph_len hg, cGlyph, hkle, hkw, hg1, hb]
                    (first | refine CallsA.use (HalfOf_ok _) ?_ | refine QuietCalls.use (HalfOf_ok _) ?_)
                    simp (implicitDefEqProofs := false) (dsimp := false) only [go_sem]
                    (first | refine CallsA.use (named_ok b.glyphs _ (by omega)) ?_ | refine QuietCalls.use (named_ok b.glyphs _ (by omega)) ?_)
                    simp (implicitDefEqProofs := false) (dsimp := false) only [go_sem, brdA]
                    exact ⟨g + 1, ⟨by omega, hys.symm, wrap_succ (by omega)⟩, by omega⟩
                  · have hb : (b.glyphs[g].name == [p[q][k]]) = false := by simpa using hnm
                    rw [if_neg hnm] at hys
                    simp (implicitDefEqProofs := false) (dsimp := false) only [go_sem, e14, e15, e16, e17, e18, e19, e20, e21, e22, e23, brdA, hr0, hll, h0l, h1l, Nat.zero_le, nat_lt hq, nat_lt hg, nat_lt hk, decide_true, row1 cStr_len hq, row1_le cStr_len hq, cStr, hqw, names_drop hg, names_le hg, hk1, hone, rowN cGlyph_len hg, rowN_le cGlyph_len hg, cGlyph, hkle, hkw, hg1, hb]
                    exact ⟨g + 1, ⟨by omega, hys.symm, wrap_succ (by omega)⟩, by omega⟩
                · have hs : ((g : Int) < (b.glyphs.length : Int)) = False := eq_false (by omega)
                  have eg : g = b.glyphs.length := by omega
                  subst eg
                  rw [(tG_spec okm.gl p[q][k]).1] at e22
                  by_cases ht : tG b.glyphs p[q][k] = 45
                  · have hb : ([tG b.glyphs p[q][k]] == [45]) = true := by rw [ht]; rfl
                    simp (implicitDefEqProofs := false) (dsimp := false) only [go_sem, e14, e15, e16, e17, e18, e19, e20, e21, e22, e23, brdA, hs, decide_false, hb]
                    refine ⟨by rw [List.length_map, List.length_take]; omega, by rw [List.length_reverse, List.length_map, List.length_take]; omega, k + 1, ⟨by omega, ?_, ?_, hk1⟩, by omega⟩
                    · rw [List.take_succ_eq_append_getElem hkl, List.map_append]; simp [xG, ht]
                    · rw [List.take_succ_eq_append_getElem hkl, List.map_append, List.reverse_append]; rfl
                  · have hb : ([tG b.glyphs p[q][k]] == [45]) = false := by simpa using ht
                    simp (implicitDefEqProofs := false) (dsimp := false) only [go_sem, e14, e15, e16, e17, e18, e19, e20, e21, e22, e23, brdA, hs, decide_false, hb, hr0, hll, h0l, h1l, Nat.zero_le, nat_lt hq, nat_lt hk, decide_true, row1 cStr_len hq, row1_le cStr_len hq, cStr, hqw, hk1, hone]
                    refine ⟨⟨by omega, by omega⟩, by rw [List.length_map, List.length_take]; omega, by rw [List.length_reverse, List.length_map, List.length_take]; omega, k + 1, ⟨by omega, ?_, ?_, rfl⟩, by omega⟩
                    · rw [List.take_succ_eq_append_getElem hkl, List.map_append]; simp [xG, ht]
                    · rw [List.take_succ_eq_append_getElem hkl, List.map_append, List.reverse_append]; rfl
            · have hs : ((k : Int) < ((p.headD []).length : Int)) = False := eq_false (by omega)
              have ek : k = (p.headD []).length := by omega
              have hJ : ∀ y : Blk, (J ++ [y])[J.length]? = some y := fun y => by simp
              have hJs : ∀ y z : Blk, (J ++ [y]).set J.length z = J ++ [z] := fun y z => by simp
              have hxl : ((pgX b.glyphs p q).flatMap cStr).length = q := by rw [cStr_len1, pgX_len (by omega)]
              have htl : ((pgT b.glyphs p q).flatMap cStr).length = q := by rw [cStr_len1, pgT_len (by omega)]
              have htk : ((pgT b.glyphs p q).flatMap cStr).take q = (pgT b.glyphs p q).flatMap cStr := List.take_of_length_le (by omega)
              simp (implicitDefEqProofs := false) (dsimp := false) only [go_sem, d14, d15, d16, d17, d18, d19, d20, brdA, hr0, hll, h0l, h1l, Nat.zero_le, nat_lt hq, hs, decide_false, row1 cStr_len hq, row1_le cStr_len hq, cStr, hqw, hJ, hJs, hxl, htl, htk]
              have hlf : ((pgT b.glyphs p q).flatMap cStr).all leafA = true := strs_leaf _
              refine ⟨by omega, ⟨hlf, by omega⟩, ?_⟩
              refine wp_shut [16] (so := { shut := [171, 179], cut := [65, 69, 73, 77, 81, 86, 238, 242], }) mixed _ (by kernel_rfl) ?_
              simp (implicitDefEqProofs := false) (dsimp := false) only [go_sem, hJ, hJs]
              have etk : p[q].take k = p[q] := List.take_of_length_le (by omega)
              rw [etk]
              refine ⟨q + 1, ⟨by omega, ⟨_, ⟨rfl, ?_⟩, rfl⟩, rfl, ?_, wrap_succ (by omega)⟩, by omega⟩
              · rw [pgX_succ hq, List.flatMap_append]; rfl
              · rw [pgT_succ hq, List.flatMap_cons, List.take_of_length_le (by rw [List.length_cons, htl]; omega), Nat.add_comm 1 q]; rfl
        · have hs : ((q : Int) < (p.length : Int)) = False := eq_false (by omega)
          have eq2 : q = p.length := by omega
          subst eq2
          simp (implicitDefEqProofs := false) (dsimp := false) only [go_sem, c14, c15, c16, c17, brdA, hr0, hll, h0l, h1l, Nat.zero_le, hs, decide_false]
          have hxk : ((pgX b.glyphs p p.length).flatMap cStr).take p.length = (pgX b.glyphs p p.length).flatMap cStr := List.take_of_length_le (by rw [cStr_len1, pgX_len (Nat.le_refl _)]; exact Nat.le_refl _)
          have hbx : ∀ m, belowL m ((pgX b.glyphs p p.length).flatMap cStr) = true := fun m => below_strs _ m
          have hbt : ∀ m, belowL m ((pgT b.glyphs p p.length).flatMap cStr) = true := fun m => below_strs _ m
          refine wp_shut [15] (so := { shut := [171, 179], cut := [65, 69, 73, 77, 81, 86, 238, 242], }) mixed _ (by kernel_rfl) ?_
          simp (implicitDefEqProofs := false) (dsimp := false) only [go_sem, hxk, hbx, hbt]
          (first | refine CallsA.use (LaysOf_ok 1 (by omega)) ?_ | refine QuietCalls.use (LaysOf_ok 1 (by omega)) ?_)
          obtain ⟨b2, hb2⟩ : ∃ b2 : Board, b2 = { b with pages := [pgX b.glyphs p p.length, pgT b.glyphs p p.length] } := ⟨_, rfl⟩
          have hg2 : b2.glyphs = b.glyphs := by rw [hb2]
          have hc2 : b2.cells = b.cells := by rw [hb2]
          have okx : okMade b2 := by
            rw [hb2]
            refine ⟨okm.gl, by simp, by simp, fun x hx => ?_, okm.cells, okm.trace⟩
            simp only [List.mem_cons, List.not_mem_nil, or_false] at hx
            rcases hx with rfl | rfl
            · exact (pgX_made okp).1
            · exact (pgT_made okm.gl okp).1
          have hbA : [sliceOf cGlyph b.glyphs, .psl [.psl ((pgX b.glyphs p p.length).flatMap cStr) p.length, .psl ((pgT b.glyphs p p.length).flatMap cStr) p.length] 2, sliceOf cTraces b.cells] = brdA b2 := by
            rw [hb2]
            simp only [brdA, sliceOf, List.flatMap_cons, List.flatMap_nil, cPage, List.cons_append, List.nil_append, List.length_cons, List.length_nil, pgX_len (Nat.le_refl _), pgT_len (Nat.le_refl _), Nat.zero_add, Nat.reduceAdd]
          simp only [sliceOf] at hbA
          have x3 := okx.cells.most
          have x4 : wideB b2 ≤ 4 := okx.cells.wmost
          simp (implicitDefEqProofs := false) (dsimp := false) only [go_sem, hbA, laysTo_len]
          refine WP.loopI (fun (i : Nat) s => (i ≤ 18) ∧ s.sl.length = 248 ∧ s.df = [] ∧ s.gh = {} ∧ (∃ J, s.hp = h ++ D :: .cells 0 (brdA b2) :: J) ∧ evA s.sl (.tmp 14) = .ptr ⟨h.length + 1, 0⟩ 0 ∧ evA s.sl (.tmp 24) = .psl ((laysTo 18).flatMap cLay) 18 ∧ evA s.sl (.tmp 25) = .int .i64 i) (fun (i : Nat) => 18 - i) (0) ?_ ?_
          · simp (implicitDefEqProofs := false) (dsimp := false) only [go_sem, Nat.zero_le]
          · rintro i ⟨sl, df, hp, gh⟩ ⟨ab, al, rfl, rfl, ah, a14, a24, a25⟩
            simp only at ab al ah a14 a24 a25
            obtain ⟨j, rfl⟩ := slots_lit al; clear al; simp only [junk_succ, junk_zero, evA_tmp, nth_16, nth_four, nth_one, nth_zero, Nat.zero_add, Nat.reduceAdd] at  a14 a24 a25 ⊢
            refine wp_ok (so := { shut := [171, 179], cut := [65, 69, 73, 77, 81, 86, 238, 242], hand := [15, 30, 42] }) mixed _ (by kernel_rfl) ?_
            obtain ⟨J, rfl⟩ := ah
            by_cases hi : i < 18
            · have hil : i < (laysTo 18).length := by rw [laysTo_len]; exact hi
              have hget : (laysTo 18)[i] = layK i := laysTo_get hi
              have his : ((i : Int) < 18) = True := eq_true (by omega)
              have e0 : layK i = layN ((0 : Nat) : Int) i := by rw [layK, show i / 18 = 0 by omega, show i % 18 = i by omega]
              by_cases ht : (layK i).turned = true
              · simp (implicitDefEqProofs := false) (dsimp := false) only [go_sem, a14, a24, a25, brdA, his, decide_true, rowN cLay_len hil, rowN_le cLay_len hil, hget, cLay, ht]
                exact ⟨i + 1, ⟨by omega, wrap_succ (by omega)⟩, by omega⟩
              · have htf : (layK i).turned = false := by simpa using ht
                simp (implicitDefEqProofs := false) (dsimp := false) only [go_sem, a14, a24, a25, brdA, his, decide_true, rowN cLay_len hil, rowN_le cLay_len hil, hget, cLay, htf]
                refine WP.loopI (fun (r : Nat) s => (r ≤ b2.cells.length) ∧ s.sl.length = 248 ∧ s.df = [] ∧ s.gh = {} ∧ (∃ J, s.hp = h ++ D :: .cells 0 (brdA b2) :: J) ∧ evA s.sl (.tmp 14) = .ptr ⟨h.length + 1, 0⟩ 0 ∧ evA s.sl (.tmp 24) = .psl ((laysTo 18).flatMap cLay) 18 ∧ evA s.sl (.tmp 25) = .int .i64 i ∧ evA s.sl (.tmp 26) = .int .i64 r) (fun (r : Nat) => b2.cells.length - r) (0) ?_ ?_
                · simp (implicitDefEqProofs := false) (dsimp := false) only [go_sem, Nat.zero_le, brdA]
                · rintro r ⟨sl, df, hp, gh⟩ ⟨cb, cl, rfl, rfl, ch, c14, c24, c25, c26⟩
                  simp only at cb cl ch c14 c24 c25 c26
                  obtain ⟨j, rfl⟩ := slots_lit cl; clear cl; simp only [junk_succ, junk_zero, evA_tmp, nth_16, nth_four, nth_one, nth_zero, Nat.zero_add, Nat.reduceAdd] at  c14 c24 c25 c26 ⊢
                  refine wp_ok (so := { shut := [171, 179], cut := [65, 69, 73, 77, 81, 86, 238, 242], hand := [15, 30, 42] }) mixed _ (by kernel_rfl) ?_
                  obtain ⟨J, rfl⟩ := ch
                  by_cases hr : r < b2.cells.length
                  · simp (implicitDefEqProofs := false) (dsimp := false) only [go_sem, c14, c24, c25, c26, brdA, nat_lt hr, decide_true]
                    refine WP.loopI (fun (c : Nat) s => (c ≤ wideB b2) ∧ s.sl.length = 248 ∧ s.df = [] ∧ s.gh = {} ∧ (∃ J, s.hp = h ++ D :: .cells 0 (brdA b2) :: J) ∧ evA s.sl (.tmp 14) = .ptr ⟨h.length + 1, 0⟩ 0 ∧ evA s.sl (.tmp 24) = .psl ((laysTo 18).flatMap cLay) 18 ∧ evA s.sl (.tmp 25) = .int .i64 i ∧ evA s.sl (.tmp 26) = .int .i64 r ∧ evA s.sl (.tmp 27) = .int .i64 c) (fun (c : Nat) => wideB b2 - c) (0) ?_ ?_
                    · simp (implicitDefEqProofs := false) (dsimp := false) only [go_sem, Nat.zero_le, brdA]
                    · rintro c ⟨sl, df, hp, gh⟩ ⟨db, dl, rfl, rfl, dh, d14, d24, d25, d26, d27⟩
                      simp only at db dl dh d14 d24 d25 d26 d27
                      obtain ⟨j, rfl⟩ := slots_lit dl; clear dl; simp only [junk_succ, junk_zero, evA_tmp, nth_16, nth_four, nth_one, nth_zero, Nat.zero_add, Nat.reduceAdd] at  d14 d24 d25 d26 d27 ⊢
                      refine wp_ok (so := { shut := [171, 179], cut := [65, 69, 73, 77, 81, 86, 238, 242], hand := [15, 30, 42] }) mixed _ (by kernel_rfl) ?_
                      obtain ⟨J, rfl⟩ := dh
                      have hw : b2.cells[r].length = wideB b2 := okx.cells.row hr
                      by_cases hc : c < wideB b2
                      · obtain ⟨s1, s2⟩ := layK_small i
                        have hp2 : b2.pages.length = 2 := by rw [hb2]; rfl
                        have he0 : layErr b2 (layK i) = 0 := by rw [e0]; exact layK_ok (by omega) (by omega)
                        obtain ⟨_, _, e3, e4, e5, e6⟩ := layErr_zero he0
                        have z1 : (layK i).page = 0 := by rw [e0]; rfl
                        have he1 : layErr b2 { layK i with turned := true } = 0 := layErr_of (by show 0 ≤ (layK i).page; omega) (by show (layK i).page < b2.pages.length; omega) e3 e4 e5 e6
                        have he2 : layErr b2 { layK i with page := 1 } = 0 := layErr_of (by show (0 : Int) ≤ 1; omega) (by show (1 : Int) < b2.pages.length; omega) e3 e4 e5 e6
                        have hS1 := Shown_ok b2 { layK i with turned := true } r c s1 s2
                        have hS2 := Shown_ok b2 { layK i with page := 1 } r c s1 s2
                        have hsame : showAt b2 { layK i with turned := true } (r * wideB b2 + c) = showAt b2 { layK i with page := 1 } (r * wideB b2 + c) := by
                          rw [seen_show okx hc, seen_show okx hc]
                          have q1 : seenL b2 { layK i with turned := true } r c = shownB (mapB b.glyphs) (pgX b.glyphs p p.length) { layK i with turned := true } r c := by
                            unfold seenL
                            rw [show ({ layK i with turned := true } : Lay).page.toNat = 0 by show (layK i).page.toNat = 0; rw [z1]; rfl, hb2]; rfl
                          have q2 : seenL b2 { layK i with page := 1 } r c = shownB (mapB b.glyphs) (pgT b.glyphs p p.length) { layK i with page := 1 } r c := by
                            unfold seenL
                            rw [show ({ layK i with page := 1 } : Lay).page.toNat = 1 from rfl, hb2]; rfl
                          rw [q1, q2]
                          exact turned_shows okm.gl okp (l := { layK i with turned := true }) (l' := { layK i with page := 1 }) rfl htf rfl rfl r c
                        rw [Shown_good okx he1 hr hc, hsame] at hS1
                        rw [Shown_good okx he2 hr hc] at hS2
                        simp only [pairA] at hS1 hS2
                        generalize showAt b2 { layK i with page := 1 } (r * wideB b2 + c) = z at hS1 hS2
                        have hself : (z != z) = false := bne_self_eq_false _
                        simp (implicitDefEqProofs := false) (dsimp := false) only [go_sem, d14, d24, d25, d26, d27, brdA, nat_lt hr, nat_lt hc, decide_true, row1 cTraces_len hr, row1_le cTraces_len hr, cTraces, hw]
                        refine WP.twoNew (h.length + (J.length + 2)) (h.length + (J.length + 3)) (by simp <;> omega) (by omega) (so := { shut := [171, 179], cut := [65, 69, 73, 77, 81, 86, 238, 242], }) 11 8 9 10 44 (cLay (layK i)) rfl mixed (by kernel_rfl) (by kernel_rfl) (by decide) (by kernel_rfl) ty44 rfl ?_
                        have hJ0 : ∀ x y : Blk, (J ++ [x, y])[J.length]? = some x := fun x y => by simp
                        have hJ1 : ∀ x y : Blk, (J ++ [x, y])[J.length + 1]? = some y := fun x y => by rw [List.getElem?_append_right (by omega), Nat.add_sub_cancel_left]; rfl
                        have hS0 : ∀ x y z : Blk, (J ++ [x, y]).set J.length z = J ++ [z, y] := fun x y z => by simp
                        have hS1' : ∀ x y z : Blk, (J ++ [x, y]).set (J.length + 1) z = J ++ [x, z] := fun x y z => by rw [List.set_append_right _ _ (by omega), Nat.add_sub_cancel_left]; rfl
                        simp (implicitDefEqProofs := false) (dsimp := false) only [go_sem, his, rowN cLay_len hil, rowN_le cLay_len hil, hget, cLay, hJ0, hJ1, hS0, hS1']
                        (first | refine CallsA.use (hS1) ?_ | refine QuietCalls.use (hS1) ?_)
                        simp (implicitDefEqProofs := false) (dsimp := false) only [go_sem, hJ0, hJ1, hS0, hS1']
                        (first | refine CallsA.use (hS2) ?_ | refine QuietCalls.use (hS2) ?_)
                        simp (implicitDefEqProofs := false) (dsimp := false) only [go_sem, hself, brdA]
                        exact ⟨c + 1, ⟨by omega, wrap_succ (by omega)⟩, by omega⟩
                      · have hs : ((c : Int) < (wideB b2 : Int)) = False := eq_false (by omega)
                        simp (implicitDefEqProofs := false) (dsimp := false) only [go_sem, d14, d24, d25, d26, d27, brdA, nat_lt hr, hs, decide_false, row1 cTraces_len hr, row1_le cTraces_len hr, cTraces, hw]
                        exact ⟨r + 1, ⟨by omega, wrap_succ (by omega)⟩, by omega⟩
                  · have hs : ((r : Int) < (b2.cells.length : Int)) = False := eq_false (by omega)
                    simp (implicitDefEqProofs := false) (dsimp := false) only [go_sem, c14, c24, c25, c26, brdA, hs, decide_false]
                    exact ⟨i + 1, ⟨by omega, wrap_succ (by omega)⟩, by omega⟩
            · have hs : ((i : Int) < 18) = False := eq_false (by omega)
              simp (implicitDefEqProofs := false) (dsimp := false) only [go_sem, a14, a24, a25, brdA, hs, decide_false]
              refine QuietAt.use (pressed_ok _ (role_left hro)) ?_
              simp (implicitDefEqProofs := false) (dsimp := false) only [go_sem]
              exact quiet_fine hB rfl
end Go.Mac


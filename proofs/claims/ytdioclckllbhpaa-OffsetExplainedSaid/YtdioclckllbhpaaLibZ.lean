/- A part of the logic and of the contracts of the functions that the statement reaches; the statement itself is proved in the last text. -/
import Derived.Test.YtdioclckllbhpaaLibD
import Derived.Test.YtdioclckllbhpaaLibF

set_option linter.all false
set_option linter.unusedVariables false
set_option linter.unusedSimpArgs false
set_option linter.unnecessarySimpa false
namespace Go.Mac
open Go Go.Conc Go.Proofs
set_option maxRecDepth 4000
def andTo (fs : List (Lay × List Int)) (i k : Nat) : Int := (fs.take k).foldl (fun a f => andK .i64 a (f.2.getD i 0)) 63
def orTo (fs : List (Lay × List Int)) (i k : Nat) : Int := (fs.take k).foldl (fun a f => orK .i64 a (f.2.getD i 0)) 0
theorem andTo_succ {fs : List (Lay × List Int)} {i k : Nat} (h : k < fs.length) : andTo fs i (k + 1) = andK .i64 (andTo fs i k) (fs[k].2.getD i 0) := by
  rw [andTo, List.take_succ_eq_append_getElem h, List.foldl_append]; rfl
theorem orTo_succ {fs : List (Lay × List Int)} {i k : Nat} (h : k < fs.length) : orTo fs i (k + 1) = orK .i64 (orTo fs i k) (fs[k].2.getD i 0) := by
  rw [orTo, List.take_succ_eq_append_getElem h, List.foldl_append]; rfl
def StrokesR (b : Board) (row col : Int) : Int × Int × Int :=
  if boardErr b ≠ 0 then (0, 0, boardErr b)
  else if cellB b row col = false then (0, 0, 3)
  else if (laysB b).length = 0 then (0, 0, 9)
  else (andTo (laysB b) (4 * row.toNat + col.toNat) (laysB b).length, orTo (laysB b) (4 * row.toNat + col.toNat) (laysB b).length, 0)
def tri (x : Int × Int × Int) : AV := .tup [.int .i64 x.1, .int .i64 x.2.1, .int .i64 x.2.2]
theorem laysB_face {b : Board} (x) (hx : x ∈ laysB b) : x.2.length = 12 := by
  unfold laysB rightsB at hx
  have := (List.mem_filter.1 hx).1
  obtain ⟨k, hk, rfl⟩ := List.mem_iff_getElem.1 this
  exact allWays_face k hk
theorem laysB_le {b : Board} (ok : okBoard b) : (laysB b).length ≤ 72 := by
  unfold laysB rightsB
  have h1 := List.length_filter_le (rightB b) (allWays b (mapB b.glyphs))
  have h2 := allWays_len b (mapB b.glyphs)
  have := ok.most
  omega
theorem Strokes_ok (b : Board) (row col : Int) : PureA Try.prog 48 [.agg (brdA b), .int .i64 row, .int .i64 col] (tri (StrokesR b row col)) := by
  refine PureA.of_wpp {} 55 mixed Try.func48 (by kernel_rfl) rfl (by kernel_rfl) (rfl) fun h j hB => ?_
  simp only [junk_succ, junk_zero, List.cons_append, List.nil_append, List.length_cons, List.length_nil, Nat.reduceAdd]
  simp (implicitDefEqProofs := false) (dsimp := false) only [go_sem, brdA]
  refine open_use (fun e0 => ?_) (fun e1 e2 x y z t f1 f2 f3 f4 => ?_)
  · have okb := okBoard.of e0
    simp (implicitDefEqProofs := false) (dsimp := false) only [go_sem, bdA]
    (first | refine CallsA.use (hasCell_ok b (mapB b.glyphs) row col okb.cells.pos) ?_ | refine QuietCalls.use (hasCell_ok b (mapB b.glyphs) row col okb.cells.pos) ?_)
    simp (implicitDefEqProofs := false) (dsimp := false) only [go_sem]
    refine ⟨fun c1 => ?_, fun c1 => ?_⟩
    · have c2 : cellB b row col = false := by simpa only [cellB, Bool.not_eq_true'] using c1
      rw [StrokesR, if_neg (by simp [e0]), if_pos c2]; rfl
    · have c2 : cellB b row col = true := by simpa [cellB] using c1
      have c3 := c2
      simp only [cellB, Bool.and_eq_true, decide_eq_true_eq] at c3
      have g1 := okb.cells.most
      have g2 := okb.cells.wmost
      have hn := laysB_le okb
      (first | refine CallsA.use (rights_ok b (mapB b.glyphs) okb) ?_ | refine QuietCalls.use (rights_ok b (mapB b.glyphs) okb) ?_)
      simp (implicitDefEqProofs := false) (dsimp := false) only [go_sem, len_eq0]
      refine ⟨fun c4 => ?_, fun c4 => ?_⟩
      · have c5 : (laysB b).length = 0 := by simpa [laysB] using c4
        rw [StrokesR, if_neg (by simp [e0]), if_neg (by simp [c2]), if_pos c5]; rfl
      · have c5 : (laysB b).length ≠ 0 := by simpa [laysB] using c4
        have hres : StrokesR b row col = (andTo (laysB b) (4 * row.toNat + col.toNat) (laysB b).length, orTo (laysB b) (4 * row.toNat + col.toNat) (laysB b).length, 0) := by
          rw [StrokesR, if_neg (by simp [e0]), if_neg (by simp [c2]), if_neg c5]
        rw [hres]
        obtain ⟨r', rfl⟩ : ∃ r' : Nat, row = r' := ⟨row.toNat, by omega⟩
        obtain ⟨c', rfl⟩ : ∃ c' : Nat, col = c' := ⟨col.toNat, by omega⟩
        have hr3 : r' < 3 := by omega
        have hc4 : c' < 4 := by omega
        have hr3' : ((r' : Int) < 3) = True := eq_true (by omega)
        have hc4' : ((c' : Int) < 4) = True := eq_true (by omega)
        refine WP.loopI (fun (k : Nat) s => (k ≤ (laysB b).length) ∧ s.sl.length = 58 ∧ s.df = [] ∧ s.gh = {} ∧ (∃ J, s.hp = h ++ .cells 0 (brdA b) :: .cells 0 (bdA b (mapB b.glyphs)) :: J) ∧ evA s.sl (.tmp 1) = .int .i64 r' ∧ evA s.sl (.tmp 2) = .int .i64 c' ∧ evA s.sl (.tmp 6) = .int .i64 (andTo (laysB b) (4 * r' + c') k) ∧ evA s.sl (.tmp 7) = .int .i64 (orTo (laysB b) (4 * r' + c') k) ∧ evA s.sl (.tmp 35) = sliceOf cFaceF (laysB b) ∧ evA s.sl (.tmp 36) = .int .i64 (laysB b).length ∧ evA s.sl (.tmp 37) = .int .i64 k) (fun (k : Nat) => (laysB b).length - k) (0) ?_ ?_
        · simp (implicitDefEqProofs := false) (dsimp := false) only [go_sem, Nat.zero_le, brdA, bdA]
          exact ⟨rfl, rfl, rfl, rfl⟩
        · rintro k ⟨sl, df, hp, gh⟩ ⟨ab, al, rfl, rfl, ah, a1, a2, a6, a7, a35, a36, a37⟩
          simp only at ab al ah a1 a2 a6 a7 a35 a36 a37
          obtain ⟨j, rfl⟩ := slots_lit al; clear al; simp only [junk_succ, junk_zero, evA_tmp, nth_16, nth_four, nth_one, nth_zero, Nat.zero_add, Nat.reduceAdd] at  a1 a2 a6 a7 a35 a36 a37 ⊢
          refine wp_ok (so := {}) mixed _ (by kernel_rfl) ?_
          obtain ⟨J, rfl⟩ := ah
          by_cases hk : k < (laysB b).length
          · have h12 := laysB_face _ (List.getElem_mem hk)
            have hall : ∀ y ∈ laysB b, (cFaceF y).length = 12 := fun y hy => cFaceF_len12 y (laysB_face y hy)
            have hr := drop_rowsM hall hk
            have hrl : k * 12 ≤ ((laysB b).flatMap cFaceF).length := by rw [length_rowsM hall]; omega
            have hTk : ∀ R, (nums12 (laysB b)[k].2 ++ R).take 12 = nums12 (laysB b)[k].2 := fun R => List.take_left' (by rw [nums12_len, h12])
            have hJ : ∀ y : Blk, (J ++ [y])[J.length]? = some y := fun y => by simp
            have hS : ∀ y z : Blk, (J ++ [y]).set J.length z = J ++ [z] := fun y z => by simp
            have hat := nums12_at h12 (show r' * 4 + c' < 12 by omega)
            simp (implicitDefEqProofs := false) (dsimp := false) only [go_sem, a1, a2, a6, a7, a35, a36, a37, nat_lt hk, decide_true, hr, hrl, cFaceF, hTk, hJ, hS, hr3', hc4', setM12 h12, nums_leaf, nums12_len, h12, nums_take h12, hat, Nat.le_refl]
            have ei : r' * 4 + c' = 4 * r' + c' := by omega
            exact ⟨by omega, k + 1, ⟨by omega, by rw [andTo_succ hk, ei], by rw [orTo_succ hk, ei], wrap_succ (by omega)⟩, by omega⟩
          · have hs : ((k : Int) < ((laysB b).length : Int)) = False := eq_false (by omega)
            have e : k = (laysB b).length := by omega
            subst e
            simp (implicitDefEqProofs := false) (dsimp := false) only [go_sem, a1, a2, a6, a7, a35, a36, a37, hs, decide_false, tri, Int.toNat_natCast]
  · simp only [leafA] at f1 f2 f3 f4
    simp (implicitDefEqProofs := false) (dsimp := false) only [go_sem, f1, f2, f3, f4, e2, eq_false e1]
    rw [StrokesR, if_pos e1]; rfl
end Go.Mac
namespace Go.Mac
open Go Go.Conc Go.Proofs
theorem misB_nil {f : List Int} {cs : List (List Trace)} (h : (misB f cs).length = 0) {r c : Nat} (hr : r < cs.length) (hc : c < (cs.headD []).length) (hc4 : c < 4) : fitsB (f.getD (4 * r + c) 0) (traceAt cs r c) = true := by
  have h0 : misB f cs = [] := List.length_eq_zero_iff.1 h
  unfold misB misTo at h0
  rw [List.flatMap_eq_nil_iff] at h0
  have h1 := h0 (4 * r + c) (List.mem_range.2 (by omega))
  simp only [show (4 * r + c) % 4 = c by omega, hc, if_true, misAt, show (4 * r + c) / 4 = r by omega] at h1
  cases hf : fitsB (f.getD (4 * r + c) 0) (traceAt cs r c) with
  | true => rfl
  | false => rw [hf] at h1; simp at h1
theorem layK_ok {b : Board} {p n : Nat} (hp : p < b.pages.length) (hn : n < 18) : layErr b (layN p n) = 0 := by
  unfold layErr layN
  simp only
  rw [if_neg (by simp; omega), if_neg (by omega)]
theorem mem_ways {b : Board} {m : List (Int × Int)} {x : Lay × List Int} (h : x ∈ allWays b m) : ∃ p n, p < b.pages.length ∧ n < 18 ∧ x = wayN b m p n := by
  unfold allWays at h
  obtain ⟨p, hp, hx⟩ := List.mem_flatMap.1 h
  obtain ⟨n, hn, rfl⟩ := List.mem_map.1 hx
  exact ⟨p, n, List.mem_range.1 hp, List.mem_range.1 hn, rfl⟩
theorem mem_lays {b : Board} {x : Lay × List Int} (h : x ∈ laysB b) : (∃ p n, p < b.pages.length ∧ n < 18 ∧ x = wayN b (mapB b.glyphs) p n) ∧ (misB x.2 b.cells).length = 0 := by
  unfold laysB rightsB at h
  obtain ⟨h1, h2⟩ := List.mem_filter.1 h
  exact ⟨mem_ways h1, by simpa [rightB] using h2⟩
theorem face_get {m : List (Int × Int)} {p : List (List UInt8)} {cs : List (List Trace)} {l : Lay} {r c : Nat} (hr : r < cs.length) (hr3 : cs.length ≤ 3) (hc : c < (cs.headD []).length) (hc4 : (cs.headD []).length ≤ 4) : (faceB m p cs l).getD (4 * r + c) 0 = shownB m p l r c := by
  unfold faceB part12
  have : 4 * r + c < 12 := by omega
  rw [List.getD_eq_getElem?_getD, List.getElem?_map, List.getElem?_range this]
  simp only [Option.map_some, Option.getD_some, this, if_true, faceAt]
  rw [show (4 * r + c) / 4 = r by omega, show (4 * r + c) % 4 = c by omega, if_pos ⟨hr, hc⟩]
theorem wayN_shown {b : Board} (ok : okMade b) {p n r c : Nat} (hp : p < b.pages.length) (hn : n < 18) (hr : r < b.cells.length) (hc : c < (b.cells.headD []).length) : ShownR b (layN p n) r c = ((wayN b (mapB b.glyphs) p n).2.getD (4 * r + c) 0, 0) := by
  have h3 := ok.cells.most
  have h4 := ok.cells.wmost
  unfold ShownR
  rw [if_neg (by simp [ok.err]), if_neg (by simp [layK_ok hp hn]), if_neg (by rw [show cellB b r c = true by simp only [cellB, Bool.and_eq_true, decide_eq_true_eq]; omega]; simp)]
  simp only [wayN, Prod.mk.injEq, and_true]
  rw [face_get hr h3 hc h4]
  rfl
theorem wayN_64 {b : Board} (ok : okMade b) {p n i : Nat} : is64 ((wayN b (mapB b.glyphs) p n).2.getD i 0) := by
  simp only [wayN, faceB, part12]
  rw [List.getD_eq_getElem?_getD]
  by_cases h : i < 12
  · rw [List.getElem?_map, List.getElem?_range h]
    simp only [Option.map_some, Option.getD_some, h, if_true, faceAt]
    split
    · exact shownB_64 ok.gl _ _ _ _
    · exact ⟨Int.le_refl 0, by decide⟩
  · rw [List.getElem?_eq_none (by simpa using h)]
    exact ⟨Int.le_refl 0, by decide⟩
theorem lays_shown {b : Board} (ok : okMade b) {x : Lay × List Int} (h : x ∈ laysB b) {r c : Nat} (hr : r < b.cells.length) (hc : c < (b.cells.headD []).length) : ShownR b x.1 r c = (x.2.getD (4 * r + c) 0, 0) ∧ is64 (x.2.getD (4 * r + c) 0) ∧ fitsB (x.2.getD (4 * r + c) 0) (traceAt b.cells r c) = true := by
  obtain ⟨⟨p, n, hp, hn, rfl⟩, hm⟩ := mem_lays h
  exact ⟨wayN_shown ok hp hn hr hc, wayN_64 ok, misB_nil hm hr hc (by have := ok.cells.wmost; omega)⟩
theorem lays_small {b : Board} {x : Lay × List Int} (h : x ∈ laysB b) : isI64 x.1.down ∧ isI64 x.1.right := by
  obtain ⟨⟨p, n, hp, hn, rfl⟩, _⟩ := mem_lays h
  simp only [wayN, layN, isI64]
  omega
theorem traceErr_64 {t : Trace} (h : traceErr t = 0) : is64 t.seen ∧ is64 t.bare ∧ andK .i64 t.seen t.bare = 0 := by
  unfold traceErr at h
  by_cases c1 : t.seen < 0 ∨ t.bare < 0 ∨ 63 < t.seen ∨ 63 < t.bare
  · rw [if_pos c1] at h; cases h
  · rw [if_neg c1] at h
    by_cases c2 : andK .i64 t.seen t.bare ≠ 0
    · rw [if_pos c2] at h; cases h
    · unfold is64; exact ⟨by omega, by omega, by simpa using c2⟩
theorem okMade.trace64 {b : Board} (ok : okMade b) {r c : Nat} (hr : r < b.cells.length) (hc : c < (b.cells.headD []).length) : is64 (traceAt b.cells r c).seen ∧ is64 (traceAt b.cells r c).bare ∧ andK .i64 (traceAt b.cells r c).seen (traceAt b.cells r c).bare = 0 := by
  have hw := ok.cells.row hr
  rw [traceAt_eq hr (by omega)]
  exact traceErr_64 (ok.trace _ (List.getElem_mem hr) _ (List.getElem_mem _))
section
variable {xs : List (Lay × List Int)} {i : Nat} (h64 : ∀ x ∈ xs, is64 (x.2.getD i 0))
include h64
theorem andTo_64 : ∀ k, k ≤ xs.length → is64 (andTo xs i k)
  | 0, _ => (⟨by decide, by decide⟩ : is64 63)
  | k + 1, h => by rw [andTo_succ (by omega)]; exact (and64 (andTo_64 k (by omega)) (h64 _ (List.getElem_mem (by omega)))).2
theorem orTo_64 : ∀ k, k ≤ xs.length → is64 (orTo xs i k)
  | 0, _ => (⟨by decide, by decide⟩ : is64 0)
  | k + 1, h => by rw [orTo_succ (by omega)]; exact (or64 (orTo_64 k (by omega)) (h64 _ (List.getElem_mem (by omega)))).2
theorem andTo_in {j : Nat} (hj : j < xs.length) : ∀ k, k ≤ xs.length → j < k → (andTo xs i k).toNat &&& (xs[j].2.getD i 0).toNat = (andTo xs i k).toNat
  | 0, _, h => by omega
  | k + 1, h, hjk => by
    have a64 := andTo_64 h64 k (by omega)
    have x64 := h64 _ (List.getElem_mem (show k < xs.length by omega))
    rw [andTo_succ (by omega), (and64 a64 x64).1, Int.toNat_natCast]
    by_cases e : j = k
    · subst e; rw [Nat.and_assoc, Nat.and_self]
    · have := andTo_in hj k (by omega) (by omega)
      rw [Nat.and_assoc, Nat.and_comm (xs[k].2.getD i 0).toNat, ← Nat.and_assoc, this]
theorem orTo_in {j : Nat} (hj : j < xs.length) : ∀ k, k ≤ xs.length → j < k → (xs[j].2.getD i 0).toNat &&& (orTo xs i k).toNat = (xs[j].2.getD i 0).toNat
  | 0, _, h => by omega
  | k + 1, h, hjk => by
    have o64 := orTo_64 h64 k (by omega)
    have x64 := h64 _ (List.getElem_mem (show k < xs.length by omega))
    rw [orTo_succ (by omega), (or64 o64 x64).1, Int.toNat_natCast, Nat.and_or_distrib_left]
    by_cases e : j = k
    · subst e
      rw [Nat.and_self]
      apply Nat.eq_of_testBit_eq
      intro q
      simp only [Nat.testBit_or, Nat.testBit_and]
      cases (xs[j].2.getD i 0).toNat.testBit q <;> simp
    · have := orTo_in hj k (by omega) (by omega)
      rw [this]
      apply Nat.eq_of_testBit_eq
      intro q
      simp only [Nat.testBit_or, Nat.testBit_and]
      cases (xs[j].2.getD i 0).toNat.testBit q <;> simp
theorem and_or (h0 : 0 < xs.length) : andK .i64 (andTo xs i xs.length) (orTo xs i xs.length) = andTo xs i xs.length := by
  have a64 := andTo_64 h64 xs.length (Nat.le_refl _)
  have o64 := orTo_64 h64 xs.length (Nat.le_refl _)
  have h1 := andTo_in h64 h0 xs.length (Nat.le_refl _) h0
  have h2 := orTo_in h64 h0 xs.length (Nat.le_refl _) h0
  have : (andTo xs i xs.length).toNat &&& (orTo xs i xs.length).toNat = (andTo xs i xs.length).toNat := by
    rw [← h1, Nat.and_assoc, h2]
  rw [(and64 a64 o64).1, this]
  have := a64.1
  omega
theorem and_seen {s : Int} (hs : is64 s) (hf : ∀ x ∈ xs, andK .i64 (x.2.getD i 0) s = s) : ∀ k, k ≤ xs.length → andK .i64 (andTo xs i k) s = s
  | 0, _ => by
    have := (and64 (a := 63) ⟨by decide, by decide⟩ hs).1
    show andK .i64 63 s = s
    rw [this]
    have h1 := hs.1
    have h2 := hs.2
    have : ∀ n : Nat, n < 64 → (63 : Nat) &&& n = n := by decide
    rw [show (63 : Int).toNat = 63 from rfl, this _ (by omega)]
    omega
  | k + 1, h => by
    have a64 := andTo_64 h64 k (by omega)
    have hm := List.getElem_mem (show k < xs.length by omega)
    have x64 := h64 _ hm
    have h1 := and_seen hs hf k (by omega)
    have h2 := hf _ hm
    rw [(and64 a64 hs).1] at h1
    rw [(and64 x64 hs).1] at h2
    rw [andTo_succ (by omega), (and64 (and64 a64 x64).2 hs).1, (and64 a64 x64).1, Int.toNat_natCast, Nat.and_assoc]
    have h2' : (xs[k].2.getD i 0).toNat &&& s.toNat = s.toNat := by omega
    rw [h2']; exact h1
theorem or_bare {s : Int} (hs : is64 s) (hf : ∀ x ∈ xs, andK .i64 (x.2.getD i 0) s = 0) : ∀ k, k ≤ xs.length → andK .i64 (orTo xs i k) s = 0
  | 0, _ => by
    show andK .i64 0 s = 0
    rw [(and64 (a := 0) ⟨by decide, by decide⟩ hs).1]; simp
  | k + 1, h => by
    have o64 := orTo_64 h64 k (by omega)
    have hm := List.getElem_mem (show k < xs.length by omega)
    have x64 := h64 _ hm
    have h1 := or_bare hs hf k (by omega)
    have h2 := hf _ hm
    rw [(and64 o64 hs).1] at h1
    rw [(and64 x64 hs).1] at h2
    rw [orTo_succ (by omega), (and64 (or64 o64 x64).2 hs).1, (or64 o64 x64).1, Int.toNat_natCast, Nat.and_or_distrib_right]
    rw [show (orTo xs i k).toNat &&& s.toNat = 0 by omega, show (xs[k].2.getD i 0).toNat &&& s.toNat = 0 by omega]; rfl
end
theorem fits_and {v : Int} {t : Trace} (h : fitsB v t = true) : andK .i64 v t.seen = t.seen ∧ andK .i64 v t.bare = 0 := by
  simpa [fitsB] using h
end Go.Mac
namespace Go.Mac
open Go Go.Conc Go.Proofs
set_option maxRecDepth 4000
def layErr2 (b : Board) (l : Lay) : Int := if boardErr b ≠ 0 then boardErr b else layErr b l
def misR (b : Board) (l : Lay) : List (Int × Int) := wrongB (mapB b.glyphs) (b.pages.getD l.page.toNat []) b.cells l
theorem pair_below (l : List (Int × Int)) : below 0 (sliceOf cPair l) = true := below_psl (fun _ => rfl) _
theorem Misfits_ok (b : Board) (l : Lay) (hd : isI64 l.down) (hr : isI64 l.right) : PureA Try.prog 25 [.agg (brdA b), .agg (cLay l)] (.tup [unlessErr (layErr2 b l) (sliceOf cPair (misR b l)), .int .i64 (layErr2 b l)]) := by
  refine PureA.of_wpp {} 24 mixed Try.func25 (by kernel_rfl) rfl (by kernel_rfl) (by simp only [below, belowL, unless_below (pair_below _), Bool.and_self]) fun h j hB => ?_
  simp only [junk_succ, junk_zero, List.cons_append, List.nil_append, List.length_cons, List.length_nil, Nat.reduceAdd]
  simp (implicitDefEqProofs := false) (dsimp := false) only [go_sem, brdA, cLay]
  refine open_use (fun e0 => ?_) (fun e1 e2 x y z t f1 f2 f3 f4 => ?_)
  · have hl2 : layErr2 b l = layErr b l := by rw [layErr2, if_neg (by simp [e0])]
    rw [hl2]
    simp (implicitDefEqProofs := false) (dsimp := false) only [go_sem, bdA]
    (first | refine CallsA.use (checkLay_ok b (mapB b.glyphs) l hd hr) ?_ | refine QuietCalls.use (checkLay_ok b (mapB b.glyphs) l hd hr) ?_)
    simp (implicitDefEqProofs := false) (dsimp := false) only [go_sem]
    refine ⟨fun c => ?_, fun c => ?_⟩
    · have c' : layErr b l ≠ 0 := by simpa using c
      rw [unless_bad c']
    · have c0 : layErr b l = 0 := by simpa using c
      obtain ⟨p0, p1, q⟩ := layErr_zero c0
      have okb := okBoard.of e0
      have hp : l.page.toNat < b.pages.length := by omega
      have hpg : b.pages.getD l.page.toNat [] = b.pages[l.page.toNat] := by simp [List.getD, hp]
      (first | refine CallsA.use (face_ok b (mapB b.glyphs) l l.page.toNat (by omega) hp (okb.page _ (List.getElem_mem hp)) okb.cells (by omega) (by omega)) ?_ | refine QuietCalls.use (face_ok b (mapB b.glyphs) l l.page.toNat (by omega) hp (okb.page _ (List.getElem_mem hp)) okb.cells (by omega) (by omega)) ?_)
      simp (implicitDefEqProofs := false) (dsimp := false) only [go_sem]
      (first | refine CallsA.use (misfits_ok b (mapB b.glyphs) _ (face_len _ _ _ _) okb.cells) ?_ | refine QuietCalls.use (misfits_ok b (mapB b.glyphs) _ (face_len _ _ _ _) okb.cells) ?_)
      simp (implicitDefEqProofs := false) (dsimp := false) only [go_sem]
      rw [c0, unless_ok rfl, misR, wrongB, hpg]
      exact ⟨rfl, rfl⟩
  · simp only [leafA] at f1 f2 f3 f4
    have hl2 : layErr2 b l = boardErr b := by rw [layErr2, if_pos e1]
    rw [hl2]
    simp (implicitDefEqProofs := false) (dsimp := false) only [go_sem, f1, f2, f3, f4, e2, eq_false e1]
    rw [unless_bad e1]
    exact fun _ => rfl
def misN (b : Board) (l : Lay) : Nat := (misR b l).length
def oneA (b : Board) : AV := .fn (.func 85) [] [.pptr (bdA b (mapB b.glyphs))]
def fewL (b : Board) : Option (Lay × Nat) → List AV
  | some (l, n) => cLay l ++ [.int .i64 n, .bool true, oneA b]
  | none => [.int .i64 0, .bool false, .int .i64 0, .int .i64 0, .int .i64 0, .bool false, oneA b]
def takeL (b : Board) (o : Option (Lay × Nat)) (l : Lay) : Option (Lay × Nat) :=
  match o with
  | none => some (l, misN b l)
  | some (l', n') => if misN b l < n' then some (l, misN b l) else some (l', n')
theorem oneA_below (b : Board) (n : Nat) : below n (oneA b) = true := by
  have := belowL_mono (Nat.zero_le n) _ (bdA_below b (mapB b.glyphs))
  simp [oneA, below, belowL, this]
theorem fewL_below (b : Board) (o : Option (Lay × Nat)) (n : Nat) : belowBlk n (.cells 0 (fewL b o)) = true := by
  have := oneA_below b n
  cases o with
  | none => simp [belowBlk, fewL, below, belowL, this]
  | some e => obtain ⟨l, k⟩ := e; simp [belowBlk, fewL, cLay, below, belowL, this]
theorem call_near1 : callable Try.prog 85 = True := eq_true ⟨_, Try.func85, rfl, rfl⟩
theorem near1_ok (b : Board) (ok : okBoard b) (l : Lay) (p : Nat) (hp : l.page = p) (hpl : p < b.pages.length) (hd : -1000 ≤ l.down ∧ l.down ≤ 1000) (hr : -1000 ≤ l.right ∧ l.right ≤ 1000) : PureA Try.prog 85 [.agg (cLay l), .pptr (bdA b (mapB b.glyphs))] (.int .i64 (misN b l)) := by
  refine PureA.of_wpp {} 8 mixed Try.func85 (by kernel_rfl) rfl (by kernel_rfl) (rfl) fun h j hB => ?_
  simp only [junk_succ, junk_zero, List.cons_append, List.nil_append, List.length_cons, List.length_nil, Nat.reduceAdd]
  have hpg : b.pages.getD l.page.toNat [] = b.pages[p] := by rw [hp]; simp [List.getD, hpl]
  simp (implicitDefEqProofs := false) (dsimp := false) only [go_sem, cLay, bdA]
  (first | refine CallsA.use (face_ok b (mapB b.glyphs) l p hp hpl (ok.page _ (List.getElem_mem hpl)) ok.cells hd hr) ?_ | refine QuietCalls.use (face_ok b (mapB b.glyphs) l p hp hpl (ok.page _ (List.getElem_mem hpl)) ok.cells hd hr) ?_)
  simp (implicitDefEqProofs := false) (dsimp := false) only [go_sem]
  (first | refine CallsA.use (misfits_ok b (mapB b.glyphs) _ (face_len _ _ _ _) ok.cells) ?_ | refine QuietCalls.use (misfits_ok b (mapB b.glyphs) _ (face_len _ _ _ _) ok.cells) ?_)
  simp (implicitDefEqProofs := false) (dsimp := false) only [go_sem]
  rw [misN, misR, wrongB, hpg]
theorem takeL_ok (n : Nat) (b : Board) (ok : okBoard b) (l : Lay) (p : Nat) (hp : l.page = p) (hpl : p < b.pages.length) (hd : -1000 ≤ l.down ∧ l.down ≤ 1000) (hr : -1000 ≤ l.right ∧ l.right ≤ 1000) (o : Option (Lay × Nat)) (h : List Blk) (hn : h[n]? = some (.cells 0 (fewL b o))) : CallsA Try.prog 87 [.ptr ⟨n, 0⟩ 0, .agg (cLay l)] h fun e h' => e = .ret (.tup []) ∧ h' = h.set n (.cells 0 (fewL b (takeL b o l))) := by
  have hlt : n < h.length := (List.getElem?_eq_some_iff.1 hn).1
  refine CallsA.of_wpe [] { cut := [16], tail := [(1, 5)] } 33 mixed Try.func87 (by kernel_rfl) rfl (by kernel_rfl) fun j hB hA => ?_; simp only [junk_succ, junk_zero, List.cons_append, List.nil_append, List.length_cons, List.length_nil, Nat.reduceAdd]
  have hn2 : ∀ k, (h ++ k)[n]? = some (.cells 0 (fewL b o)) := fun k => by rw [List.getElem?_append_left hlt]; exact hn
  have hg2 : ∀ b k, (h.set n b ++ k)[n]? = some b := fun b k => by rw [List.getElem?_append_left (by simpa using hlt), List.getElem?_set_self hlt]
  have hs2 : ∀ k b, (h ++ k).set n b = h.set n b ++ k := fun k b => by rw [List.set_append_left _ _ hlt]
  have hs3 : ∀ k a b, (h.set n a ++ k).set n b = h.set n b ++ k := fun k a b => by rw [List.set_append_left _ _ (by simpa using hlt), List.set_set]
  have hone := near1_ok b ok l p hp hpl hd hr
  cases o with
  | none =>
    simp only [fewL] at hn2
    simp (implicitDefEqProofs := false) (dsimp := false) only [go_sem, hn2, oneA, cLay, call_near1]
    (first | refine CallsA.use (hone) ?_ | refine QuietCalls.use (hone) ?_)
    simp (implicitDefEqProofs := false) (dsimp := false) only [go_sem, hn2, hs2, hg2, hs3, oneA, get_past0, get_past]
    exact set_fine (b := .cells 0 (fewL b (some (l, misN b l)))) (v := .tup []) hB (fewL_below _ _ _) rfl
  | some e =>
    obtain ⟨l', n'⟩ := e
    simp only [fewL, cLay, List.cons_append, List.nil_append] at hn2
    simp (implicitDefEqProofs := false) (dsimp := false) only [go_sem, hn2, oneA, cLay, call_near1]
    (first | refine CallsA.use (hone) ?_ | refine QuietCalls.use (hone) ?_)
    simp (implicitDefEqProofs := false) (dsimp := false) only [go_sem, hn2, hs2, hg2, hs3, oneA, get_past0, get_past]
    refine ⟨fun hc => ?_, fun hc => ?_⟩
    · have e : takeL b (some (l', n')) l = some (l, misN b l) := if_pos (by omega)
      rw [e]
      exact set_fine (b := .cells 0 (fewL b (some (l, misN b l)))) (v := .tup []) hB (fewL_below _ _ _) rfl
    · have e : takeL b (some (l', n')) l = some (l', n') := if_neg (by omega)
      rw [e, set_same hn]
      exact quiet_fine hB rfl
def nearTo (b : Board) (k : Nat) : Option (Lay × Nat) := ((allWays b (mapB b.glyphs)).take k).foldl (fun o x => takeL b o x.1) none
theorem nearTo_succ {b : Board} {k : Nat} (h : k < (allWays b (mapB b.glyphs)).length) : nearTo b (k + 1) = takeL b (nearTo b k) (allWays b (mapB b.glyphs))[k].1 := by
  rw [nearTo, List.take_succ_eq_append_getElem h, List.foldl_append]; rfl
def NearR (b : Board) : Lay × Int × Int :=
  if boardErr b ≠ 0 then (⟨0, false, 0, 0⟩, 0, boardErr b)
  else match nearTo b (allWays b (mapB b.glyphs)).length with
    | some (l, n) => (l, n, 0)
    | none => (⟨0, false, 0, 0⟩, 0, 0)
def nearA (x : Lay × Int × Int) : AV := .tup [.agg (cLay x.1), .int .i64 x.2.1, .int .i64 x.2.2]
def nearH (b : Board) (o : Option (Lay × Nat)) : List Blk := [.cells 0 (brdA b), .cells 0 [.int .i64 0, .bool false, .int .i64 0, .int .i64 0], .dead, .cells 0 (fewL b o)]
theorem nearH_below (b : Board) (o : Option (Lay × Nat)) (n : Nat) : (nearH b o).all (belowBlk n) = true := by
  have h1 := belowL_mono (Nat.zero_le n) _ (slices_below b)
  have h2 := fewL_below b o n
  simp only [nearH, List.all_cons, List.all_nil, h2, Bool.and_true]
  simp [belowBlk, belowL, below, brdA] at h1 ⊢
  exact h1
theorem Nearest_ok (b : Board) : PureA Try.prog 44 [.agg (brdA b)] (nearA (NearR b)) := by
  refine PureA.of_wpe [] { hand := [4, 8] } 29 mixed Try.func44 (by kernel_rfl) rfl (by kernel_rfl) (rfl) fun h j hB => ?_
  simp only [junk_succ, junk_zero, List.cons_append, List.nil_append, List.length_cons, List.length_nil, Nat.reduceAdd]
  simp (implicitDefEqProofs := false) (dsimp := false) only [go_sem, brdA]
  refine open_use (fun e0 => ?_) (fun e1 e2 x y z t f1 f2 f3 f4 => ?_)
  · have ok := okBoard.of e0
    simp (implicitDefEqProofs := false) (dsimp := false) only [go_sem, bdA]
    refine wp_shut [5] (so := { }) mixed _ (by kernel_rfl) ?_
    simp (implicitDefEqProofs := false) (dsimp := false) only [go_sem, call_near1]
    (first | refine CallsA.use (lays_ok b (mapB b.glyphs)) ?_ | refine QuietCalls.use (lays_ok b (mapB b.glyphs)) ?_)
    simp (implicitDefEqProofs := false) (dsimp := false) only [go_sem]
    refine WP.rangeIterN (h.length + 5) (by simp <;> omega)  (so := { hand := [4, 8] }) mixed (by kernel_rfl) (by kernel_rfl) rfl rfl (call_lays1) rfl rfl (lays1_ok b (mapB b.glyphs) ok) (encW_len) (fun k h1 => h1 = h ++ nearH b (nearTo b k)) (fun _ _ => False) ?_ ?_ ?_ ?_ ?_ ?_
    · rintro k _ _ rfl
      exact mine_ok hB (by simp [nearH]) (nearH_below _ _ _)
    · rintro _ _ _ ⟨⟩
    · simp [nearH, nearTo, brdA, sliceOf, fewL, oneA, bdA]
    · rintro k _ own hk rfl hl2
      rw [List.length_map] at hk
      have ex : ((allWays b (mapB b.glyphs)).map encW)[k]'(by rw [List.length_map]; exact hk) = [.agg (cLay (allWays b (mapB b.glyphs))[k].1), .agg (nums12 (allWays b (mapB b.glyphs))[k].2)] := by simp [encW]
      rw [ex]
      dsimp only
      simp (implicitDefEqProofs := false) (dsimp := false) only [go_sem, nearH, cLay_leaf, cLay_len, cLay_take, setMany4, Nat.le_refl]
      obtain ⟨p, n, hp, hn, hw⟩ := mem_ways (List.getElem_mem hk)
      have hw1 : (allWays b (mapB b.glyphs))[k].1 = layN p n := by rw [hw]; rfl
      refine (takeL_ok _ b ok (allWays b (mapB b.glyphs))[k].1 p (by rw [hw1]; rfl) hp (by rw [hw1]; simp only [layN]; omega) (by rw [hw1]; simp only [layN]; omega) (nearTo b k) _ (by rw [hget]; rfl)).mono ?_
      rintro _ _ ⟨rfl, rfl⟩
      simp (implicitDefEqProofs := false) (dsimp := false) only [go_sem]
      exact ⟨_, ⟨_, loop_cut4⟩, by rw [nearTo_succ hk]; rfl⟩
    · rintro _ rfl
      rw [List.length_map]
      have hN : NearR b = match nearTo b (allWays b (mapB b.glyphs)).length with
          | some (l, n) => (l, n, 0)
          | none => (⟨0, false, 0, 0⟩, 0, 0) := by rw [NearR, if_neg (by simp [e0])]
      rw [hN]
      generalize nearTo b (allWays b (mapB b.glyphs)).length = o
      cases o with
      | none =>
        simp (implicitDefEqProofs := false) (dsimp := false) only [go_sem, nearH, fewL]
        refine WP.noisy (so := { }) 5 [4] [0, 0, 0, 0, 0] [0, 0, 1, 1, 0] ((fun T => [h ++ .cells 0 (brdA b) :: .cells 0 [.int .i64 0, .bool false, .int .i64 0, .int .i64 0] :: T, h ++ .cells 0 (brdA b) :: .cells 0 [.int .i64 0, .bool false, .int .i64 0, .int .i64 0] :: T]) _) rfl mixed (by kernel_rfl) (by kernel_rfl) (by decide) (by kernel_rfl) rfl ?_
        simp (implicitDefEqProofs := false) (dsimp := false) only [go_sem]
        rfl
      | some x =>
        obtain ⟨l, n⟩ := x
        simp (implicitDefEqProofs := false) (dsimp := false) only [go_sem, nearH, fewL, cLay]
        refine WP.noisy (so := { }) 5 [4] [0, 0, 0, 0, 0] [0, 0, 1, 1, 0] ((fun T => [h ++ .cells 0 (brdA b) :: .cells 0 [.int .i64 0, .bool false, .int .i64 0, .int .i64 0] :: T, h ++ .cells 0 (brdA b) :: .cells 0 [.int .i64 l.page, .bool l.turned, .int .i64 l.down, .int .i64 l.right] :: T]) _) rfl mixed (by kernel_rfl) (by kernel_rfl) (by decide) (by kernel_rfl) rfl ?_
        simp (implicitDefEqProofs := false) (dsimp := false) only [go_sem]
        rfl
    · rintro _ _ ⟨⟩
  · simp only [leafA] at f1 f2 f3 f4
    simp (implicitDefEqProofs := false) (dsimp := false) only [go_sem, f1, f2, f3, f4, e2]
    rw [NearR, if_pos e1]; rfl
theorem allWays_lay {b : Board} {m : List (Int × Int)} {i : Nat} (h : i < (allWays b m).length) : (allWays b m)[i].1 = layK i := by
  have hl := h
  rw [allWays_len] at hl
  have h1 := allWays_at (b := b) (m := m) (p := i / 18) (k := i % 18) (by omega) (by omega)
  rw [show i / 18 * 18 + i % 18 = i by omega, List.getElem?_eq_getElem h] at h1
  rw [Option.some.inj h1]; rfl
theorem allWays_mis {b : Board} {i : Nat} (h : i < (allWays b (mapB b.glyphs)).length) : (misB (allWays b (mapB b.glyphs))[i].2 b.cells).length = misN b (layK i) := by
  have hl := h
  rw [allWays_len] at hl
  have h1 := allWays_at (b := b) (m := mapB b.glyphs) (p := i / 18) (k := i % 18) (by omega) (by omega)
  rw [show i / 18 * 18 + i % 18 = i by omega, List.getElem?_eq_getElem h] at h1
  rw [Option.some.inj h1]; rfl
theorem layK_err {b : Board} (ok : okMade b) {i : Nat} (h : i < 18 * b.pages.length) : layErr2 b (layK i) = 0 := by
  rw [layErr2, if_neg (by simp [ok.err])]
  exact layK_ok (by omega) (by omega)
theorem layK_small (i : Nat) : isI64 (layK i).down ∧ isI64 (layK i).right := by
  simp only [layK, layN, isI64]; omega
theorem lays_some {b : Board} : 0 < (laysB b).length ↔ ∃ i, i < 18 * b.pages.length ∧ misN b (layK i) = 0 := by
  have hl := allWays_len b (mapB b.glyphs)
  constructor
  · intro h
    have hm := List.getElem_mem h
    unfold laysB rightsB at hm
    obtain ⟨h1, h2⟩ := List.mem_filter.1 hm
    obtain ⟨i, hi, e⟩ := List.mem_iff_getElem.1 h1
    refine ⟨i, by omega, ?_⟩
    rw [← allWays_mis hi, e]
    simpa [rightB] using h2
  · rintro ⟨i, hi, h0⟩
    have hi2 : i < (allWays b (mapB b.glyphs)).length := by omega
    refine List.length_pos_of_mem (a := (allWays b (mapB b.glyphs))[i]) ?_
    unfold laysB rightsB
    refine List.mem_filter.2 ⟨List.getElem_mem hi2, ?_⟩
    rw [rightB, allWays_mis hi2, h0]; rfl
theorem near_spec {b : Board} : ∀ K, 0 < K → K ≤ (allWays b (mapB b.glyphs)).length → ∃ j, j < K ∧ nearTo b K = some (layK j, misN b (layK j)) ∧ (∀ i, i < K → misN b (layK j) ≤ misN b (layK i)) ∧ ∀ i, i < j → misN b (layK j) < misN b (layK i)
  | 0, h, _ => by omega
  | K + 1, _, h => by
    have hs := nearTo_succ (b := b) (k := K) (by omega)
    rw [allWays_lay (show K < (allWays b (mapB b.glyphs)).length by omega)] at hs
    by_cases h0 : K = 0
    · subst h0
      refine ⟨0, by omega, by rw [hs]; rfl, fun i hi => ?_, fun i hi => by omega⟩
      have : i = 0 := by omega
      rw [this]; exact Nat.le_refl _
    · obtain ⟨j, h1, h2, h3, h4⟩ := near_spec (b := b) K (by omega) (by omega)
      rw [h2] at hs
      by_cases hc : misN b (layK K) < misN b (layK j)
      · refine ⟨K, by omega, by rw [hs, takeL, if_pos hc], fun i hi => ?_, fun i hi => ?_⟩
        · by_cases e : i = K
          · rw [e]; exact Nat.le_refl _
          · have := h3 i (by omega); omega
        · have := h3 i hi; omega
      · refine ⟨j, by omega, by rw [hs, takeL, if_neg hc], fun i hi => ?_, h4⟩
        by_cases e : i = K
        · rw [e]; omega
        · exact h3 i (by omega)
end Go.Mac
namespace Go.Mac
open Go Go.Conc Go.Proofs
set_option maxRecDepth 4000
def wideB (b : Board) : Nat := (b.cells.headD []).length
def showAt (b : Board) (l : Lay) (i : Nat) : Int := shownB (mapB b.glyphs) (b.pages.getD l.page.toNat []) l ((i / wideB b : Nat) : Int) ((i % wideB b : Nat) : Int)
def showTo (b : Board) (l : Lay) (n : Nat) : List Int := (List.range n).map (showAt b l)
def showRow (b : Board) (l : Lay) : List Int := showTo b l (b.cells.length * wideB b)
theorem showTo_succ (b : Board) (l : Lay) (n : Nat) : showTo b l (n + 1) = showTo b l n ++ [showAt b l n] := by simp [showTo, List.range_succ]
theorem showTo_len (b : Board) (l : Lay) (n : Nat) : (showTo b l n).length = n := by simp [showTo]
theorem cList_below (l : List (List Int)) (n : Nat) : below n (sliceOf cList l) = true :=
  below_mono (Nat.zero_le n) _ (below_psl (f := cList) (fun x => by simp only [cList, List.all_cons, List.all_nil, Bool.and_true]; exact below_psl (f := cInt) (fun _ => rfl) x) l)
theorem Shown_good {b : Board} (ok : okMade b) {l : Lay} (h0 : layErr b l = 0) {r c : Nat} (hr : r < b.cells.length) (hc : c < wideB b) : ShownR b l r c = (showAt b l (r * wideB b + c), 0) := by
  unfold ShownR
  have hc' : c < (b.cells.headD []).length := hc
  rw [if_neg (by simp [ok.err]), if_neg (by simp [h0]), if_neg (by rw [show cellB b r c = true by simp only [cellB, Bool.and_eq_true, decide_eq_true_eq]; omega]; simp)]
  have e1 : (r * wideB b + c) / wideB b = r := by rw [Nat.mul_comm, Nat.mul_add_div (by omega), Nat.div_eq_of_lt hc, Nat.add_zero]
  have e2 : (r * wideB b + c) % wideB b = c := by rw [Nat.mul_comm, Nat.mul_add_mod, Nat.mod_eq_of_lt hc]
  rw [showAt, e1, e2]
theorem layErr_i64 {b : Board} {l : Lay} (h : layErr b l = 0) : isI64 l.down ∧ isI64 l.right := by
  obtain ⟨_, _, h1, h2, h3, h4⟩ := layErr_zero h
  simp only [isI64]; omega
theorem shows_ok (b : Board) (ok : okMade b) (ws : List Lay) (hw : ∀ l ∈ ws, layErr b l = 0) (hlen : ws.length ≤ 1000) : PureA Try.prog 37 [.agg (brdA b), sliceOf cLay ws] (sliceOf cList (ws.map (showRow b))) := by
  refine PureA.of_wps [4] { shut := [58, 62], cut := [48, 52], hand := [16] } 63 mixed Try.func37 (by kernel_rfl) rfl (by kernel_rfl) (cList_below _ 0) fun h j hB => ?_
  simp only [junk_succ, junk_zero, List.cons_append, List.nil_append, List.length_cons, List.length_nil, Nat.reduceAdd]
  have g3 := ok.cells.most
  have g4 := ok.cells.wmost
  have hwb : wideB b ≤ 4 := g4
  simp (implicitDefEqProofs := false) (dsimp := false) only [go_sem, brdA]
  refine WPI.turn (Turns.nilSlot (d := 5) (sz := 1) ?_) ?_
  · simp (implicitDefEqProofs := false) (dsimp := false) only [go_sem]
  simp (implicitDefEqProofs := false) (dsimp := false) only [go_sem]
  refine WP.loopI (fun (k : Nat) s => (k ≤ ws.length) ∧ s.sl.length = 65 ∧ s.df = [] ∧ s.gh = {} ∧ (∃ J, s.hp = h ++ .cells 0 (brdA b) :: .cells k (((ws.take k).map (showRow b)).flatMap cList) :: J) ∧ evA s.sl (.tmp 1) = sliceOf cLay ws ∧ evA s.sl (.tmp 2) = .ptr ⟨h.length, 0⟩ 0 ∧ evA s.sl (.tmp 5) = .sl ⟨h.length + 1, k⟩ 1 0 k ∧ evA s.sl (.tmp 6) = .int .i64 k) (fun (k : Nat) => ws.length - k) (0) ?_ ?_
  · simp (implicitDefEqProofs := false) (dsimp := false) only [go_sem, Nat.zero_le, brdA]
    exact ⟨_, rfl, rfl⟩
  · rintro k ⟨sl, df, hp, gh⟩ ⟨ab, al, rfl, rfl, ah, a1, a2, a5, a6⟩
    simp only at ab al ah a1 a2 a5 a6
    obtain ⟨j, rfl⟩ := slots_lit al; clear al; simp only [junk_succ, junk_zero, evA_tmp, nth_16, nth_four, nth_one, nth_zero, Nat.zero_add, Nat.reduceAdd] at  a1 a2 a5 a6 ⊢
    refine wp_ok (so := { shut := [58, 62], cut := [48, 52], hand := [16] }) mixed _ (by kernel_rfl) ?_
    obtain ⟨J, rfl⟩ := ah
    by_cases hk : k < ws.length
    · have h0 := hw _ (List.getElem_mem hk)
      obtain ⟨i1, i2⟩ := layErr_i64 h0
      simp (implicitDefEqProofs := false) (dsimp := false) only [go_sem, a1, a2, a5, a6, nat_lt hk, decide_true]
      refine WPI.turn (Turns.nilSlot (d := 7) (sz := 1) ?_) ?_
      · simp (implicitDefEqProofs := false) (dsimp := false) only [go_sem]
      simp (implicitDefEqProofs := false) (dsimp := false) only [go_sem]
      refine WP.loopI (fun (r : Nat) s => (r ≤ b.cells.length) ∧ s.sl.length = 65 ∧ s.df = [] ∧ s.gh = {} ∧ (s.hp = h ++ .cells 0 (brdA b) :: .cells k (((ws.take k).map (showRow b)).flatMap cList) :: (J ++ [.cells (r * wideB b) ((showTo b ws[k] (r * wideB b)).flatMap cInt)])) ∧ evA s.sl (.tmp 1) = sliceOf cLay ws ∧ evA s.sl (.tmp 2) = .ptr ⟨h.length, 0⟩ 0 ∧ evA s.sl (.tmp 5) = .sl ⟨h.length + 1, k⟩ 1 0 k ∧ evA s.sl (.tmp 6) = .int .i64 k ∧ evA s.sl (.tmp 7) = .sl ⟨h.length + (J.length + 2), r * wideB b⟩ 1 0 (r * wideB b) ∧ evA s.sl (.tmp 8) = .int .i64 r) (fun (r : Nat) => b.cells.length - r) (0) ?_ ?_
      · simp (implicitDefEqProofs := false) (dsimp := false) only [go_sem, Nat.zero_le, Nat.zero_mul]
        rfl
      · rintro r ⟨sl, df, hp, gh⟩ ⟨cb, cl, rfl, rfl, rfl, c1, c2, c5, c6, c7, c8⟩
        simp only at cb cl c1 c2 c5 c6 c7 c8
        obtain ⟨j, rfl⟩ := slots_lit cl; clear cl; simp only [junk_succ, junk_zero, evA_tmp, nth_16, nth_four, nth_one, nth_zero, Nat.zero_add, Nat.reduceAdd] at  c1 c2 c5 c6 c7 c8 ⊢
        refine wp_ok (so := { shut := [58, 62], cut := [48, 52], hand := [16] }) mixed _ (by kernel_rfl) ?_
        by_cases hr : r < b.cells.length
        · have hwr : b.cells[r].length = wideB b := ok.cells.row hr
          simp (implicitDefEqProofs := false) (dsimp := false) only [go_sem, c1, c2, c5, c6, c7, c8, brdA, nat_lt hr, decide_true]
          refine WP.loopI (fun (c : Nat) s => (c ≤ wideB b) ∧ s.sl.length = 65 ∧ s.df = [] ∧ s.gh = {} ∧ (s.hp = h ++ .cells 0 (brdA b) :: .cells k (((ws.take k).map (showRow b)).flatMap cList) :: (J ++ [.cells (r * wideB b + c) ((showTo b ws[k] (r * wideB b + c)).flatMap cInt)])) ∧ evA s.sl (.tmp 1) = sliceOf cLay ws ∧ evA s.sl (.tmp 2) = .ptr ⟨h.length, 0⟩ 0 ∧ evA s.sl (.tmp 5) = .sl ⟨h.length + 1, k⟩ 1 0 k ∧ evA s.sl (.tmp 6) = .int .i64 k ∧ evA s.sl (.tmp 7) = .sl ⟨h.length + (J.length + 2), r * wideB b + c⟩ 1 0 (r * wideB b + c) ∧ evA s.sl (.tmp 8) = .int .i64 r ∧ evA s.sl (.tmp 9) = .int .i64 c) (fun (c : Nat) => wideB b - c) (0) ?_ ?_
          · simp (implicitDefEqProofs := false) (dsimp := false) only [go_sem, Nat.zero_le, brdA]
          · rintro c ⟨sl, df, hp, gh⟩ ⟨db, dl, rfl, rfl, rfl, d1, d2, d5, d6, d7, d8, d9⟩
            simp only at db dl d1 d2 d5 d6 d7 d8 d9
            obtain ⟨j, rfl⟩ := slots_lit dl; clear dl; simp only [junk_succ, junk_zero, evA_tmp, nth_16, nth_four, nth_one, nth_zero, Nat.zero_add, Nat.reduceAdd] at  d1 d2 d5 d6 d7 d8 d9 ⊢
            refine wp_ok (so := { shut := [58, 62], cut := [48, 52], hand := [16] }) mixed _ (by kernel_rfl) ?_
            have hJ : ∀ y : Blk, (J ++ [y])[J.length]? = some y := fun y => by simp
            have hJs : ∀ y z : Blk, (J ++ [y]).set J.length z = J ++ [z] := fun y z => by simp
            by_cases hc : c < wideB b
            · have hmul : r * wideB b ≤ 3 * 4 := Nat.mul_le_mul (by omega) (by unfold wideB; omega)
              simp (implicitDefEqProofs := false) (dsimp := false) only [go_sem, d1, d2, d5, d6, d7, d8, d9, brdA, nat_lt hr, nat_lt hc, decide_true, row1 cTraces_len hr, row1_le cTraces_len hr, cTraces, hwr, rowN cLay_len hk, rowN_le cLay_len hk, nat_lt hk, cLay]
              have hS := Shown_ok b ws[k] r c i1 i2
              rw [Shown_good ok h0 hr hc] at hS
              (first | refine CallsA.use (hS) ?_ | refine QuietCalls.use (hS) ?_)
              have h64 : is64 (showAt b ws[k] (r * wideB b + c)) := shownB_64 ok.gl _ _ _ _
              have hn1 : (showAt b ws[k] (r * wideB b + c) < 0) = False := eq_false (by have := h64.1; omega)
              have hn2 : (showAt b ws[k] (r * wideB b + c) > 63) = False := eq_false (by have := h64.2; omega)
              have hsl : ((showTo b ws[k] (r * wideB b + c)).flatMap cInt).length = r * wideB b + c := by rw [rows_length cInt_len, showTo_len]
              simp (implicitDefEqProofs := false) (dsimp := false) only [go_sem, pairA, hn1, hn2, decide_false, hJ, hJs, hsl, brdA]
              exact ⟨by omega, c + 1, ⟨by omega, ⟨rfl, by rw [← Nat.add_assoc, showTo_succ, List.flatMap_append]; simp [cInt]⟩, rfl, wrap_succ (by omega)⟩, by omega⟩
            · have hs : ((c : Int) < (wideB b : Int)) = False := eq_false (by omega)
              simp (implicitDefEqProofs := false) (dsimp := false) only [go_sem, d1, d2, d5, d6, d7, d8, d9, brdA, nat_lt hr, hs, decide_false, row1 cTraces_len hr, row1_le cTraces_len hr, cTraces, hwr]
              rw [show r * wideB b + c = (r + 1) * wideB b by rw [Nat.succ_mul]; omega]
              exact ⟨r + 1, ⟨by omega, ⟨rfl, rfl⟩, rfl, wrap_succ (by omega)⟩, by omega⟩
        · have hs : ((r : Int) < (b.cells.length : Int)) = False := eq_false (by omega)
          simp (implicitDefEqProofs := false) (dsimp := false) only [go_sem, c1, c2, c5, c6, c7, c8, brdA, hs, decide_false]
          have er : r = b.cells.length := by omega
          subst er
          have hJ : ∀ y : Blk, (J ++ [y])[J.length]? = some y := fun y => by simp
          have hJs : ∀ y z : Blk, (J ++ [y]).set J.length z = J ++ [z] := fun y z => by simp
          have hsl : ((showTo b ws[k] (b.cells.length * wideB b)).flatMap cInt).take (b.cells.length * wideB b) = (showTo b ws[k] (b.cells.length * wideB b)).flatMap cInt := List.take_of_length_le (by rw [rows_length cInt_len, showTo_len]; exact Nat.le_refl _)
          have hol : (((ws.take k).map (showRow b)).flatMap cList).length = k := by rw [rows_length (fun _ => rfl), List.length_map, List.length_take]; omega
          refine wp_shut [7] (so := { shut := [58, 62], cut := [48, 52], }) mixed _ (by kernel_rfl) ?_
          simp (implicitDefEqProofs := false) (dsimp := false) only [go_sem, hJ, hJs, hsl, hol, brdA]
          refine ⟨belowL_flat (f := cInt) (fun _ => rfl) _, by omega, k + 1, ⟨by omega, ⟨_, ⟨rfl, ?_⟩, rfl⟩, rfl, wrap_succ (by omega)⟩, by omega⟩
          rw [List.take_succ_eq_append_getElem hk, List.map_append, List.flatMap_append]
          simp [cList, sliceOf, showRow, showTo_len]
    · have hs : ((k : Int) < (ws.length : Int)) = False := eq_false (by omega)
      have e : k = ws.length := by omega
      subst e
      simp (implicitDefEqProofs := false) (dsimp := false) only [go_sem, a1, a2, a5, a6, hs, decide_false, List.take_length]
      rw [List.take_of_length_le (by rw [rows_length (fun _ => rfl), List.length_map]; exact Nat.le_refl _), List.length_map]
end Go.Mac
namespace Go.Mac
open Go Go.Conc Go.Proofs
def mostF (l : List Int) : Nat → Nat
  | 0 => 0
  | k + 1 => max (mostF l k) (l.count (l.getD k 0))
theorem take_count {l : List Int} {k : Nat} (h : k < l.length) (v : Int) : (l.take (k + 1)).count v = (l.take k).count v + if l[k] = v then 1 else 0 := by
  rw [List.take_succ_eq_append_getElem h, List.count_append, List.count_singleton]
  simp only [beq_iff_eq]
theorem mostTo_ge {l : List Int} : ∀ k, k ≤ l.length → ∀ v, (l.take k).count v ≤ mostTo l k
  | 0, _, v => by simp
  | k + 1, h, v => by
    have h1 := mostTo_ge (l := l) k (by omega) v
    rw [mostTo_succ]
    by_cases e : l[k] = v
    · rw [show l.getD k 0 = v by rw [← e, List.getD_eq_getElem?_getD, List.getElem?_eq_getElem (show k < l.length by omega)]; rfl]
      exact Nat.le_max_right _ _
    · rw [take_count h, if_neg e]
      exact Nat.le_trans h1 (Nat.le_max_left _ _)
theorem mostF_ge {l : List Int} {i : Nat} : ∀ k, i < k → l.count (l.getD i 0) ≤ mostF l k
  | 0, h => by omega
  | k + 1, h => by
    rw [mostF]
    by_cases e : i = k
    · subst e; exact Nat.le_max_right _ _
    · exact Nat.le_trans (mostF_ge k (by omega)) (Nat.le_max_left _ _)
theorem most_eq (l : List Int) : mostF l l.length = mostTo l l.length := by
  refine Nat.le_antisymm ?_ ?_
  · have : ∀ k, k ≤ l.length → mostF l k ≤ mostTo l l.length := by
      intro k
      induction k with
      | zero => intro _; exact Nat.zero_le _
      | succ k ih =>
        intro hk
        rw [mostF]
        refine Nat.max_le.2 ⟨ih (by omega), ?_⟩
        have := mostTo_ge (l := l) l.length (Nat.le_refl _) (l.getD k 0)
        rwa [List.take_length] at this
    exact this _ (Nat.le_refl _)
  · have : ∀ k, k ≤ l.length → mostTo l k ≤ mostF l l.length := by
      intro k
      induction k with
      | zero => intro _; simp [mostTo]
      | succ k ih =>
        intro hk
        rw [mostTo_succ]
        refine Nat.max_le.2 ⟨ih (by omega), ?_⟩
        exact Nat.le_trans ((List.take_sublist _ _).count_le _) (mostF_ge _ (by omega))
    exact this _ (Nat.le_refl _)
theorem mostF_le (l : List Int) : ∀ k, mostF l k ≤ l.length
  | 0 => Nat.zero_le _
  | k + 1 => Nat.max_le.2 ⟨mostF_le l k, List.count_le_length⟩
def bestOf (m : Nat → Nat) (L : Nat) : Nat → Nat × Int
  | 0 => (L, -1)
  | k + 1 => if m k < (bestOf m L k).1 then (m k, (k : Int)) else bestOf m L k
def takeC (m : Nat → Nat) : Nat → Option (Nat × Nat)
  | 0 => none
  | k + 1 => match takeC m k with
    | none => some (k, m k)
    | some (c, n) => if m k < n then some (k, m k) else some (c, n)
theorem takeC_best {m : Nat → Nat} {L : Nat} (hm : ∀ k, m k ≤ L) : ∀ k, 0 < k → ∃ c n, takeC m k = some (c, n) ∧ c < k ∧ n ≤ L ∧ bestOf m L k = if n < L then (n, (c : Int)) else (L, -1)
  | 0, h => by omega
  | 1, _ => ⟨0, m 0, rfl, by omega, hm 0, rfl⟩
  | k + 2, _ => by
    obtain ⟨c, n, h1, h2, h3, h4⟩ := takeC_best hm (k + 1) (by omega)
    have hk := hm (k + 1)
    rw [takeC, h1, bestOf, h4]
    simp only
    by_cases c1 : m (k + 1) < n
    · refine ⟨k + 1, m (k + 1), by rw [if_pos c1], by omega, hk, ?_⟩
      by_cases c2 : n < L
      · rw [if_pos c2, if_pos (show m (k + 1) < L by omega)]; simp only; rw [if_pos c1]
      · rw [if_neg c2]
    · refine ⟨c, n, by rw [if_neg c1], by omega, h3, ?_⟩
      by_cases c2 : n < L
      · rw [if_pos c2]; simp only; rw [if_neg c1]
      · rw [if_neg c2]; simp only; rw [if_neg (by omega)]
def cellC (w c : Nat) : Nat := 4 * (c / w) + c % w
theorem nextTo_takeC {fs : List (List Int)} {w : Nat} (hw : 0 < w) (hw4 : w ≤ 4) : ∀ r x, x ≤ w → nextTo fs w (4 * r + x) = (takeC (fun c => mostTo (atC fs (cellC w c)) fs.length) (r * w + x)).map fun p => (p.1 / w, p.1 % w, p.2)
  | 0, 0, _ => by simp [nextTo, takeC]
  | r + 1, 0, _ => by
    rw [show 4 * (r + 1) + 0 = 4 * r + w + (4 - w) by omega, nextTo_skip (by intro k h1 h2; omega), nextTo_takeC hw hw4 r w (Nat.le_refl _), Nat.succ_mul]
    rfl
  | r, x + 1, hx => by
    have ih := nextTo_takeC (fs := fs) hw hw4 r x (by omega)
    have e1 : (r * w + x) / w = r := by rw [Nat.mul_comm, Nat.mul_add_div hw, Nat.div_eq_of_lt (by omega)]; omega
    have e2 : (r * w + x) % w = x := by rw [Nat.mul_comm, Nat.mul_add_mod, Nat.mod_eq_of_lt (by omega)]
    rw [← Nat.add_assoc, nextTo_succ, if_pos (by omega), ih, ← Nat.add_assoc, takeC, show (4 * r + x) / 4 = r by omega, show (4 * r + x) % 4 = x by omega]
    have e3 : cellC w (r * w + x) = 4 * r + x := by rw [cellC, e1, e2]
    rw [e3]
    cases takeC (fun c => mostTo (atC fs (cellC w c)) fs.length) (r * w + x) with
    | none => simp [take2, e1, e2]
    | some p =>
      obtain ⟨c, n⟩ := p
      simp only [Option.map_some, take2]
      split <;> simp [e1, e2]
def colL (b : Board) (ws : List Lay) (c : Nat) : List Int := ws.map fun l => showAt b l c
theorem col_eq {b : Board} (ok : okMade b) {c : Nat} (hc : c < b.cells.length * wideB b) : atC ((laysB b).map Prod.snd) (cellC (wideB b) c) = colL b ((laysB b).map Prod.fst) c := by
  have hw : 0 < wideB b := ok.cells.wpos
  unfold atC colL
  rw [List.map_map, List.map_map]
  refine List.map_congr_left fun x hx => ?_
  have hr : c / wideB b < b.cells.length := by rw [Nat.div_lt_iff_lt_mul hw]; exact hc
  have hm : c % wideB b < wideB b := Nat.mod_lt _ hw
  obtain ⟨⟨p, n, hp, hn, rfl⟩, _⟩ := mem_lays hx
  have h1 := wayN_shown ok hp hn hr hm
  have h2 := Shown_good ok (layK_ok hp hn) hr hm
  have e : c / wideB b * wideB b + c % wideB b = c := Nat.div_add_mod' c (wideB b)
  rw [e] at h2
  simp only [Function.comp_apply]
  have h3 := h1.symm.trans h2
  simp only [Prod.mk.injEq, and_true] at h3
  exact h3
theorem takeC_same {m m' : Nat → Nat} : ∀ k, (∀ c, c < k → m c = m' c) → takeC m k = takeC m' k
  | 0, _ => rfl
  | k + 1, h => by rw [takeC, takeC, takeC_same k fun c hc => h c (by omega), h k (by omega)]
theorem next_law {b : Board} (ok : okMade b) (h0 : 0 < (laysB b).length) (B : Nat × Int) (hBB : B = bestOf (fun c => mostF (colL b ((laysB b).map Prod.fst) c) (laysB b).length) (laysB b).length (b.cells.length * wideB b)) :
    (B.2 < 0 ∧ NextR b = (0, 0, 0, 11)) ∨ (0 ≤ B.2 ∧ B.2 < b.cells.length * wideB b ∧ NextR b = (B.2 / (wideB b : Int), B.2 % (wideB b : Int), (B.1 : Int), 0)) := by
  have hw : 0 < wideB b := ok.cells.wpos
  have hr := ok.cells.pos
  have hm : ∀ k, mostF (colL b ((laysB b).map Prod.fst) k) (laysB b).length ≤ (laysB b).length := fun k => by
    have := mostF_le (colL b ((laysB b).map Prod.fst) k) (laysB b).length
    simpa [colL] using this
  have hpos : 0 < b.cells.length * wideB b := Nat.mul_pos hr hw
  obtain ⟨c, n, h1, h2, h3, h4⟩ := takeC_best hm _ hpos
  have h5 : nextTo ((laysB b).map Prod.snd) (wideB b) (4 * b.cells.length) = some (c / wideB b, c % wideB b, n) := by
    have := nextTo_takeC (fs := (laysB b).map Prod.snd) hw ok.cells.wmost b.cells.length 0 (Nat.zero_le _)
    rw [Nat.add_zero, Nat.add_zero] at this
    rw [this, takeC_same (m' := fun c => mostF (colL b ((laysB b).map Prod.fst) c) (laysB b).length) _ ?_, h1]; rfl
    intro c hc
    rw [col_eq ok hc]
    have := most_eq (colL b ((laysB b).map Prod.fst) c)
    have e : (colL b ((laysB b).map Prod.fst) c).length = (laysB b).length := by simp [colL]
    rw [e] at this
    rw [List.length_map]
    exact this.symm
  have hN : NextR b = if n = (laysB b).length then (0, 0, 0, 11) else (((c / wideB b : Nat) : Int), ((c % wideB b : Nat) : Int), (n : Int), 0) := by
    unfold NextR
    rw [if_neg (by simp [ok.err]), if_neg (by omega)]
    unfold wideB at h5
    rw [h5]; rfl
  have hB : B = if n < (laysB b).length then (n, (c : Int)) else ((laysB b).length, -1) := hBB.trans h4
  by_cases hn : n < (laysB b).length
  · right
    rw [if_pos hn] at hB
    rw [hB, hN, if_neg (by omega)]
    simp only
    exact ⟨by omega, by omega, rfl⟩
  · left
    rw [if_neg hn] at hB
    rw [hB, hN, if_pos (by omega)]
    exact ⟨by simp, rfl⟩
theorem row_col {b : Board} {l : Lay} {c : Nat} (hc : c < b.cells.length * wideB b) : (showRow b l).length = b.cells.length * wideB b ∧ (showRow b l).getD c 0 = showAt b l c := by
  refine ⟨showTo_len _ _ _, ?_⟩
  unfold showRow showTo
  rw [List.getD_eq_getElem?_getD, List.getElem?_map, List.getElem?_range hc]; rfl
end Go.Mac
namespace Go.Mac
open Go Go.Conc Go.Proofs
set_option maxRecDepth 4000
theorem flat_len {α : Type} {w : Nat} : ∀ {cs : List (List α)}, (∀ row ∈ cs, row.length = w) → cs.flatten.length = cs.length * w
  | [], _ => by simp
  | x :: cs, h => by
    rw [List.flatten_cons, List.length_append, flat_len fun y hy => h y (List.mem_cons_of_mem _ hy), h x (List.mem_cons_self ..), List.length_cons, Nat.succ_mul, Nat.add_comm]
theorem flat_get {α : Type} {w : Nat} (hw : 0 < w) : ∀ {cs : List (List α)} {c : Nat} {d : α}, (∀ row ∈ cs, row.length = w) → cs.flatten.getD c d = (cs.getD (c / w) []).getD (c % w) d
  | [], c, d, _ => by simp
  | x :: cs, c, d, h => by
    have hx := h x (List.mem_cons_self ..)
    rw [List.flatten_cons]
    by_cases hc : c < w
    · rw [Nat.div_eq_of_lt hc, Nat.mod_eq_of_lt hc, List.getD_eq_getElem?_getD, List.getElem?_append_left (by omega)]; rfl
    · have ih := flat_get hw (c := c - w) (d := d) fun y hy => h y (List.mem_cons_of_mem _ hy)
      have e1 : c / w = (c - w) / w + 1 := by rw [← Nat.add_div_right _ hw, Nat.sub_add_cancel (by omega)]
      have e2 : c % w = (c - w) % w := by rw [← Nat.add_mod_right (c - w), Nat.sub_add_cancel (by omega)]
      rw [e1, e2, List.getD_eq_getElem?_getD, List.getElem?_append_right (by omega), hx, ← List.getD_eq_getElem?_getD, ih]; rfl
theorem traces_leaf (l : List Trace) : (l.flatMap cTrace).all leafA = true := by
  induction l with
  | nil => rfl
  | cons x l ih => simp [List.flatMap_cons, cTrace, leafA, ih]
theorem traces_ok (b : Board) (ok : okCells b.cells) : PureA Try.prog 36 [.agg (brdA b)] (sliceOf cTrace b.cells.flatten) := by
  refine PureA.of_wps [2] {} 19 mixed Try.func36 (by kernel_rfl) rfl (by kernel_rfl) (below_psl (fun _ => rfl) _) fun h j hB => ?_
  simp only [junk_succ, junk_zero, List.cons_append, List.nil_append, List.length_cons, List.length_nil, Nat.reduceAdd]
  have m3 := ok.most
  have m4 := ok.wmost
  simp (implicitDefEqProofs := false) (dsimp := false) only [go_sem, brdA]
  refine WPI.turn (Turns.nilSlot (d := 3) (sz := 2) ?_) ?_
  · simp (implicitDefEqProofs := false) (dsimp := false) only [go_sem]
  simp (implicitDefEqProofs := false) (dsimp := false) only [go_sem]
  refine WP.loopI (fun (r : Nat) s => (r ≤ b.cells.length) ∧ s.sl.length = 20 ∧ s.df = [] ∧ s.gh = {} ∧ (s.hp = h ++ [.cells 0 (brdA b), .cells r ((b.cells.take r).flatten.flatMap cTrace)]) ∧ evA s.sl (.tmp 1) = .ptr ⟨h.length, 0⟩ 0 ∧ evA s.sl (.tmp 3) = .sl ⟨h.length + 1, r⟩ 2 0 (b.cells.take r).flatten.length ∧ evA s.sl (.tmp 4) = .int .i64 r) (fun (r : Nat) => b.cells.length - r) (0) ?_ ?_
  · simp (implicitDefEqProofs := false) (dsimp := false) only [go_sem, Nat.zero_le, brdA]
    exact ⟨rfl, rfl⟩
  · rintro r ⟨sl, df, hp, gh⟩ ⟨ab, al, rfl, rfl, rfl, a1, a3, a4⟩
    simp only at ab al a1 a3 a4
    obtain ⟨j, rfl⟩ := slots_lit al; clear al; simp only [junk_succ, junk_zero, evA_tmp, nth_16, nth_four, nth_one, nth_zero, Nat.zero_add, Nat.reduceAdd] at  a1 a3 a4 ⊢
    refine wp_ok (so := {}) mixed _ (by kernel_rfl) ?_
    by_cases hr : r < b.cells.length
    · have hw := ok.row hr
      have hl : ((b.cells.take r).flatten.flatMap cTrace).length = (b.cells.take r).flatten.length * 2 := length_rows cTrace_len _
      have hl2 : (b.cells[r].flatMap cTrace).length = b.cells[r].length * 2 := length_rows cTrace_len _
      simp (implicitDefEqProofs := false) (dsimp := false) only [go_sem, a1, a3, a4, brdA, nat_lt hr, decide_true, row1 cTraces_len hr, row1_le cTraces_len hr, cTraces, hl, hl2]
      have hf := flat_len (cs := b.cells.take r) fun row hm => ok.wide row (List.mem_of_mem_take hm)
      have hf2 : (b.cells.take r).length * (b.cells.headD []).length ≤ 3 * 4 := Nat.mul_le_mul (by rw [List.length_take]; omega) m4
      rw [List.take_of_length_le (by rw [hl2]; exact Nat.le_refl _)]
      refine ⟨⟨hl2, traces_leaf _, by omega⟩, r + 1, ⟨by omega, ⟨rfl, ?_⟩, ?_, wrap_succ (by omega)⟩, by omega⟩
      · rw [List.take_succ_eq_append_getElem hr, List.flatten_append, List.flatMap_append]; simp
      · rw [List.take_succ_eq_append_getElem hr, List.flatten_append]; simp
    · have hs : ((r : Int) < (b.cells.length : Int)) = False := eq_false (by omega)
      have e : r = b.cells.length := by omega
      subst e
      simp (implicitDefEqProofs := false) (dsimp := false) only [go_sem, a1, a3, a4, brdA, hs, decide_false, List.take_length]
      rw [List.take_of_length_le (by rw [length_rows cTrace_len]; exact Nat.le_refl _)]
end Go.Mac
namespace Go.Mac
open Go Go.Conc Go.Proofs
set_option maxRecDepth 4000
theorem laid_ok (ls : List Lay) (x : Lay) (hl : ls.length ≤ 1000) : PureA Try.prog 23 [sliceOf cLay ls, .agg (cLay x)] (.bool (decide (x ∈ ls))) := by
  refine PureA.of_wpp {} 16 mixed Try.func23 (by kernel_rfl) rfl (by kernel_rfl) (rfl) fun h j hB => ?_
  simp only [junk_succ, junk_zero, List.cons_append, List.nil_append, List.length_cons, List.length_nil, Nat.reduceAdd]
  simp (implicitDefEqProofs := false) (dsimp := false) only [go_sem, cLay]
  refine WP.loopI (fun (k : Nat) s => (k ≤ ls.length ∧ x ∉ ls.take k) ∧ s.sl.length = 18 ∧ s.df = [] ∧ s.gh = {} ∧ (s.hp = h ++ [.cells 0 (cLay x)]) ∧ evA s.sl (.tmp 0) = sliceOf cLay ls ∧ evA s.sl (.tmp 3) = .ptr ⟨h.length, 0⟩ 0 ∧ evA s.sl (.tmp 5) = .int .i64 k) (fun (k : Nat) => ls.length - k) (0) ?_ ?_
  · simp (implicitDefEqProofs := false) (dsimp := false) only [go_sem, Nat.zero_le, cLay]
    simp
  · rintro k ⟨sl, df, hp, gh⟩ ⟨ab, al, rfl, rfl, rfl, a0, a3, a5⟩
    simp only at ab al a0 a3 a5
    obtain ⟨j, rfl⟩ := slots_lit al; clear al; simp only [junk_succ, junk_zero, evA_tmp, nth_16, nth_four, nth_one, nth_zero, Nat.zero_add, Nat.reduceAdd] at  a0 a3 a5 ⊢
    refine wp_ok (so := {}) mixed _ (by kernel_rfl) ?_
    obtain ⟨ak, am⟩ := ab
    by_cases hk : k < ls.length
    · simp (implicitDefEqProofs := false) (dsimp := false) only [go_sem, a0, a3, a5, nat_lt hk, decide_true, rowN cLay_len hk, rowN_le cLay_len hk, cLay, eqLay, eqGuardL]
      refine ⟨fun e => ?_, fun e => ?_⟩
      · have e2 : ls[k] = x := e
        symm
        rw [decide_eq_true_eq, ← e2]
        exact List.getElem_mem hk
      · have e2 : ls[k] ≠ x := e
        refine ⟨k + 1, ⟨⟨by omega, ?_⟩, wrap_succ (by omega)⟩, by omega⟩
        rw [List.take_succ_eq_append_getElem hk, List.mem_append, List.mem_singleton]
        rintro (q | q)
        · exact am q
        · exact e2 q.symm
    · have hs : ((k : Int) < (ls.length : Int)) = False := eq_false (by omega)
      have e : k = ls.length := by omega
      subst e
      rw [List.take_length] at am
      simp (implicitDefEqProofs := false) (dsimp := false) only [go_sem, a0, a3, a5, hs, decide_false]
      symm
      rw [decide_eq_false_iff_not]
      exact am
def moreT (t t' : Trace) : Prop := traceErr t' = 0 ∧ ∀ v, is64 v → fitsB v t' = true → fitsB v t = true
theorem nat_more {v s z : Nat} (h : v &&& (s ||| z) = s ||| z) : v &&& s = s := by
  apply Nat.eq_of_testBit_eq
  intro q
  have h1 := congrArg (fun n => n.testBit q) h
  simp only [Nat.testBit_and, Nat.testBit_or] at h1 ⊢
  cases hv : v.testBit q <;> cases hs : s.testBit q <;> simp_all
theorem nat_none {v s z : Nat} (h : v &&& (s ||| z) = 0) : v &&& s = 0 := by
  apply Nat.eq_of_testBit_eq
  intro q
  have h1 := congrArg (fun n => n.testBit q) h
  simp only [Nat.testBit_and, Nat.testBit_or, Nat.zero_testBit] at h1 ⊢
  cases hv : v.testBit q <;> cases hs : s.testBit q <;> simp_all
theorem and_zero_nat {a b : Int} (ha : is64 a) (hb : is64 b) (h : andK .i64 a b = 0) : a.toNat &&& b.toNat = 0 := by
  rw [(and64 ha hb).1] at h; omega
theorem more_seen {t : Trace} {y : Int} (h : traceErr t = 0) (hy : is64 y) : moreT t ⟨orK .i64 t.seen (andNotK .i64 y t.bare), t.bare⟩ := by
  obtain ⟨s64, b64, hsb⟩ := traceErr_64 h
  obtain ⟨n0, n64⟩ := not64 b64 hy
  have o := or64 s64 n64
  have h1 := and_zero_nat s64 b64 hsb
  have h2 := and_zero_nat b64 n64 n0
  refine ⟨?_, fun v hv hf => ?_⟩
  · have e : andK .i64 (orK .i64 t.seen (andNotK .i64 y t.bare)) t.bare = 0 := by
      rw [(and64 o.2 b64).1, o.1, Int.toNat_natCast, Nat.and_or_distrib_right, h1, Nat.and_comm, h2]; rfl
    have := o.2
    unfold is64 at this b64
    unfold traceErr
    rw [if_neg (by simp only; omega), if_neg (by simp [e])]
  · obtain ⟨f1, f2⟩ := fits_and hf
    simp only at f1 f2
    rw [(and64 hv o.2).1, o.1, Int.toNat_natCast] at f1
    have f3 : v.toNat &&& t.seen.toNat = t.seen.toNat := nat_more (z := (andNotK .i64 y t.bare).toNat) (by omega)
    have f4 : andK .i64 v t.seen = t.seen := by rw [(and64 hv s64).1, f3]; have := s64.1; omega
    simp [fitsB, f4, f2]
theorem more_bare {t : Trace} {y : Int} (h : traceErr t = 0) (hy : is64 y) : moreT t ⟨t.seen, orK .i64 t.bare (andNotK .i64 y t.seen)⟩ := by
  obtain ⟨s64, b64, hsb⟩ := traceErr_64 h
  obtain ⟨n0, n64⟩ := not64 s64 hy
  have o := or64 b64 n64
  have h1 := and_zero_nat s64 b64 hsb
  have h2 := and_zero_nat s64 n64 n0
  refine ⟨?_, fun v hv hf => ?_⟩
  · have e : andK .i64 t.seen (orK .i64 t.bare (andNotK .i64 y t.seen)) = 0 := by
      rw [(and64 s64 o.2).1, o.1, Int.toNat_natCast, Nat.and_or_distrib_left, h1, h2]; rfl
    have := o.2
    unfold is64 at this s64
    unfold traceErr
    rw [if_neg (by simp only; omega), if_neg (by simp [e])]
  · obtain ⟨f1, f2⟩ := fits_and hf
    simp only at f1 f2
    have f2' := and_zero_nat hv o.2 f2
    rw [o.1, Int.toNat_natCast] at f2'
    have f3 := nat_none f2'
    have f4 : andK .i64 v t.bare = 0 := by rw [(and64 hv b64).1, f3]; rfl
    simp [fitsB, f1, f4]
theorem faceB_same {m : List (Int × Int)} {p : List (List UInt8)} {cs cs' : List (List Trace)} {l : Lay} (h1 : cs.length = cs'.length) (h2 : (cs.headD []).length = (cs'.headD []).length) : faceB m p cs l = faceB m p cs' l := by
  unfold faceB part12 faceAt
  rw [h1, h2]
theorem misTo_more {f : List Int} {cs cs' : List (List Trace)} (h2 : (cs.headD []).length = (cs'.headD []).length) (hf : ∀ k, is64 (f.getD k 0)) (hm : ∀ r c v, is64 v → fitsB v (traceAt cs' r c) = true → fitsB v (traceAt cs r c) = true)  (n : Nat) : (misTo f cs n).length ≤ (misTo f cs' n).length := by
  induction n with
  | zero => simp [misTo]
  | succ n ih =>
    rw [misTo_succ, misTo_succ, h2, List.length_append, List.length_append]
    refine Nat.add_le_add ih ?_
    by_cases hw : n % 4 < (cs'.headD []).length
    · rw [if_pos hw, if_pos hw]
      unfold misAt
      have h3 := hm (n / 4) (n % 4) (f.getD n 0) (hf n)
      generalize fitsB (f.getD n 0) (traceAt cs (n / 4) (n % 4)) = p at h3 ⊢
      generalize fitsB (f.getD n 0) (traceAt cs' (n / 4) (n % 4)) = q at h3 ⊢
      cases p <;> cases q <;> simp_all
    · rw [if_neg hw, if_neg hw]; exact Nat.le_refl _
theorem setT_head {cs : List (List Trace)} {n w r c : Nat} {t : Trace} (h : shapeT cs n w) (hn : 0 < n) (hr : r < n) : ((setT cs r c t).headD []).length = (cs.headD []).length := by
  have h2 := h.set (c := c) (t := t) hr
  have hl := h.len
  have hl2 := h2.len
  rw [headD_get (show 0 < cs.length by omega), headD_get (show 0 < (setT cs r c t).length by omega), h.wide _ (List.getElem_mem _), h2.wide _ (List.getElem_mem _)]
theorem misN_more {b : Board} (ok : okMade b) {r c : Nat} {t : Trace} (hr : r < b.cells.length) (hc : c < (b.cells.headD []).length) (hm : moreT (traceAt b.cells r c) t) (i : Nat) : misN b (layK i) ≤ misN { b with cells := setT b.cells r c t } (layK i) := by
  have hs := ok.shape
  have h0 := ok.cells.pos
  have hhd := setT_head (c := c) (t := t) hs h0 hr
  have hl : (setT b.cells r c t).length = b.cells.length := (hs.set (c := c) (t := t) hr).len
  unfold misN misR wrongB misB
  simp only
  rw [hl, faceB_same hl hhd]
  refine misTo_more hhd.symm (fun k => ?_) (fun r' c' v hv hf => ?_) _
  · have := wayN_64 ok (p := i / 18) (n := i % 18) (i := k)
    exact this
  · rw [traceAt_set hs hr hc] at hf
    split at hf
    · rename_i e; rw [e.1, e.2]; exact hm.2 v hv hf
    · exact hf
theorem okMade.more {b : Board} (ok : okMade b) {r c : Nat} {t : Trace} (hr : r < b.cells.length) (hc : c < (b.cells.headD []).length) (hm : moreT (traceAt b.cells r c) t) : okMade { b with cells := setT b.cells r c t } := by
  refine ok.cells2 (ok.shape.set hr) fun r' c' h1 h2 => ?_
  rw [traceAt_set ok.shape hr hc]
  split
  · exact hm.1
  · have hw := ok.cells.row h1
    rw [traceAt_eq h1 (by omega)]
    exact ok.trace _ (List.getElem_mem h1) _ (List.getElem_mem _)
theorem mem_lay {b : Board} {l : Lay} : (∃ x ∈ laysB b, x.1 = l) ↔ ∃ i, i < 18 * b.pages.length ∧ l = layK i ∧ misN b (layK i) = 0 := by
  have hlen := allWays_len b (mapB b.glyphs)
  constructor
  · rintro ⟨x, hx, rfl⟩
    unfold laysB rightsB at hx
    obtain ⟨h1, h2⟩ := List.mem_filter.1 hx
    obtain ⟨i, hi, rfl⟩ := List.mem_iff_getElem.1 h1
    refine ⟨i, by omega, allWays_lay hi, ?_⟩
    rw [← allWays_mis hi]
    simpa [rightB] using h2
  · rintro ⟨i, hi, rfl, h0⟩
    have hi2 : i < (allWays b (mapB b.glyphs)).length := by omega
    refine ⟨(allWays b (mapB b.glyphs))[i], List.mem_filter.2 ⟨List.getElem_mem hi2, ?_⟩, allWays_lay hi2⟩
    rw [rightB, allWays_mis hi2, h0]; rfl
end Go.Mac
namespace Go.Mac
open Go Go.Conc Go.Proofs
theorem lay_is {l : Lay} {n : Nat} (h : okLay l n) : ∃ i, i < 18 * n ∧ l = layK i := by
  obtain ⟨p, t, d, e⟩ := l
  obtain ⟨h1, h2, h3, h4⟩ := h
  simp only at h1 h2 h3 h4
  obtain ⟨q, rfl⟩ : ∃ q : Nat, p = q := ⟨p.toNat, by omega⟩
  obtain ⟨y, rfl⟩ : ∃ y : Nat, d = (y : Int) - 1 := ⟨(d + 1).toNat, by omega⟩
  obtain ⟨z, rfl⟩ : ∃ z : Nat, e = (z : Int) - 1 := ⟨(e + 1).toNat, by omega⟩
  have e1 : ∀ k, k < 18 → (18 * q + k) / 18 = q ∧ (18 * q + k) % 18 = k := fun k hk => by omega
  cases t with
  | false =>
    refine ⟨18 * q + (3 * y + z), by omega, ?_⟩
    obtain ⟨a1, a2⟩ := e1 (3 * y + z) (by omega)
    simp only [layK, layN, a1, a2]
    rw [show (3 * y + z) % 9 / 3 = y by omega, show (3 * y + z) % 3 = z by omega, show decide (9 ≤ 3 * y + z) = false by simp; omega]
  | true =>
    refine ⟨18 * q + (9 + 3 * y + z), by omega, ?_⟩
    obtain ⟨a1, a2⟩ := e1 (9 + 3 * y + z) (by omega)
    simp only [layK, layN, a1, a2]
    rw [show (9 + 3 * y + z) % 9 / 3 = y by omega, show (9 + 3 * y + z) % 3 = z by omega, show decide (9 ≤ 9 + 3 * y + z) = true by simp; omega]
theorem misB_of {f : List Int} {cs : List (List Trace)} (h : ∀ r c, r < cs.length → c < (cs.headD []).length → c < 4 → fitsB (f.getD (4 * r + c) 0) (traceAt cs r c) = true) : misB f cs = [] := by
  unfold misB misTo
  rw [List.flatMap_eq_nil_iff]
  intro k hk
  have hk := List.mem_range.1 hk
  split
  · rename_i hw
    have := h (k / 4) (k % 4) (by omega) hw (by omega)
    rw [show 4 * (k / 4) + k % 4 = k by omega] at this
    rw [misAt, if_pos this]
  · rfl
def seenL (b : Board) (l : Lay) (r c : Nat) : Int := shownB (mapB b.glyphs) (b.pages.getD l.page.toNat []) l r c
theorem misR_of {b : Board} (okc : okCells b.cells) {l : Lay} (h : ∀ r c, r < b.cells.length → c < (b.cells.headD []).length → fitsB (seenL b l r c) (traceAt b.cells r c) = true) : misR b l = [] := by
  unfold misR wrongB
  refine misB_of fun r c h1 h2 h3 => ?_
  rw [face_get h1 okc.most h2 okc.wmost]
  exact h r c h1 h2
theorem misR_nil {b : Board} (okc : okCells b.cells) {l : Lay} : misR b l = [] ↔ ∀ r c, r < b.cells.length → c < (b.cells.headD []).length → fitsB (seenL b l r c) (traceAt b.cells r c) = true := by
  refine ⟨fun h r c h1 h2 => ?_, misR_of okc⟩
  have := misB_nil (f := faceB (mapB b.glyphs) (b.pages.getD l.page.toNat []) b.cells l) (cs := b.cells) (by have := congrArg List.length h; exact this) h1 h2 (by have := okc.wmost; omega)
  rw [face_get h1 okc.most h2 okc.wmost] at this
  exact this
theorem seenL_64 {b : Board} (ok : okMade b) (l : Lay) (r c : Nat) : is64 (seenL b l r c) := shownB_64 ok.gl _ _ _ _
theorem or_self {v : Int} (h : is64 v) : orK .i64 v v = v := by
  rw [(or64 h h).1, Nat.or_self]; have := h.1; omega
theorem pressed_mis {b : Board} (ok : okMade b) {l : Lay} {cs : List (List Trace)} (hs : shapeT cs b.cells.length (b.cells.headD []).length) (hp : pressed (shown2 b l l) cs b.cells.length (b.cells.headD []).length b.cells.length 0) : okMade { b with cells := cs } ∧ misR { b with cells := cs } l = [] := by
  have okx : okMade { b with cells := cs } := ok.cells2 hs fun r c h1 h2 => (hp r c h1 h2 (by omega)).err
  refine ⟨okx, misR_of okx.cells fun r c h1 h2 => ?_⟩
  have h0 := ok.cells.pos
  have hl := hs.len
  simp only at h1 h2
  have hw : (cs.headD []).length = (b.cells.headD []).length := by rw [headD_get (show 0 < cs.length by omega)]; exact hs.wide _ (List.getElem_mem _)
  have := (hp r c (by omega) (by omega) (by omega)).2.2.2
  unfold shown2 at this
  have e : orK .i64 (seenL b l r c) (seenL b l r c) = seenL b l r c := or_self (seenL_64 ok l r c)
  unfold seenL at e
  rw [e] at this
  exact this
theorem mem_made {b : Board} {l : Lay} (hl : okLay l b.pages.length) (h : misR b l = []) : l ∈ (laysB b).map Prod.fst := by
  obtain ⟨i, hi, e⟩ := lay_is hl
  obtain ⟨q, hq, e3⟩ := (mem_lay (b := b) (l := l)).2 ⟨i, hi, e, by rw [← e]; exact congrArg List.length h⟩
  exact List.mem_map.2 ⟨q, hq, e3⟩
end Go.Mac
namespace Go.Mac
open Go Go.Conc Go.Proofs
def cntK (f : Nat → Bool) : Nat → Nat
  | 0 => 0
  | k + 1 => cntK f k + if f k then 1 else 0
theorem cntK_add {f : Nat → Bool} {a : Nat} : ∀ m, cntK f (a + m) = cntK f a + cntK (fun k => f (a + k)) m
  | 0 => rfl
  | m + 1 => by rw [← Nat.add_assoc, cntK, cntK_add m, cntK]; omega
theorem cntK_zero {f : Nat → Bool} : ∀ {n}, (∀ k, k < n → f k = false) → cntK f n = 0
  | 0, _ => rfl
  | n + 1, h => by rw [cntK, cntK_zero fun k hk => h k (by omega), h n (by omega)]; rfl
theorem cntK_same {f g : Nat → Bool} : ∀ {n}, (∀ k, k < n → f k = g k) → cntK f n = cntK g n
  | 0, _ => rfl
  | n + 1, h => by rw [cntK, cntK, cntK_same fun k hk => h k (by omega), h n (by omega)]
theorem cntK_le (f : Nat → Bool) : ∀ n, cntK f n ≤ n
  | 0 => Nat.le_refl _
  | n + 1 => by rw [cntK]; have := cntK_le f n; split <;> omega
def sumK (f : Nat → Nat) : Nat → Nat
  | 0 => 0
  | k + 1 => sumK f k + f k
theorem sumK_add {f : Nat → Nat} {a : Nat} : ∀ m, sumK f (a + m) = sumK f a + sumK (fun k => f (a + k)) m
  | 0 => rfl
  | m + 1 => by rw [← Nat.add_assoc, sumK, sumK_add m, sumK]; omega
theorem sumK_zero {f : Nat → Nat} : ∀ {n}, (∀ k, k < n → f k = 0) → sumK f n = 0
  | 0, _ => rfl
  | n + 1, h => by rw [sumK, sumK_zero fun k hk => h k (by omega), h n (by omega)]
theorem sumK_same {f g : Nat → Nat} : ∀ {n}, (∀ k, k < n → f k = g k) → sumK f n = sumK g n
  | 0, _ => rfl
  | n + 1, h => by rw [sumK, sumK, sumK_same fun k hk => h k (by omega), h n (by omega)]
theorem sumK_le {f : Nat → Nat} {m : Nat} (h : ∀ k, f k ≤ m) : ∀ n, sumK f n ≤ n * m
  | 0 => Nat.zero_le _
  | n + 1 => by rw [sumK, Nat.succ_mul]; have := sumK_le h n; have := h n; omega
theorem cntK_block {f : Nat → Bool} {p P : Nat} (hp : p < P) (h : ∀ k, k / 18 ≠ p → f k = false) : cntK f (18 * P) = cntK (fun k => f (18 * p + k)) 18 := by
  have e : 18 * P = 18 * p + 18 + (18 * P - (18 * p + 18)) := by omega
  rw [e, cntK_add, cntK_add, cntK_zero (n := 18 * p) fun k hk => h k (by omega), cntK_zero (n := 18 * P - (18 * p + 18)) fun k hk => h _ (by omega)]
  omega
theorem sumK_block {f : Nat → Nat} {p P : Nat} (hp : p < P) (h : ∀ k, k / 18 ≠ p → f k = 0) : sumK f (18 * P) = sumK (fun k => f (18 * p + k)) 18 := by
  have e : 18 * P = 18 * p + 18 + (18 * P - (18 * p + 18)) := by omega
  rw [e, sumK_add, sumK_add, sumK_zero (n := 18 * p) fun k hk => h k (by omega), sumK_zero (n := 18 * P - (18 * p + 18)) fun k hk => h _ (by omega)]
  omega
def fitAt (b : Board) (i k c : Nat) : Bool :=
  (andK .i64 (b.cells.flatten.getD c ⟨0, 0⟩).seen (orK .i64 (showAt b (layK i) c) (showAt b (layK k) c)) == (b.cells.flatten.getD c ⟨0, 0⟩).seen) && (andK .i64 (b.cells.flatten.getD c ⟨0, 0⟩).bare (orK .i64 (showAt b (layK i) c) (showAt b (layK k) c)) == 0)
def fitTo (b : Board) (i k : Nat) : Nat → Bool
  | 0 => true
  | c + 1 => fitTo b i k c && fitAt b i k c
theorem fitTo_iff {b : Board} {i k : Nat} : ∀ {n}, fitTo b i k n = true ↔ ∀ c, c < n → fitAt b i k c = true
  | 0 => by simp [fitTo]
  | n + 1 => by
    rw [fitTo, Bool.and_eq_true, fitTo_iff]
    constructor
    · rintro ⟨h1, h2⟩ c hc
      by_cases e : c = n
      · rw [e]; exact h2
      · exact h1 c (by omega)
    · exact fun h => ⟨fun c hc => h c (by omega), h n (by omega)⟩
def pairQ (b : Board) (p q i k : Nat) : Bool := decide (i / 18 = p) && (decide (k / 18 = q) && (!(decide (p = q) && decide (k ≤ i)) && fitTo b i k (b.cells.length * wideB b)))
def dueK (b : Board) (p q i n : Nat) : Nat := cntK (pairQ b p q i) n
def dueI (b : Board) (p q n : Nat) : Nat := sumK (fun i => dueK b p q i (18 * b.pages.length)) n
theorem and_comm64 {a c : Int} (ha : is64 a) (hc : is64 c) : andK .i64 a c = andK .i64 c a := by
  rw [(and64 ha hc).1, (and64 hc ha).1, Nat.and_comm]
theorem trace_flat {b : Board} (ok : okMade b) {c : Nat} : b.cells.flatten.getD c ⟨0, 0⟩ = traceAt b.cells (c / wideB b) (c % wideB b) := flat_get ok.cells.wpos ok.cells.wide
theorem fitAt_fits {b : Board} (ok : okMade b) {i k r c : Nat} (hr : r < b.cells.length) (hc : c < wideB b) : fitAt b i k (r * wideB b + c) = fitsB (orK .i64 (seenL b (layK i) r c) (seenL b (layK k) r c)) (traceAt b.cells r c) := by
  have hw : 0 < wideB b := ok.cells.wpos
  have e1 : (r * wideB b + c) / wideB b = r := by rw [Nat.mul_comm, Nat.mul_add_div hw, Nat.div_eq_of_lt hc]; omega
  have e2 : (r * wideB b + c) % wideB b = c := by rw [Nat.mul_comm, Nat.mul_add_mod, Nat.mod_eq_of_lt hc]
  obtain ⟨s64, b64, _⟩ := ok.trace64 hr hc
  have o64 := (or64 (seenL_64 ok (layK i) r c) (seenL_64 ok (layK k) r c)).2
  unfold fitAt fitsB
  rw [trace_flat ok, e1, e2, showAt, showAt, e1, e2]
  unfold seenL at o64
  rw [and_comm64 s64 o64, and_comm64 b64 o64]
  rfl
theorem fit_together {b : Board} (ok : okMade b) (p q i k : Nat) (hi : i < 18) (hk : k < 18) :
    fitTo b (18 * p + i) (18 * q + k) (b.cells.length * wideB b) = togetherB b.cells ((facesOf b (mapB b.glyphs) p)[i]'(by rw [facesOf_len]; exact hi)) ((facesOf b (mapB b.glyphs) q)[k]'(by rw [facesOf_len]; exact hk)) := by
  have hw : 0 < wideB b := ok.cells.wpos
  have w4 := ok.cells.wmost
  have h3 := ok.cells.most
  have ki : layK (18 * p + i) = layN p i := by rw [layK, show (18 * p + i) / 18 = p by omega, show (18 * p + i) % 18 = i by omega]
  have kk : layK (18 * q + k) = layN q k := by rw [layK, show (18 * q + k) / 18 = q by omega, show (18 * q + k) % 18 = k by omega]
  rw [facesOf_get hi, facesOf_get hk]
  have hface : ∀ (u n r c : Nat), r < b.cells.length → c < wideB b → (faceB (mapB b.glyphs) (b.pages.getD u []) b.cells (layN u n)).getD (4 * r + c) 0 = seenL b (layN u n) r c := fun u n r c hr hc => by
    rw [face_get hr h3 hc w4]; rfl
  have hover : ∀ r c, r < b.cells.length → c < wideB b → (overB (faceB (mapB b.glyphs) (b.pages.getD p []) b.cells (layN p i)) (faceB (mapB b.glyphs) (b.pages.getD q []) b.cells (layN q k))).getD (4 * r + c) 0 = orK .i64 (seenL b (layN p i) r c) (seenL b (layN q k) r c) := fun r c hr hc => by
    have w4' : wideB b ≤ 4 := w4
    rw [overB, overTo_get (by omega), if_pos (by omega), hface p i r c hr hc, hface q k r c hr hc]
  rw [Bool.eq_iff_iff, fitTo_iff, togetherB, beq_iff_eq]
  constructor
  · intro h
    rw [misB_of]
    · rfl
    · intro r c hr hc _
      have hlt : r * wideB b + c < b.cells.length * wideB b := by
        have : (r + 1) * wideB b ≤ b.cells.length * wideB b := Nat.mul_le_mul_right _ hr
        rw [Nat.succ_mul] at this
        unfold wideB at this ⊢
        omega
      have := h _ hlt
      rw [fitAt_fits ok hr hc, ki, kk] at this
      rw [hover r c hr hc]; exact this
  · intro h c hc
    have hr : c / wideB b < b.cells.length := by rw [Nat.div_lt_iff_lt_mul hw]; exact hc
    have hm : c % wideB b < wideB b := Nat.mod_lt _ hw
    have := misB_nil h hr hm (by have w4' : wideB b ≤ 4 := w4; omega)
    rw [hover _ _ hr hm] at this
    have e : c / wideB b * wideB b + c % wideB b = c := Nat.div_add_mod' c (wideB b)
    have h2 := fitAt_fits ok (i := 18 * p + i) (k := 18 * q + k) hr hm
    rw [e, ki, kk] at h2
    rw [h2]; exact this
theorem bits_count {cs : List (List Trace)} {p q : Int} {x : List Int} {i : Nat} : ∀ (fs : List (List Int)) (k0 : Nat), (bitsFrom cs p q x i k0 fs).count true = cntK (fun k => decide (p ≠ q ∨ i < k0 + k) && togetherB cs x (fs.getD k [])) fs.length
  | [], _ => rfl
  | y :: fs, k0 => by
    rw [bitsFrom, List.count_append, bits_count fs (k0 + 1), List.length_cons, Nat.add_comm fs.length 1, cntK_add]
    congr 1
    · by_cases h : p ≠ q ∨ i < k0
      · rw [if_pos h]
        cases ht : togetherB cs x y <;> simp [cntK, h, ht]
      · rw [if_neg h]
        simp [cntK, h]
    · refine cntK_same fun k _ => ?_
      rw [show k0 + (1 + k) = k0 + 1 + k by omega, show 1 + k = k + 1 by omega]; rfl
theorem countT_sum {cs : List (List Trace)} {p q : Int} {one two : List (List Int)} : ∀ n, countT (bitsAll cs p q one two n) = sumK (fun i => (bitsFrom cs p q (one.getD i []) i 0 two).count true) n
  | 0 => rfl
  | n + 1 => by
    rw [bitsAll_succ, sumK, ← countT_sum n]
    simp [countT]
theorem due_double {b : Board} (ok : okMade b) {p q : Nat} (hp : p < b.pages.length) (hq : q < b.pages.length) : dueI b p q (18 * b.pages.length) = doubleB b (mapB b.glyphs) p q := by
  unfold dueI doubleB
  rw [countT_sum, sumK_block hp]
  · refine sumK_same fun i hi => ?_
    rw [bits_count, facesOf_len, dueK, cntK_block hq]
    · refine cntK_same fun k hk => ?_
      have hfi : (facesOf b (mapB b.glyphs) p).getD i [] = (facesOf b (mapB b.glyphs) p)[i]'(by rw [facesOf_len]; exact hi) := by rw [List.getD_eq_getElem?_getD, List.getElem?_eq_getElem]; rfl
      have hfk : (facesOf b (mapB b.glyphs) q).getD k [] = (facesOf b (mapB b.glyphs) q)[k]'(by rw [facesOf_len]; exact hk) := by rw [List.getD_eq_getElem?_getD, List.getElem?_eq_getElem]; rfl
      rw [hfi, hfk, ← fit_together ok p q i k hi hk, pairQ, show (18 * p + i) / 18 = p by omega, show (18 * q + k) / 18 = q by omega]
      simp only [decide_true, Bool.true_and]
      congr 1
      rw [Bool.eq_iff_iff]
      simp only [Bool.not_eq_true', Bool.and_eq_false_iff, decide_eq_false_iff_not, decide_eq_true_eq]
      constructor
      · rintro (h | h)
        · exact .inl (by omega)
        · by_cases e : p = q
          · right; omega
          · left; omega
      · rintro (h | h)
        · exact .inl (by omega)
        · by_cases e : p = q
          · right; omega
          · left; omega
    · intro k hk
      simp [pairQ, hk]
  · intro i hi
    refine cntK_zero fun k _ => ?_
    simp [pairQ, hi]
theorem dueI_le (b : Board) (p q n : Nat) : dueI b p q n ≤ n * (18 * b.pages.length) := sumK_le (fun k => cntK_le _ _) n
theorem Double_good {b : Board} (ok : okMade b) {p q : Nat} (hp : p < b.pages.length) (hq : q < b.pages.length) : DoubleR b p q = ((doubleB b (mapB b.glyphs) p q : Int), 0) := by
  unfold DoubleR inPages
  rw [if_neg (by simp [ok.err]), if_neg (by simp; omega)]
  simp
end Go.Mac
namespace Go.Mac
open Go Go.Conc Go.Proofs
def nzTo (b : Board) (i : Nat) : Nat → Bool
  | 0 => false
  | c + 1 => nzTo b i c || (showAt b (layK i) c != 0)
def alikeQ (b : Board) (p q i k : Nat) : Bool := decide (i / 18 = p) && (decide (k / 18 = q) && (showRow b (layK i) == showRow b (layK k)))
def hitK (b : Board) (p q i : Nat) : Nat → Bool
  | 0 => false
  | k + 1 => hitK b p q i k || (alikeQ b p q i k && nzTo b i (b.cells.length * wideB b))
def hitI (b : Board) (p q : Nat) : Nat → Bool
  | 0 => false
  | i + 1 => hitI b p q i || hitK b p q i (18 * b.pages.length)
theorem nzTo_iff {b : Board} {i : Nat} : ∀ {n}, nzTo b i n = true ↔ ∃ c, c < n ∧ showAt b (layK i) c ≠ 0
  | 0 => by simp [nzTo]
  | n + 1 => by
    rw [nzTo, Bool.or_eq_true, nzTo_iff, bne_iff_ne]
    constructor
    · rintro (⟨c, h1, h2⟩ | h)
      · exact ⟨c, by omega, h2⟩
      · exact ⟨n, by omega, h⟩
    · rintro ⟨c, h1, h2⟩
      by_cases e : c = n
      · subst e; exact .inr h2
      · exact .inl ⟨c, by omega, h2⟩
theorem hitK_iff {b : Board} {p q i : Nat} : ∀ {n}, hitK b p q i n = true ↔ ∃ k, k < n ∧ (alikeQ b p q i k && nzTo b i (b.cells.length * wideB b)) = true
  | 0 => by simp [hitK]
  | n + 1 => by
    rw [hitK, Bool.or_eq_true, hitK_iff]
    constructor
    · rintro (⟨c, h1, h2⟩ | h)
      · exact ⟨c, by omega, h2⟩
      · exact ⟨n, by omega, h⟩
    · rintro ⟨c, h1, h2⟩
      by_cases e : c = n
      · subst e; exact .inr h2
      · exact .inl ⟨c, by omega, h2⟩
theorem hitI_iff {b : Board} {p q : Nat} : ∀ {n}, hitI b p q n = true ↔ ∃ i, i < n ∧ hitK b p q i (18 * b.pages.length) = true
  | 0 => by simp [hitI]
  | n + 1 => by
    rw [hitI, Bool.or_eq_true, hitI_iff]
    constructor
    · rintro (⟨c, h1, h2⟩ | h)
      · exact ⟨c, by omega, h2⟩
      · exact ⟨n, by omega, h⟩
    · rintro ⟨c, h1, h2⟩
      by_cases e : c = n
      · subst e; exact .inr h2
      · exact .inl ⟨c, by omega, h2⟩
theorem seen_show {b : Board} (ok : okMade b) {l : Lay} {r c : Nat} (hc : c < wideB b) : showAt b l (r * wideB b + c) = seenL b l r c := by
  have hw : 0 < wideB b := ok.cells.wpos
  have e1 : (r * wideB b + c) / wideB b = r := by rw [Nat.mul_comm, Nat.mul_add_div hw, Nat.div_eq_of_lt hc]; omega
  have e2 : (r * wideB b + c) % wideB b = c := by rw [Nat.mul_comm, Nat.mul_add_mod, Nat.mod_eq_of_lt hc]
  rw [showAt, e1, e2]; rfl
theorem show_seen {b : Board} {l : Lay} {c : Nat} : showAt b l c = seenL b l (c / wideB b) (c % wideB b) := rfl
theorem cell_ltQ {b : Board} {r c : Nat} (hr : r < b.cells.length) (hc : c < wideB b) : r * wideB b + c < b.cells.length * wideB b := by
  have : (r + 1) * wideB b ≤ b.cells.length * wideB b := Nat.mul_le_mul_right _ hr
  rw [Nat.succ_mul] at this
  omega
def faceL (b : Board) (l : Lay) : List Int := faceB (mapB b.glyphs) (b.pages.getD l.page.toNat []) b.cells l
theorem faceL_get {b : Board} {l : Lay} {k : Nat} (hk : k < 12) : (faceL b l)[k]? = some (if k / 4 < b.cells.length ∧ k % 4 < wideB b then seenL b l (k / 4) (k % 4) else 0) := by
  unfold faceL faceB part12
  rw [List.getElem?_map, List.getElem?_range hk]
  simp only [Option.map_some, hk, if_true, faceAt]
  rfl
theorem faceL_len (b : Board) (l : Lay) : (faceL b l).length = 12 := by simp [faceL, faceB, part12]
theorem faceL_eq {b : Board} (ok : okMade b) {l l' : Lay} : faceL b l = faceL b l' ↔ showRow b l = showRow b l' := by
  have hw : 0 < wideB b := ok.cells.wpos
  have w4 : wideB b ≤ 4 := ok.cells.wmost
  have h3 := ok.cells.most
  constructor
  · intro h
    unfold showRow showTo
    refine List.map_congr_left fun c hc => ?_
    have hc := List.mem_range.1 hc
    have hr : c / wideB b < b.cells.length := by rw [Nat.div_lt_iff_lt_mul hw]; exact hc
    have hm : c % wideB b < wideB b := Nat.mod_lt _ hw
    have := congrArg (fun f => f[4 * (c / wideB b) + c % wideB b]?) h
    rw [faceL_get (by omega), faceL_get (by omega), show (4 * (c / wideB b) + c % wideB b) / 4 = c / wideB b by omega, show (4 * (c / wideB b) + c % wideB b) % 4 = c % wideB b by omega, if_pos ⟨hr, hm⟩, if_pos ⟨hr, hm⟩] at this
    rw [show_seen, show_seen]
    exact Option.some.inj this
  · intro h
    apply List.ext_getElem?
    intro k
    by_cases hk : k < 12
    · rw [faceL_get hk, faceL_get hk]
      by_cases hin : k / 4 < b.cells.length ∧ k % 4 < wideB b
      · rw [if_pos hin, if_pos hin]
        have := congrArg (fun f => f[k / 4 * wideB b + k % 4]?) h
        unfold showRow showTo at this
        rw [List.getElem?_map, List.getElem?_map, List.getElem?_range (cell_ltQ hin.1 hin.2)] at this
        simp only [Option.map_some, Option.some.injEq] at this
        rw [seen_show ok hin.2, seen_show ok hin.2] at this
        rw [this]
      · rw [if_neg hin, if_neg hin]
    · rw [List.getElem?_eq_none (by rw [faceL_len]; omega), List.getElem?_eq_none (by rw [faceL_len]; omega)]
theorem faceL_nz {b : Board} (ok : okMade b) {i : Nat} : faceL b (layK i) ≠ z12 ↔ nzTo b i (b.cells.length * wideB b) = true := by
  have hw : 0 < wideB b := ok.cells.wpos
  have w4 : wideB b ≤ 4 := ok.cells.wmost
  have h3 := ok.cells.most
  have hz : ∀ k, k < 12 → z12[k]? = some 0 := by decide
  rw [nzTo_iff]
  constructor
  · intro h
    refine Classical.byContradiction fun hn => h ?_
    apply List.ext_getElem?
    intro k
    by_cases hk : k < 12
    · rw [faceL_get hk, hz k hk]
      by_cases hin : k / 4 < b.cells.length ∧ k % 4 < wideB b
      · rw [if_pos hin]
        have : seenL b (layK i) (k / 4) (k % 4) = 0 := Classical.byContradiction fun q => hn ⟨k / 4 * wideB b + k % 4, cell_ltQ hin.1 hin.2, by rw [seen_show ok hin.2]; exact q⟩
        rw [this]
      · rw [if_neg hin]
    · rw [List.getElem?_eq_none (by rw [faceL_len]; omega), List.getElem?_eq_none (by simp [z12]; omega)]
  · rintro ⟨c, hc, hne⟩ h
    have hr : c / wideB b < b.cells.length := by rw [Nat.div_lt_iff_lt_mul hw]; exact hc
    have hm : c % wideB b < wideB b := Nat.mod_lt _ hw
    have := congrArg (fun f => f[4 * (c / wideB b) + c % wideB b]?) h
    rw [faceL_get (by omega), hz _ (by omega), show (4 * (c / wideB b) + c % wideB b) / 4 = c / wideB b by omega, show (4 * (c / wideB b) + c % wideB b) % 4 = c % wideB b by omega, if_pos ⟨hr, hm⟩] at this
    exact hne (Option.some.inj this)
theorem faces_mem {b : Board} {p : Nat} {y : List Int} : y ∈ facesOf b (mapB b.glyphs) p ↔ ∃ i, i < 18 ∧ y = faceL b (layK (18 * p + i)) := by
  have e : ∀ i, i < 18 → faceL b (layK (18 * p + i)) = (wayN b (mapB b.glyphs) p i).2 := fun i hi => by
    rw [layK, show (18 * p + i) / 18 = p by omega, show (18 * p + i) % 18 = i by omega]; rfl
  unfold facesOf ways
  rw [List.mem_map]
  constructor
  · rintro ⟨x, hx, rfl⟩
    obtain ⟨i, hi, rfl⟩ := List.mem_map.1 hx
    have hi := List.mem_range.1 hi
    exact ⟨i, hi, (e i hi).symm⟩
  · rintro ⟨i, hi, rfl⟩
    exact ⟨_, List.mem_map.2 ⟨i, List.mem_range.2 hi, rfl⟩, (e i hi).symm⟩
theorem alike_law {b : Board} (ok : okMade b) {p q : Nat} (hp : p < b.pages.length) (hq : q < b.pages.length) : hitI b p q (18 * b.pages.length) = alikeP b (mapB b.glyphs) p q := by
  rw [Bool.eq_iff_iff, hitI_iff, alikeP, List.any_eq_true]
  constructor
  · rintro ⟨i, hi, h⟩
    obtain ⟨k, hk, h⟩ := hitK_iff.1 h
    simp only [alikeQ, Bool.and_eq_true, decide_eq_true_eq, beq_iff_eq] at h
    obtain ⟨⟨h1, h2, h3⟩, h4⟩ := h
    have ei : i = 18 * p + i % 18 := by omega
    have ek : k = 18 * q + k % 18 := by omega
    refine ⟨faceL b (layK k), faces_mem.2 ⟨k % 18, by omega, by rw [← ek]⟩, ?_⟩
    have hf := (faceL_eq ok).2 h3
    rw [Bool.and_eq_true, bne_iff_ne, ← hf]
    refine ⟨(faceL_nz ok).2 h4, ?_⟩
    rw [List.contains_iff_mem]
    exact faces_mem.2 ⟨i % 18, by omega, by rw [← ei]⟩
  · rintro ⟨y, hy, h⟩
    rw [Bool.and_eq_true, bne_iff_ne, List.contains_iff_mem] at h
    obtain ⟨k, hk, e1⟩ := faces_mem.1 hy
    obtain ⟨i, hi, e2⟩ := faces_mem.1 h.2
    refine ⟨18 * p + i, by omega, hitK_iff.2 ⟨18 * q + k, by omega, ?_⟩⟩
    simp only [alikeQ, Bool.and_eq_true, decide_eq_true_eq, beq_iff_eq]
    refine ⟨⟨by omega, by omega, (faceL_eq ok).1 (by rw [← e1, ← e2])⟩, (faceL_nz ok).1 (by rw [← e2]; exact h.1)⟩
end Go.Mac
namespace Go.Mac
open Go Go.Conc Go.Proofs
set_option maxRecDepth 4000
def ddTo (l : List Int) : Nat → List Int
  | 0 => []
  | t + 1 => if t = 0 ∨ l.getD t 0 ≠ l.getD (t - 1) 0 then ddTo l t ++ [l.getD t 0] else ddTo l t
theorem ddTo_len (l : List Int) : ∀ t, (ddTo l t).length ≤ t
  | 0 => Nat.le_refl _
  | t + 1 => by
    rw [ddTo]
    have := ddTo_len l t
    split <;> simp <;> omega
theorem ddTo_same {l : List Int} : ∀ t, t ≤ l.length → (∀ k, 0 < k → k < t → l.getD k 0 ≠ l.getD (k - 1) 0) → ddTo l t = l.take t
  | 0, _, _ => by simp [ddTo]
  | t + 1, ht, h => by
    have ih := ddTo_same t (by omega) fun k h1 h2 => h k h1 (by omega)
    rw [ddTo, if_pos, ih, List.take_succ_eq_append_getElem (by omega)]
    · rw [List.getD_eq_getElem?_getD, List.getElem?_eq_getElem (by omega)]; rfl
    · by_cases e : t = 0
      · exact .inl e
      · exact .inr (h t (by omega) (by omega))
theorem cInt_len1 (l : List Int) : (l.flatMap cInt).length = l.length := rows_length (fun _ => rfl) l
theorem setMany_tail {α : Type} : ∀ (V B A : List α), V.length = B.length → setMany (A ++ B) A.length V = A ++ V
  | [], B, A, h => by
    have : B = [] := List.length_eq_zero_iff.1 h.symm
    subst this; simp [setMany]
  | v :: V, [], A, h => by simp at h
  | v :: V, b :: B, A, h => by
    have e : (A ++ b :: B).set A.length v = (A ++ [v]) ++ B := by rw [List.set_append_right _ _ (Nat.le_refl _), Nat.sub_self]; simp
    have := setMany_tail V B (A ++ [v]) (by simpa using h)
    rw [setMany, e, show A.length + 1 = (A ++ [v]).length by simp, this]
    simp
theorem cInt_zero (n : Nat) : ((List.range n).map fun q => [AV.int .i64 0].getD (q % 1) .any) = (List.replicate n (0 : Int)).flatMap cInt := by
  induction n with
  | zero => rfl
  | succ n ih => rw [List.range_succ, List.map_append, ih, List.replicate_succ', List.flatMap_append]; simp [cInt, Nat.mod_one]
theorem cInt_set : ∀ (l : List Int) (m : Nat) (v : Int), (l.flatMap cInt).set m (.int .i64 v) = (l.set m v).flatMap cInt
  | [], _, _ => rfl
  | _ :: _, 0, _ => rfl
  | x :: l, m + 1, v => by
    have := cInt_set l m v
    simp only [List.flatMap_cons, cInt, List.cons_append, List.nil_append, List.set_cons_succ] at this ⊢
    rw [this]
theorem Compact_ok (l : List Int) (hl : l.length ≤ 1000) (h : List Blk) (i g : Nat) (hi : h[i]? = some (.cells g (l.flatMap cInt))) :
    CallsA Try.prog 115 [.sl ⟨i, g⟩ 1 0 l.length] h fun e h' => ∃ cs : List Int, e = .ret (.sl ⟨i, g⟩ 1 0 (ddTo l l.length).length) ∧ h' = h.set i (.cells g (cs.flatMap cInt)) ∧ cs.length = l.length ∧ cs.take (ddTo l l.length).length = ddTo l l.length := by
  have hlt : i < h.length := (List.getElem?_eq_some_iff.1 hi).1
  refine CallsA.of_wpe [] {} 60 mixed Try.func115 (by kernel_rfl) rfl (by kernel_rfl) fun j hB hA => ?_; simp only [junk_succ, junk_zero, List.cons_append, List.nil_append, List.length_cons, List.length_nil, Nat.reduceAdd]
  simp (implicitDefEqProofs := false) (dsimp := false) only [go_sem]
  have hbel : ∀ m, below h.length (.sl ⟨i, g⟩ 1 0 m) = true := fun m => by simp [below, hlt]
  have hne : ∀ q, (l.getD q 0 = l.getD q 0) := fun _ => rfl
  have hquiet : (∀ k, 0 < k → k < l.length → l.getD k 0 ≠ l.getD (k - 1) 0) → ∃ v n, AV.sl ⟨i, g⟩ 1 0 l.length = v ∧ h.length ≤ n ∧ below n v = true ∧ (List.take n h).all (belowBlk n) = true ∧ ∃ cs : List Int, AEnd.ret v = AEnd.ret (.sl ⟨i, g⟩ 1 0 (ddTo l l.length).length) ∧ List.take n h = h.set i (.cells g (cs.flatMap cInt)) ∧ cs.length = l.length ∧ cs.take (ddTo l l.length).length = ddTo l l.length := fun hq => by
    have e := ddTo_same l.length (Nat.le_refl _) hq
    rw [List.take_length] at e
    rw [e]
    exact ⟨_, h.length, rfl, Nat.le_refl _, hbel _, by rw [List.take_length]; exact hB, l, rfl, by rw [List.take_length, set_same hi], rfl, List.take_length⟩
  refine ⟨⟨_, hi⟩, fun h2 => hquiet fun k h1 h3 => by omega, fun h2 => ?_⟩
  have hgs : ∀ y : Blk, (h.set i y)[i]? = some y := fun y => List.getElem?_set_self hlt
  have hss : ∀ y z : Blk, (h.set i y).set i z = h.set i z := fun y z => List.set_set ..
  have hsi := set_same hi
  refine WP.loopI (fun (k : Nat) s => ((0 < k ∧ k ≤ l.length) ∧ ∀ q, 0 < q → q < k → l.getD q 0 ≠ l.getD (q - 1) 0) ∧ s.sl.length = 61 ∧ s.df = [] ∧ s.gh = {} ∧ (s.hp = h.set i (.cells g (l.flatMap cInt))) ∧ evA s.sl (.tmp 0) = .sl ⟨i, g⟩ 1 0 l.length ∧ evA s.sl (.tmp 3) = .int .i64 k) (fun (k : Nat) => l.length - k) (1) ?_ ?_
  · simp (implicitDefEqProofs := false) (dsimp := false) only [go_sem, hsi]
    exact ⟨by omega, fun q h3 h4 => by omega⟩
  · rintro k ⟨sl, df, hp, gh⟩ ⟨ab, al, rfl, rfl, rfl, a0, a3⟩
    simp only at ab al a0 a3
    obtain ⟨j, rfl⟩ := slots_lit al; clear al; simp only [junk_succ, junk_zero, evA_tmp, nth_16, nth_four, nth_one, nth_zero, Nat.zero_add, Nat.reduceAdd] at  a0 a3 ⊢
    refine wp_ok (so := {}) mixed _ (by kernel_rfl) ?_
    obtain ⟨⟨k0, kl⟩, kn⟩ := ab
    by_cases hk : k < l.length
    · have hw : IntKind.i64.wrap ((k : Int) - 1) = ((k - 1 : Nat) : Int) := by rw [wrap64 (by omega) (by omega)]; omega
      have hk1 : k - 1 < l.length := by omega
      have gk : l.getD k 0 = l[k] := by rw [List.getD_eq_getElem?_getD, List.getElem?_eq_getElem hk]; rfl
      have gk1 : l.getD (k - 1) 0 = l[k - 1] := by rw [List.getD_eq_getElem?_getD, List.getElem?_eq_getElem hk1]; rfl
      simp (implicitDefEqProofs := false) (dsimp := false) only [go_sem, a0, a3, hgs, nat_lt hk, decide_true, hw, nat_lt hk1, row1 cInt_len hk, row1 cInt_len hk1, row1_le cInt_len hk, row1_le cInt_len hk1, cInt, cInt_len1]
      refine ⟨fun e => ⟨⟨by omega, by omega, .inl trivial⟩, ?_⟩, fun e => ⟨k + 1, ⟨⟨⟨by omega, by omega⟩, fun q h3 h4 => ?_⟩, wrap_succ (by omega)⟩, by omega⟩⟩
      · have dk : ddTo l k = l.take k := ddTo_same k (by omega) kn
        have dk1 : ddTo l (k + 1) = ddTo l k := by rw [ddTo, if_neg]; rw [gk, gk1]; omega
        have hdl : (ddTo l (k + 1)).length = k := by rw [dk1, dk, List.length_take]; omega
        refine WP.loopI (fun (u : Nat) s => ((0 < u ∧ k + u ≤ l.length) ∧ (ddTo l (k + u)).length < k + u) ∧ s.sl.length = 61 ∧ s.df = [] ∧ s.gh = {} ∧ (∃ cs : List Int, cs.length = l.length ∧ cs.take (ddTo l (k + u)).length = ddTo l (k + u) ∧ (∀ q, k + u ≤ q + 1 → cs.getD q 0 = l.getD q 0) ∧ s.hp = h.set i (.cells g (cs.flatMap cInt))) ∧ evA s.sl (.tmp 0) = .sl ⟨i, g⟩ 1 0 l.length ∧ evA s.sl (.tmp 3) = .int .i64 (ddTo l (k + u)).length ∧ evA s.sl (.tmp 4) = .sl ⟨i, g⟩ 1 k (l.length - k) ∧ evA s.sl (.tmp 5) = .int .i64 u) (fun (u : Nat) => l.length - (k + u)) (1) ?_ ?_
        · simp (implicitDefEqProofs := false) (dsimp := false) only [go_sem, hdl]
          exact ⟨⟨by omega, by omega⟩, l, rfl, by rw [dk1, dk], fun _ _ => rfl, rfl⟩
        · rintro u ⟨sl, df, hp, gh⟩ ⟨cb, cl, rfl, rfl, ch, c0, c3, c4, c5⟩
          simp only at cb cl ch c0 c3 c4 c5
          obtain ⟨j, rfl⟩ := slots_lit cl; clear cl; simp only [junk_succ, junk_zero, evA_tmp, nth_16, nth_four, nth_one, nth_zero, Nat.zero_add, Nat.reduceAdd] at  c0 c3 c4 c5 ⊢
          refine wp_ok (so := {}) mixed _ (by kernel_rfl) ?_
          obtain ⟨⟨u0, ul⟩, ud⟩ := cb
          obtain ⟨cs, q1, q2, q3, rfl⟩ := ch
          by_cases hu : k + u < l.length
          · have hs : ((u : Int) < ((l.length - k : Nat) : Int)) = True := eq_true (by omega)
            have hw2 : IntKind.i64.wrap ((u : Int) - 1) = ((u - 1 : Nat) : Int) := by rw [wrap64 (by omega) (by omega)]; omega
            have hs2 : (((u - 1 : Nat) : Int) < ((l.length - k : Nat) : Int)) = True := eq_true (by omega)
            have c1 : k + u < cs.length := by omega
            have c2 : k + (u - 1) < cs.length := by omega
            have hd : (ddTo l (k + u)).length < l.length := by omega
            simp (implicitDefEqProofs := false) (dsimp := false) only [go_sem, c0, c3, c4, c5, hgs, hss, hs, hs2, decide_true, hw2, row1 cInt_len c1, row1 cInt_len c2, cInt, nat_lt hd, cInt_len1, q1]
            have e1 : cs[k + u] = l.getD (k + u) 0 := by have := q3 (k + u) (by omega); rwa [List.getD_eq_getElem?_getD, List.getElem?_eq_getElem c1] at this
            have e2 : cs[k + (u - 1)] = l.getD (k + u - 1) 0 := by have := q3 (k + (u - 1)) (by omega); rw [show k + u - 1 = k + (u - 1) by omega]; rwa [List.getD_eq_getElem?_getD, List.getElem?_eq_getElem c2] at this
            have hnx : ddTo l (k + (u + 1)) = if l.getD (k + u) 0 ≠ l.getD (k + u - 1) 0 then ddTo l (k + u) ++ [l.getD (k + u) 0] else ddTo l (k + u) := by
              rw [← Nat.add_assoc, ddTo]
              by_cases e : l.getD (k + u) 0 ≠ l.getD (k + u - 1) 0
              · rw [if_pos (.inr e), if_pos e]
              · rw [if_neg (by omega), if_neg e]
            rw [e1, e2]
            refine ⟨fun e => ⟨by omega, u + 1, ⟨⟨⟨by omega, by omega⟩, ?_⟩, ⟨cs.set (ddTo l (k + u)).length (l.getD (k + u) 0), by simp [q1], ?_, fun q hq => ?_, ?_⟩, ?_, wrap_succ (by omega)⟩, by omega⟩, fun e => ⟨u + 1, ⟨⟨⟨by omega, by omega⟩, ?_⟩, ⟨cs, q1, ?_, fun q hq => q3 q (by omega), rfl⟩, ?_, wrap_succ (by omega)⟩, by omega⟩⟩
            · rw [hnx, if_pos (bne_iff_ne.1 e), List.length_append, List.length_singleton]; omega
            · rw [hnx, if_pos (bne_iff_ne.1 e), List.length_append, List.length_singleton, List.take_succ_eq_append_getElem (by rw [List.length_set]; omega), List.take_set_of_le (Nat.le_refl _), q2, List.getElem_set_self]
            · rw [List.getD_eq_getElem?_getD, List.getElem?_set_ne (by omega), ← List.getD_eq_getElem?_getD]; exact q3 q (by omega)
            · rw [cInt_set]
            · rw [hnx, if_pos (bne_iff_ne.1 e), List.length_append, List.length_singleton]; exact wrap_succ (by omega)
            all_goals
              have e := Classical.not_not.1 (fun q => absurd (bne_iff_ne.2 q) (by rw [e]; simp))
              rw [hnx, if_neg (by simpa using e)]
            · omega
            · exact q2
          · have hs : ((u : Int) < ((l.length - k : Nat) : Int)) = False := eq_false (by omega)
            have eu : k + u = l.length := by omega
            rw [eu] at ud q2 q3
            have hcl : (cs.flatMap cInt).length = l.length := by rw [cInt_len1, q1]
            have htl : (ddTo l l.length).length ≤ (cs.flatMap cInt).length := by omega
            have hset : setMany (cs.flatMap cInt) (ddTo l l.length).length ((List.range (l.length - (ddTo l l.length).length)).map fun q => [AV.int .i64 0].getD (q % 1) .any) = (ddTo l l.length ++ List.replicate (l.length - (ddTo l l.length).length) 0).flatMap cInt := by
              have h1 : cs.flatMap cInt = (ddTo l l.length).flatMap cInt ++ (cs.drop (ddTo l l.length).length).flatMap cInt := by
                rw [← List.flatMap_append]
                conv => lhs; rw [← List.take_append_drop (ddTo l l.length).length cs, q2]
              have h3 := setMany_tail ((List.replicate (l.length - (ddTo l l.length).length) (0 : Int)).flatMap cInt) ((cs.drop (ddTo l l.length).length).flatMap cInt) ((ddTo l l.length).flatMap cInt) (by rw [cInt_len1, cInt_len1, List.length_replicate, List.length_drop, q1])
              rw [cInt_len1] at h3
              rw [cInt_zero, h1, h3, List.flatMap_append]
            simp (implicitDefEqProofs := false) (dsimp := false) only [go_sem, c0, c3, c4, c5, hgs, hss, hs, decide_false, eu]
            rw [hset, Nat.sub_zero]
            have hlen : (List.take h.length (h.set i (.cells g ((ddTo l l.length ++ List.replicate (l.length - (ddTo l l.length).length) 0).flatMap cInt)))) = h.set i (.cells g ((ddTo l l.length ++ List.replicate (l.length - (ddTo l l.length).length) 0).flatMap cInt)) := List.take_of_length_le (by simp)
            refine ⟨⟨by omega, by omega, .inl (by omega)⟩, by omega, ⟨by omega, .inr trivial⟩, _, h.length, rfl, Nat.le_refl _, hbel _, ?_, _, rfl, hlen, by simp; omega, List.take_left⟩
            rw [hlen]
            exact all_set hB (belowL_flat (f := cInt) (fun _ => rfl) _)
      · by_cases e3 : q = k
        · subst e3; rw [gk, gk1]; exact beq_eq_false_iff_ne.1 e
        · exact kn q h3 (by omega)
    · have hs : ((k : Int) < (l.length : Int)) = False := eq_false (by omega)
      have ek : k = l.length := by omega
      subst ek
      simp (implicitDefEqProofs := false) (dsimp := false) only [go_sem, a0, a3, hgs, hs, decide_false, hsi]
      exact ⟨⟨_, hi⟩, hquiet kn⟩
end Go.Mac
namespace Go.Mac
open Go Go.Conc Go.Proofs
def fil (f : Nat → Bool) (t : Nat) : List Nat := (List.range t).filter f
theorem fil_succ (f : Nat → Bool) (t : Nat) : fil f (t + 1) = fil f t ++ if f t = true then [t] else [] := by
  rw [fil, List.range_succ, List.filter_append]; congr 1
  simp only [List.filter_cons, List.filter_nil]
theorem fil_pre {f : Nat → Bool} {s : Nat} : ∀ t, s ≤ t → ∃ l, fil f t = fil f s ++ l
  | 0, h => ⟨[], by rw [show s = 0 by omega]; simp⟩
  | t + 1, h => by
    by_cases e : s = t + 1
    · exact ⟨[], by rw [e]; simp⟩
    · obtain ⟨l, hl⟩ := fil_pre (f := f) (s := s) t (by omega)
      exact ⟨_, by rw [fil_succ, hl, List.append_assoc]⟩
theorem fil_at {f : Nat → Bool} {s t : Nat} (h : s < t) (hf : f s = true) : ∃ h' : (fil f s).length < (fil f t).length, (fil f t)[(fil f s).length] = s := by
  obtain ⟨l, hl⟩ := fil_pre (f := f) (s := s + 1) t (by omega)
  rw [fil_succ, if_pos hf] at hl
  refine ⟨by rw [hl]; simp, ?_⟩
  have : (fil f t)[(fil f s).length]? = some s := by rw [hl, List.append_assoc, List.getElem?_append_right (Nat.le_refl _), Nat.sub_self]; rfl
  exact (List.getElem?_eq_some_iff.1 this).2
theorem fil_le (f : Nat → Bool) (t : Nat) : (fil f t).length ≤ t := by
  have := List.length_filter_le f (List.range t)
  rwa [List.length_range] at this
theorem fil_mem {f : Nat → Bool} {t x : Nat} : x ∈ fil f t ↔ x < t ∧ f x = true := by rw [fil, List.mem_filter, List.mem_range]
theorem fil_same {f g : Nat → Bool} {t : Nat} (h : ∀ x, x < t → f x = g x) : fil f t = fil g t :=
  List.filter_congr fun x hx => h x (List.mem_range.1 hx)
theorem fil_more {f g : Nat → Bool} {q : Nat} (h1 : ∀ x, x < q → g x = f x) (h2 : g q = true) (h3 : ∀ x, q ≤ x → f x = false) (h4 : ∀ x, q < x → g x = false) : ∀ n, q < n → fil g n = fil f n ++ [q]
  | 0, h => by omega
  | n + 1, h => by
    rw [fil_succ, fil_succ]
    by_cases e : q = n
    · subst e
      rw [if_pos h2, if_neg (by rw [h3 q (Nat.le_refl _)]; simp), List.append_nil, fil_same h1]
    · rw [fil_more h1 h2 h3 h4 n (by omega), if_neg (by rw [h4 n (by omega)]; simp), if_neg (by rw [h3 n (by omega)]; simp), List.append_nil, List.append_nil]
def goodW (b : Board) (i : Nat) : Bool := decide (misN b (layK i) = 0)
def goodK (b : Board) (t : Nat) : List Nat := fil (goodW b) t
def metP (b : Board) (p t : Nat) : Bool := (goodK b t).any fun i => decide (i / 18 = p)
theorem metP_iff {b : Board} {p t : Nat} : metP b p t = true ↔ ∃ i, i < t ∧ goodW b i = true ∧ i / 18 = p := by
  rw [metP, List.any_eq_true]
  constructor
  · rintro ⟨i, hi, h⟩
    have := fil_mem.1 hi
    exact ⟨i, this.1, this.2, of_decide_eq_true h⟩
  · rintro ⟨i, h1, h2, h3⟩
    exact ⟨i, fil_mem.2 ⟨h1, h2⟩, decide_eq_true h3⟩
theorem metP_none {b : Board} {p t : Nat} (h : ∀ i, i < t → goodW b i = true → i / 18 ≠ p) : metP b p t = false := by
  cases q : metP b p t with
  | false => rfl
  | true =>
    obtain ⟨i, h1, h2, h3⟩ := metP_iff.1 q
    exact absurd h3 (h i h1 h2)
theorem metP_skip {b : Board} {p t : Nat} (h : goodW b t = false) : metP b p (t + 1) = metP b p t := by
  rw [metP, goodK, fil_succ, if_neg (by rw [h]; simp), List.append_nil]; rfl
theorem metP_take {b : Board} {p t : Nat} (h : goodW b t = true) : metP b p (t + 1) = (metP b p t || decide (t / 18 = p)) := by
  rw [metP, goodK, fil_succ, if_pos h, List.any_append]; simp [metP, goodK]
theorem rights_good {b : Board} : ∀ k, k ≤ 18 * b.pages.length → (rightsTo b (mapB b.glyphs) k).map Prod.fst = (goodK b k).map layK
  | 0, _ => rfl
  | k + 1, h => by
    have hk : k < (allWays b (mapB b.glyphs)).length := by rw [allWays_len]; omega
    rw [rightsTo_succ hk, goodK, fil_succ, List.map_append, List.map_append, rights_good k (by omega)]
    congr 1
    have e : rightB b (allWays b (mapB b.glyphs))[k] = goodW b k := by
      unfold rightB goodW
      rw [allWays_mis hk]
      rw [Bool.eq_iff_iff, beq_iff_eq, decide_eq_true_eq]
    rw [e]
    split
    · rw [List.map_singleton, List.map_singleton, allWays_lay hk]
    · rfl
theorem lays_good (b : Board) : (laysB b).map Prod.fst = (goodK b (18 * b.pages.length)).map layK := by
  rw [← rights_good _ (Nat.le_refl _), rightsTo, List.take_of_length_le (by rw [allWays_len]; omega)]; rfl
theorem lays_goodLen (b : Board) : (laysB b).length = (goodK b (18 * b.pages.length)).length := by
  have := congrArg List.length (lays_good b)
  simpa using this
def pagesL (b : Board) : List Int := (laysB b).map fun x => x.1.page
def pagesB (b : Board) : List Int := ddTo (pagesL b) (pagesL b).length
theorem pagesL_good (b : Board) : pagesL b = (goodK b (18 * b.pages.length)).map fun i => ((i / 18 : Nat) : Int) := by
  have := congrArg (List.map Lay.page) (lays_good b)
  rw [List.map_map, List.map_map] at this
  exact this
def pgK (b : Board) (t n : Nat) : List Nat := fil (fun p => metP b p t) n
theorem pages_to {b : Board} : ∀ k, k ≤ 18 * b.pages.length → ddTo (pagesL b) (goodK b k).length = (pgK b k b.pages.length).map fun p : Nat => (p : Int)
  | 0, _ => by
    have : pgK b 0 b.pages.length = [] := by
      rw [pgK, fil, List.filter_eq_nil_iff]
      intro p _
      rw [metP_none (by omega)]; simp
    rw [this]; rfl
  | k + 1, h => by
    have ih := pages_to (b := b) k (by omega)
    cases hg : goodW b k with
    | false =>
      have e1 : goodK b (k + 1) = goodK b k := by rw [goodK, fil_succ, if_neg (by rw [hg]; simp), List.append_nil]; rfl
      have e2 : pgK b (k + 1) b.pages.length = pgK b k b.pages.length := fil_same fun x _ => metP_skip hg
      rw [e1, e2, ih]
    | true =>
      have e1 : (goodK b (k + 1)).length = (goodK b k).length + 1 := by rw [goodK, fil_succ, if_pos hg, List.length_append]; rfl
      have hget : ∀ j, j < 18 * b.pages.length → goodW b j = true → (pagesL b).getD (goodK b j).length 0 = ((j / 18 : Nat) : Int) := fun j hj hgj => by
        obtain ⟨h1, h2⟩ := fil_at hj hgj
        have h1' : (goodK b j).length < (goodK b (18 * b.pages.length)).length := h1
        have h2' : (goodK b (18 * b.pages.length))[(goodK b j).length] = j := h2
        rw [pagesL_good, List.getD_eq_getElem?_getD, List.getElem?_map, List.getElem?_eq_getElem h1']
        simp only [Option.map_some, Option.getD_some, h2']
      rw [e1, ddTo, ih, hget k (by omega) hg]
      by_cases hm : metP b (k / 18) k = true
      · obtain ⟨j, j1, j2, j3⟩ := metP_iff.1 hm
        have hlast : ∀ t, t ≤ k → j < t → ∃ i, i < t ∧ goodW b i = true ∧ j ≤ i ∧ (goodK b t).length = (goodK b i).length + 1 := by
          intro t
          induction t with
          | zero => intro _ q; omega
          | succ t iht =>
            intro q1 q2
            cases hgt : goodW b t with
            | true => exact ⟨t, by omega, hgt, by omega, by rw [goodK, fil_succ, if_pos hgt, List.length_append]; rfl⟩
            | false =>
              have hjt : j ≠ t := fun e => by rw [e, hgt] at j2; cases j2
              obtain ⟨i, a1, a2, a3, a4⟩ := iht (by omega) (by omega)
              exact ⟨i, by omega, a2, a3, by rw [goodK, fil_succ, if_neg (by rw [hgt]; simp), List.append_nil]; exact a4⟩
        obtain ⟨i, a1, a2, a3, a4⟩ := hlast k (Nat.le_refl _) j1
        have hip : i / 18 = k / 18 := by
          have : j / 18 ≤ i / 18 := Nat.div_le_div_right a3
          have : i / 18 ≤ k / 18 := Nat.div_le_div_right (by omega)
          omega
        rw [if_neg]
        · have e2 : pgK b (k + 1) b.pages.length = pgK b k b.pages.length := fil_same fun x _ => by
            show metP b x (k + 1) = metP b x k
            rw [metP_take hg]
            by_cases e : k / 18 = x
            · rw [← e, hm]; rfl
            · rw [decide_eq_false e, Bool.or_false]
          rw [e2]
        · rw [a4]
          simp only [Nat.add_sub_cancel]
          rw [hget i (by omega) a2, hip]
          simp
      · have hm : metP b (k / 18) k = false := by simpa using hm
        rw [if_pos]
        · have e2 : pgK b (k + 1) b.pages.length = pgK b k b.pages.length ++ [k / 18] := by
            refine fil_more (q := k / 18) (fun x hx => ?_) ?_ (fun x hx => ?_) (fun x hx => ?_) _ (by omega)
            · show metP b x (k + 1) = metP b x k
              rw [metP_take hg, decide_eq_false (by omega), Bool.or_false]
            · show metP b (k / 18) (k + 1) = true
              rw [metP_take hg, decide_eq_true rfl, Bool.or_true]
            · show metP b x k = false
              by_cases e : x = k / 18
              · rw [e]; exact hm
              · refine metP_none fun i hi _ he => ?_
                have : i / 18 ≤ k / 18 := Nat.div_le_div_right (by omega)
                omega
            · show metP b x (k + 1) = false
              refine metP_none fun i hi _ he => ?_
              have : i / 18 ≤ k / 18 := Nat.div_le_div_right (by omega)
              omega
          rw [e2, List.map_append]; rfl
        · by_cases h0 : (goodK b k).length = 0
          · exact .inl h0
          · right
            obtain ⟨x, hx⟩ := List.exists_mem_of_ne_nil (goodK b k) (fun e => h0 (by rw [e]; rfl))
            obtain ⟨x1, x2⟩ := fil_mem.1 hx
            have hlast : ∀ t, t ≤ k → x < t → ∃ i, i < t ∧ goodW b i = true ∧ (goodK b t).length = (goodK b i).length + 1 := by
              intro t
              induction t with
              | zero => intro _ q; omega
              | succ t iht =>
                intro q1 q2
                cases hgt : goodW b t with
                | true => exact ⟨t, by omega, hgt, by rw [goodK, fil_succ, if_pos hgt, List.length_append]; rfl⟩
                | false =>
                  have hjt : x ≠ t := fun e => by rw [e, hgt] at x2; cases x2
                  obtain ⟨i, a1, a2, a4⟩ := iht (by omega) (by omega)
                  exact ⟨i, by omega, a2, by rw [goodK, fil_succ, if_neg (by rw [hgt]; simp), List.append_nil]; exact a4⟩
            obtain ⟨i, a1, a2, a4⟩ := hlast k (Nat.le_refl _) x1
            rw [a4]
            simp only [Nat.add_sub_cancel]
            rw [hget i (by omega) a2]
            intro e
            have he : k / 18 = i / 18 := by omega
            have : metP b (k / 18) k = true := metP_iff.2 ⟨i, a1, a2, he.symm⟩
            rw [this] at hm; cases hm
theorem pagesB_eq (b : Board) : pagesB b = (pgK b (18 * b.pages.length) b.pages.length).map fun p : Nat => (p : Int) := by
  rw [← pages_to _ (Nat.le_refl _), pagesB]
  congr 1
  rw [pagesL_good, List.length_map]
theorem pagesB_mem {b : Board} {p : Nat} (hp : p < b.pages.length) : ((p : Int) ∈ pagesB b) ↔ metP b p (18 * b.pages.length) = true := by
  rw [pagesB_eq, List.mem_map]
  constructor
  · rintro ⟨q, hq, e⟩
    have e : q = p := by omega
    subst e
    exact (fil_mem.1 hq).2
  · intro h
    exact ⟨p, fil_mem.2 ⟨hp, h⟩, rfl⟩
def idxB (v : Int) : List Int → Int
  | [] => -1
  | x :: l => if x = v then 0 else if idxB v l = -1 then -1 else idxB v l + 1
theorem idxB_ge {v : Int} : ∀ {l : List Int}, -1 ≤ idxB v l
  | [] => by simp [idxB]
  | y :: l => by
    have ih := idxB_ge (v := v) (l := l)
    unfold idxB
    split
    · omega
    · split <;> omega
theorem idxB_none {v : Int} : ∀ {l : List Int}, idxB v l = -1 ↔ v ∉ l
  | [] => by simp [idxB]
  | x :: l => by
    have ih := idxB_none (v := v) (l := l)
    have hge : ∀ l : List Int, -1 ≤ idxB v l := fun l => by
      induction l with
      | nil => simp [idxB]
      | cons y l ih =>
        unfold idxB
        split
        · omega
        · split <;> omega
    unfold idxB
    by_cases e : x = v
    · rw [if_pos e]; simp [e]
    · rw [if_neg e]
      by_cases e2 : idxB v l = -1
      · rw [if_pos e2]
        have := ih.1 e2
        simp only [List.mem_cons, not_or, true_iff]
        exact ⟨fun h => e h.symm, this⟩
      · rw [if_neg e2]
        have := hge l
        simp only [List.mem_cons, not_or]
        constructor
        · intro h; omega
        · intro h; exact absurd (ih.2 h.2) e2
theorem idxB_at {v : Int} : ∀ {l : List Int} {k : Nat} (hk : k < l.length), (∀ q (h : q < k), l[q] ≠ v) → l[k] = v → idxB v l = k
  | x :: l, 0, _, _, h => by
    simp only [List.getElem_cons_zero] at h
    unfold idxB; rw [if_pos h]; rfl
  | x :: l, k + 1, hk, h1, h2 => by
    have h0 := h1 0 (by omega)
    simp only [List.getElem_cons_zero] at h0
    have ih := idxB_at (v := v) (l := l) (k := k) (by simpa using hk) (fun q hq => by have := h1 (q + 1) (by omega); simpa using this) (by simpa using h2)
    unfold idxB
    rw [if_neg h0, ih, if_neg (by omega)]; omega
theorem idxB_end {v : Int} {l : List Int} (h : ∀ q (h : q < l.length), l[q] ≠ v) : idxB v l = -1 :=
  idxB_none.2 fun hm => by
    obtain ⟨i, hi, e⟩ := List.mem_iff_getElem.1 hm
    exact h i hi e
end Go.Mac
namespace Go.Mac
open Go Go.Conc Go.Proofs
def firstN (f : Nat → Bool) : Nat → Option Nat
  | 0 => none
  | n + 1 => match firstN f n with
    | some k => some k
    | none => if f n = true then some n else none
theorem firstN_none {f : Nat → Bool} : ∀ {n}, firstN f n = none → ∀ k, k < n → f k = false
  | 0, _, _, h => by omega
  | n + 1, h, k, hk => by
    rw [firstN] at h
    cases q : firstN f n with
    | some x => rw [q] at h; cases h
    | none =>
      rw [q] at h
      by_cases e : k = n
      · subst e
        cases hf : f k with
        | false => rfl
        | true => simp [hf] at h
      · exact firstN_none q k (by omega)
theorem firstN_some {f : Nat → Bool} {k : Nat} : ∀ {n}, firstN f n = some k → k < n ∧ f k = true ∧ ∀ i, i < k → f i = false
  | 0, h => by cases h
  | n + 1, h => by
    rw [firstN] at h
    cases q : firstN f n with
    | some x =>
      rw [q] at h
      cases h
      obtain ⟨h1, h2⟩ := firstN_some q
      exact ⟨by omega, h2⟩
    | none =>
      rw [q] at h
      by_cases hf : f n = true
      · simp only [hf, if_true, Option.some.injEq] at h
        subst h
        exact ⟨by omega, hf, fun i hi => firstN_none q i hi⟩
      · simp [hf] at h
theorem firstN_is {f : Nat → Bool} {k n : Nat} (hk : k < n) (h : f k = true) (hb : ∀ i, i < k → f i = false) : firstN f n = some k := by
  cases q : firstN f n with
  | none => have := firstN_none q k hk; rw [h] at this; cases this
  | some x =>
    obtain ⟨_, h2, h3⟩ := firstN_some q
    by_cases e : x < k
    · have := hb x e; rw [h2] at this; cases this
    · by_cases e2 : k < x
      · have := h3 k e2; rw [h] at this; cases this
      · rw [show x = k by omega]
theorem firstN_end {f : Nat → Bool} {n : Nat} (h : ∀ k, k < n → f k = false) : firstN f n = none := by
  cases q : firstN f n with
  | none => rfl
  | some x =>
    obtain ⟨h1, h2, _⟩ := firstN_some q
    have := h x h1; rw [h2] at this; cases this
def rowSeen (r : List Trace) : Bool := r.any fun t => t.seen != 0
def anySeen (cs : List (List Trace)) : Bool := cs.any rowSeen
def orS (l : List Trace) : Nat → Int
  | 0 => 0
  | k + 1 => orK .i64 (orS l k) (l.getD k ⟨0, 0⟩).seen
theorem orS_zero {l : List Trace} (hl : ∀ t ∈ l, is64 t.seen) : ∀ k, k ≤ l.length → is64 (orS l k) ∧ (orS l k = 0 ↔ ∀ i, i < k → (l.getD i ⟨0, 0⟩).seen = 0)
  | 0, _ => ⟨⟨Int.le_refl 0, by simp [orS]⟩, by simp [orS]⟩
  | k + 1, h => by
    obtain ⟨h1, h2⟩ := orS_zero hl k (by omega)
    have hk : is64 (l.getD k ⟨0, 0⟩).seen := by
      rw [List.getD_eq_getElem?_getD, List.getElem?_eq_getElem (show k < l.length by omega)]
      exact hl _ (List.getElem_mem _)
    obtain ⟨o1, o2⟩ := or64 h1 hk
    refine ⟨o2, ?_⟩
    rw [orS, o1]
    have a0 := h1.1
    have b0 := hk.1
    constructor
    · intro e
      have e : (orS l k).toNat ||| ((l.getD k ⟨0, 0⟩).seen).toNat = 0 := by omega
      obtain ⟨e1, e2⟩ := Nat.or_eq_zero_iff.1 e
      intro i hi
      by_cases q : i = k
      · subst q; omega
      · exact h2.1 (by omega) i (by omega)
    · intro hz
      have e1 : orS l k = 0 := h2.2 fun i hi => hz i (by omega)
      have e2 := hz k (by omega)
      rw [e1, e2]; rfl
theorem seen_any {b : Board} (ok : okMade b) : orS b.cells.flatten (b.cells.flatten).length = 0 ↔ anySeen b.cells = false := by
  have hl : ∀ t ∈ b.cells.flatten, is64 t.seen := by
    intro t ht
    obtain ⟨row, h1, h2⟩ := List.mem_flatten.1 ht
    obtain ⟨r, hr, rfl⟩ := List.mem_iff_getElem.1 h1
    obtain ⟨c, hc, rfl⟩ := List.mem_iff_getElem.1 h2
    have hw := ok.cells.row hr
    have := (ok.trace64 hr (by omega : c < (b.cells.headD []).length)).1
    rwa [traceAt_eq hr hc] at this
  rw [(orS_zero hl _ (Nat.le_refl _)).2]
  have e : anySeen b.cells = (b.cells.flatten).any fun t => t.seen != 0 := by rw [List.any_flatten]; rfl
  rw [e, List.any_eq_false]
  constructor
  · intro h t ht
    obtain ⟨i, hi, rfl⟩ := List.mem_iff_getElem.1 ht
    have := h i hi
    rw [List.getD_eq_getElem?_getD, List.getElem?_eq_getElem hi] at this
    have this : (b.cells.flatten[i]).seen = 0 := this
    rw [this]; simp
  · intro h i hi
    have := h _ (List.getElem_mem hi)
    rw [List.getD_eq_getElem?_getD, List.getElem?_eq_getElem hi]
    simpa using this
def exC (b : Board) (k : Nat) : Bool := decide (k / b.pages.length ≤ k % b.pages.length) && decide (0 < doubleB b (mapB b.glyphs) (k / b.pages.length) (k % b.pages.length))
def exFind (b : Board) : Option Nat := firstN (exC b) (b.pages.length * b.pages.length)
theorem exC_at {b : Board} {p q : Nat} (hq : q < b.pages.length) : (p * b.pages.length + q) / b.pages.length = p ∧ (p * b.pages.length + q) % b.pages.length = q := by
  have hn : 0 < b.pages.length := by omega
  constructor
  · rw [Nat.mul_comm, Nat.mul_add_div hn, Nat.div_eq_of_lt hq]; omega
  · rw [Nat.mul_comm, Nat.mul_add_mod, Nat.mod_eq_of_lt hq]
theorem exC_pq {b : Board} {p q : Nat} (hq : q < b.pages.length) (h : p ≤ q) : exC b (p * b.pages.length + q) = decide (0 < doubleB b (mapB b.glyphs) p q) := by
  obtain ⟨e1, e2⟩ := exC_at (p := p) hq
  rw [exC, e1, e2, decide_eq_true h, Bool.true_and]
theorem exC_low {b : Board} {p q : Nat} (hq : q < b.pages.length) (h : q < p) : exC b (p * b.pages.length + q) = false := by
  obtain ⟨e1, e2⟩ := exC_at (p := p) hq
  rw [exC, e1, e2, decide_eq_false (by omega), Bool.false_and]
def noEx (b : Board) (p q : Nat) : Prop := ∀ k, k < p * b.pages.length + q → exC b k = false
theorem noEx_row {b : Board} {p : Nat} (hp : p < b.pages.length) (h : noEx b p 0) : noEx b p p := fun k hk => by
  by_cases e : k < p * b.pages.length
  · exact h k (by omega)
  · have := exC_low (b := b) (p := p) (q := k - p * b.pages.length) (by omega) (by omega)
    rwa [show p * b.pages.length + (k - p * b.pages.length) = k by omega] at this
theorem noEx_next {b : Board} {p q : Nat} (hq : q < b.pages.length) (hpq : p ≤ q) (h : noEx b p q) (hd : ¬ 0 < doubleB b (mapB b.glyphs) p q) : noEx b p (q + 1) := fun k hk => by
  by_cases e : k < p * b.pages.length + q
  · exact h k e
  · have := exC_pq (b := b) hq hpq
    rw [decide_eq_false hd] at this
    rwa [show k = p * b.pages.length + q by omega]
theorem noEx_down {b : Board} {p : Nat} (h : noEx b p b.pages.length) : noEx b (p + 1) 0 := fun k hk => h k (by rw [Nat.succ_mul] at hk; omega)
theorem noEx_hit {b : Board} {p q : Nat} (hp : p < b.pages.length) (hq : q < b.pages.length) (hpq : p ≤ q) (h : noEx b p q) (hd : 0 < doubleB b (mapB b.glyphs) p q) : exFind b = some (p * b.pages.length + q) := by
  refine firstN_is ?_ ?_ h
  · have : (p + 1) * b.pages.length ≤ b.pages.length * b.pages.length := Nat.mul_le_mul_right _ hp
    rw [Nat.succ_mul] at this; omega
  · rw [exC_pq hq hpq, decide_eq_true hd]
theorem noEx_all {b : Board} (h : noEx b b.pages.length 0) : exFind b = none := firstN_end fun k hk => h k (by omega)
theorem pages_head {b : Board} : (0 < (pagesB b).length ↔ 0 < (laysB b).length) ∧ (0 < (laysB b).length → (pagesB b).getD 0 0 = ((laysB b).map fun x => x.1.page).getD 0 0) := by
  have hlen : (pagesL b).length = (laysB b).length := by rw [pagesL, List.length_map]
  have hh : ∀ (l : List Int) k, 0 < k → ∃ m, ddTo l k = l.getD 0 0 :: m := fun l k => by
    induction k with
    | zero => intro h; omega
    | succ k ih =>
      intro _
      by_cases e : k = 0
      · subst e
        exact ⟨[], by rw [ddTo, if_pos (.inl rfl)]; rfl⟩
      · obtain ⟨m, hm⟩ := ih (by omega)
        rw [ddTo, hm]
        split
        · exact ⟨_, rfl⟩
        · exact ⟨m, rfl⟩
  refine ⟨?_, fun h => ?_⟩
  · constructor
    · intro h
      have := ddTo_len (pagesL b) (pagesL b).length
      rw [pagesB] at h; omega
    · intro h
      obtain ⟨m, hm⟩ := hh (pagesL b) (pagesL b).length (by omega)
      rw [pagesB, hm]; simp
  · obtain ⟨m, hm⟩ := hh (pagesL b) (pagesL b).length (by omega)
    rw [pagesB, hm]; rfl
end Go.Mac
namespace Go.Mac
open Go Go.Conc Go.Proofs
set_option maxRecDepth 4000
theorem Index_ok (l : List Int) (v : Int) (hl : l.length ≤ 1000) : PureA Try.prog 116 [sliceOf cInt l, .int .i64 v] (.int .i64 (idxB v l)) := by
  refine PureA.of_wpp {} 17 mixed Try.func116 (by kernel_rfl) rfl (by kernel_rfl) (rfl) fun h j hB => ?_
  simp only [junk_succ, junk_zero, List.cons_append, List.nil_append, List.length_cons, List.length_nil, Nat.reduceAdd]
  simp (implicitDefEqProofs := false) (dsimp := false) only [go_sem]
  refine WP.loopI (fun (k : Nat) s => (k ≤ l.length ∧ ∀ q (hq : q < l.length), q < k → l[q] ≠ v) ∧ s.sl.length = 19 ∧ s.df = [] ∧ s.gh = {} ∧ (s.hp = h) ∧ evA s.sl (.tmp 0) = sliceOf cInt l ∧ evA s.sl (.tmp 1) = .int .i64 v ∧ evA s.sl (.tmp 7) = .int .i64 l.length ∧ evA s.sl (.tmp 8) = .int .i64 k) (fun (k : Nat) => l.length - k) (0) ?_ ?_
  · simp (implicitDefEqProofs := false) (dsimp := false) only [go_sem, Nat.zero_le]
    exact fun q hq hk => by omega
  · rintro k ⟨sl, df, hp, gh⟩ ⟨ab, al, rfl, rfl, rfl, a0, a1, a7, a8⟩
    simp only at ab al a0 a1 a7 a8
    obtain ⟨j, rfl⟩ := slots_lit al; clear al; simp only [junk_succ, junk_zero, evA_tmp, nth_16, nth_four, nth_one, nth_zero, Nat.zero_add, Nat.reduceAdd] at  a0 a1 a7 a8 ⊢
    refine wp_ok (so := {}) mixed _ (by kernel_rfl) ?_
    obtain ⟨ak, an⟩ := ab
    by_cases hk : k < l.length
    · simp (implicitDefEqProofs := false) (dsimp := false) only [go_sem, a0, a1, a7, a8, nat_lt hk, decide_true, row1 cInt_len hk, row1_le cInt_len hk, cInt]
      refine ⟨fun e => ?_, fun e => ⟨k + 1, ⟨⟨by omega, fun q hq h3 => ?_⟩, wrap_succ (by omega)⟩, by omega⟩⟩
      · rw [idxB_at hk (fun q hq => an q (by omega) hq) e.symm]
      · by_cases e3 : q = k
        · subst e3; exact fun e4 => by rw [e4] at e; simp at e
        · exact an q hq (by omega)
    · have hs : ((k : Int) < (l.length : Int)) = False := eq_false (by omega)
      simp (implicitDefEqProofs := false) (dsimp := false) only [go_sem, a0, a1, a7, a8, hs, decide_false]
      rw [idxB_end fun q hq => an q hq (by omega)]
theorem Contains_ok (l : List Int) (v : Int) (hl : l.length ≤ 1000) : PureA Try.prog 95 [sliceOf cInt l, .int .i64 v] (.bool (decide (idxB v l ≥ 0))) := by
  refine PureA.of_wpp {} 7 mixed Try.func95 (by kernel_rfl) rfl (by kernel_rfl) (rfl) fun h j hB => ?_
  simp only [junk_succ, junk_zero, List.cons_append, List.nil_append, List.length_cons, List.length_nil, Nat.reduceAdd]
  simp (implicitDefEqProofs := false) (dsimp := false) only [go_sem]
  (first | refine CallsA.use (Index_ok l v hl) ?_ | refine QuietCalls.use (Index_ok l v hl) ?_)
  simp (implicitDefEqProofs := false) (dsimp := false) only [go_sem]
theorem cInt_take (l : List Int) (n : Nat) : (l.flatMap cInt).take n = (l.take n).flatMap cInt := by
  induction l generalizing n with
  | nil => simp
  | cons x l ih =>
    cases n with
    | zero => rfl
    | succ n => simp only [List.flatMap_cons, cInt, List.cons_append, List.nil_append, List.take_succ_cons]; rw [ih]
theorem pagesL_len (b : Board) : (pagesL b).length = (laysB b).length := by rw [pagesL, List.length_map]
theorem pagesL_succ {b : Board} {k : Nat} (hk : k < (laysB b).length) : (pagesL b).take (k + 1) = (pagesL b).take k ++ [(laysB b)[k].1.page] := by
  rw [List.take_succ_eq_append_getElem (by rw [pagesL_len]; exact hk)]
  congr 2
  exact List.getElem_map ..
theorem pages_ok (b : Board) (ok : okBoard b) : PureA Try.prog 94 [.agg (bdA b (mapB b.glyphs))] (sliceOf cInt (pagesB b)) := by
  refine PureA.of_wps [2] { shut := [22] } 26 mixed Try.func94 (by kernel_rfl) rfl (by kernel_rfl) (below_psl (fun _ => rfl) _) fun h j hB => ?_
  simp only [junk_succ, junk_zero, List.cons_append, List.nil_append, List.length_cons, List.length_nil, Nat.reduceAdd]
  have hn := laysB_le ok
  simp (implicitDefEqProofs := false) (dsimp := false) only [go_sem, bdA]
  (first | refine CallsA.use (rights_ok b _ ok) ?_ | refine QuietCalls.use (rights_ok b _ ok) ?_)
  simp (implicitDefEqProofs := false) (dsimp := false) only [go_sem]
  refine WPI.turn (Turns.nilSlot (d := 3) (sz := 1) ?_) ?_
  · simp (implicitDefEqProofs := false) (dsimp := false) only [go_sem]
  simp (implicitDefEqProofs := false) (dsimp := false) only [go_sem]
  refine WP.loopI (fun (k : Nat) s => (k ≤ (laysB b).length) ∧ s.sl.length = 27 ∧ s.df = [] ∧ s.gh = {} ∧ (∃ J, s.hp = h ++ .cells 0 (bdA b (mapB b.glyphs)) :: .cells k (((pagesL b).take k).flatMap cInt) :: J) ∧ evA s.sl (.tmp 3) = .sl ⟨h.length + 1, k⟩ 1 0 k ∧ evA s.sl (.tmp 13) = sliceOf cLayF (laysB b) ∧ evA s.sl (.tmp 14) = .int .i64 (laysB b).length ∧ evA s.sl (.tmp 15) = .int .i64 k) (fun (k : Nat) => (laysB b).length - k) (0) ?_ ?_
  · simp (implicitDefEqProofs := false) (dsimp := false) only [go_sem, Nat.zero_le, bdA]
    exact ⟨⟨_, rfl, rfl⟩, rfl, rfl⟩
  · rintro k ⟨sl, df, hp, gh⟩ ⟨ab, al, rfl, rfl, ah, a3, a13, a14, a15⟩
    simp only at ab al ah a3 a13 a14 a15
    obtain ⟨j, rfl⟩ := slots_lit al; clear al; simp only [junk_succ, junk_zero, evA_tmp, nth_16, nth_four, nth_one, nth_zero, Nat.zero_add, Nat.reduceAdd] at  a3 a13 a14 a15 ⊢
    refine wp_ok (so := { shut := [22] }) mixed _ (by kernel_rfl) ?_
    obtain ⟨J, rfl⟩ := ah
    by_cases hk : k < (laysB b).length
    · have hJ : ∀ y : Blk, (J ++ [y])[J.length]? = some y := fun y => by simp
      have hJs : ∀ y z : Blk, (J ++ [y]).set J.length z = J ++ [z] := fun y z => by simp
      have hll : (((pagesL b).take k).flatMap cInt).length = k := by rw [cInt_len1, List.length_take, pagesL_len]; omega
      simp (implicitDefEqProofs := false) (dsimp := false) only [go_sem, a3, a13, a14, a15, nat_lt hk, decide_true, rowN cLayF_len hk, rowN_le cLayF_len hk, cLayF, cLay, hJ, hJs, hll]
      refine ⟨by omega, k + 1, ⟨by omega, ⟨_, ⟨rfl, ?_⟩, rfl⟩, rfl, wrap_succ (by omega)⟩, by omega⟩
      rw [pagesL_succ hk]; simp [cInt]
    · have hs : ((k : Int) < ((laysB b).length : Int)) = False := eq_false (by omega)
      have ek : k = (laysB b).length := by omega
      subst ek
      have e0 : (pagesL b).take (laysB b).length = pagesL b := List.take_of_length_le (by rw [pagesL_len]; exact Nat.le_refl _)
      simp (implicitDefEqProofs := false) (dsimp := false) only [go_sem, a3, a13, a14, a15, hs, decide_false]
      rw [e0]
      have hC := Compact_ok (pagesL b) (by rw [pagesL_len]; omega) (h ++ .cells 0 (bdA b (mapB b.glyphs)) :: .cells (laysB b).length ((pagesL b).flatMap cInt) :: J) (h.length + 1) (laysB b).length (by simp)
      have hpb : ddTo (pagesL b) (laysB b).length = pagesB b := by rw [pagesB, pagesL_len]
      rw [pagesL_len, hpb] at hC
      refine CallsA.mono hC ?_
      rintro _ _ ⟨cs, rfl, rfl, q1, q2⟩
      simp (implicitDefEqProofs := false) (dsimp := false) only [go_sem]
      rw [cInt_take, q2]
theorem pagesB_below (b : Board) : below 0 (sliceOf cInt (pagesB b)) = true := below_psl (fun _ => rfl) _
theorem pagesB_len {b : Board} (ok : okBoard b) : (pagesB b).length ≤ 1000 := by
  have h1 := laysB_le ok
  have h2 := ddTo_len (pagesL b) (pagesL b).length
  rw [pagesL_len] at h2
  have e : (pagesB b).length = (ddTo (pagesL b) (laysB b).length).length := by rw [pagesB, pagesL_len]
  omega
theorem Pages_ok (b : Board) (e0 : boardErr b = 0) : PureA Try.prog 50 [.agg (brdA b)] (.tup [sliceOf cInt (pagesB b), .int .i64 0]) := by
  refine PureA.of_wpp {} 15 mixed Try.func50 (by kernel_rfl) rfl (by kernel_rfl) (by simp only [below, belowL, pagesB_below, Bool.and_self]) fun h j hB => ?_
  simp only [junk_succ, junk_zero, List.cons_append, List.nil_append, List.length_cons, List.length_nil, Nat.reduceAdd]
  simp (implicitDefEqProofs := false) (dsimp := false) only [go_sem, brdA]
  refine open_use (fun _ => ?_) (fun e1 e2 x y z t f1 f2 f3 f4 => absurd e0 e1)
  simp (implicitDefEqProofs := false) (dsimp := false) only [go_sem, bdA]
  (first | refine CallsA.use (pages_ok b (okBoard.of e0)) ?_ | refine QuietCalls.use (pages_ok b (okBoard.of e0)) ?_)
  simp (implicitDefEqProofs := false) (dsimp := false) only [go_sem]
def verdB (b : Board) (p : Nat) : Int := if (p : Int) ∈ pagesB b then (if (pagesB b).length = 1 then 1 else 3) else 2
theorem Verdict_ok (b : Board) (e0 : boardErr b = 0) (ok : okBoard b) (p : Nat) (hp : p < b.pages.length) : PureA Try.prog 51 [.agg (brdA b), .int .i64 p] (.tup [.int .i64 (verdB b p), .int .i64 0]) := by
  refine PureA.of_wpp {} 30 mixed Try.func51 (by kernel_rfl) rfl (by kernel_rfl) (rfl) fun h j hB => ?_
  simp only [junk_succ, junk_zero, List.cons_append, List.nil_append, List.length_cons, List.length_nil, Nat.reduceAdd]
  simp (implicitDefEqProofs := false) (dsimp := false) only [go_sem, brdA]
  refine open_use (fun _ => ?_) (fun e1 e2 x y z t f1 f2 f3 f4 => absurd e0 e1)
  simp (implicitDefEqProofs := false) (dsimp := false) only [go_sem, bdA]
  (first | refine CallsA.use (hasPage_ok b _ p) ?_ | refine QuietCalls.use (hasPage_ok b _ p) ?_)
  have h0 : decide (0 ≤ (p : Int)) = true := by simp
  simp (implicitDefEqProofs := false) (dsimp := false) only [go_sem, h0, nat_lt hp, decide_true, bdA]
  (first | refine CallsA.use (pages_ok b (okBoard.of e0)) ?_ | refine QuietCalls.use (pages_ok b (okBoard.of e0)) ?_)
  simp (implicitDefEqProofs := false) (dsimp := false) only [go_sem]
  (first | refine CallsA.use (Contains_ok (pagesB b) p (pagesB_len ok)) ?_ | refine QuietCalls.use (Contains_ok (pagesB b) p (pagesB_len ok)) ?_)
  have hidx : decide (idxB p (pagesB b) ≥ 0) = decide ((p : Int) ∈ pagesB b) := by
    have h1 := idxB_none (v := (p : Int)) (l := pagesB b)
    have hge := idxB_ge (v := (p : Int)) (l := pagesB b)
    rw [decide_eq_decide]
    constructor
    · intro h2
      exact Classical.byContradiction fun h3 => by rw [h1.2 h3] at h2; exact absurd h2 (by decide)
    · intro h2
      have : idxB p (pagesB b) ≠ -1 := fun h3 => h1.1 h3 h2
      omega
  by_cases hin : (p : Int) ∈ pagesB b
  · rw [decide_eq_true hin] at hidx
    by_cases h1 : (pagesB b).length = 1
    · have hb : (((pagesB b).length : Int) == 1) = true := by rw [h1]; rfl
      simp (implicitDefEqProofs := false) (dsimp := false) only [go_sem, hidx, hb]
      rw [verdB, if_pos hin, if_pos h1]
    · have hb : (((pagesB b).length : Int) == 1) = false := by simp; omega
      simp (implicitDefEqProofs := false) (dsimp := false) only [go_sem, hidx, hb]
      rw [verdB, if_pos hin, if_neg h1]
  · rw [decide_eq_false hin] at hidx
    simp (implicitDefEqProofs := false) (dsimp := false) only [go_sem, hidx]
    rw [verdB, if_neg hin]
end Go.Mac
namespace Go.Mac
open Go Go.Conc Go.Proofs
set_option maxRecDepth 4000
theorem dice_at {h k : List Blk} {r : Option (List Int)} {x : Int} : (h ++ diceB r x :: k)[h.length]? = some (diceB r x) := by
  rw [List.getElem?_append_right (Nat.le_refl _), Nat.sub_self]; rfl
theorem dice_set {h k : List Blk} {r r' : Option (List Int)} {x x' : Int} : (h ++ diceB r x :: k).set h.length (diceB r' x') = h ++ diceB r' x' :: k := by
  rw [List.set_append_right _ _ (Nat.le_refl _), Nat.sub_self]; rfl
theorem role_left {h k : List Blk} (hro : h[0]? = some (.role true)) : (h ++ k)[0]? = some (.role true) := by
  rw [List.getElem?_append_left (List.getElem?_eq_some_iff.1 hro).1]; exact hro
set_option maxHeartbeats 1000000 in
theorem Sure_walk (r : Option (List Int)) (h : List Blk) (hro : h[0]? = some (.role true)) : CallsA Try.prog 12 [leftA r] h fun e h' => e = .ret (.bool true) ∧ h' = h := by
  refine CallsA.of_wpe [] { cut := [92, 97, 102, 109, 118] } 125 mixed Try.func12 (by kernel_rfl) rfl (by kernel_rfl) fun j hB hA => ?_; simp only [junk_succ, junk_zero, List.cons_append, List.nil_append, List.length_cons, List.length_nil, Nat.reduceAdd]
  simp (implicitDefEqProofs := false) (dsimp := false) only [go_sem]
  refine CallsA.mono (NewDice_ok r h) ?_
  rintro _ _ ⟨rfl, rfl⟩
  simp (implicitDefEqProofs := false) (dsimp := false) only [go_sem]
  refine Rolls.use (BoardOf_ok _ h.length r 1 4 3 2 3 (by omega) (by omega) (by omega) (by omega) dice_at) ?_
  rintro _ r x ⟨b, rfl, ok⟩
  rw [dice_set]
  have okm := ok.made
  have okb := okm.board
  have g3 := okb.cells.most
  have g4 := okb.cells.wmost
  have hn := laysB_le okb
  generalize diceB r x = D
  simp (implicitDefEqProofs := false) (dsimp := false) only [go_sem, brdA]
  have hL := Lays_ok b
  rw [unless_ok okm.err, okm.err] at hL
  (first | refine CallsA.use (hL) ?_ | refine QuietCalls.use (hL) ?_)
  simp (implicitDefEqProofs := false) (dsimp := false) only [go_sem]
  refine WP.loopI (fun (r : Nat) s => (r ≤ b.cells.length) ∧ s.sl.length = 126 ∧ s.df = [] ∧ s.gh = {} ∧ (∃ J, s.hp = h ++ D :: .cells 0 (brdA b) :: J) ∧ evA s.sl (.tmp 3) = .ptr ⟨h.length + 1, 0⟩ 0 ∧ evA s.sl (.tmp 4) = sliceOf cLayF (laysB b) ∧ evA s.sl (.tmp 6) = .int .i64 r) (fun (r : Nat) => b.cells.length - r) (0) ?_ ?_
  · simp (implicitDefEqProofs := false) (dsimp := false) only [go_sem, Nat.zero_le, brdA]
  · rintro r ⟨sl, df, hp, gh⟩ ⟨ab, al, rfl, rfl, ah, a3, a4, a6⟩
    simp only at ab al ah a3 a4 a6
    obtain ⟨j, rfl⟩ := slots_lit al; clear al; simp only [junk_succ, junk_zero, evA_tmp, nth_16, nth_four, nth_one, nth_zero, Nat.zero_add, Nat.reduceAdd] at  a3 a4 a6 ⊢
    refine wp_ok (so := { cut := [92, 97, 102, 109, 118] }) mixed _ (by kernel_rfl) ?_
    obtain ⟨J, rfl⟩ := ah
    by_cases hr : r < b.cells.length
    · simp (implicitDefEqProofs := false) (dsimp := false) only [go_sem, a3, a4, a6, brdA, nat_lt hr, decide_true]
      refine WP.loopI (fun (c : Nat) s => (c ≤ (b.cells.headD []).length) ∧ s.sl.length = 126 ∧ s.df = [] ∧ s.gh = {} ∧ (∃ J, s.hp = h ++ D :: .cells 0 (brdA b) :: J) ∧ evA s.sl (.tmp 3) = .ptr ⟨h.length + 1, 0⟩ 0 ∧ evA s.sl (.tmp 4) = sliceOf cLayF (laysB b) ∧ evA s.sl (.tmp 6) = .int .i64 r ∧ evA s.sl (.tmp 7) = .int .i64 c) (fun (c : Nat) => (b.cells.headD []).length - c) (0) ?_ ?_
      · simp (implicitDefEqProofs := false) (dsimp := false) only [go_sem, Nat.zero_le, brdA]
      · rintro c ⟨sl, df, hp, gh⟩ ⟨cb, cl, rfl, rfl, ch, c3, c4, c6, c7⟩
        simp only at cb cl ch c3 c4 c6 c7
        obtain ⟨j, rfl⟩ := slots_lit cl; clear cl; simp only [junk_succ, junk_zero, evA_tmp, nth_16, nth_four, nth_one, nth_zero, Nat.zero_add, Nat.reduceAdd] at  c3 c4 c6 c7 ⊢
        refine wp_ok (so := { cut := [92, 97, 102, 109, 118] }) mixed _ (by kernel_rfl) ?_
        obtain ⟨J, rfl⟩ := ch
        have hw := okm.cells.row hr
        by_cases hc : c < (b.cells.headD []).length
        · simp (implicitDefEqProofs := false) (dsimp := false) only [go_sem, c3, c4, c6, c7, brdA, nat_lt hr, nat_lt hc, decide_true, row1 cTraces_len hr, row1_le cTraces_len hr, cTraces, hw]
          (first | refine CallsA.use (Strokes_ok b r c) ?_ | refine QuietCalls.use (Strokes_ok b r c) ?_)
          have hcell : cellB b r c = true := by simp only [cellB, Bool.and_eq_true, decide_eq_true_eq]; omega
          by_cases h0 : (laysB b).length = 0
          · have hS : StrokesR b r c = (0, 0, 9) := by rw [StrokesR, if_neg (by simp [okm.err]), if_neg (by simp [hcell]), if_pos h0]
            rw [hS]
            simp (implicitDefEqProofs := false) (dsimp := false) only [go_sem, tri, h0, brdA]
            exact ⟨c + 1, ⟨by omega, wrap_succ (by omega)⟩, by omega⟩
          · have hS : StrokesR b r c = (andTo (laysB b) (4 * r + c) (laysB b).length, orTo (laysB b) (4 * r + c) (laysB b).length, 0) := by rw [StrokesR, if_neg (by simp [okm.err]), if_neg (by simp [hcell]), if_neg h0]; rfl
            rw [hS]
            have h0' : ((((laysB b).length : Nat) : Int) == 0) = false := by simpa using h0
            simp (implicitDefEqProofs := false) (dsimp := false) only [go_sem, tri, h0']
            refine WP.loopI (fun (k : Nat) s => (k ≤ (laysB b).length) ∧ s.sl.length = 126 ∧ s.df = [] ∧ s.gh = {} ∧ (s.hp = h ++ D :: .cells 0 (brdA b) :: J) ∧ evA s.sl (.tmp 3) = .ptr ⟨h.length + 1, 0⟩ 0 ∧ evA s.sl (.tmp 4) = sliceOf cLayF (laysB b) ∧ evA s.sl (.tmp 6) = .int .i64 r ∧ evA s.sl (.tmp 7) = .int .i64 c ∧ evA s.sl (.tmp 8) = .int .i64 (andTo (laysB b) (4 * r + c) (laysB b).length) ∧ evA s.sl (.tmp 9) = .int .i64 (orTo (laysB b) (4 * r + c) (laysB b).length) ∧ evA s.sl (.tmp 10) = .int .i64 0 ∧ evA s.sl (.tmp 11) = .int .i64 (andTo (laysB b) (4 * r + c) k) ∧ evA s.sl (.tmp 12) = .int .i64 (orTo (laysB b) (4 * r + c) k) ∧ evA s.sl (.tmp 13) = .int .i64 k) (fun (k : Nat) => (laysB b).length - k) (0) ?_ ?_
            · simp (implicitDefEqProofs := false) (dsimp := false) only [go_sem, Nat.zero_le, brdA]
              exact ⟨rfl, rfl⟩
            · rintro k ⟨sl, df, hp, gh⟩ ⟨qb, ql, rfl, rfl, rfl, q3, q4, q6, q7, q8, q9, q10, q11, q12, q13⟩
              simp only at qb ql q3 q4 q6 q7 q8 q9 q10 q11 q12 q13
              obtain ⟨j, rfl⟩ := slots_lit ql; clear ql; simp only [junk_succ, junk_zero, evA_tmp, nth_16, nth_four, nth_one, nth_zero, Nat.zero_add, Nat.reduceAdd] at  q3 q4 q6 q7 q8 q9 q10 q11 q12 q13 ⊢
              refine wp_ok (so := { cut := [92, 97, 102, 109, 118] }) mixed _ (by kernel_rfl) ?_
              by_cases hk : k < (laysB b).length
              · have hm := List.getElem_mem hk
                obtain ⟨hsh, _, _⟩ := lays_shown okm hm hr hc
                obtain ⟨hi1, hi2⟩ := lays_small hm
                simp (implicitDefEqProofs := false) (dsimp := false) only [go_sem, q3, q4, q6, q7, q8, q9, q10, q11, q12, q13, brdA, nat_lt hk, decide_true, rowN cLayF_len hk, rowN_le cLayF_len hk, cLayF, cLay]
                have hS := Shown_ok b (laysB b)[k].1 r c hi1 hi2
                rw [hsh] at hS
                (first | refine CallsA.use (hS) ?_ | refine QuietCalls.use (hS) ?_)
                simp (implicitDefEqProofs := false) (dsimp := false) only [go_sem, pairA, brdA]
                exact ⟨k + 1, ⟨by omega, by rw [andTo_succ hk], by rw [orTo_succ hk], wrap_succ (by omega)⟩, by omega⟩
              · have hs : ((k : Int) < ((laysB b).length : Int)) = False := eq_false (by omega)
                have ek : k = (laysB b).length := by omega
                subst ek
                have hwc : c < b.cells[r].length := by omega
                have htr := okm.trace64 hr hc
                have hfit : ∀ x ∈ laysB b, is64 (x.2.getD (4 * r + c) 0) ∧ fitsB (x.2.getD (4 * r + c) 0) (traceAt b.cells r c) = true := fun x hx => (lays_shown okm hx hr hc).2
                rw [traceAt_eq hr hwc] at htr hfit
                have h64 : ∀ x ∈ laysB b, is64 (x.2.getD (4 * r + c) 0) := fun x hx => (hfit x hx).1
                have e1 := and_or h64 (by omega)
                have e2 := and_seen h64 htr.1 (fun x hx => (fits_and (hfit x hx).2).1) _ (Nat.le_refl _)
                have e3 := or_bare h64 htr.2.1 (fun x hx => (fits_and (hfit x hx).2).2) _ (Nat.le_refl _)
                have hJ : ∀ y : Blk, (J ++ [y])[J.length]? = some y := fun y => by simp
                have hJs : ∀ y z : Blk, (J ++ [y]).set J.length z = J ++ [z] := fun y z => by simp
                simp (implicitDefEqProofs := false) (dsimp := false) only [go_sem, q3, q4, q6, q7, q8, q9, q10, q11, q12, q13, brdA, hs, decide_false, nat_lt hr, nat_lt hc, row1 cTraces_len hr, row1_le cTraces_len hr, cTraces, hw, rowN cTrace_len hwc, rowN_le cTrace_len hwc, cTrace, hJ, hJs, bne_self_eq_false, e1, e2, e3, Nat.le_refl]
                exact ⟨c + 1, ⟨by omega, wrap_succ (by omega)⟩, by omega⟩
        · have hs : ((c : Int) < ((b.cells.headD []).length : Int)) = False := eq_false (by omega)
          simp (implicitDefEqProofs := false) (dsimp := false) only [go_sem, c3, c4, c6, c7, brdA, nat_lt hr, hs, decide_false, row1 cTraces_len hr, row1_le cTraces_len hr, cTraces, hw]
          exact ⟨r + 1, ⟨by omega, wrap_succ (by omega)⟩, by omega⟩
    · have hs : ((r : Int) < (b.cells.length : Int)) = False := eq_false (by omega)
      simp (implicitDefEqProofs := false) (dsimp := false) only [go_sem, a3, a4, a6, brdA, hs, decide_false]
      refine QuietAt.use (pressed_ok _ (role_left hro)) ?_
      simp (implicitDefEqProofs := false) (dsimp := false) only [go_sem]
      exact quiet_fine hB rfl
end Go.Mac
namespace Go.Mac
open Go Go.Conc Go.Proofs
set_option maxRecDepth 4000
theorem indexTrace_ok (l : List Trace) (hl : l.length < 9223372036854775807) (g : FuncId) (hc : callable Try.prog g = True) (cap : List AV) (p : Trace → Bool) (h : List Blk) (hF : ∀ x ∈ l, QuietAt g (.agg (cTrace x) :: cap) h (.bool (p x))) :
    QuietAt 114 [sliceOf cTrace l, .fn (.func g) [] cap] h (.int .i64 (idxFrom p l 0)) := by
  unfold QuietAt
  refine CallsA.of_wpe [] {} 17 mixed Try.func114 (by kernel_rfl) rfl (by kernel_rfl) fun j hB hA => ?_; simp only [junk_succ, junk_zero, List.cons_append, List.nil_append, List.length_cons, List.length_nil, Nat.reduceAdd]
  simp (implicitDefEqProofs := false) (dsimp := false) only [go_sem]
  refine WP.loopI (fun (i : Nat) s => (i ≤ l.length ∧ idxFrom p (l.drop i) i = idxFrom p l 0) ∧ s.sl.length = 19 ∧ s.df = [] ∧ s.gh = {} ∧ (s.hp = h) ∧ evA s.sl (.tmp 0) = sliceOf cTrace l ∧ evA s.sl (.tmp 1) = .fn (.func g) [] cap ∧ evA s.sl (.tmp 7) = .int .i64 l.length ∧ evA s.sl (.tmp 8) = .int .i64 i) (fun (i : Nat) => l.length - i) (0) ?_ ?_
  · simp (implicitDefEqProofs := false) (dsimp := false) only [go_sem, Nat.zero_le]
  · rintro i ⟨sl, df, hp, gh⟩ ⟨ab, al, rfl, rfl, rfl, a0, a1, a7, a8⟩
    simp only at ab al a0 a1 a7 a8
    obtain ⟨j, rfl⟩ := slots_lit al; clear al; simp only [junk_succ, junk_zero, evA_tmp, nth_16, nth_four, nth_one, nth_zero, Nat.zero_add, Nat.reduceAdd] at  a0 a1 a7 a8 ⊢
    refine wp_ok (so := {}) mixed _ (by kernel_rfl) ?_
    obtain ⟨ab, aq⟩ := ab
    by_cases hi : i < l.length
    · rw [drop_get hi] at aq
      simp (implicitDefEqProofs := false) (dsimp := false) only [go_sem, a0, a1, a7, a8, nat_lt hi, decide_true, rowN cTrace_len hi, rowN_le cTrace_len hi, hi, cTrace, hc]
      refine QuietAt.use (hF _ (List.getElem_mem hi)) ?_
      cases hp : p l[i] with
      | true =>
        simp (implicitDefEqProofs := false) (dsimp := false) only [go_sem]
        rw [show (i : Int) = idxFrom p l 0 by rw [← aq]; simp [idxFrom, hp]]
        exact quiet_fine0 hB rfl
      | false =>
        simp (implicitDefEqProofs := false) (dsimp := false) only [go_sem]
        refine ⟨i + 1, ⟨⟨by omega, ?_⟩, wrap_succ (by omega)⟩, by omega⟩
        rw [← aq]; simp [idxFrom, hp]
    · have hs : ((i : Int) < (l.length : Int)) = False := eq_false (by omega)
      simp (implicitDefEqProofs := false) (dsimp := false) only [go_sem, a0, a1, a7, a8, hs, decide_false]
      rw [List.drop_eq_nil_of_le (by omega)] at aq
      rw [← aq]
      exact quiet_fine0 hB rfl
theorem containsTrace_ok (l : List Trace) (hl : l.length < 9223372036854775807) (g : FuncId) (hc : callable Try.prog g = True) (cap : List AV) (p : Trace → Bool) (h : List Blk) (hF : ∀ x ∈ l, QuietAt g (.agg (cTrace x) :: cap) h (.bool (p x))) :
    QuietAt 93 [sliceOf cTrace l, .fn (.func g) [] cap] h (.bool (l.any p)) := by
  unfold QuietAt
  refine CallsA.of_wpe [] {} 7 mixed Try.func93 (by kernel_rfl) rfl (by kernel_rfl) fun j hB hA => ?_; simp only [junk_succ, junk_zero, List.cons_append, List.nil_append, List.length_cons, List.length_nil, Nat.reduceAdd]
  simp (implicitDefEqProofs := false) (dsimp := false) only [go_sem]
  refine QuietAt.use (indexTrace_ok l hl g hc cap p h hF) ?_
  simp (implicitDefEqProofs := false) (dsimp := false) only [go_sem, idxFrom_any]
  exact quiet_fine0 hB rfl
theorem indexTraces_ok (l : List (List Trace)) (hl : l.length < 9223372036854775807) (g : FuncId) (hc : callable Try.prog g = True) (cap : List AV) (p : List Trace → Bool) (h : List Blk) (hF : ∀ x ∈ l, QuietAt g (sliceOf cTrace x :: cap) h (.bool (p x))) :
    QuietAt 113 [sliceOf cTraces l, .fn (.func g) [] cap] h (.int .i64 (idxFrom p l 0)) := by
  unfold QuietAt
  refine CallsA.of_wpe [] {} 17 mixed Try.func113 (by kernel_rfl) rfl (by kernel_rfl) fun j hB hA => ?_; simp only [junk_succ, junk_zero, List.cons_append, List.nil_append, List.length_cons, List.length_nil, Nat.reduceAdd]
  simp (implicitDefEqProofs := false) (dsimp := false) only [go_sem]
  refine WP.loopI (fun (i : Nat) s => (i ≤ l.length ∧ idxFrom p (l.drop i) i = idxFrom p l 0) ∧ s.sl.length = 19 ∧ s.df = [] ∧ s.gh = {} ∧ (s.hp = h) ∧ evA s.sl (.tmp 0) = sliceOf cTraces l ∧ evA s.sl (.tmp 1) = .fn (.func g) [] cap ∧ evA s.sl (.tmp 7) = .int .i64 l.length ∧ evA s.sl (.tmp 8) = .int .i64 i) (fun (i : Nat) => l.length - i) (0) ?_ ?_
  · simp (implicitDefEqProofs := false) (dsimp := false) only [go_sem, Nat.zero_le]
  · rintro i ⟨sl, df, hp, gh⟩ ⟨ab, al, rfl, rfl, rfl, a0, a1, a7, a8⟩
    simp only at ab al a0 a1 a7 a8
    obtain ⟨j, rfl⟩ := slots_lit al; clear al; simp only [junk_succ, junk_zero, evA_tmp, nth_16, nth_four, nth_one, nth_zero, Nat.zero_add, Nat.reduceAdd] at  a0 a1 a7 a8 ⊢
    refine wp_ok (so := {}) mixed _ (by kernel_rfl) ?_
    obtain ⟨ab, aq⟩ := ab
    by_cases hi : i < l.length
    · rw [drop_get hi] at aq
      simp (implicitDefEqProofs := false) (dsimp := false) only [go_sem, a0, a1, a7, a8, nat_lt hi, decide_true, row1 cTraces_len hi, row1_le cTraces_len hi, hi, cTraces, hc]
      refine QuietAt.use (hF _ (List.getElem_mem hi)) ?_
      cases hp : p l[i] with
      | true =>
        simp (implicitDefEqProofs := false) (dsimp := false) only [go_sem]
        rw [show (i : Int) = idxFrom p l 0 by rw [← aq]; simp [idxFrom, hp]]
        exact quiet_fine0 hB rfl
      | false =>
        simp (implicitDefEqProofs := false) (dsimp := false) only [go_sem]
        refine ⟨i + 1, ⟨⟨by omega, ?_⟩, wrap_succ (by omega)⟩, by omega⟩
        rw [← aq]; simp [idxFrom, hp]
    · have hs : ((i : Int) < (l.length : Int)) = False := eq_false (by omega)
      simp (implicitDefEqProofs := false) (dsimp := false) only [go_sem, a0, a1, a7, a8, hs, decide_false]
      rw [List.drop_eq_nil_of_le (by omega)] at aq
      rw [← aq]
      exact quiet_fine0 hB rfl
theorem containsTraces_ok (l : List (List Trace)) (hl : l.length < 9223372036854775807) (g : FuncId) (hc : callable Try.prog g = True) (cap : List AV) (p : List Trace → Bool) (h : List Blk) (hF : ∀ x ∈ l, QuietAt g (sliceOf cTrace x :: cap) h (.bool (p x))) :
    QuietAt 91 [sliceOf cTraces l, .fn (.func g) [] cap] h (.bool (l.any p)) := by
  unfold QuietAt
  refine CallsA.of_wpe [] {} 7 mixed Try.func91 (by kernel_rfl) rfl (by kernel_rfl) fun j hB hA => ?_; simp only [junk_succ, junk_zero, List.cons_append, List.nil_append, List.length_cons, List.length_nil, Nat.reduceAdd]
  simp (implicitDefEqProofs := false) (dsimp := false) only [go_sem]
  refine QuietAt.use (indexTraces_ok l hl g hc cap p h hF) ?_
  simp (implicitDefEqProofs := false) (dsimp := false) only [go_sem, idxFrom_any]
  exact quiet_fine0 hB rfl
theorem call_seen1 : callable Try.prog 90 = True := eq_true ⟨_, Try.func90, rfl, rfl⟩
theorem call_seen2 : callable Try.prog 92 = True := eq_true ⟨_, Try.func92, rfl, rfl⟩
theorem seen1_ok (x : Trace) : PureA Try.prog 90 [.agg (cTrace x)] (.bool (x.seen != 0)) := by
  refine PureA.of_wpp {} 5 mixed Try.func90 (by kernel_rfl) rfl (by kernel_rfl) (rfl) fun h j hB => ?_
  simp only [junk_succ, junk_zero, List.cons_append, List.nil_append, List.length_cons, List.length_nil, Nat.reduceAdd]
  simp (implicitDefEqProofs := false) (dsimp := false) only [go_sem, cTrace]
def fnSeen : AV := .fn (.func 90) [] []
theorem seen2_ok (l : List Trace) (hl : l.length < 9223372036854775807) (n : Nat) (h : List Blk) (hn : h[n]? = some (.cells 0 [fnSeen])) : QuietAt 92 [sliceOf cTrace l, .ptr ⟨n, 0⟩ 0] h (.bool (rowSeen l)) := by
  unfold QuietAt
  have hlt : n < h.length := (List.getElem?_eq_some_iff.1 hn).1
  refine CallsA.of_wpe [] {} 5 mixed Try.func92 (by kernel_rfl) rfl (by kernel_rfl) fun j hB hA => ?_; simp only [junk_succ, junk_zero, List.cons_append, List.nil_append, List.length_cons, List.length_nil, Nat.reduceAdd]
  simp (implicitDefEqProofs := false) (dsimp := false) only [go_sem, hn, fnSeen]
  refine QuietAt.use (containsTrace_ok l hl _ call_seen1 [] (fun x => x.seen != 0) h fun x _ => QuietAt.of (seen1_ok x) h) ?_
  simp (implicitDefEqProofs := false) (dsimp := false) only [go_sem]
  exact quiet_fine0 hB rfl
def explV (b : Board) : AV :=
  if anySeen b.cells = false then .tup [.nilsl, .int .i64 0]
  else if 0 < (pagesB b).length then .tup [sliceOf cInt [(pagesB b).getD 0 0], .int .i64 0]
  else match exFind b with
    | some k => .tup [sliceOf cInt [((k / b.pages.length : Nat) : Int), ((k % b.pages.length : Nat) : Int)], .int .i64 0]
    | none => .tup [.nilsl, .int .i64 11]
theorem Explain_ok (b : Board) (ok : okMade b) (h : List Blk) (hro : h[0]? = some (.role true)) : QuietAt 49 [.agg (brdA b)] h (explV b) := by
  unfold QuietAt
  have hmost := ok.most
  refine CallsA.of_wpe [] { shut := [54] } 55 mixed Try.func49 (by kernel_rfl) rfl (by kernel_rfl) fun j hB hA => ?_; simp only [junk_succ, junk_zero, List.cons_append, List.nil_append, List.length_cons, List.length_nil, Nat.reduceAdd]
  simp (implicitDefEqProofs := false) (dsimp := false) only [go_sem, brdA]
  refine open_use (fun e0 => ?_) (fun e1 e2 x y z t f1 f2 f3 f4 => absurd ok.err e1)
  simp (implicitDefEqProofs := false) (dsimp := false) only [go_sem, bdA]
  refine QuietAt.use (containsTraces_ok b.cells (by have := ok.cells.most; omega) _ call_seen2 _ rowSeen _ fun x hx => seen2_ok x (by have := ok.cells.wide x hx; have := ok.cells.wmost; omega) (h.length + 2) _ (by simp [fnSeen])) ?_
  cases hs : b.cells.any rowSeen with
  | false =>
    simp (implicitDefEqProofs := false) (dsimp := false) only [go_sem]
    rw [explV, if_pos (show anySeen b.cells = false from hs)]
    exact quiet_fine hB rfl
  | true =>
    simp (implicitDefEqProofs := false) (dsimp := false) only [go_sem, bdA]
    (first | refine CallsA.use (pages_ok b ok.board) ?_ | refine QuietCalls.use (pages_ok b ok.board) ?_)
    simp (implicitDefEqProofs := false) (dsimp := false) only [go_sem]
    have hns : ¬ anySeen b.cells = false := by unfold anySeen; rw [hs]; simp
    refine ⟨fun hp => ?_, fun hp => ?_⟩
    · have hpp : 0 < (pagesB b).length := by simpa using hp
      refine ⟨⟨by omega, by rw [cInt_len1]; exact Nat.le_refl _⟩, ?_⟩
      have e : ((pagesB b).flatMap cInt).take 1 = [(pagesB b).getD 0 0].flatMap cInt := by
        rw [cInt_take]
        cases hq : pagesB b with
        | nil => rw [hq] at hpp; simp at hpp
        | cons x l => rfl
      rw [e, explV, if_neg hns, if_pos hpp]
      exact quiet_fine hB rfl
    · have hpp : ¬ 0 < (pagesB b).length := by simpa using hp
      have hV : explV b = match exFind b with
          | some k => .tup [sliceOf cInt [((k / b.pages.length : Nat) : Int), ((k % b.pages.length : Nat) : Int)], .int .i64 0]
          | none => .tup [.nilsl, .int .i64 11] := by rw [explV, if_neg hns, if_neg hpp]
      rw [hV]
      refine WP.loopI (fun (p : Nat) s => (p ≤ b.pages.length ∧ noEx b p 0) ∧ s.sl.length = 56 ∧ s.df = [] ∧ s.gh = {} ∧ (s.hp = h ++ [.cells 0 (brdA b), .cells 0 (bdA b (mapB b.glyphs)), .cells 0 [fnSeen]]) ∧ evA s.sl (.tmp 4) = .ptr ⟨h.length + 1, 0⟩ 0 ∧ evA s.sl (.tmp 34) = .int .i64 b.pages.length ∧ evA s.sl (.tmp 35) = .int .i64 p) (fun (p : Nat) => b.pages.length - p) (0) ?_ ?_
      · simp (implicitDefEqProofs := false) (dsimp := false) only [go_sem, Nat.zero_le, brdA, bdA, fnSeen]
        exact fun k hk => by omega
      · rintro p ⟨sl, df, hp, gh⟩ ⟨ab, al, rfl, rfl, rfl, a4, a34, a35⟩
        simp only at ab al a4 a34 a35
        obtain ⟨j, rfl⟩ := slots_lit al; clear al; simp only [junk_succ, junk_zero, evA_tmp, nth_16, nth_four, nth_one, nth_zero, Nat.zero_add, Nat.reduceAdd] at  a4 a34 a35 ⊢
        refine wp_ok (so := { shut := [54] }) mixed _ (by kernel_rfl) ?_
        obtain ⟨ap, an⟩ := ab
        by_cases hpl : p < b.pages.length
        · simp (implicitDefEqProofs := false) (dsimp := false) only [go_sem, a4, a34, a35, brdA, bdA, nat_lt hpl, decide_true]
          refine WP.loopI (fun (q : Nat) s => ((p ≤ q ∧ q ≤ b.pages.length) ∧ noEx b p q) ∧ s.sl.length = 56 ∧ s.df = [] ∧ s.gh = {} ∧ (s.hp = h ++ [.cells 0 (brdA b), .cells 0 (bdA b (mapB b.glyphs)), .cells 0 [fnSeen]]) ∧ evA s.sl (.tmp 4) = .ptr ⟨h.length + 1, 0⟩ 0 ∧ evA s.sl (.tmp 8) = .int .i64 p ∧ evA s.sl (.tmp 9) = .int .i64 q ∧ evA s.sl (.tmp 34) = .int .i64 b.pages.length ∧ evA s.sl (.tmp 35) = .int .i64 p) (fun (q : Nat) => b.pages.length - q) (p) ?_ ?_
          · simp (implicitDefEqProofs := false) (dsimp := false) only [go_sem, brdA, bdA]
            exact ⟨⟨Nat.le_refl _, by omega⟩, noEx_row hpl an⟩
          · rintro q ⟨sl, df, hp, gh⟩ ⟨cb, cl, rfl, rfl, rfl, c4, c8, c9, c34, c35⟩
            simp only at cb cl c4 c8 c9 c34 c35
            obtain ⟨j, rfl⟩ := slots_lit cl; clear cl; simp only [junk_succ, junk_zero, evA_tmp, nth_16, nth_four, nth_one, nth_zero, Nat.zero_add, Nat.reduceAdd] at  c4 c8 c9 c34 c35 ⊢
            refine wp_ok (so := { shut := [54] }) mixed _ (by kernel_rfl) ?_
            obtain ⟨⟨c1, c2⟩, cn⟩ := cb
            by_cases hql : q < b.pages.length
            · simp (implicitDefEqProofs := false) (dsimp := false) only [go_sem, c4, c8, c9, c34, c35, brdA, bdA, nat_lt hql, decide_true]
              refine QuietAt.use (double_ok b _ ok.board p q hpl hql _ (role_left hro)) ?_
              simp (implicitDefEqProofs := false) (dsimp := false) only [go_sem, brdA, bdA]
              refine ⟨fun hd => ?_, fun hd => ⟨q + 1, ⟨⟨⟨by omega, by omega⟩, noEx_next hql c1 cn (by simpa using hd)⟩, wrap_succ (by omega)⟩, by omega⟩⟩
              obtain ⟨e1, e2⟩ := exC_at (b := b) (p := p) hql
              rw [noEx_hit hpl hql c1 cn (by simpa using hd)]
              simp only [e1, e2]
              exact quiet_fine hB rfl
            · have hs : ((q : Int) < (b.pages.length : Int)) = False := eq_false (by omega)
              have e : q = b.pages.length := by omega
              subst e
              simp (implicitDefEqProofs := false) (dsimp := false) only [go_sem, c4, c8, c9, c34, c35, brdA, bdA, hs, decide_false]
              exact ⟨p + 1, ⟨⟨by omega, noEx_down cn⟩, wrap_succ (by omega)⟩, by omega⟩
        · have hs : ((p : Int) < (b.pages.length : Int)) = False := eq_false (by omega)
          have e : p = b.pages.length := by omega
          subst e
          simp (implicitDefEqProofs := false) (dsimp := false) only [go_sem, a4, a34, a35, hs, decide_false]
          rw [noEx_all an]
          exact quiet_fine hB rfl
end Go.Mac
namespace Go.Mac
open Go Go.Conc Go.Proofs
set_option maxRecDepth 4000
set_option maxHeartbeats 2000000 in
theorem Expl_walk (r : Option (List Int)) (h : List Blk) (hro : h[0]? = some (.role true)) : CallsA Try.prog 13 [leftA r] h fun e h' => e = .ret (.bool true) ∧ h' = h := by
  refine CallsA.of_wpe [] { shut := [68, 106], cut := [49, 54, 62, 71, 102, 109, 114, 119] } 121 mixed Try.func13 (by kernel_rfl) rfl (by kernel_rfl) fun j hB hA => ?_; simp only [junk_succ, junk_zero, List.cons_append, List.nil_append, List.length_cons, List.length_nil, Nat.reduceAdd]
  simp (implicitDefEqProofs := false) (dsimp := false) only [go_sem]
  refine CallsA.mono (NewDice_ok r h) ?_
  rintro _ _ ⟨rfl, rfl⟩
  simp (implicitDefEqProofs := false) (dsimp := false) only [go_sem]
  refine Rolls.use (BoardOf_ok _ h.length r 1 4 3 2 2 (by omega) (by omega) (by omega) (by omega) dice_at) ?_
  rintro _ r x ⟨b, rfl, ok⟩
  rw [dice_set]
  have okm := ok.made
  have okb := okm.board
  have hpos := okm.pos
  have hmost := okm.most
  have m3 := okm.cells.most
  have m4 := okm.cells.wmost
  have hm12 : b.cells.length * wideB b ≤ 3 * 4 := Nat.mul_le_mul m3 m4
  have hfl : b.cells.flatten.length = b.cells.length * wideB b := flat_len okm.cells.wide
  have hseen := seen_any okm
  have hpage := pages_head (b := b)
  rw [hfl] at hseen
  generalize diceB r x = D
  have hL := Lays_ok b
  rw [unless_ok okm.err, okm.err] at hL
  have hE := Explain_ok b okm (h ++ [D, .cells 0 (brdA b)]) (role_left hro)
  have hgetT : ∀ k (hk : k < b.cells.flatten.length), b.cells.flatten[k] = b.cells.flatten.getD k ⟨0, 0⟩ := fun k hk => by rw [List.getD_eq_getElem?_getD, List.getElem?_eq_getElem hk]; rfl
  have hcases : ∃ vl ve, explV b = .tup [vl, .int .i64 ve] ∧ ((vl = .nilsl ∧ ve = 0 ∧ anySeen b.cells = false) ∨ (vl = sliceOf cInt [(pagesB b).getD 0 0] ∧ ve = 0 ∧ anySeen b.cells = true ∧ 0 < (pagesB b).length) ∨ (∃ k, exFind b = some k ∧ vl = sliceOf cInt [((k / b.pages.length : Nat) : Int), ((k % b.pages.length : Nat) : Int)] ∧ ve = 0 ∧ anySeen b.cells = true ∧ ¬ 0 < (pagesB b).length) ∨ (exFind b = none ∧ vl = .nilsl ∧ ve = 11 ∧ anySeen b.cells = true ∧ ¬ 0 < (pagesB b).length)) := by
    unfold explV
    cases hs : anySeen b.cells with
    | false => exact ⟨_, _, rfl, .inl ⟨rfl, rfl, rfl⟩⟩
    | true =>
      rw [if_neg (by simp)]
      by_cases hp : 0 < (pagesB b).length
      · rw [if_pos hp]; exact ⟨_, _, rfl, .inr (.inl ⟨rfl, rfl, rfl, hp⟩)⟩
      · rw [if_neg hp]
        cases hf : exFind b with
        | some k => exact ⟨_, _, rfl, .inr (.inr (.inl ⟨k, rfl, rfl, rfl, rfl, hp⟩))⟩
        | none => exact ⟨_, _, rfl, .inr (.inr (.inr ⟨rfl, rfl, rfl, rfl, hp⟩))⟩
  obtain ⟨vl, ve, hV, hcases⟩ := hcases
  rw [hV] at hE
  simp (implicitDefEqProofs := false) (dsimp := false) only [go_sem, brdA]
  refine QuietAt.use hE ?_
  simp (implicitDefEqProofs := false) (dsimp := false) only [go_sem, brdA]
  (first | refine CallsA.use (hL) ?_ | refine QuietCalls.use (hL) ?_)
  simp (implicitDefEqProofs := false) (dsimp := false) only [go_sem]
  (first | refine CallsA.use (traces_ok b okm.cells) ?_ | refine QuietCalls.use (traces_ok b okm.cells) ?_)
  simp (implicitDefEqProofs := false) (dsimp := false) only [go_sem, hfl, brdA]
  refine WP.loopI (fun (i : Nat) s => (i ≤ b.cells.length * wideB b) ∧ s.sl.length = 122 ∧ s.df = [] ∧ s.gh = {} ∧ (s.hp = h ++ [D, .cells 0 (brdA b)]) ∧ evA s.sl (.tmp 3) = .ptr ⟨h.length + 1, 0⟩ 0 ∧ evA s.sl (.tmp 4) = vl ∧ evA s.sl (.tmp 5) = .int .i64 ve ∧ evA s.sl (.tmp 6) = sliceOf cLayF (laysB b) ∧ evA s.sl (.tmp 8) = .psl (b.cells.flatten.flatMap cTrace) (b.cells.length * wideB b) ∧ evA s.sl (.tmp 9) = .int .i64 (orS b.cells.flatten i) ∧ evA s.sl (.tmp 10) = .int .i64 i) (fun (i : Nat) => b.cells.length * wideB b - i) (0) ?_ ?_
  · simp (implicitDefEqProofs := false) (dsimp := false) only [go_sem, Nat.zero_le, brdA]
    rfl
  · rintro i ⟨sl, df, hp, gh⟩ ⟨ab, al, rfl, rfl, rfl, a3, a4, a5, a6, a8, a9, a10⟩
    simp only at ab al a3 a4 a5 a6 a8 a9 a10
    obtain ⟨j, rfl⟩ := slots_lit al; clear al; simp only [junk_succ, junk_zero, evA_tmp, nth_16, nth_four, nth_one, nth_zero, Nat.zero_add, Nat.reduceAdd] at  a3 a4 a5 a6 a8 a9 a10 ⊢
    refine wp_ok (so := { shut := [68, 106], cut := [49, 54, 62, 71, 102, 109, 114, 119] }) mixed _ (by kernel_rfl) ?_
    by_cases hi : i < b.cells.length * wideB b
    · have hif : i < b.cells.flatten.length := by rw [hfl]; exact hi
      simp (implicitDefEqProofs := false) (dsimp := false) only [go_sem, a3, a4, a5, a6, a8, a9, a10, brdA, nat_lt hi, decide_true, rowN cTrace_len hif, rowN_le cTrace_len hif, cTrace, hgetT i hif]
      exact ⟨i + 1, ⟨by omega, rfl, wrap_succ (by omega)⟩, by omega⟩
    · have hse : ((i : Int) < ((b.cells.length * wideB b : Nat) : Int)) = False := eq_false (by omega)
      have ei : i = b.cells.length * wideB b := by omega
      subst ei
      rcases hcases with ⟨rfl, rfl, hs⟩ | ⟨rfl, rfl, hs, hp⟩ | ⟨k, hf, rfl, rfl, hs, hp⟩ | ⟨hf, rfl, rfl, hs, hp⟩
      · have h0 : (orS b.cells.flatten (b.cells.length * wideB b) == 0) = true := beq_iff_eq.2 (hseen.2 hs)
        simp (implicitDefEqProofs := false) (dsimp := false) only [go_sem, a3, a4, a5, a6, a8, a9, a10, brdA, hse, decide_false, h0]
        refine QuietAt.use (pressed_ok _ (role_left hro)) ?_
        simp (implicitDefEqProofs := false) (dsimp := false) only [go_sem]
        exact quiet_fine hB rfl
      · have h0 : (orS b.cells.flatten (b.cells.length * wideB b) == 0) = false := by
          rw [beq_eq_false_iff_ne]; intro e; rw [hseen.1 e] at hs; cases hs
        have hl0 : 0 < (laysB b).length := hpage.1.1 hp
        have hl : (((laysB b).length : Int) > 0) = True := eq_true (by omega)
        have hr0 := rowN cLayF_len hl0
        rw [Nat.zero_mul] at hr0
        simp (implicitDefEqProofs := false) (dsimp := false) only [go_sem, a3, a4, a5, a6, a8, a9, a10, brdA, hse, decide_false, h0, hl, decide_true, nat_lt hl0, hr0, cLayF, cLay]
        refine ⟨Nat.zero_le _, ?_⟩
        have hpg : (pagesB b).getD 0 0 = (laysB b)[0].1.page := by
          rw [hpage.2 hl0, List.getD_eq_getElem?_getD, List.getElem?_eq_getElem (by rw [List.length_map]; exact hl0), Option.getD_some, List.getElem_map]
        rw [hpg]
        have hself : ([(laysB b)[0].1.page] == [(laysB b)[0].1.page]) = true := beq_self_eq_true _
        (first | refine CallsA.use (eqInts_ok [(laysB b)[0].1.page] [(laysB b)[0].1.page] (by simp)) ?_ | refine QuietCalls.use (eqInts_ok [(laysB b)[0].1.page] [(laysB b)[0].1.page] (by simp)) ?_)
        simp (implicitDefEqProofs := false) (dsimp := false) only [go_sem, hself]
        refine QuietAt.use (pressed_ok _ (role_left hro)) ?_
        simp (implicitDefEqProofs := false) (dsimp := false) only [go_sem]
        exact quiet_fine hB rfl
      · have h0 : (orS b.cells.flatten (b.cells.length * wideB b) == 0) = false := by
          rw [beq_eq_false_iff_ne]; intro e; rw [hseen.1 e] at hs; cases hs
        have hl : (((laysB b).length : Int) > 0) = False := eq_false (by have := hpage.1.2; omega)
        simp (implicitDefEqProofs := false) (dsimp := false) only [go_sem, a3, a4, a5, a6, a8, a9, a10, brdA, hse, decide_false, h0, hl]
        refine WP.loopI (fun (p : Nat) s => (p ≤ b.pages.length ∧ noEx b p 0) ∧ s.sl.length = 122 ∧ s.df = [] ∧ s.gh = {} ∧ (s.hp = h ++ [D, .cells 0 (brdA b)]) ∧ evA s.sl (.tmp 3) = .ptr ⟨h.length + 1, 0⟩ 0 ∧ evA s.sl (.tmp 4) = sliceOf cInt [((k / b.pages.length : Nat) : Int), ((k % b.pages.length : Nat) : Int)] ∧ evA s.sl (.tmp 5) = .int .i64 0 ∧ evA s.sl (.tmp 11) = .int .i64 p) (fun (p : Nat) => b.pages.length - p) (0) ?_ ?_
        · simp (implicitDefEqProofs := false) (dsimp := false) only [go_sem, Nat.zero_le, brdA]
          exact fun k hk => by omega
        · rintro p ⟨sl, df, hp, gh⟩ ⟨cb, cl, rfl, rfl, rfl, c3, c4, c5, c11⟩
          simp only at cb cl c3 c4 c5 c11
          obtain ⟨j, rfl⟩ := slots_lit cl; clear cl; simp only [junk_succ, junk_zero, evA_tmp, nth_16, nth_four, nth_one, nth_zero, Nat.zero_add, Nat.reduceAdd] at  c3 c4 c5 c11 ⊢
          refine wp_ok (so := { shut := [68, 106], cut := [49, 54, 62, 71, 102, 109, 114, 119] }) mixed _ (by kernel_rfl) ?_
          obtain ⟨ap, an⟩ := cb
          by_cases hpl : p < b.pages.length
          · simp (implicitDefEqProofs := false) (dsimp := false) only [go_sem, c3, c4, c5, c11, brdA, nat_lt hpl, decide_true]
            refine WP.loopI (fun (q : Nat) s => ((p ≤ q ∧ q ≤ b.pages.length) ∧ noEx b p q) ∧ s.sl.length = 122 ∧ s.df = [] ∧ s.gh = {} ∧ (s.hp = h ++ [D, .cells 0 (brdA b)]) ∧ evA s.sl (.tmp 3) = .ptr ⟨h.length + 1, 0⟩ 0 ∧ evA s.sl (.tmp 4) = sliceOf cInt [((k / b.pages.length : Nat) : Int), ((k % b.pages.length : Nat) : Int)] ∧ evA s.sl (.tmp 5) = .int .i64 0 ∧ evA s.sl (.tmp 11) = .int .i64 p ∧ evA s.sl (.tmp 12) = .int .i64 q) (fun (q : Nat) => b.pages.length - q) (p) ?_ ?_
            · simp (implicitDefEqProofs := false) (dsimp := false) only [go_sem, brdA]
              exact ⟨⟨Nat.le_refl _, by omega⟩, noEx_row hpl an⟩
            · rintro q ⟨sl, df, hp, gh⟩ ⟨db, dl, rfl, rfl, rfl, d3, d4, d5, d11, d12⟩
              simp only at db dl d3 d4 d5 d11 d12
              obtain ⟨j, rfl⟩ := slots_lit dl; clear dl; simp only [junk_succ, junk_zero, evA_tmp, nth_16, nth_four, nth_one, nth_zero, Nat.zero_add, Nat.reduceAdd] at  d3 d4 d5 d11 d12 ⊢
              refine wp_ok (so := { shut := [68, 106], cut := [49, 54, 62, 71, 102, 109, 114, 119] }) mixed _ (by kernel_rfl) ?_
              obtain ⟨⟨c1, c2⟩, cn⟩ := db
              by_cases hql : q < b.pages.length
              · have hD := Double_ok b p q (h ++ [D, .cells 0 (brdA b)]) (role_left hro)
                rw [Double_good okm hpl hql] at hD
                simp only [pairA] at hD
                simp (implicitDefEqProofs := false) (dsimp := false) only [go_sem, d3, d4, d5, d11, d12, brdA, nat_lt hql, decide_true]
                refine QuietAt.use hD ?_
                by_cases hd : 0 < doubleB b (mapB b.glyphs) p q
                · have hdg : (((doubleB b (mapB b.glyphs) p q : Nat) : Int) > 0) = True := eq_true (by omega)
                  obtain ⟨e1, e2⟩ := exC_at (b := b) (p := p) hql
                  have hk := noEx_hit hpl hql c1 cn hd
                  rw [hf, Option.some.injEq] at hk
                  subst hk
                  simp (implicitDefEqProofs := false) (dsimp := false) only [go_sem, hdg, decide_true, e1, e2]
                  (first | refine CallsA.use (eqInts_ok [(p : Int), (q : Int)] [(p : Int), (q : Int)] (by simp)) ?_ | refine QuietCalls.use (eqInts_ok [(p : Int), (q : Int)] [(p : Int), (q : Int)] (by simp)) ?_)
                  have hself : ([(p : Int), (q : Int)] == [(p : Int), (q : Int)]) = true := beq_self_eq_true _
                  simp (implicitDefEqProofs := false) (dsimp := false) only [go_sem, hself]
                  refine QuietAt.use (pressed_ok _ (role_left hro)) ?_
                  simp (implicitDefEqProofs := false) (dsimp := false) only [go_sem]
                  exact quiet_fine hB rfl
                · have hdg : (((doubleB b (mapB b.glyphs) p q : Nat) : Int) > 0) = False := eq_false (by omega)
                  simp (implicitDefEqProofs := false) (dsimp := false) only [go_sem, hdg, decide_false, brdA]
                  exact ⟨q + 1, ⟨⟨⟨by omega, by omega⟩, noEx_next hql c1 cn hd⟩, wrap_succ (by omega)⟩, by omega⟩
              · have hs2 : ((q : Int) < (b.pages.length : Int)) = False := eq_false (by omega)
                have e : q = b.pages.length := by omega
                subst e
                simp (implicitDefEqProofs := false) (dsimp := false) only [go_sem, d3, d4, d5, d11, d12, brdA, hs2, decide_false]
                exact ⟨p + 1, ⟨⟨by omega, noEx_down cn⟩, wrap_succ (by omega)⟩, by omega⟩
          · have e : p = b.pages.length := by omega
            subst e
            rw [noEx_all an] at hf; cases hf
      · have h0 : (orS b.cells.flatten (b.cells.length * wideB b) == 0) = false := by
          rw [beq_eq_false_iff_ne]; intro e; rw [hseen.1 e] at hs; cases hs
        have hl : (((laysB b).length : Int) > 0) = False := eq_false (by have := hpage.1.2; omega)
        simp (implicitDefEqProofs := false) (dsimp := false) only [go_sem, a3, a4, a5, a6, a8, a9, a10, brdA, hse, decide_false, h0, hl]
        refine WP.loopI (fun (p : Nat) s => (p ≤ b.pages.length ∧ noEx b p 0) ∧ s.sl.length = 122 ∧ s.df = [] ∧ s.gh = {} ∧ (s.hp = h ++ [D, .cells 0 (brdA b)]) ∧ evA s.sl (.tmp 3) = .ptr ⟨h.length + 1, 0⟩ 0 ∧ evA s.sl (.tmp 4) = .nilsl ∧ evA s.sl (.tmp 5) = .int .i64 11 ∧ evA s.sl (.tmp 11) = .int .i64 p) (fun (p : Nat) => b.pages.length - p) (0) ?_ ?_
        · simp (implicitDefEqProofs := false) (dsimp := false) only [go_sem, Nat.zero_le, brdA]
          exact fun k hk => by omega
        · rintro p ⟨sl, df, hp, gh⟩ ⟨cb, cl, rfl, rfl, rfl, c3, c4, c5, c11⟩
          simp only at cb cl c3 c4 c5 c11
          obtain ⟨j, rfl⟩ := slots_lit cl; clear cl; simp only [junk_succ, junk_zero, evA_tmp, nth_16, nth_four, nth_one, nth_zero, Nat.zero_add, Nat.reduceAdd] at  c3 c4 c5 c11 ⊢
          refine wp_ok (so := { shut := [68, 106], cut := [49, 54, 62, 71, 102, 109, 114, 119] }) mixed _ (by kernel_rfl) ?_
          obtain ⟨ap, an⟩ := cb
          by_cases hpl : p < b.pages.length
          · simp (implicitDefEqProofs := false) (dsimp := false) only [go_sem, c3, c4, c5, c11, brdA, nat_lt hpl, decide_true]
            refine WP.loopI (fun (q : Nat) s => ((p ≤ q ∧ q ≤ b.pages.length) ∧ noEx b p q) ∧ s.sl.length = 122 ∧ s.df = [] ∧ s.gh = {} ∧ (s.hp = h ++ [D, .cells 0 (brdA b)]) ∧ evA s.sl (.tmp 3) = .ptr ⟨h.length + 1, 0⟩ 0 ∧ evA s.sl (.tmp 4) = .nilsl ∧ evA s.sl (.tmp 5) = .int .i64 11 ∧ evA s.sl (.tmp 11) = .int .i64 p ∧ evA s.sl (.tmp 12) = .int .i64 q) (fun (q : Nat) => b.pages.length - q) (p) ?_ ?_
            · simp (implicitDefEqProofs := false) (dsimp := false) only [go_sem, brdA]
              exact ⟨⟨Nat.le_refl _, by omega⟩, noEx_row hpl an⟩
            · rintro q ⟨sl, df, hp, gh⟩ ⟨db, dl, rfl, rfl, rfl, d3, d4, d5, d11, d12⟩
              simp only at db dl d3 d4 d5 d11 d12
              obtain ⟨j, rfl⟩ := slots_lit dl; clear dl; simp only [junk_succ, junk_zero, evA_tmp, nth_16, nth_four, nth_one, nth_zero, Nat.zero_add, Nat.reduceAdd] at  d3 d4 d5 d11 d12 ⊢
              refine wp_ok (so := { shut := [68, 106], cut := [49, 54, 62, 71, 102, 109, 114, 119] }) mixed _ (by kernel_rfl) ?_
              obtain ⟨⟨c1, c2⟩, cn⟩ := db
              by_cases hql : q < b.pages.length
              · have hD := Double_ok b p q (h ++ [D, .cells 0 (brdA b)]) (role_left hro)
                rw [Double_good okm hpl hql] at hD
                simp only [pairA] at hD
                simp (implicitDefEqProofs := false) (dsimp := false) only [go_sem, d3, d4, d5, d11, d12, brdA, nat_lt hql, decide_true]
                refine QuietAt.use hD ?_
                by_cases hd : 0 < doubleB b (mapB b.glyphs) p q
                · have hk := noEx_hit hpl hql c1 cn hd
                  rw [hf] at hk; cases hk
                · have hdg : (((doubleB b (mapB b.glyphs) p q : Nat) : Int) > 0) = False := eq_false (by omega)
                  simp (implicitDefEqProofs := false) (dsimp := false) only [go_sem, hdg, decide_false, brdA]
                  exact ⟨q + 1, ⟨⟨⟨by omega, by omega⟩, noEx_next hql c1 cn hd⟩, wrap_succ (by omega)⟩, by omega⟩
              · have hs2 : ((q : Int) < (b.pages.length : Int)) = False := eq_false (by omega)
                have e : q = b.pages.length := by omega
                subst e
                simp (implicitDefEqProofs := false) (dsimp := false) only [go_sem, d3, d4, d5, d11, d12, brdA, hs2, decide_false]
                exact ⟨p + 1, ⟨⟨by omega, noEx_down cn⟩, wrap_succ (by omega)⟩, by omega⟩
          · have hs2 : ((p : Int) < (b.pages.length : Int)) = False := eq_false (by omega)
            simp (implicitDefEqProofs := false) (dsimp := false) only [go_sem, c3, c4, c5, c11, brdA, hs2, decide_false]
            refine QuietAt.use (pressed_ok _ (role_left hro)) ?_
            simp (implicitDefEqProofs := false) (dsimp := false) only [go_sem]
            exact quiet_fine hB rfl
end Go.Mac

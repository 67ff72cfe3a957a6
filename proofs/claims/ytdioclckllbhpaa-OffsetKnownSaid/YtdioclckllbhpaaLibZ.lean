/- A part of the logic and of the contracts of the functions that the statement reaches; the statement itself is proved in the last text. -/
import Derived.Test.YtdioclckllbhpaaLibD
import Derived.Test.YtdioclckllbhpaaLibF

set_option linter.all false
set_option linter.unusedVariables false
set_option linter.unusedSimpArgs false
set_option linter.unnecessarySimpa false
namespace Go.Proofs.Ytdioclckllbhpaa
open Go.ChangeShapes Go.WideShapes Go.ChangeAt Go.RowKit Go.Conc Go.Mac
set_option maxRecDepth 100000 in
theorem lifted0 {f : FuncId} {fn : Func} {s : ChangeSpec} {conds : List PathCond} (hfn : Try.checked.prog.funcs[f]? = some fn) (hpar : fn.params.toList = []) (hres : fn.resultTypes.toList = [4]) (hinit : Try.prog.inits.idxOf? f = none)
    (hvars : s.vars = []) (hsp : ∀ (H : Type), s.fn H [] = { results := [.lit (.bool true)], args := [] })
    (hc : CallsA Try.prog f [] [.role true] fun e _ => e = .ret (.bool true))
    (os : Os) (started : os.Started) (H : Type) (enc : TypeId × Value → H)
    (hwit : ∃ (w : World) (tape : Tape) (i : Input), w.os = os ∧ (w.forCall tape i).Shaped Try.checked.prog ∧ i.vars = [] ∧ Input.okWide Try.checked.prog (w.forCall tape i) .any w.heap.size f i ∧
      s.pre6 enc Try.checked.prog fn conds false (w.forCall tape i).memory i.args ∧ ({} : Assume).holds Try.checked.prog (lone (Frame.enter Try.checked.prog f i.args .normal) [] (w.forCall tape i))) :
    ReturnsInLeavingWide {} Try.checked os f .any (s.pre6 enc Try.checked.prog fn conds false) (s.post enc Try.checked.prog fn false true false false) := by
  refine returnsInLeavingWide_of_change_sized (C := Try.checked) own started hfn hwit ?_
  intro W base args ds gs before hval hW _ _ _
  have hW' := hW
  obtain ⟨p, q, hA, hV, rfl, _, _⟩ := hW
  rw [hpar] at hA
  rw [hvars] at hV
  obtain ⟨rfl, rfl, rfl⟩ := trodAll_none hA
  obtain ⟨rfl, rfl⟩ := trodVars_none hV
  simp only [List.append_nil] at hW'
  obtain ⟨M, last, o, w', t', h1, h2, h3, h4⟩ := runs_of_calls (W := W) (args := #[]) hinit hc (show VRL (Cx.start W) [] [] from rfl)
  refine ⟨M, last, o, w', t', h1, h2, h3, h4.mono fun v hF => ?_⟩
  obtain ⟨hbel, c, _, hv⟩ := hF
  have hv' : v = .bool true := hv
  subst hv'
  have hrs : fn.resultTypes.size = 1 := by
    have := congrArg List.length hres
    simpa using this
  have hrl : Value.resultList fn.resultTypes.size (.bool true) = [.bool true] := by rw [hrs]; rfl
  refine ⟨[], [], _, [], [], [], by simpa using hW', ?_, ?_, ?_, hbel.frame _, fun h => by cases h⟩
  · rw [hres, hrl, List.append_nil, hsp]; exact trodAll_mk1 (shut_bool under4 true)
  · rw [hpar, List.append_nil, hsp]; exact trodAll_mk0
  · rw [hvars, List.append_nil, hsp]; rfl
end Go.Proofs.Ytdioclckllbhpaa
namespace Go.Mac
open Go Go.Conc Go.Proofs
set_option maxRecDepth 4000
def andTo (fs : List (Lay × List Int)) (i k : Nat) : Int := (fs.take k).foldl (fun a f => andK .i64 a (f.2.getD i 0)) 63
def orTo (fs : List (Lay × List Int)) (i k : Nat) : Int := (fs.take k).foldl (fun a f => orK .i64 a (f.2.getD i 0)) 0
theorem andTo_succ {fs : List (Lay × List Int)} {i k : Nat} (h : k < fs.length) : andTo fs i (k + 1) = andK .i64 (andTo fs i k) (fs[k].2.getD i 0) := by
  rw [andTo, List.take_succ_eq_append_getElem h, List.foldl_append]; rfl
theorem orTo_succ {fs : List (Lay × List Int)} {i k : Nat} (h : k < fs.length) : orTo fs i (k + 1) = orK .i64 (orTo fs i k) (fs[k].2.getD i 0) := by
  rw [orTo, List.take_succ_eq_append_getElem h, List.foldl_append]; rfl
def StrokesR (b : Board) (row col : Int) : Int × Int × Int :=
  if boardErr b ≠ 0 then (0, 0, boardErr b)
  else if cellB b row col = false then (0, 0, 3)
  else if (laysB b).length = 0 then (0, 0, 9)
  else (andTo (laysB b) (4 * row.toNat + col.toNat) (laysB b).length, orTo (laysB b) (4 * row.toNat + col.toNat) (laysB b).length, 0)
def tri (x : Int × Int × Int) : AV := .tup [.int .i64 x.1, .int .i64 x.2.1, .int .i64 x.2.2]
theorem laysB_face {b : Board} (x) (hx : x ∈ laysB b) : x.2.length = 12 := by
  unfold laysB rightsB at hx
  have := (List.mem_filter.1 hx).1
  obtain ⟨k, hk, rfl⟩ := List.mem_iff_getElem.1 this
  exact allWays_face k hk
theorem laysB_le {b : Board} (ok : okBoard b) : (laysB b).length ≤ 72 := by
  unfold laysB rightsB
  have h1 := List.length_filter_le (rightB b) (allWays b (mapB b.glyphs))
  have h2 := allWays_len b (mapB b.glyphs)
  have := ok.most
  omega
theorem Strokes_ok (b : Board) (row col : Int) : PureA Try.prog 48 [.agg (brdA b), .int .i64 row, .int .i64 col] (tri (StrokesR b row col)) := by
  refine PureA.of_wpp {} 55 mixed Try.func48 (by kernel_rfl) rfl (by kernel_rfl) (rfl) fun h j hB => ?_
  simp only [junk_succ, junk_zero, List.cons_append, List.nil_append, List.length_cons, List.length_nil, Nat.reduceAdd]
  simp (implicitDefEqProofs := false) (dsimp := false) only [go_sem, brdA]
  refine open_use (fun e0 => ?_) (fun e1 e2 x y z t f1 f2 f3 f4 => ?_)
  · have okb := okBoard.of e0
    simp (implicitDefEqProofs := false) (dsimp := false) only [go_sem, bdA]
    (first | refine CallsA.use (hasCell_ok b (mapB b.glyphs) row col okb.cells.pos) ?_ | refine QuietCalls.use (hasCell_ok b (mapB b.glyphs) row col okb.cells.pos) ?_)
    simp (implicitDefEqProofs := false) (dsimp := false) only [go_sem]
    refine ⟨fun c1 => ?_, fun c1 => ?_⟩
    · have c2 : cellB b row col = false := by simpa only [cellB, Bool.not_eq_true'] using c1
      rw [StrokesR, if_neg (by simp [e0]), if_pos c2]; rfl
    · have c2 : cellB b row col = true := by simpa [cellB] using c1
      have c3 := c2
      simp only [cellB, Bool.and_eq_true, decide_eq_true_eq] at c3
      have g1 := okb.cells.most
      have g2 := okb.cells.wmost
      have hn := laysB_le okb
      (first | refine CallsA.use (rights_ok b (mapB b.glyphs) okb) ?_ | refine QuietCalls.use (rights_ok b (mapB b.glyphs) okb) ?_)
      simp (implicitDefEqProofs := false) (dsimp := false) only [go_sem, len_eq0]
      refine ⟨fun c4 => ?_, fun c4 => ?_⟩
      · have c5 : (laysB b).length = 0 := by simpa [laysB] using c4
        rw [StrokesR, if_neg (by simp [e0]), if_neg (by simp [c2]), if_pos c5]; rfl
      · have c5 : (laysB b).length ≠ 0 := by simpa [laysB] using c4
        have hres : StrokesR b row col = (andTo (laysB b) (4 * row.toNat + col.toNat) (laysB b).length, orTo (laysB b) (4 * row.toNat + col.toNat) (laysB b).length, 0) := by
          rw [StrokesR, if_neg (by simp [e0]), if_neg (by simp [c2]), if_neg c5]
        rw [hres]
        obtain ⟨r', rfl⟩ : ∃ r' : Nat, row = r' := ⟨row.toNat, by omega⟩
        obtain ⟨c', rfl⟩ : ∃ c' : Nat, col = c' := ⟨col.toNat, by omega⟩
        have hr3 : r' < 3 := by omega
        have hc4 : c' < 4 := by omega
        have hr3' : ((r' : Int) < 3) = True := eq_true (by omega)
        have hc4' : ((c' : Int) < 4) = True := eq_true (by omega)
        refine WP.loopI (fun (k : Nat) s => (k ≤ (laysB b).length) ∧ s.sl.length = 58 ∧ s.df = [] ∧ s.gh = {} ∧ (∃ J, s.hp = h ++ .cells 0 (brdA b) :: .cells 0 (bdA b (mapB b.glyphs)) :: J) ∧ evA s.sl (.tmp 1) = .int .i64 r' ∧ evA s.sl (.tmp 2) = .int .i64 c' ∧ evA s.sl (.tmp 6) = .int .i64 (andTo (laysB b) (4 * r' + c') k) ∧ evA s.sl (.tmp 7) = .int .i64 (orTo (laysB b) (4 * r' + c') k) ∧ evA s.sl (.tmp 35) = sliceOf cFaceF (laysB b) ∧ evA s.sl (.tmp 36) = .int .i64 (laysB b).length ∧ evA s.sl (.tmp 37) = .int .i64 k) (fun (k : Nat) => (laysB b).length - k) (0) ?_ ?_
        · simp (implicitDefEqProofs := false) (dsimp := false) only [go_sem, Nat.zero_le, brdA, bdA]
          exact ⟨rfl, rfl, rfl, rfl⟩
        · rintro k ⟨sl, df, hp, gh⟩ ⟨ab, al, rfl, rfl, ah, a1, a2, a6, a7, a35, a36, a37⟩
          simp only at ab al ah a1 a2 a6 a7 a35 a36 a37
          obtain ⟨j, rfl⟩ := slots_lit al; clear al; simp only [junk_succ, junk_zero, evA_tmp, nth_16, nth_four, nth_one, nth_zero, Nat.zero_add, Nat.reduceAdd] at  a1 a2 a6 a7 a35 a36 a37 ⊢
          refine wp_ok (so := {}) mixed _ (by kernel_rfl) ?_
          obtain ⟨J, rfl⟩ := ah
          by_cases hk : k < (laysB b).length
          · have h12 := laysB_face _ (List.getElem_mem hk)
            have hall : ∀ y ∈ laysB b, (cFaceF y).length = 12 := fun y hy => cFaceF_len12 y (laysB_face y hy)
            have hr := drop_rowsM hall hk
            have hrl : k * 12 ≤ ((laysB b).flatMap cFaceF).length := by rw [length_rowsM hall]; omega
            have hTk : ∀ R, (nums12 (laysB b)[k].2 ++ R).take 12 = nums12 (laysB b)[k].2 := fun R => List.take_left' (by rw [nums12_len, h12])
            have hJ : ∀ y : Blk, (J ++ [y])[J.length]? = some y := fun y => by simp
            have hS : ∀ y z : Blk, (J ++ [y]).set J.length z = J ++ [z] := fun y z => by simp
            have hat := nums12_at h12 (show r' * 4 + c' < 12 by omega)
            simp (implicitDefEqProofs := false) (dsimp := false) only [go_sem, a1, a2, a6, a7, a35, a36, a37, nat_lt hk, decide_true, hr, hrl, cFaceF, hTk, hJ, hS, hr3', hc4', setM12 h12, nums_leaf, nums12_len, h12, nums_take h12, hat, Nat.le_refl]
            have ei : r' * 4 + c' = 4 * r' + c' := by omega
            exact ⟨by omega, k + 1, ⟨by omega, by rw [andTo_succ hk, ei], by rw [orTo_succ hk, ei], wrap_succ (by omega)⟩, by omega⟩
          · have hs : ((k : Int) < ((laysB b).length : Int)) = False := eq_false (by omega)
            have e : k = (laysB b).length := by omega
            subst e
            simp (implicitDefEqProofs := false) (dsimp := false) only [go_sem, a1, a2, a6, a7, a35, a36, a37, hs, decide_false, tri, Int.toNat_natCast]
  · simp only [leafA] at f1 f2 f3 f4
    simp (implicitDefEqProofs := false) (dsimp := false) only [go_sem, f1, f2, f3, f4, e2, eq_false e1]
    rw [StrokesR, if_pos e1]; rfl
end Go.Mac
namespace Go.Mac
open Go Go.Conc Go.Proofs
theorem mem_ways {b : Board} {m : List (Int × Int)} {x : Lay × List Int} (h : x ∈ allWays b m) : ∃ p n, p < b.pages.length ∧ n < 18 ∧ x = wayN b m p n := by
  unfold allWays at h
  obtain ⟨p, hp, hx⟩ := List.mem_flatMap.1 h
  obtain ⟨n, hn, rfl⟩ := List.mem_map.1 hx
  exact ⟨p, n, List.mem_range.1 hp, List.mem_range.1 hn, rfl⟩
section
variable {xs : List (Lay × List Int)} {i : Nat} (h64 : ∀ x ∈ xs, is64 (x.2.getD i 0))
include h64
end
end Go.Mac
namespace Go.Mac
open Go Go.Conc Go.Proofs
set_option maxRecDepth 4000
def layErr2 (b : Board) (l : Lay) : Int := if boardErr b ≠ 0 then boardErr b else layErr b l
def misR (b : Board) (l : Lay) : List (Int × Int) := wrongB (mapB b.glyphs) (b.pages.getD l.page.toNat []) b.cells l
theorem pair_below (l : List (Int × Int)) : below 0 (sliceOf cPair l) = true := below_psl (fun _ => rfl) _
theorem Misfits_ok (b : Board) (l : Lay) (hd : isI64 l.down) (hr : isI64 l.right) : PureA Try.prog 25 [.agg (brdA b), .agg (cLay l)] (.tup [unlessErr (layErr2 b l) (sliceOf cPair (misR b l)), .int .i64 (layErr2 b l)]) := by
  refine PureA.of_wpp {} 24 mixed Try.func25 (by kernel_rfl) rfl (by kernel_rfl) (by simp only [below, belowL, unless_below (pair_below _), Bool.and_self]) fun h j hB => ?_
  simp only [junk_succ, junk_zero, List.cons_append, List.nil_append, List.length_cons, List.length_nil, Nat.reduceAdd]
  simp (implicitDefEqProofs := false) (dsimp := false) only [go_sem, brdA, cLay]
  refine open_use (fun e0 => ?_) (fun e1 e2 x y z t f1 f2 f3 f4 => ?_)
  · have hl2 : layErr2 b l = layErr b l := by rw [layErr2, if_neg (by simp [e0])]
    rw [hl2]
    simp (implicitDefEqProofs := false) (dsimp := false) only [go_sem, bdA]
    (first | refine CallsA.use (checkLay_ok b (mapB b.glyphs) l hd hr) ?_ | refine QuietCalls.use (checkLay_ok b (mapB b.glyphs) l hd hr) ?_)
    simp (implicitDefEqProofs := false) (dsimp := false) only [go_sem]
    refine ⟨fun c => ?_, fun c => ?_⟩
    · have c' : layErr b l ≠ 0 := by simpa using c
      rw [unless_bad c']
    · have c0 : layErr b l = 0 := by simpa using c
      obtain ⟨p0, p1, q⟩ := layErr_zero c0
      have okb := okBoard.of e0
      have hp : l.page.toNat < b.pages.length := by omega
      have hpg : b.pages.getD l.page.toNat [] = b.pages[l.page.toNat] := by simp [List.getD, hp]
      (first | refine CallsA.use (face_ok b (mapB b.glyphs) l l.page.toNat (by omega) hp (okb.page _ (List.getElem_mem hp)) okb.cells (by omega) (by omega)) ?_ | refine QuietCalls.use (face_ok b (mapB b.glyphs) l l.page.toNat (by omega) hp (okb.page _ (List.getElem_mem hp)) okb.cells (by omega) (by omega)) ?_)
      simp (implicitDefEqProofs := false) (dsimp := false) only [go_sem]
      (first | refine CallsA.use (misfits_ok b (mapB b.glyphs) _ (face_len _ _ _ _) okb.cells) ?_ | refine QuietCalls.use (misfits_ok b (mapB b.glyphs) _ (face_len _ _ _ _) okb.cells) ?_)
      simp (implicitDefEqProofs := false) (dsimp := false) only [go_sem]
      rw [c0, unless_ok rfl, misR, wrongB, hpg]
      exact ⟨rfl, rfl⟩
  · simp only [leafA] at f1 f2 f3 f4
    have hl2 : layErr2 b l = boardErr b := by rw [layErr2, if_pos e1]
    rw [hl2]
    simp (implicitDefEqProofs := false) (dsimp := false) only [go_sem, f1, f2, f3, f4, e2, eq_false e1]
    rw [unless_bad e1]
    exact fun _ => rfl
def misN (b : Board) (l : Lay) : Nat := (misR b l).length
def oneA (b : Board) : AV := .fn (.func 85) [] [.pptr (bdA b (mapB b.glyphs))]
def fewL (b : Board) : Option (Lay × Nat) → List AV
  | some (l, n) => cLay l ++ [.int .i64 n, .bool true, oneA b]
  | none => [.int .i64 0, .bool false, .int .i64 0, .int .i64 0, .int .i64 0, .bool false, oneA b]
def takeL (b : Board) (o : Option (Lay × Nat)) (l : Lay) : Option (Lay × Nat) :=
  match o with
  | none => some (l, misN b l)
  | some (l', n') => if misN b l < n' then some (l, misN b l) else some (l', n')
theorem oneA_below (b : Board) (n : Nat) : below n (oneA b) = true := by
  have := belowL_mono (Nat.zero_le n) _ (bdA_below b (mapB b.glyphs))
  simp [oneA, below, belowL, this]
theorem fewL_below (b : Board) (o : Option (Lay × Nat)) (n : Nat) : belowBlk n (.cells 0 (fewL b o)) = true := by
  have := oneA_below b n
  cases o with
  | none => simp [belowBlk, fewL, below, belowL, this]
  | some e => obtain ⟨l, k⟩ := e; simp [belowBlk, fewL, cLay, below, belowL, this]
theorem call_near1 : callable Try.prog 85 = True := eq_true ⟨_, Try.func85, rfl, rfl⟩
theorem near1_ok (b : Board) (ok : okBoard b) (l : Lay) (p : Nat) (hp : l.page = p) (hpl : p < b.pages.length) (hd : -1000 ≤ l.down ∧ l.down ≤ 1000) (hr : -1000 ≤ l.right ∧ l.right ≤ 1000) : PureA Try.prog 85 [.agg (cLay l), .pptr (bdA b (mapB b.glyphs))] (.int .i64 (misN b l)) := by
  refine PureA.of_wpp {} 8 mixed Try.func85 (by kernel_rfl) rfl (by kernel_rfl) (rfl) fun h j hB => ?_
  simp only [junk_succ, junk_zero, List.cons_append, List.nil_append, List.length_cons, List.length_nil, Nat.reduceAdd]
  have hpg : b.pages.getD l.page.toNat [] = b.pages[p] := by rw [hp]; simp [List.getD, hpl]
  simp (implicitDefEqProofs := false) (dsimp := false) only [go_sem, cLay, bdA]
  (first | refine CallsA.use (face_ok b (mapB b.glyphs) l p hp hpl (ok.page _ (List.getElem_mem hpl)) ok.cells hd hr) ?_ | refine QuietCalls.use (face_ok b (mapB b.glyphs) l p hp hpl (ok.page _ (List.getElem_mem hpl)) ok.cells hd hr) ?_)
  simp (implicitDefEqProofs := false) (dsimp := false) only [go_sem]
  (first | refine CallsA.use (misfits_ok b (mapB b.glyphs) _ (face_len _ _ _ _) ok.cells) ?_ | refine QuietCalls.use (misfits_ok b (mapB b.glyphs) _ (face_len _ _ _ _) ok.cells) ?_)
  simp (implicitDefEqProofs := false) (dsimp := false) only [go_sem]
  rw [misN, misR, wrongB, hpg]
theorem takeL_ok (n : Nat) (b : Board) (ok : okBoard b) (l : Lay) (p : Nat) (hp : l.page = p) (hpl : p < b.pages.length) (hd : -1000 ≤ l.down ∧ l.down ≤ 1000) (hr : -1000 ≤ l.right ∧ l.right ≤ 1000) (o : Option (Lay × Nat)) (h : List Blk) (hn : h[n]? = some (.cells 0 (fewL b o))) : CallsA Try.prog 87 [.ptr ⟨n, 0⟩ 0, .agg (cLay l)] h fun e h' => e = .ret (.tup []) ∧ h' = h.set n (.cells 0 (fewL b (takeL b o l))) := by
  have hlt : n < h.length := (List.getElem?_eq_some_iff.1 hn).1
  refine CallsA.of_wpe [] { cut := [16], tail := [(1, 5)] } 33 mixed Try.func87 (by kernel_rfl) rfl (by kernel_rfl) fun j hB hA => ?_; simp only [junk_succ, junk_zero, List.cons_append, List.nil_append, List.length_cons, List.length_nil, Nat.reduceAdd]
  have hn2 : ∀ k, (h ++ k)[n]? = some (.cells 0 (fewL b o)) := fun k => by rw [List.getElem?_append_left hlt]; exact hn
  have hg2 : ∀ b k, (h.set n b ++ k)[n]? = some b := fun b k => by rw [List.getElem?_append_left (by simpa using hlt), List.getElem?_set_self hlt]
  have hs2 : ∀ k b, (h ++ k).set n b = h.set n b ++ k := fun k b => by rw [List.set_append_left _ _ hlt]
  have hs3 : ∀ k a b, (h.set n a ++ k).set n b = h.set n b ++ k := fun k a b => by rw [List.set_append_left _ _ (by simpa using hlt), List.set_set]
  have hone := near1_ok b ok l p hp hpl hd hr
  cases o with
  | none =>
    simp only [fewL] at hn2
    simp (implicitDefEqProofs := false) (dsimp := false) only [go_sem, hn2, oneA, cLay, call_near1]
    (first | refine CallsA.use (hone) ?_ | refine QuietCalls.use (hone) ?_)
    simp (implicitDefEqProofs := false) (dsimp := false) only [go_sem, hn2, hs2, hg2, hs3, oneA, get_past0, get_past]
    exact set_fine (b := .cells 0 (fewL b (some (l, misN b l)))) (v := .tup []) hB (fewL_below _ _ _) rfl
  | some e =>
    obtain ⟨l', n'⟩ := e
    simp only [fewL, cLay, List.cons_append, List.nil_append] at hn2
    simp (implicitDefEqProofs := false) (dsimp := false) only [go_sem, hn2, oneA, cLay, call_near1]
    (first | refine CallsA.use (hone) ?_ | refine QuietCalls.use (hone) ?_)
    simp (implicitDefEqProofs := false) (dsimp := false) only [go_sem, hn2, hs2, hg2, hs3, oneA, get_past0, get_past]
    refine ⟨fun hc => ?_, fun hc => ?_⟩
    · have e : takeL b (some (l', n')) l = some (l, misN b l) := if_pos (by omega)
      rw [e]
      exact set_fine (b := .cells 0 (fewL b (some (l, misN b l)))) (v := .tup []) hB (fewL_below _ _ _) rfl
    · have e : takeL b (some (l', n')) l = some (l', n') := if_neg (by omega)
      rw [e, set_same hn]
      exact quiet_fine hB rfl
def nearTo (b : Board) (k : Nat) : Option (Lay × Nat) := ((allWays b (mapB b.glyphs)).take k).foldl (fun o x => takeL b o x.1) none
theorem nearTo_succ {b : Board} {k : Nat} (h : k < (allWays b (mapB b.glyphs)).length) : nearTo b (k + 1) = takeL b (nearTo b k) (allWays b (mapB b.glyphs))[k].1 := by
  rw [nearTo, List.take_succ_eq_append_getElem h, List.foldl_append]; rfl
def NearR (b : Board) : Lay × Int × Int :=
  if boardErr b ≠ 0 then (⟨0, false, 0, 0⟩, 0, boardErr b)
  else match nearTo b (allWays b (mapB b.glyphs)).length with
    | some (l, n) => (l, n, 0)
    | none => (⟨0, false, 0, 0⟩, 0, 0)
def nearA (x : Lay × Int × Int) : AV := .tup [.agg (cLay x.1), .int .i64 x.2.1, .int .i64 x.2.2]
def nearH (b : Board) (o : Option (Lay × Nat)) : List Blk := [.cells 0 (brdA b), .cells 0 [.int .i64 0, .bool false, .int .i64 0, .int .i64 0], .dead, .cells 0 (fewL b o)]
theorem nearH_below (b : Board) (o : Option (Lay × Nat)) (n : Nat) : (nearH b o).all (belowBlk n) = true := by
  have h1 := belowL_mono (Nat.zero_le n) _ (slices_below b)
  have h2 := fewL_below b o n
  simp only [nearH, List.all_cons, List.all_nil, h2, Bool.and_true]
  simp [belowBlk, belowL, below, brdA] at h1 ⊢
  exact h1
theorem Nearest_ok (b : Board) : PureA Try.prog 44 [.agg (brdA b)] (nearA (NearR b)) := by
  refine PureA.of_wpe [] { hand := [4, 8] } 29 mixed Try.func44 (by kernel_rfl) rfl (by kernel_rfl) (rfl) fun h j hB => ?_
  simp only [junk_succ, junk_zero, List.cons_append, List.nil_append, List.length_cons, List.length_nil, Nat.reduceAdd]
  simp (implicitDefEqProofs := false) (dsimp := false) only [go_sem, brdA]
  refine open_use (fun e0 => ?_) (fun e1 e2 x y z t f1 f2 f3 f4 => ?_)
  · have ok := okBoard.of e0
    simp (implicitDefEqProofs := false) (dsimp := false) only [go_sem, bdA]
    refine wp_shut [5] (so := { }) mixed _ (by kernel_rfl) ?_
    simp (implicitDefEqProofs := false) (dsimp := false) only [go_sem, call_near1]
    (first | refine CallsA.use (lays_ok b (mapB b.glyphs)) ?_ | refine QuietCalls.use (lays_ok b (mapB b.glyphs)) ?_)
    simp (implicitDefEqProofs := false) (dsimp := false) only [go_sem]
    refine WP.rangeIterN (h.length + 5) (by simp <;> omega)  (so := { hand := [4, 8] }) mixed (by kernel_rfl) (by kernel_rfl) rfl rfl (call_lays1) rfl rfl (lays1_ok b (mapB b.glyphs) ok) (encW_len) (fun k h1 => h1 = h ++ nearH b (nearTo b k)) (fun _ _ => False) ?_ ?_ ?_ ?_ ?_ ?_
    · rintro k _ _ rfl
      exact mine_ok hB (by simp [nearH]) (nearH_below _ _ _)
    · rintro _ _ _ ⟨⟩
    · simp [nearH, nearTo, brdA, sliceOf, fewL, oneA, bdA]
    · rintro k _ own hk rfl hl2
      rw [List.length_map] at hk
      have ex : ((allWays b (mapB b.glyphs)).map encW)[k]'(by rw [List.length_map]; exact hk) = [.agg (cLay (allWays b (mapB b.glyphs))[k].1), .agg (nums12 (allWays b (mapB b.glyphs))[k].2)] := by simp [encW]
      rw [ex]
      dsimp only
      simp (implicitDefEqProofs := false) (dsimp := false) only [go_sem, nearH, cLay_leaf, cLay_len, cLay_take, setMany4, Nat.le_refl]
      obtain ⟨p, n, hp, hn, hw⟩ := mem_ways (List.getElem_mem hk)
      have hw1 : (allWays b (mapB b.glyphs))[k].1 = layN p n := by rw [hw]; rfl
      refine (takeL_ok _ b ok (allWays b (mapB b.glyphs))[k].1 p (by rw [hw1]; rfl) hp (by rw [hw1]; simp only [layN]; omega) (by rw [hw1]; simp only [layN]; omega) (nearTo b k) _ (by rw [hget]; rfl)).mono ?_
      rintro _ _ ⟨rfl, rfl⟩
      simp (implicitDefEqProofs := false) (dsimp := false) only [go_sem]
      exact ⟨_, ⟨_, loop_cut4⟩, by rw [nearTo_succ hk]; rfl⟩
    · rintro _ rfl
      rw [List.length_map]
      have hN : NearR b = match nearTo b (allWays b (mapB b.glyphs)).length with
          | some (l, n) => (l, n, 0)
          | none => (⟨0, false, 0, 0⟩, 0, 0) := by rw [NearR, if_neg (by simp [e0])]
      rw [hN]
      generalize nearTo b (allWays b (mapB b.glyphs)).length = o
      cases o with
      | none =>
        simp (implicitDefEqProofs := false) (dsimp := false) only [go_sem, nearH, fewL]
        refine WP.noisy (so := { }) 5 [4] [0, 0, 0, 0, 0] [0, 0, 1, 1, 0] ((fun T => [h ++ .cells 0 (brdA b) :: .cells 0 [.int .i64 0, .bool false, .int .i64 0, .int .i64 0] :: T, h ++ .cells 0 (brdA b) :: .cells 0 [.int .i64 0, .bool false, .int .i64 0, .int .i64 0] :: T]) _) rfl mixed (by kernel_rfl) (by kernel_rfl) (by decide) (by kernel_rfl) rfl ?_
        simp (implicitDefEqProofs := false) (dsimp := false) only [go_sem]
        rfl
      | some x =>
        obtain ⟨l, n⟩ := x
        simp (implicitDefEqProofs := false) (dsimp := false) only [go_sem, nearH, fewL, cLay]
        refine WP.noisy (so := { }) 5 [4] [0, 0, 0, 0, 0] [0, 0, 1, 1, 0] ((fun T => [h ++ .cells 0 (brdA b) :: .cells 0 [.int .i64 0, .bool false, .int .i64 0, .int .i64 0] :: T, h ++ .cells 0 (brdA b) :: .cells 0 [.int .i64 l.page, .bool l.turned, .int .i64 l.down, .int .i64 l.right] :: T]) _) rfl mixed (by kernel_rfl) (by kernel_rfl) (by decide) (by kernel_rfl) rfl ?_
        simp (implicitDefEqProofs := false) (dsimp := false) only [go_sem]
        rfl
    · rintro _ _ ⟨⟩
  · simp only [leafA] at f1 f2 f3 f4
    simp (implicitDefEqProofs := false) (dsimp := false) only [go_sem, f1, f2, f3, f4, e2]
    rw [NearR, if_pos e1]; rfl
end Go.Mac
namespace Go.Mac
open Go Go.Conc Go.Proofs
set_option maxRecDepth 4000
end Go.Mac
namespace Go.Mac
open Go Go.Conc Go.Proofs
end Go.Mac
namespace Go.Mac
open Go Go.Conc Go.Proofs
set_option maxRecDepth 4000
end Go.Mac
namespace Go.Mac
open Go Go.Conc Go.Proofs
set_option maxRecDepth 4000
end Go.Mac
namespace Go.Mac
open Go Go.Conc Go.Proofs
end Go.Mac
namespace Go.Mac
open Go Go.Conc Go.Proofs
end Go.Mac
namespace Go.Mac
open Go Go.Conc Go.Proofs
end Go.Mac
namespace Go.Mac
open Go Go.Conc Go.Proofs
set_option maxRecDepth 4000
def ddTo (l : List Int) : Nat → List Int
  | 0 => []
  | t + 1 => if t = 0 ∨ l.getD t 0 ≠ l.getD (t - 1) 0 then ddTo l t ++ [l.getD t 0] else ddTo l t
theorem ddTo_len (l : List Int) : ∀ t, (ddTo l t).length ≤ t
  | 0 => Nat.le_refl _
  | t + 1 => by
    rw [ddTo]
    have := ddTo_len l t
    split <;> simp <;> omega
theorem ddTo_same {l : List Int} : ∀ t, t ≤ l.length → (∀ k, 0 < k → k < t → l.getD k 0 ≠ l.getD (k - 1) 0) → ddTo l t = l.take t
  | 0, _, _ => by simp [ddTo]
  | t + 1, ht, h => by
    have ih := ddTo_same t (by omega) fun k h1 h2 => h k h1 (by omega)
    rw [ddTo, if_pos, ih, List.take_succ_eq_append_getElem (by omega)]
    · rw [List.getD_eq_getElem?_getD, List.getElem?_eq_getElem (by omega)]; rfl
    · by_cases e : t = 0
      · exact .inl e
      · exact .inr (h t (by omega) (by omega))
theorem cInt_len1 (l : List Int) : (l.flatMap cInt).length = l.length := rows_length (fun _ => rfl) l
theorem setMany_tail {α : Type} : ∀ (V B A : List α), V.length = B.length → setMany (A ++ B) A.length V = A ++ V
  | [], B, A, h => by
    have : B = [] := List.length_eq_zero_iff.1 h.symm
    subst this; simp [setMany]
  | v :: V, [], A, h => by simp at h
  | v :: V, b :: B, A, h => by
    have e : (A ++ b :: B).set A.length v = (A ++ [v]) ++ B := by rw [List.set_append_right _ _ (Nat.le_refl _), Nat.sub_self]; simp
    have := setMany_tail V B (A ++ [v]) (by simpa using h)
    rw [setMany, e, show A.length + 1 = (A ++ [v]).length by simp, this]
    simp
theorem cInt_zero (n : Nat) : ((List.range n).map fun q => [AV.int .i64 0].getD (q % 1) .any) = (List.replicate n (0 : Int)).flatMap cInt := by
  induction n with
  | zero => rfl
  | succ n ih => rw [List.range_succ, List.map_append, ih, List.replicate_succ', List.flatMap_append]; simp [cInt, Nat.mod_one]
theorem cInt_set : ∀ (l : List Int) (m : Nat) (v : Int), (l.flatMap cInt).set m (.int .i64 v) = (l.set m v).flatMap cInt
  | [], _, _ => rfl
  | _ :: _, 0, _ => rfl
  | x :: l, m + 1, v => by
    have := cInt_set l m v
    simp only [List.flatMap_cons, cInt, List.cons_append, List.nil_append, List.set_cons_succ] at this ⊢
    rw [this]
theorem Compact_ok (l : List Int) (hl : l.length ≤ 1000) (h : List Blk) (i g : Nat) (hi : h[i]? = some (.cells g (l.flatMap cInt))) :
    CallsA Try.prog 115 [.sl ⟨i, g⟩ 1 0 l.length] h fun e h' => ∃ cs : List Int, e = .ret (.sl ⟨i, g⟩ 1 0 (ddTo l l.length).length) ∧ h' = h.set i (.cells g (cs.flatMap cInt)) ∧ cs.length = l.length ∧ cs.take (ddTo l l.length).length = ddTo l l.length := by
  have hlt : i < h.length := (List.getElem?_eq_some_iff.1 hi).1
  refine CallsA.of_wpe [] {} 60 mixed Try.func115 (by kernel_rfl) rfl (by kernel_rfl) fun j hB hA => ?_; simp only [junk_succ, junk_zero, List.cons_append, List.nil_append, List.length_cons, List.length_nil, Nat.reduceAdd]
  simp (implicitDefEqProofs := false) (dsimp := false) only [go_sem]
  have hbel : ∀ m, below h.length (.sl ⟨i, g⟩ 1 0 m) = true := fun m => by simp [below, hlt]
  have hne : ∀ q, (l.getD q 0 = l.getD q 0) := fun _ => rfl
  have hquiet : (∀ k, 0 < k → k < l.length → l.getD k 0 ≠ l.getD (k - 1) 0) → ∃ v n, AV.sl ⟨i, g⟩ 1 0 l.length = v ∧ h.length ≤ n ∧ below n v = true ∧ (List.take n h).all (belowBlk n) = true ∧ ∃ cs : List Int, AEnd.ret v = AEnd.ret (.sl ⟨i, g⟩ 1 0 (ddTo l l.length).length) ∧ List.take n h = h.set i (.cells g (cs.flatMap cInt)) ∧ cs.length = l.length ∧ cs.take (ddTo l l.length).length = ddTo l l.length := fun hq => by
    have e := ddTo_same l.length (Nat.le_refl _) hq
    rw [List.take_length] at e
    rw [e]
    exact ⟨_, h.length, rfl, Nat.le_refl _, hbel _, by rw [List.take_length]; exact hB, l, rfl, by rw [List.take_length, set_same hi], rfl, List.take_length⟩
  refine ⟨⟨_, hi⟩, fun h2 => hquiet fun k h1 h3 => by omega, fun h2 => ?_⟩
  have hgs : ∀ y : Blk, (h.set i y)[i]? = some y := fun y => List.getElem?_set_self hlt
  have hss : ∀ y z : Blk, (h.set i y).set i z = h.set i z := fun y z => List.set_set ..
  have hsi := set_same hi
  refine WP.loopI (fun (k : Nat) s => ((0 < k ∧ k ≤ l.length) ∧ ∀ q, 0 < q → q < k → l.getD q 0 ≠ l.getD (q - 1) 0) ∧ s.sl.length = 61 ∧ s.df = [] ∧ s.gh = {} ∧ (s.hp = h.set i (.cells g (l.flatMap cInt))) ∧ evA s.sl (.tmp 0) = .sl ⟨i, g⟩ 1 0 l.length ∧ evA s.sl (.tmp 3) = .int .i64 k) (fun (k : Nat) => l.length - k) (1) ?_ ?_
  · simp (implicitDefEqProofs := false) (dsimp := false) only [go_sem, hsi]
    exact ⟨by omega, fun q h3 h4 => by omega⟩
  · rintro k ⟨sl, df, hp, gh⟩ ⟨ab, al, rfl, rfl, rfl, a0, a3⟩
    simp only at ab al a0 a3
    obtain ⟨j, rfl⟩ := slots_lit al; clear al; simp only [junk_succ, junk_zero, evA_tmp, nth_16, nth_four, nth_one, nth_zero, Nat.zero_add, Nat.reduceAdd] at  a0 a3 ⊢
    refine wp_ok (so := {}) mixed _ (by kernel_rfl) ?_
    obtain ⟨⟨k0, kl⟩, kn⟩ := ab
    by_cases hk : k < l.length
    · have hw : IntKind.i64.wrap ((k : Int) - 1) = ((k - 1 : Nat) : Int) := by rw [wrap64 (by omega) (by omega)]; omega
      have hk1 : k - 1 < l.length := by omega
      have gk : l.getD k 0 = l[k] := by rw [List.getD_eq_getElem?_getD, List.getElem?_eq_getElem hk]; rfl
      have gk1 : l.getD (k - 1) 0 = l[k - 1] := by rw [List.getD_eq_getElem?_getD, List.getElem?_eq_getElem hk1]; rfl
      simp (implicitDefEqProofs := false) (dsimp := false) only [go_sem, a0, a3, hgs, nat_lt hk, decide_true, hw, nat_lt hk1, row1 cInt_len hk, row1 cInt_len hk1, row1_le cInt_len hk, row1_le cInt_len hk1, cInt, cInt_len1]
      refine ⟨fun e => ⟨⟨by omega, by omega, .inl trivial⟩, ?_⟩, fun e => ⟨k + 1, ⟨⟨⟨by omega, by omega⟩, fun q h3 h4 => ?_⟩, wrap_succ (by omega)⟩, by omega⟩⟩
      · have dk : ddTo l k = l.take k := ddTo_same k (by omega) kn
        have dk1 : ddTo l (k + 1) = ddTo l k := by rw [ddTo, if_neg]; rw [gk, gk1]; omega
        have hdl : (ddTo l (k + 1)).length = k := by rw [dk1, dk, List.length_take]; omega
        refine WP.loopI (fun (u : Nat) s => ((0 < u ∧ k + u ≤ l.length) ∧ (ddTo l (k + u)).length < k + u) ∧ s.sl.length = 61 ∧ s.df = [] ∧ s.gh = {} ∧ (∃ cs : List Int, cs.length = l.length ∧ cs.take (ddTo l (k + u)).length = ddTo l (k + u) ∧ (∀ q, k + u ≤ q + 1 → cs.getD q 0 = l.getD q 0) ∧ s.hp = h.set i (.cells g (cs.flatMap cInt))) ∧ evA s.sl (.tmp 0) = .sl ⟨i, g⟩ 1 0 l.length ∧ evA s.sl (.tmp 3) = .int .i64 (ddTo l (k + u)).length ∧ evA s.sl (.tmp 4) = .sl ⟨i, g⟩ 1 k (l.length - k) ∧ evA s.sl (.tmp 5) = .int .i64 u) (fun (u : Nat) => l.length - (k + u)) (1) ?_ ?_
        · simp (implicitDefEqProofs := false) (dsimp := false) only [go_sem, hdl]
          exact ⟨⟨by omega, by omega⟩, l, rfl, by rw [dk1, dk], fun _ _ => rfl, rfl⟩
        · rintro u ⟨sl, df, hp, gh⟩ ⟨cb, cl, rfl, rfl, ch, c0, c3, c4, c5⟩
          simp only at cb cl ch c0 c3 c4 c5
          obtain ⟨j, rfl⟩ := slots_lit cl; clear cl; simp only [junk_succ, junk_zero, evA_tmp, nth_16, nth_four, nth_one, nth_zero, Nat.zero_add, Nat.reduceAdd] at  c0 c3 c4 c5 ⊢
          refine wp_ok (so := {}) mixed _ (by kernel_rfl) ?_
          obtain ⟨⟨u0, ul⟩, ud⟩ := cb
          obtain ⟨cs, q1, q2, q3, rfl⟩ := ch
          by_cases hu : k + u < l.length
          · have hs : ((u : Int) < ((l.length - k : Nat) : Int)) = True := eq_true (by omega)
            have hw2 : IntKind.i64.wrap ((u : Int) - 1) = ((u - 1 : Nat) : Int) := by rw [wrap64 (by omega) (by omega)]; omega
            have hs2 : (((u - 1 : Nat) : Int) < ((l.length - k : Nat) : Int)) = True := eq_true (by omega)
            have c1 : k + u < cs.length := by omega
            have c2 : k + (u - 1) < cs.length := by omega
            have hd : (ddTo l (k + u)).length < l.length := by omega
            simp (implicitDefEqProofs := false) (dsimp := false) only [go_sem, c0, c3, c4, c5, hgs, hss, hs, hs2, decide_true, hw2, row1 cInt_len c1, row1 cInt_len c2, cInt, nat_lt hd, cInt_len1, q1]
            have e1 : cs[k + u] = l.getD (k + u) 0 := by have := q3 (k + u) (by omega); rwa [List.getD_eq_getElem?_getD, List.getElem?_eq_getElem c1] at this
            have e2 : cs[k + (u - 1)] = l.getD (k + u - 1) 0 := by have := q3 (k + (u - 1)) (by omega); rw [show k + u - 1 = k + (u - 1) by omega]; rwa [List.getD_eq_getElem?_getD, List.getElem?_eq_getElem c2] at this
            have hnx : ddTo l (k + (u + 1)) = if l.getD (k + u) 0 ≠ l.getD (k + u - 1) 0 then ddTo l (k + u) ++ [l.getD (k + u) 0] else ddTo l (k + u) := by
              rw [← Nat.add_assoc, ddTo]
              by_cases e : l.getD (k + u) 0 ≠ l.getD (k + u - 1) 0
              · rw [if_pos (.inr e), if_pos e]
              · rw [if_neg (by omega), if_neg e]
            rw [e1, e2]
            refine ⟨fun e => ⟨by omega, u + 1, ⟨⟨⟨by omega, by omega⟩, ?_⟩, ⟨cs.set (ddTo l (k + u)).length (l.getD (k + u) 0), by simp [q1], ?_, fun q hq => ?_, ?_⟩, ?_, wrap_succ (by omega)⟩, by omega⟩, fun e => ⟨u + 1, ⟨⟨⟨by omega, by omega⟩, ?_⟩, ⟨cs, q1, ?_, fun q hq => q3 q (by omega), rfl⟩, ?_, wrap_succ (by omega)⟩, by omega⟩⟩
            · rw [hnx, if_pos (bne_iff_ne.1 e), List.length_append, List.length_singleton]; omega
            · rw [hnx, if_pos (bne_iff_ne.1 e), List.length_append, List.length_singleton, List.take_succ_eq_append_getElem (by rw [List.length_set]; omega), List.take_set_of_le (Nat.le_refl _), q2, List.getElem_set_self]
            · rw [List.getD_eq_getElem?_getD, List.getElem?_set_ne (by omega), ← List.getD_eq_getElem?_getD]; exact q3 q (by omega)
            · rw [cInt_set]
            · rw [hnx, if_pos (bne_iff_ne.1 e), List.length_append, List.length_singleton]; exact wrap_succ (by omega)
            all_goals
              have e := Classical.not_not.1 (fun q => absurd (bne_iff_ne.2 q) (by rw [e]; simp))
              rw [hnx, if_neg (by simpa using e)]
            · omega
            · exact q2
          · have hs : ((u : Int) < ((l.length - k : Nat) : Int)) = False := eq_false (by omega)
            have eu : k + u = l.length := by omega
            rw [eu] at ud q2 q3
            have hcl : (cs.flatMap cInt).length = l.length := by rw [cInt_len1, q1]
            have htl : (ddTo l l.length).length ≤ (cs.flatMap cInt).length := by omega
            have hset : setMany (cs.flatMap cInt) (ddTo l l.length).length ((List.range (l.length - (ddTo l l.length).length)).map fun q => [AV.int .i64 0].getD (q % 1) .any) = (ddTo l l.length ++ List.replicate (l.length - (ddTo l l.length).length) 0).flatMap cInt := by
              have h1 : cs.flatMap cInt = (ddTo l l.length).flatMap cInt ++ (cs.drop (ddTo l l.length).length).flatMap cInt := by
                rw [← List.flatMap_append]
                conv => lhs; rw [← List.take_append_drop (ddTo l l.length).length cs, q2]
              have h3 := setMany_tail ((List.replicate (l.length - (ddTo l l.length).length) (0 : Int)).flatMap cInt) ((cs.drop (ddTo l l.length).length).flatMap cInt) ((ddTo l l.length).flatMap cInt) (by rw [cInt_len1, cInt_len1, List.length_replicate, List.length_drop, q1])
              rw [cInt_len1] at h3
              rw [cInt_zero, h1, h3, List.flatMap_append]
            simp (implicitDefEqProofs := false) (dsimp := false) only [go_sem, c0, c3, c4, c5, hgs, hss, hs, decide_false, eu]
            rw [hset, Nat.sub_zero]
            have hlen : (List.take h.length (h.set i (.cells g ((ddTo l l.length ++ List.replicate (l.length - (ddTo l l.length).length) 0).flatMap cInt)))) = h.set i (.cells g ((ddTo l l.length ++ List.replicate (l.length - (ddTo l l.length).length) 0).flatMap cInt)) := List.take_of_length_le (by simp)
            refine ⟨⟨by omega, by omega, .inl (by omega)⟩, by omega, ⟨by omega, .inr trivial⟩, _, h.length, rfl, Nat.le_refl _, hbel _, ?_, _, rfl, hlen, by simp; omega, List.take_left⟩
            rw [hlen]
            exact all_set hB (belowL_flat (f := cInt) (fun _ => rfl) _)
      · by_cases e3 : q = k
        · subst e3; rw [gk, gk1]; exact beq_eq_false_iff_ne.1 e
        · exact kn q h3 (by omega)
    · have hs : ((k : Int) < (l.length : Int)) = False := eq_false (by omega)
      have ek : k = l.length := by omega
      subst ek
      simp (implicitDefEqProofs := false) (dsimp := false) only [go_sem, a0, a3, hgs, hs, decide_false, hsi]
      exact ⟨⟨_, hi⟩, hquiet kn⟩
end Go.Mac
namespace Go.Mac
open Go Go.Conc Go.Proofs
def pagesL (b : Board) : List Int := (laysB b).map fun x => x.1.page
def pagesB (b : Board) : List Int := ddTo (pagesL b) (pagesL b).length
def idxB (v : Int) : List Int → Int
  | [] => -1
  | x :: l => if x = v then 0 else if idxB v l = -1 then -1 else idxB v l + 1
theorem idxB_ge {v : Int} : ∀ {l : List Int}, -1 ≤ idxB v l
  | [] => by simp [idxB]
  | y :: l => by
    have ih := idxB_ge (v := v) (l := l)
    unfold idxB
    split
    · omega
    · split <;> omega
theorem idxB_none {v : Int} : ∀ {l : List Int}, idxB v l = -1 ↔ v ∉ l
  | [] => by simp [idxB]
  | x :: l => by
    have ih := idxB_none (v := v) (l := l)
    have hge : ∀ l : List Int, -1 ≤ idxB v l := fun l => by
      induction l with
      | nil => simp [idxB]
      | cons y l ih =>
        unfold idxB
        split
        · omega
        · split <;> omega
    unfold idxB
    by_cases e : x = v
    · rw [if_pos e]; simp [e]
    · rw [if_neg e]
      by_cases e2 : idxB v l = -1
      · rw [if_pos e2]
        have := ih.1 e2
        simp only [List.mem_cons, not_or, true_iff]
        exact ⟨fun h => e h.symm, this⟩
      · rw [if_neg e2]
        have := hge l
        simp only [List.mem_cons, not_or]
        constructor
        · intro h; omega
        · intro h; exact absurd (ih.2 h.2) e2
theorem idxB_at {v : Int} : ∀ {l : List Int} {k : Nat} (hk : k < l.length), (∀ q (h : q < k), l[q] ≠ v) → l[k] = v → idxB v l = k
  | x :: l, 0, _, _, h => by
    simp only [List.getElem_cons_zero] at h
    unfold idxB; rw [if_pos h]; rfl
  | x :: l, k + 1, hk, h1, h2 => by
    have h0 := h1 0 (by omega)
    simp only [List.getElem_cons_zero] at h0
    have ih := idxB_at (v := v) (l := l) (k := k) (by simpa using hk) (fun q hq => by have := h1 (q + 1) (by omega); simpa using this) (by simpa using h2)
    unfold idxB
    rw [if_neg h0, ih, if_neg (by omega)]; omega
theorem idxB_end {v : Int} {l : List Int} (h : ∀ q (h : q < l.length), l[q] ≠ v) : idxB v l = -1 :=
  idxB_none.2 fun hm => by
    obtain ⟨i, hi, e⟩ := List.mem_iff_getElem.1 hm
    exact h i hi e
end Go.Mac
namespace Go.Mac
open Go Go.Conc Go.Proofs
def firstN (f : Nat → Bool) : Nat → Option Nat
  | 0 => none
  | n + 1 => match firstN f n with
    | some k => some k
    | none => if f n = true then some n else none
theorem firstN_none {f : Nat → Bool} : ∀ {n}, firstN f n = none → ∀ k, k < n → f k = false
  | 0, _, _, h => by omega
  | n + 1, h, k, hk => by
    rw [firstN] at h
    cases q : firstN f n with
    | some x => rw [q] at h; cases h
    | none =>
      rw [q] at h
      by_cases e : k = n
      · subst e
        cases hf : f k with
        | false => rfl
        | true => simp [hf] at h
      · exact firstN_none q k (by omega)
theorem firstN_some {f : Nat → Bool} {k : Nat} : ∀ {n}, firstN f n = some k → k < n ∧ f k = true ∧ ∀ i, i < k → f i = false
  | 0, h => by cases h
  | n + 1, h => by
    rw [firstN] at h
    cases q : firstN f n with
    | some x =>
      rw [q] at h
      cases h
      obtain ⟨h1, h2⟩ := firstN_some q
      exact ⟨by omega, h2⟩
    | none =>
      rw [q] at h
      by_cases hf : f n = true
      · simp only [hf, if_true, Option.some.injEq] at h
        subst h
        exact ⟨by omega, hf, fun i hi => firstN_none q i hi⟩
      · simp [hf] at h
theorem firstN_is {f : Nat → Bool} {k n : Nat} (hk : k < n) (h : f k = true) (hb : ∀ i, i < k → f i = false) : firstN f n = some k := by
  cases q : firstN f n with
  | none => have := firstN_none q k hk; rw [h] at this; cases this
  | some x =>
    obtain ⟨_, h2, h3⟩ := firstN_some q
    by_cases e : x < k
    · have := hb x e; rw [h2] at this; cases this
    · by_cases e2 : k < x
      · have := h3 k e2; rw [h] at this; cases this
      · rw [show x = k by omega]
theorem firstN_end {f : Nat → Bool} {n : Nat} (h : ∀ k, k < n → f k = false) : firstN f n = none := by
  cases q : firstN f n with
  | none => rfl
  | some x =>
    obtain ⟨h1, h2, _⟩ := firstN_some q
    have := h x h1; rw [h2] at this; cases this
def rowSeen (r : List Trace) : Bool := r.any fun t => t.seen != 0
def anySeen (cs : List (List Trace)) : Bool := cs.any rowSeen
def exC (b : Board) (k : Nat) : Bool := decide (k / b.pages.length ≤ k % b.pages.length) && decide (0 < doubleB b (mapB b.glyphs) (k / b.pages.length) (k % b.pages.length))
def exFind (b : Board) : Option Nat := firstN (exC b) (b.pages.length * b.pages.length)
theorem exC_at {b : Board} {p q : Nat} (hq : q < b.pages.length) : (p * b.pages.length + q) / b.pages.length = p ∧ (p * b.pages.length + q) % b.pages.length = q := by
  have hn : 0 < b.pages.length := by omega
  constructor
  · rw [Nat.mul_comm, Nat.mul_add_div hn, Nat.div_eq_of_lt hq]; omega
  · rw [Nat.mul_comm, Nat.mul_add_mod, Nat.mod_eq_of_lt hq]
theorem exC_pq {b : Board} {p q : Nat} (hq : q < b.pages.length) (h : p ≤ q) : exC b (p * b.pages.length + q) = decide (0 < doubleB b (mapB b.glyphs) p q) := by
  obtain ⟨e1, e2⟩ := exC_at (p := p) hq
  rw [exC, e1, e2, decide_eq_true h, Bool.true_and]
theorem exC_low {b : Board} {p q : Nat} (hq : q < b.pages.length) (h : q < p) : exC b (p * b.pages.length + q) = false := by
  obtain ⟨e1, e2⟩ := exC_at (p := p) hq
  rw [exC, e1, e2, decide_eq_false (by omega), Bool.false_and]
def noEx (b : Board) (p q : Nat) : Prop := ∀ k, k < p * b.pages.length + q → exC b k = false
theorem noEx_row {b : Board} {p : Nat} (hp : p < b.pages.length) (h : noEx b p 0) : noEx b p p := fun k hk => by
  by_cases e : k < p * b.pages.length
  · exact h k (by omega)
  · have := exC_low (b := b) (p := p) (q := k - p * b.pages.length) (by omega) (by omega)
    rwa [show p * b.pages.length + (k - p * b.pages.length) = k by omega] at this
theorem noEx_next {b : Board} {p q : Nat} (hq : q < b.pages.length) (hpq : p ≤ q) (h : noEx b p q) (hd : ¬ 0 < doubleB b (mapB b.glyphs) p q) : noEx b p (q + 1) := fun k hk => by
  by_cases e : k < p * b.pages.length + q
  · exact h k e
  · have := exC_pq (b := b) hq hpq
    rw [decide_eq_false hd] at this
    rwa [show k = p * b.pages.length + q by omega]
theorem noEx_down {b : Board} {p : Nat} (h : noEx b p b.pages.length) : noEx b (p + 1) 0 := fun k hk => h k (by rw [Nat.succ_mul] at hk; omega)
theorem noEx_hit {b : Board} {p q : Nat} (hp : p < b.pages.length) (hq : q < b.pages.length) (hpq : p ≤ q) (h : noEx b p q) (hd : 0 < doubleB b (mapB b.glyphs) p q) : exFind b = some (p * b.pages.length + q) := by
  refine firstN_is ?_ ?_ h
  · have : (p + 1) * b.pages.length ≤ b.pages.length * b.pages.length := Nat.mul_le_mul_right _ hp
    rw [Nat.succ_mul] at this; omega
  · rw [exC_pq hq hpq, decide_eq_true hd]
theorem noEx_all {b : Board} (h : noEx b b.pages.length 0) : exFind b = none := firstN_end fun k hk => h k (by omega)
end Go.Mac
namespace Go.Mac
open Go Go.Conc Go.Proofs
set_option maxRecDepth 4000
theorem Index_ok (l : List Int) (v : Int) (hl : l.length ≤ 1000) : PureA Try.prog 116 [sliceOf cInt l, .int .i64 v] (.int .i64 (idxB v l)) := by
  refine PureA.of_wpp {} 17 mixed Try.func116 (by kernel_rfl) rfl (by kernel_rfl) (rfl) fun h j hB => ?_
  simp only [junk_succ, junk_zero, List.cons_append, List.nil_append, List.length_cons, List.length_nil, Nat.reduceAdd]
  simp (implicitDefEqProofs := false) (dsimp := false) only [go_sem]
  refine WP.loopI (fun (k : Nat) s => (k ≤ l.length ∧ ∀ q (hq : q < l.length), q < k → l[q] ≠ v) ∧ s.sl.length = 19 ∧ s.df = [] ∧ s.gh = {} ∧ (s.hp = h) ∧ evA s.sl (.tmp 0) = sliceOf cInt l ∧ evA s.sl (.tmp 1) = .int .i64 v ∧ evA s.sl (.tmp 7) = .int .i64 l.length ∧ evA s.sl (.tmp 8) = .int .i64 k) (fun (k : Nat) => l.length - k) (0) ?_ ?_
  · simp (implicitDefEqProofs := false) (dsimp := false) only [go_sem, Nat.zero_le]
    exact fun q hq hk => by omega
  · rintro k ⟨sl, df, hp, gh⟩ ⟨ab, al, rfl, rfl, rfl, a0, a1, a7, a8⟩
    simp only at ab al a0 a1 a7 a8
    obtain ⟨j, rfl⟩ := slots_lit al; clear al; simp only [junk_succ, junk_zero, evA_tmp, nth_16, nth_four, nth_one, nth_zero, Nat.zero_add, Nat.reduceAdd] at  a0 a1 a7 a8 ⊢
    refine wp_ok (so := {}) mixed _ (by kernel_rfl) ?_
    obtain ⟨ak, an⟩ := ab
    by_cases hk : k < l.length
    · simp (implicitDefEqProofs := false) (dsimp := false) only [go_sem, a0, a1, a7, a8, nat_lt hk, decide_true, row1 cInt_len hk, row1_le cInt_len hk, cInt]
      refine ⟨fun e => ?_, fun e => ⟨k + 1, ⟨⟨by omega, fun q hq h3 => ?_⟩, wrap_succ (by omega)⟩, by omega⟩⟩
      · rw [idxB_at hk (fun q hq => an q (by omega) hq) e.symm]
      · by_cases e3 : q = k
        · subst e3; exact fun e4 => by rw [e4] at e; simp at e
        · exact an q hq (by omega)
    · have hs : ((k : Int) < (l.length : Int)) = False := eq_false (by omega)
      simp (implicitDefEqProofs := false) (dsimp := false) only [go_sem, a0, a1, a7, a8, hs, decide_false]
      rw [idxB_end fun q hq => an q hq (by omega)]
theorem Contains_ok (l : List Int) (v : Int) (hl : l.length ≤ 1000) : PureA Try.prog 95 [sliceOf cInt l, .int .i64 v] (.bool (decide (idxB v l ≥ 0))) := by
  refine PureA.of_wpp {} 7 mixed Try.func95 (by kernel_rfl) rfl (by kernel_rfl) (rfl) fun h j hB => ?_
  simp only [junk_succ, junk_zero, List.cons_append, List.nil_append, List.length_cons, List.length_nil, Nat.reduceAdd]
  simp (implicitDefEqProofs := false) (dsimp := false) only [go_sem]
  (first | refine CallsA.use (Index_ok l v hl) ?_ | refine QuietCalls.use (Index_ok l v hl) ?_)
  simp (implicitDefEqProofs := false) (dsimp := false) only [go_sem]
theorem cInt_take (l : List Int) (n : Nat) : (l.flatMap cInt).take n = (l.take n).flatMap cInt := by
  induction l generalizing n with
  | nil => simp
  | cons x l ih =>
    cases n with
    | zero => rfl
    | succ n => simp only [List.flatMap_cons, cInt, List.cons_append, List.nil_append, List.take_succ_cons]; rw [ih]
theorem pagesL_len (b : Board) : (pagesL b).length = (laysB b).length := by rw [pagesL, List.length_map]
theorem pagesL_succ {b : Board} {k : Nat} (hk : k < (laysB b).length) : (pagesL b).take (k + 1) = (pagesL b).take k ++ [(laysB b)[k].1.page] := by
  rw [List.take_succ_eq_append_getElem (by rw [pagesL_len]; exact hk)]
  congr 2
  exact List.getElem_map ..
theorem pages_ok (b : Board) (ok : okBoard b) : PureA Try.prog 94 [.agg (bdA b (mapB b.glyphs))] (sliceOf cInt (pagesB b)) := by
  refine PureA.of_wps [2] { shut := [22] } 26 mixed Try.func94 (by kernel_rfl) rfl (by kernel_rfl) (below_psl (fun _ => rfl) _) fun h j hB => ?_
  simp only [junk_succ, junk_zero, List.cons_append, List.nil_append, List.length_cons, List.length_nil, Nat.reduceAdd]
  have hn := laysB_le ok
  simp (implicitDefEqProofs := false) (dsimp := false) only [go_sem, bdA]
  (first | refine CallsA.use (rights_ok b _ ok) ?_ | refine QuietCalls.use (rights_ok b _ ok) ?_)
  simp (implicitDefEqProofs := false) (dsimp := false) only [go_sem]
  refine WPI.turn (Turns.nilSlot (d := 3) (sz := 1) ?_) ?_
  · simp (implicitDefEqProofs := false) (dsimp := false) only [go_sem]
  simp (implicitDefEqProofs := false) (dsimp := false) only [go_sem]
  refine WP.loopI (fun (k : Nat) s => (k ≤ (laysB b).length) ∧ s.sl.length = 27 ∧ s.df = [] ∧ s.gh = {} ∧ (∃ J, s.hp = h ++ .cells 0 (bdA b (mapB b.glyphs)) :: .cells k (((pagesL b).take k).flatMap cInt) :: J) ∧ evA s.sl (.tmp 3) = .sl ⟨h.length + 1, k⟩ 1 0 k ∧ evA s.sl (.tmp 13) = sliceOf cLayF (laysB b) ∧ evA s.sl (.tmp 14) = .int .i64 (laysB b).length ∧ evA s.sl (.tmp 15) = .int .i64 k) (fun (k : Nat) => (laysB b).length - k) (0) ?_ ?_
  · simp (implicitDefEqProofs := false) (dsimp := false) only [go_sem, Nat.zero_le, bdA]
    exact ⟨⟨_, rfl, rfl⟩, rfl, rfl⟩
  · rintro k ⟨sl, df, hp, gh⟩ ⟨ab, al, rfl, rfl, ah, a3, a13, a14, a15⟩
    simp only at ab al ah a3 a13 a14 a15
    obtain ⟨j, rfl⟩ := slots_lit al; clear al; simp only [junk_succ, junk_zero, evA_tmp, nth_16, nth_four, nth_one, nth_zero, Nat.zero_add, Nat.reduceAdd] at  a3 a13 a14 a15 ⊢
    refine wp_ok (so := { shut := [22] }) mixed _ (by kernel_rfl) ?_
    obtain ⟨J, rfl⟩ := ah
    by_cases hk : k < (laysB b).length
    · have hJ : ∀ y : Blk, (J ++ [y])[J.length]? = some y := fun y => by simp
      have hJs : ∀ y z : Blk, (J ++ [y]).set J.length z = J ++ [z] := fun y z => by simp
      have hll : (((pagesL b).take k).flatMap cInt).length = k := by rw [cInt_len1, List.length_take, pagesL_len]; omega
      simp (implicitDefEqProofs := false) (dsimp := false) only [go_sem, a3, a13, a14, a15, nat_lt hk, decide_true, rowN cLayF_len hk, rowN_le cLayF_len hk, cLayF, cLay, hJ, hJs, hll]
      refine ⟨by omega, k + 1, ⟨by omega, ⟨_, ⟨rfl, ?_⟩, rfl⟩, rfl, wrap_succ (by omega)⟩, by omega⟩
      rw [pagesL_succ hk]; simp [cInt]
    · have hs : ((k : Int) < ((laysB b).length : Int)) = False := eq_false (by omega)
      have ek : k = (laysB b).length := by omega
      subst ek
      have e0 : (pagesL b).take (laysB b).length = pagesL b := List.take_of_length_le (by rw [pagesL_len]; exact Nat.le_refl _)
      simp (implicitDefEqProofs := false) (dsimp := false) only [go_sem, a3, a13, a14, a15, hs, decide_false]
      rw [e0]
      have hC := Compact_ok (pagesL b) (by rw [pagesL_len]; omega) (h ++ .cells 0 (bdA b (mapB b.glyphs)) :: .cells (laysB b).length ((pagesL b).flatMap cInt) :: J) (h.length + 1) (laysB b).length (by simp)
      have hpb : ddTo (pagesL b) (laysB b).length = pagesB b := by rw [pagesB, pagesL_len]
      rw [pagesL_len, hpb] at hC
      refine CallsA.mono hC ?_
      rintro _ _ ⟨cs, rfl, rfl, q1, q2⟩
      simp (implicitDefEqProofs := false) (dsimp := false) only [go_sem]
      rw [cInt_take, q2]
theorem pagesB_below (b : Board) : below 0 (sliceOf cInt (pagesB b)) = true := below_psl (fun _ => rfl) _
theorem pagesB_len {b : Board} (ok : okBoard b) : (pagesB b).length ≤ 1000 := by
  have h1 := laysB_le ok
  have h2 := ddTo_len (pagesL b) (pagesL b).length
  rw [pagesL_len] at h2
  have e : (pagesB b).length = (ddTo (pagesL b) (laysB b).length).length := by rw [pagesB, pagesL_len]
  omega
theorem Pages_ok (b : Board) (e0 : boardErr b = 0) : PureA Try.prog 50 [.agg (brdA b)] (.tup [sliceOf cInt (pagesB b), .int .i64 0]) := by
  refine PureA.of_wpp {} 15 mixed Try.func50 (by kernel_rfl) rfl (by kernel_rfl) (by simp only [below, belowL, pagesB_below, Bool.and_self]) fun h j hB => ?_
  simp only [junk_succ, junk_zero, List.cons_append, List.nil_append, List.length_cons, List.length_nil, Nat.reduceAdd]
  simp (implicitDefEqProofs := false) (dsimp := false) only [go_sem, brdA]
  refine open_use (fun _ => ?_) (fun e1 e2 x y z t f1 f2 f3 f4 => absurd e0 e1)
  simp (implicitDefEqProofs := false) (dsimp := false) only [go_sem, bdA]
  (first | refine CallsA.use (pages_ok b (okBoard.of e0)) ?_ | refine QuietCalls.use (pages_ok b (okBoard.of e0)) ?_)
  simp (implicitDefEqProofs := false) (dsimp := false) only [go_sem]
def verdB (b : Board) (p : Nat) : Int := if (p : Int) ∈ pagesB b then (if (pagesB b).length = 1 then 1 else 3) else 2
theorem Verdict_ok (b : Board) (e0 : boardErr b = 0) (ok : okBoard b) (p : Nat) (hp : p < b.pages.length) : PureA Try.prog 51 [.agg (brdA b), .int .i64 p] (.tup [.int .i64 (verdB b p), .int .i64 0]) := by
  refine PureA.of_wpp {} 30 mixed Try.func51 (by kernel_rfl) rfl (by kernel_rfl) (rfl) fun h j hB => ?_
  simp only [junk_succ, junk_zero, List.cons_append, List.nil_append, List.length_cons, List.length_nil, Nat.reduceAdd]
  simp (implicitDefEqProofs := false) (dsimp := false) only [go_sem, brdA]
  refine open_use (fun _ => ?_) (fun e1 e2 x y z t f1 f2 f3 f4 => absurd e0 e1)
  simp (implicitDefEqProofs := false) (dsimp := false) only [go_sem, bdA]
  (first | refine CallsA.use (hasPage_ok b _ p) ?_ | refine QuietCalls.use (hasPage_ok b _ p) ?_)
  have h0 : decide (0 ≤ (p : Int)) = true := by simp
  simp (implicitDefEqProofs := false) (dsimp := false) only [go_sem, h0, nat_lt hp, decide_true, bdA]
  (first | refine CallsA.use (pages_ok b (okBoard.of e0)) ?_ | refine QuietCalls.use (pages_ok b (okBoard.of e0)) ?_)
  simp (implicitDefEqProofs := false) (dsimp := false) only [go_sem]
  (first | refine CallsA.use (Contains_ok (pagesB b) p (pagesB_len ok)) ?_ | refine QuietCalls.use (Contains_ok (pagesB b) p (pagesB_len ok)) ?_)
  have hidx : decide (idxB p (pagesB b) ≥ 0) = decide ((p : Int) ∈ pagesB b) := by
    have h1 := idxB_none (v := (p : Int)) (l := pagesB b)
    have hge := idxB_ge (v := (p : Int)) (l := pagesB b)
    rw [decide_eq_decide]
    constructor
    · intro h2
      exact Classical.byContradiction fun h3 => by rw [h1.2 h3] at h2; exact absurd h2 (by decide)
    · intro h2
      have : idxB p (pagesB b) ≠ -1 := fun h3 => h1.1 h3 h2
      omega
  by_cases hin : (p : Int) ∈ pagesB b
  · rw [decide_eq_true hin] at hidx
    by_cases h1 : (pagesB b).length = 1
    · have hb : (((pagesB b).length : Int) == 1) = true := by rw [h1]; rfl
      simp (implicitDefEqProofs := false) (dsimp := false) only [go_sem, hidx, hb]
      rw [verdB, if_pos hin, if_pos h1]
    · have hb : (((pagesB b).length : Int) == 1) = false := by simp; omega
      simp (implicitDefEqProofs := false) (dsimp := false) only [go_sem, hidx, hb]
      rw [verdB, if_pos hin, if_neg h1]
  · rw [decide_eq_false hin] at hidx
    simp (implicitDefEqProofs := false) (dsimp := false) only [go_sem, hidx]
    rw [verdB, if_neg hin]
end Go.Mac
namespace Go.Mac
open Go Go.Conc Go.Proofs
set_option maxRecDepth 4000
theorem role_left {h k : List Blk} (hro : h[0]? = some (.role true)) : (h ++ k)[0]? = some (.role true) := by
  rw [List.getElem?_append_left (List.getElem?_eq_some_iff.1 hro).1]; exact hro
end Go.Mac
namespace Go.Mac
open Go Go.Conc Go.Proofs
set_option maxRecDepth 4000
theorem indexTrace_ok (l : List Trace) (hl : l.length < 9223372036854775807) (g : FuncId) (hc : callable Try.prog g = True) (cap : List AV) (p : Trace → Bool) (h : List Blk) (hF : ∀ x ∈ l, QuietAt g (.agg (cTrace x) :: cap) h (.bool (p x))) :
    QuietAt 114 [sliceOf cTrace l, .fn (.func g) [] cap] h (.int .i64 (idxFrom p l 0)) := by
  unfold QuietAt
  refine CallsA.of_wpe [] {} 17 mixed Try.func114 (by kernel_rfl) rfl (by kernel_rfl) fun j hB hA => ?_; simp only [junk_succ, junk_zero, List.cons_append, List.nil_append, List.length_cons, List.length_nil, Nat.reduceAdd]
  simp (implicitDefEqProofs := false) (dsimp := false) only [go_sem]
  refine WP.loopI (fun (i : Nat) s => (i ≤ l.length ∧ idxFrom p (l.drop i) i = idxFrom p l 0) ∧ s.sl.length = 19 ∧ s.df = [] ∧ s.gh = {} ∧ (s.hp = h) ∧ evA s.sl (.tmp 0) = sliceOf cTrace l ∧ evA s.sl (.tmp 1) = .fn (.func g) [] cap ∧ evA s.sl (.tmp 7) = .int .i64 l.length ∧ evA s.sl (.tmp 8) = .int .i64 i) (fun (i : Nat) => l.length - i) (0) ?_ ?_
  · simp (implicitDefEqProofs := false) (dsimp := false) only [go_sem, Nat.zero_le]
  · rintro i ⟨sl, df, hp, gh⟩ ⟨ab, al, rfl, rfl, rfl, a0, a1, a7, a8⟩
    simp only at ab al a0 a1 a7 a8
    obtain ⟨j, rfl⟩ := slots_lit al; clear al; simp only [junk_succ, junk_zero, evA_tmp, nth_16, nth_four, nth_one, nth_zero, Nat.zero_add, Nat.reduceAdd] at  a0 a1 a7 a8 ⊢
    refine wp_ok (so := {}) mixed _ (by kernel_rfl) ?_
    obtain ⟨ab, aq⟩ := ab
    by_cases hi : i < l.length
    · rw [drop_get hi] at aq
      simp (implicitDefEqProofs := false) (dsimp := false) only [go_sem, a0, a1, a7, a8, nat_lt hi, decide_true, rowN cTrace_len hi, rowN_le cTrace_len hi, hi, cTrace, hc]
      refine QuietAt.use (hF _ (List.getElem_mem hi)) ?_
      cases hp : p l[i] with
      | true =>
        simp (implicitDefEqProofs := false) (dsimp := false) only [go_sem]
        rw [show (i : Int) = idxFrom p l 0 by rw [← aq]; simp [idxFrom, hp]]
        exact quiet_fine0 hB rfl
      | false =>
        simp (implicitDefEqProofs := false) (dsimp := false) only [go_sem]
        refine ⟨i + 1, ⟨⟨by omega, ?_⟩, wrap_succ (by omega)⟩, by omega⟩
        rw [← aq]; simp [idxFrom, hp]
    · have hs : ((i : Int) < (l.length : Int)) = False := eq_false (by omega)
      simp (implicitDefEqProofs := false) (dsimp := false) only [go_sem, a0, a1, a7, a8, hs, decide_false]
      rw [List.drop_eq_nil_of_le (by omega)] at aq
      rw [← aq]
      exact quiet_fine0 hB rfl
theorem containsTrace_ok (l : List Trace) (hl : l.length < 9223372036854775807) (g : FuncId) (hc : callable Try.prog g = True) (cap : List AV) (p : Trace → Bool) (h : List Blk) (hF : ∀ x ∈ l, QuietAt g (.agg (cTrace x) :: cap) h (.bool (p x))) :
    QuietAt 93 [sliceOf cTrace l, .fn (.func g) [] cap] h (.bool (l.any p)) := by
  unfold QuietAt
  refine CallsA.of_wpe [] {} 7 mixed Try.func93 (by kernel_rfl) rfl (by kernel_rfl) fun j hB hA => ?_; simp only [junk_succ, junk_zero, List.cons_append, List.nil_append, List.length_cons, List.length_nil, Nat.reduceAdd]
  simp (implicitDefEqProofs := false) (dsimp := false) only [go_sem]
  refine QuietAt.use (indexTrace_ok l hl g hc cap p h hF) ?_
  simp (implicitDefEqProofs := false) (dsimp := false) only [go_sem, idxFrom_any]
  exact quiet_fine0 hB rfl
theorem indexTraces_ok (l : List (List Trace)) (hl : l.length < 9223372036854775807) (g : FuncId) (hc : callable Try.prog g = True) (cap : List AV) (p : List Trace → Bool) (h : List Blk) (hF : ∀ x ∈ l, QuietAt g (sliceOf cTrace x :: cap) h (.bool (p x))) :
    QuietAt 113 [sliceOf cTraces l, .fn (.func g) [] cap] h (.int .i64 (idxFrom p l 0)) := by
  unfold QuietAt
  refine CallsA.of_wpe [] {} 17 mixed Try.func113 (by kernel_rfl) rfl (by kernel_rfl) fun j hB hA => ?_; simp only [junk_succ, junk_zero, List.cons_append, List.nil_append, List.length_cons, List.length_nil, Nat.reduceAdd]
  simp (implicitDefEqProofs := false) (dsimp := false) only [go_sem]
  refine WP.loopI (fun (i : Nat) s => (i ≤ l.length ∧ idxFrom p (l.drop i) i = idxFrom p l 0) ∧ s.sl.length = 19 ∧ s.df = [] ∧ s.gh = {} ∧ (s.hp = h) ∧ evA s.sl (.tmp 0) = sliceOf cTraces l ∧ evA s.sl (.tmp 1) = .fn (.func g) [] cap ∧ evA s.sl (.tmp 7) = .int .i64 l.length ∧ evA s.sl (.tmp 8) = .int .i64 i) (fun (i : Nat) => l.length - i) (0) ?_ ?_
  · simp (implicitDefEqProofs := false) (dsimp := false) only [go_sem, Nat.zero_le]
  · rintro i ⟨sl, df, hp, gh⟩ ⟨ab, al, rfl, rfl, rfl, a0, a1, a7, a8⟩
    simp only at ab al a0 a1 a7 a8
    obtain ⟨j, rfl⟩ := slots_lit al; clear al; simp only [junk_succ, junk_zero, evA_tmp, nth_16, nth_four, nth_one, nth_zero, Nat.zero_add, Nat.reduceAdd] at  a0 a1 a7 a8 ⊢
    refine wp_ok (so := {}) mixed _ (by kernel_rfl) ?_
    obtain ⟨ab, aq⟩ := ab
    by_cases hi : i < l.length
    · rw [drop_get hi] at aq
      simp (implicitDefEqProofs := false) (dsimp := false) only [go_sem, a0, a1, a7, a8, nat_lt hi, decide_true, row1 cTraces_len hi, row1_le cTraces_len hi, hi, cTraces, hc]
      refine QuietAt.use (hF _ (List.getElem_mem hi)) ?_
      cases hp : p l[i] with
      | true =>
        simp (implicitDefEqProofs := false) (dsimp := false) only [go_sem]
        rw [show (i : Int) = idxFrom p l 0 by rw [← aq]; simp [idxFrom, hp]]
        exact quiet_fine0 hB rfl
      | false =>
        simp (implicitDefEqProofs := false) (dsimp := false) only [go_sem]
        refine ⟨i + 1, ⟨⟨by omega, ?_⟩, wrap_succ (by omega)⟩, by omega⟩
        rw [← aq]; simp [idxFrom, hp]
    · have hs : ((i : Int) < (l.length : Int)) = False := eq_false (by omega)
      simp (implicitDefEqProofs := false) (dsimp := false) only [go_sem, a0, a1, a7, a8, hs, decide_false]
      rw [List.drop_eq_nil_of_le (by omega)] at aq
      rw [← aq]
      exact quiet_fine0 hB rfl
theorem containsTraces_ok (l : List (List Trace)) (hl : l.length < 9223372036854775807) (g : FuncId) (hc : callable Try.prog g = True) (cap : List AV) (p : List Trace → Bool) (h : List Blk) (hF : ∀ x ∈ l, QuietAt g (sliceOf cTrace x :: cap) h (.bool (p x))) :
    QuietAt 91 [sliceOf cTraces l, .fn (.func g) [] cap] h (.bool (l.any p)) := by
  unfold QuietAt
  refine CallsA.of_wpe [] {} 7 mixed Try.func91 (by kernel_rfl) rfl (by kernel_rfl) fun j hB hA => ?_; simp only [junk_succ, junk_zero, List.cons_append, List.nil_append, List.length_cons, List.length_nil, Nat.reduceAdd]
  simp (implicitDefEqProofs := false) (dsimp := false) only [go_sem]
  refine QuietAt.use (indexTraces_ok l hl g hc cap p h hF) ?_
  simp (implicitDefEqProofs := false) (dsimp := false) only [go_sem, idxFrom_any]
  exact quiet_fine0 hB rfl
theorem call_seen1 : callable Try.prog 90 = True := eq_true ⟨_, Try.func90, rfl, rfl⟩
theorem call_seen2 : callable Try.prog 92 = True := eq_true ⟨_, Try.func92, rfl, rfl⟩
theorem seen1_ok (x : Trace) : PureA Try.prog 90 [.agg (cTrace x)] (.bool (x.seen != 0)) := by
  refine PureA.of_wpp {} 5 mixed Try.func90 (by kernel_rfl) rfl (by kernel_rfl) (rfl) fun h j hB => ?_
  simp only [junk_succ, junk_zero, List.cons_append, List.nil_append, List.length_cons, List.length_nil, Nat.reduceAdd]
  simp (implicitDefEqProofs := false) (dsimp := false) only [go_sem, cTrace]
def fnSeen : AV := .fn (.func 90) [] []
theorem seen2_ok (l : List Trace) (hl : l.length < 9223372036854775807) (n : Nat) (h : List Blk) (hn : h[n]? = some (.cells 0 [fnSeen])) : QuietAt 92 [sliceOf cTrace l, .ptr ⟨n, 0⟩ 0] h (.bool (rowSeen l)) := by
  unfold QuietAt
  have hlt : n < h.length := (List.getElem?_eq_some_iff.1 hn).1
  refine CallsA.of_wpe [] {} 5 mixed Try.func92 (by kernel_rfl) rfl (by kernel_rfl) fun j hB hA => ?_; simp only [junk_succ, junk_zero, List.cons_append, List.nil_append, List.length_cons, List.length_nil, Nat.reduceAdd]
  simp (implicitDefEqProofs := false) (dsimp := false) only [go_sem, hn, fnSeen]
  refine QuietAt.use (containsTrace_ok l hl _ call_seen1 [] (fun x => x.seen != 0) h fun x _ => QuietAt.of (seen1_ok x) h) ?_
  simp (implicitDefEqProofs := false) (dsimp := false) only [go_sem]
  exact quiet_fine0 hB rfl
def explV (b : Board) : AV :=
  if anySeen b.cells = false then .tup [.nilsl, .int .i64 0]
  else if 0 < (pagesB b).length then .tup [sliceOf cInt [(pagesB b).getD 0 0], .int .i64 0]
  else match exFind b with
    | some k => .tup [sliceOf cInt [((k / b.pages.length : Nat) : Int), ((k % b.pages.length : Nat) : Int)], .int .i64 0]
    | none => .tup [.nilsl, .int .i64 11]
theorem Explain_okE (b : Board) (e00 : boardErr b = 0) (h : List Blk) (hro : h[0]? = some (.role true)) : QuietAt 49 [.agg (brdA b)] h (explV b) := by
  unfold QuietAt
  have ok := okBoard.of e00
  have hmost := ok.most
  refine CallsA.of_wpe [] { shut := [54] } 55 mixed Try.func49 (by kernel_rfl) rfl (by kernel_rfl) fun j hB hA => ?_; simp only [junk_succ, junk_zero, List.cons_append, List.nil_append, List.length_cons, List.length_nil, Nat.reduceAdd]
  simp (implicitDefEqProofs := false) (dsimp := false) only [go_sem, brdA]
  refine open_use (fun e0 => ?_) (fun e1 e2 x y z t f1 f2 f3 f4 => absurd e00 e1)
  simp (implicitDefEqProofs := false) (dsimp := false) only [go_sem, bdA]
  refine QuietAt.use (containsTraces_ok b.cells (by have := ok.cells.most; omega) _ call_seen2 _ rowSeen _ fun x hx => seen2_ok x (by have := ok.cells.wide x hx; have := ok.cells.wmost; omega) (h.length + 2) _ (by simp [fnSeen])) ?_
  cases hs : b.cells.any rowSeen with
  | false =>
    simp (implicitDefEqProofs := false) (dsimp := false) only [go_sem]
    rw [explV, if_pos (show anySeen b.cells = false from hs)]
    exact quiet_fine hB rfl
  | true =>
    simp (implicitDefEqProofs := false) (dsimp := false) only [go_sem, bdA]
    (first | refine CallsA.use (pages_ok b ok) ?_ | refine QuietCalls.use (pages_ok b ok) ?_)
    simp (implicitDefEqProofs := false) (dsimp := false) only [go_sem]
    have hns : ¬ anySeen b.cells = false := by unfold anySeen; rw [hs]; simp
    refine ⟨fun hp => ?_, fun hp => ?_⟩
    · have hpp : 0 < (pagesB b).length := by simpa using hp
      refine ⟨⟨by omega, by rw [cInt_len1]; exact Nat.le_refl _⟩, ?_⟩
      have e : ((pagesB b).flatMap cInt).take 1 = [(pagesB b).getD 0 0].flatMap cInt := by
        rw [cInt_take]
        cases hq : pagesB b with
        | nil => rw [hq] at hpp; simp at hpp
        | cons x l => rfl
      rw [e, explV, if_neg hns, if_pos hpp]
      exact quiet_fine hB rfl
    · have hpp : ¬ 0 < (pagesB b).length := by simpa using hp
      have hV : explV b = match exFind b with
          | some k => .tup [sliceOf cInt [((k / b.pages.length : Nat) : Int), ((k % b.pages.length : Nat) : Int)], .int .i64 0]
          | none => .tup [.nilsl, .int .i64 11] := by rw [explV, if_neg hns, if_neg hpp]
      rw [hV]
      refine WP.loopI (fun (p : Nat) s => (p ≤ b.pages.length ∧ noEx b p 0) ∧ s.sl.length = 56 ∧ s.df = [] ∧ s.gh = {} ∧ (s.hp = h ++ [.cells 0 (brdA b), .cells 0 (bdA b (mapB b.glyphs)), .cells 0 [fnSeen]]) ∧ evA s.sl (.tmp 4) = .ptr ⟨h.length + 1, 0⟩ 0 ∧ evA s.sl (.tmp 34) = .int .i64 b.pages.length ∧ evA s.sl (.tmp 35) = .int .i64 p) (fun (p : Nat) => b.pages.length - p) (0) ?_ ?_
      · simp (implicitDefEqProofs := false) (dsimp := false) only [go_sem, Nat.zero_le, brdA, bdA, fnSeen]
        exact fun k hk => by omega
      · rintro p ⟨sl, df, hp, gh⟩ ⟨ab, al, rfl, rfl, rfl, a4, a34, a35⟩
        simp only at ab al a4 a34 a35
        obtain ⟨j, rfl⟩ := slots_lit al; clear al; simp only [junk_succ, junk_zero, evA_tmp, nth_16, nth_four, nth_one, nth_zero, Nat.zero_add, Nat.reduceAdd] at  a4 a34 a35 ⊢
        refine wp_ok (so := { shut := [54] }) mixed _ (by kernel_rfl) ?_
        obtain ⟨ap, an⟩ := ab
        by_cases hpl : p < b.pages.length
        · simp (implicitDefEqProofs := false) (dsimp := false) only [go_sem, a4, a34, a35, brdA, bdA, nat_lt hpl, decide_true]
          refine WP.loopI (fun (q : Nat) s => ((p ≤ q ∧ q ≤ b.pages.length) ∧ noEx b p q) ∧ s.sl.length = 56 ∧ s.df = [] ∧ s.gh = {} ∧ (s.hp = h ++ [.cells 0 (brdA b), .cells 0 (bdA b (mapB b.glyphs)), .cells 0 [fnSeen]]) ∧ evA s.sl (.tmp 4) = .ptr ⟨h.length + 1, 0⟩ 0 ∧ evA s.sl (.tmp 8) = .int .i64 p ∧ evA s.sl (.tmp 9) = .int .i64 q ∧ evA s.sl (.tmp 34) = .int .i64 b.pages.length ∧ evA s.sl (.tmp 35) = .int .i64 p) (fun (q : Nat) => b.pages.length - q) (p) ?_ ?_
          · simp (implicitDefEqProofs := false) (dsimp := false) only [go_sem, brdA, bdA]
            exact ⟨⟨Nat.le_refl _, by omega⟩, noEx_row hpl an⟩
          · rintro q ⟨sl, df, hp, gh⟩ ⟨cb, cl, rfl, rfl, rfl, c4, c8, c9, c34, c35⟩
            simp only at cb cl c4 c8 c9 c34 c35
            obtain ⟨j, rfl⟩ := slots_lit cl; clear cl; simp only [junk_succ, junk_zero, evA_tmp, nth_16, nth_four, nth_one, nth_zero, Nat.zero_add, Nat.reduceAdd] at  c4 c8 c9 c34 c35 ⊢
            refine wp_ok (so := { shut := [54] }) mixed _ (by kernel_rfl) ?_
            obtain ⟨⟨c1, c2⟩, cn⟩ := cb
            by_cases hql : q < b.pages.length
            · simp (implicitDefEqProofs := false) (dsimp := false) only [go_sem, c4, c8, c9, c34, c35, brdA, bdA, nat_lt hql, decide_true]
              refine QuietAt.use (double_ok b _ ok p q hpl hql _ (role_left hro)) ?_
              simp (implicitDefEqProofs := false) (dsimp := false) only [go_sem, brdA, bdA]
              refine ⟨fun hd => ?_, fun hd => ⟨q + 1, ⟨⟨⟨by omega, by omega⟩, noEx_next hql c1 cn (by simpa using hd)⟩, wrap_succ (by omega)⟩, by omega⟩⟩
              obtain ⟨e1, e2⟩ := exC_at (b := b) (p := p) hql
              rw [noEx_hit hpl hql c1 cn (by simpa using hd)]
              simp only [e1, e2]
              exact quiet_fine hB rfl
            · have hs : ((q : Int) < (b.pages.length : Int)) = False := eq_false (by omega)
              have e : q = b.pages.length := by omega
              subst e
              simp (implicitDefEqProofs := false) (dsimp := false) only [go_sem, c4, c8, c9, c34, c35, brdA, bdA, hs, decide_false]
              exact ⟨p + 1, ⟨⟨by omega, noEx_down cn⟩, wrap_succ (by omega)⟩, by omega⟩
        · have hs : ((p : Int) < (b.pages.length : Int)) = False := eq_false (by omega)
          have e : p = b.pages.length := by omega
          subst e
          simp (implicitDefEqProofs := false) (dsimp := false) only [go_sem, a4, a34, a35, hs, decide_false]
          rw [noEx_all an]
          exact quiet_fine hB rfl
end Go.Mac
namespace Go.Mac
open Go Go.Conc Go.Proofs
set_option maxRecDepth 4000
def leatherB : Board := boardB ⟨8, 0⟩ ⟨2, 0⟩ ⟨16, 1⟩ ⟨0, 0⟩
def blankB : Board := boardB ⟨0, 0⟩ ⟨0, 0⟩ ⟨0, 0⟩ ⟨0, 0⟩
theorem leatherB_ok : PureA Try.prog 52 [] (.agg (brdA leatherB)) := by
  refine PureA.of_wpp {} 6 mixed Try.func52 (by kernel_rfl) rfl (by kernel_rfl) (brdA_belowA _) fun h j hB => ?_
  simp only [junk_succ, junk_zero, List.cons_append, List.nil_append, List.length_cons, List.length_nil, Nat.reduceAdd]
  simp (implicitDefEqProofs := false) (dsimp := false) only [go_sem]
  (first | refine CallsA.use (board_ok ⟨8, 0⟩ ⟨2, 0⟩ ⟨16, 1⟩ ⟨0, 0⟩) ?_ | refine QuietCalls.use (board_ok ⟨8, 0⟩ ⟨2, 0⟩ ⟨16, 1⟩ ⟨0, 0⟩) ?_)
  simp (implicitDefEqProofs := false) (dsimp := false) only [go_sem, brdA]
  rfl
theorem blankB_ok : PureA Try.prog 60 [] (.agg (brdA blankB)) := by
  refine PureA.of_wpp {} 6 mixed Try.func60 (by kernel_rfl) rfl (by kernel_rfl) (brdA_belowA _) fun h j hB => ?_
  simp only [junk_succ, junk_zero, List.cons_append, List.nil_append, List.length_cons, List.length_nil, Nat.reduceAdd]
  simp (implicitDefEqProofs := false) (dsimp := false) only [go_sem]
  (first | refine CallsA.use (board_ok ⟨0, 0⟩ ⟨0, 0⟩ ⟨0, 0⟩ ⟨0, 0⟩) ?_ | refine QuietCalls.use (board_ok ⟨0, 0⟩ ⟨0, 0⟩ ⟨0, 0⟩ ⟨0, 0⟩) ?_)
  simp (implicitDefEqProofs := false) (dsimp := false) only [go_sem, brdA]
  rfl
theorem Check_ok (b : Board) : PureA Try.prog 53 [.agg (brdA b)] (.int .i64 (boardErr b)) := by
  refine PureA.of_wpp {} 10 mixed Try.func53 (by kernel_rfl) rfl (by kernel_rfl) (rfl) fun h j hB => ?_
  simp only [junk_succ, junk_zero, List.cons_append, List.nil_append, List.length_cons, List.length_nil, Nat.reduceAdd]
  simp (implicitDefEqProofs := false) (dsimp := false) only [go_sem, brdA]
  refine open_use (fun e0 => ?_) (fun e1 e2 x y z t f1 f2 f3 f4 => ?_)
  · simp (implicitDefEqProofs := false) (dsimp := false) only [go_sem, bdA]
    rw [e0]
  · simp only [leafA] at f1 f2 f3 f4
    simp (implicitDefEqProofs := false) (dsimp := false) only [go_sem, f1, f2, f3, f4]
def pagA (n : Nat) (a b c d : Trace) : AV := .agg [sliceOf cGlyph openB.glyphs, .sl ⟨n + 1, 0⟩ 1 0 3, sliceOf cTraces [[a, b], [c, d]]]
def pagH (n : Nat) : List Blk := [.cells 0 [.str [98, 99], .str [45, 105]], .cells 0 [.sl ⟨n, 0⟩ 1 0 2, sliceOf cStr [[99, 100], [105, 45]], sliceOf cStr [[111, 111]]]]
theorem boardP_ok (a b c d : Trace) (h : List Blk) : CallsA Try.prog 96 [.agg (cTrace a), .agg (cTrace b), .agg (cTrace c), .agg (cTrace d)] h fun e h' => ∃ a0 a1 a2 a3 a4, [a0, a1, a2, a3, a4].all (belowBlk (h.length + 7)) = true ∧ e = .ret (pagA (h.length + 5) a b c d) ∧ h' = h ++ a0 :: a1 :: a2 :: a3 :: a4 :: pagH (h.length + 5) := by
  refine CallsA.of_wpe [] { shut := [14, 16, 17, 21, 24, 25] } 23 mixed Try.func96 (by kernel_rfl) rfl (by kernel_rfl) fun j hB hA => ?_; simp only [junk_succ, junk_zero, List.cons_append, List.nil_append, List.length_cons, List.length_nil, Nat.reduceAdd]
  simp (implicitDefEqProofs := false) (dsimp := false) only [go_sem, cTrace]
  refine ⟨_, h.length + 7, rfl, by omega, by simp [below, belowL], ?_, ?_⟩
  · rw [List.take_of_length_le (by simp), List.all_append, allBelow_mono (by omega) hB]
    simp [belowBlk, below, belowL]
  · rw [List.take_of_length_le (by simp)]; exact ⟨_, _, _, _, _, by simp [belowBlk, below, belowL], rfl, rfl⟩
def celA (n : Nat) : AV := .agg [sliceOf cGlyph openB.glyphs, sliceOf cPage openB.pages, .sl ⟨n + 1, 0⟩ 1 0 2]
def celH (n : Nat) (a b c d : Trace) : List Blk := [.cells 0 (cTrace a ++ cTrace b), .cells 0 [.sl ⟨n, 0⟩ 2 0 2, sliceOf cTrace [c, d]]]
theorem boardC_ok (a b c d : Trace) (h : List Blk) : CallsA Try.prog 96 [.agg (cTrace a), .agg (cTrace b), .agg (cTrace c), .agg (cTrace d)] h fun e h' => ∃ a0 a1 a2 a3 a4, [a0, a1, a2, a3, a4].all (belowBlk (h.length + 7)) = true ∧ e = .ret (celA (h.length + 5)) ∧ h' = h ++ a0 :: a1 :: a2 :: a3 :: a4 :: celH (h.length + 5) a b c d := by
  refine CallsA.of_wpe [] { shut := [14, 15, 16, 17, 18, 24] } 23 mixed Try.func96 (by kernel_rfl) rfl (by kernel_rfl) fun j hB hA => ?_; simp only [junk_succ, junk_zero, List.cons_append, List.nil_append, List.length_cons, List.length_nil, Nat.reduceAdd]
  simp (implicitDefEqProofs := false) (dsimp := false) only [go_sem, cTrace]
  refine ⟨_, h.length + 7, rfl, by omega, by simp [below, belowL], ?_, ?_⟩
  · rw [List.take_of_length_le (by simp), List.all_append, allBelow_mono (by omega) hB]
    simp [belowBlk, below, belowL]
  · rw [List.take_of_length_le (by simp)]; exact ⟨_, _, _, _, _, by simp [belowBlk, below, belowL], rfl, rfl⟩
theorem leatherP_ok (h : List Blk) : CallsA Try.prog 52 [] h fun e h' => ∃ a0 a1 a2 a3 a4 a5, e = .ret (pagA (h.length + 6) ⟨8, 0⟩ ⟨2, 0⟩ ⟨16, 1⟩ ⟨0, 0⟩) ∧ h' = h ++ a0 :: a1 :: a2 :: a3 :: a4 :: a5 :: pagH (h.length + 6) := by
  refine CallsA.of_wpe [] {} 6 mixed Try.func52 (by kernel_rfl) rfl (by kernel_rfl) fun j hB hA => ?_; simp only [junk_succ, junk_zero, List.cons_append, List.nil_append, List.length_cons, List.length_nil, Nat.reduceAdd]
  simp (implicitDefEqProofs := false) (dsimp := false) only [go_sem]
  refine CallsA.mono (boardP_ok ⟨8, 0⟩ ⟨2, 0⟩ ⟨16, 1⟩ ⟨0, 0⟩ _) ?_
  rintro _ _ ⟨a0, a1, a2, a3, a4, ha, rfl, rfl⟩
  simp only [List.append_assoc, List.cons_append, List.nil_append, List.length_append, List.length_cons, List.length_nil, Nat.zero_add, Nat.add_assoc, Nat.reduceAdd]
  simp (implicitDefEqProofs := false) (dsimp := false) only [go_sem, pagA, pagH]
  simp only [List.length_append, List.length_cons, List.length_nil, Nat.zero_add, Nat.add_assoc, Nat.reduceAdd, List.all_cons, List.all_nil, Bool.and_true, Bool.and_eq_true] at ha
  refine ⟨_, h.length + 8, rfl, by omega, by simp [below, belowL, openB, boardB, cGlyph, cPage, cTraces, cTrace, cStr, sliceOf], ?_, ?_⟩
  · rw [List.take_of_length_le (by simp), List.all_append, allBelow_mono (by omega) hB]
    simp only [List.all_cons, ha]
    simp [belowBlk, below, belowL, openB, boardB, cGlyph, cPage, cTraces, cTrace, cStr, sliceOf]
  · rw [List.take_of_length_le (by simp)]; exact ⟨_, _, _, _, _, _, rfl, rfl⟩
theorem leatherC_ok (h : List Blk) : CallsA Try.prog 52 [] h fun e h' => ∃ a0 a1 a2 a3 a4 a5, e = .ret (celA (h.length + 6)) ∧ h' = h ++ a0 :: a1 :: a2 :: a3 :: a4 :: a5 :: celH (h.length + 6) ⟨8, 0⟩ ⟨2, 0⟩ ⟨16, 1⟩ ⟨0, 0⟩ := by
  refine CallsA.of_wpe [] {} 6 mixed Try.func52 (by kernel_rfl) rfl (by kernel_rfl) fun j hB hA => ?_; simp only [junk_succ, junk_zero, List.cons_append, List.nil_append, List.length_cons, List.length_nil, Nat.reduceAdd]
  simp (implicitDefEqProofs := false) (dsimp := false) only [go_sem]
  refine CallsA.mono (boardC_ok ⟨8, 0⟩ ⟨2, 0⟩ ⟨16, 1⟩ ⟨0, 0⟩ _) ?_
  rintro _ _ ⟨a0, a1, a2, a3, a4, ha, rfl, rfl⟩
  simp only [List.append_assoc, List.cons_append, List.nil_append, List.length_append, List.length_cons, List.length_nil, Nat.zero_add, Nat.add_assoc, Nat.reduceAdd]
  simp (implicitDefEqProofs := false) (dsimp := false) only [go_sem, celA, celH]
  simp only [List.length_append, List.length_cons, List.length_nil, Nat.zero_add, Nat.add_assoc, Nat.reduceAdd, List.all_cons, List.all_nil, Bool.and_true, Bool.and_eq_true] at ha
  refine ⟨_, h.length + 8, rfl, by omega, by simp [below, belowL, openB, boardB, cGlyph, cPage, cTraces, cTrace, cStr, sliceOf], ?_, ?_⟩
  · rw [List.take_of_length_le (by simp), List.all_append, allBelow_mono (by omega) hB]
    simp only [List.all_cons, ha]
    simp [belowBlk, below, belowL, openB, boardB, cGlyph, cPage, cTraces, cTrace, cStr, sliceOf]
  · rw [List.take_of_length_le (by simp)]; exact ⟨_, _, _, _, _, _, rfl, rfl⟩
theorem leather_valid : boardErr leatherB = 0 := by kernel_rfl
theorem blank_valid : boardErr blankB = 0 := by kernel_rfl
theorem leather_lays : (laysB leatherB).map Prod.fst = [⟨0, false, 0, 0⟩] := by kernel_rfl
theorem leather_pages : pagesB leatherB = [0] := by kernel_rfl
theorem open_pages : pagesB openB = [0, 1, 2] := by kernel_rfl
theorem leather_mis1 : misR leatherB ⟨1, false, 0, 0⟩ = [(0, 1), (1, 0)] := by kernel_rfl
theorem leather_mis0 : misR leatherB ⟨0, false, 0, 0⟩ = [] := by kernel_rfl
theorem leather_near : NearR leatherB = (⟨0, false, 0, 0⟩, 0, 0) := by kernel_rfl
theorem extra_near : NearR extraB = (⟨0, false, 0, 0⟩, 1, 0) := by kernel_rfl
theorem extra_emend1 : emendR extraB 1 = (some ⟨[[98, 100], [105, 105]], 2, ⟨1, false, 0, 0⟩⟩, 0) := by kernel_rfl
theorem extra_emend2 : emendR extraB 2 = (none, 11) := by kernel_rfl
theorem leather_double : DoubleR leatherB 0 2 = (16, 0) := by kernel_rfl
theorem leather_next : NextR leatherB = (0, 0, 0, 11) := by kernel_rfl
theorem open_strokes0 : StrokesR openB 0 0 = (8, 13, 0) := by kernel_rfl
theorem open_strokes1 : StrokesR openB 0 1 = (0, 14, 0) := by kernel_rfl
theorem extra_strokes : StrokesR extraB 0 0 = (0, 0, 9) := by kernel_rfl
theorem leather_seen : anySeen leatherB.cells = true := by kernel_rfl
theorem extra_seen : anySeen extraB.cells = true := by kernel_rfl
theorem blank_seen : anySeen blankB.cells = false := by kernel_rfl
theorem extra_pages : pagesB extraB = [] := by kernel_rfl
theorem extra_find : exFind extraB = some 0 := by kernel_rfl
theorem shown_all : ShownR leatherB ⟨0, false, 0, 0⟩ 0 0 = (8, 0) ∧ ShownR leatherB ⟨0, false, 0, 0⟩ 0 1 = (6, 0) ∧ ShownR leatherB ⟨0, true, 0, 0⟩ 1 1 = (1, 0) ∧ ShownR leatherB ⟨0, false, 1, 0⟩ 1 0 = (8, 0) := by
  refine ⟨?_, ?_, ?_, ?_⟩ <;> kernel_rfl
def laysK : List Lay := [⟨0, false, 0, 0⟩, ⟨0, false, 0, 0⟩, ⟨0, true, 0, 0⟩, ⟨0, false, 1, 0⟩]
def rsK : List Int := [0, 0, 1, 1]
def csK : List Int := [0, 1, 1, 0]
def dueK4 : List Int := [8, 6, 1, 8]
theorem shown_k {i : Nat} (h : i < 4) : ShownR leatherB (laysK.getD i ⟨0, false, 0, 0⟩) (rsK.getD i 0) (csK.getD i 0) = (dueK4.getD i 0, 0) ∧ isI64 (laysK.getD i ⟨0, false, 0, 0⟩).down ∧ isI64 (laysK.getD i ⟨0, false, 0, 0⟩).right := by
  match i, h with
  | 0, _ => exact ⟨shown_all.1, ⟨by decide, by decide⟩, ⟨by decide, by decide⟩⟩
  | 1, _ => exact ⟨shown_all.2.1, ⟨by decide, by decide⟩, ⟨by decide, by decide⟩⟩
  | 2, _ => exact ⟨shown_all.2.2.1, ⟨by decide, by decide⟩, ⟨by decide, by decide⟩⟩
  | 3, _ => exact ⟨shown_all.2.2.2, ⟨by decide, by decide⟩, ⟨by decide, by decide⟩⟩
theorem Turn_9 : PureA Try.prog 30 [.int .i64 9] (.tup [.int .i64 9, .int .i64 0]) := turn_ok 9
theorem Turn_16 : PureA Try.prog 30 [.int .i64 16] (.tup [.int .i64 32, .int .i64 0]) := turn_ok 16
theorem Turn_64 : PureA Try.prog 30 [.int .i64 64] (.tup [.int .i64 0, .int .i64 1]) := turn_ok 64
theorem Lays_leather : PureA Try.prog 22 [.agg (brdA leatherB)] (.tup [.psl [.int .i64 0, .bool false, .int .i64 0, .int .i64 0] 1, .int .i64 0]) := by
  have := Lays_ok leatherB
  rw [leather_valid, show unlessErr 0 (sliceOf cLayF (laysB leatherB)) = sliceOf cLay [⟨0, false, 0, 0⟩] by rw [← leather_lays, slice_map]; rfl] at this
  exact this
theorem Pages_leather : PureA Try.prog 50 [.agg (brdA leatherB)] (.tup [.psl [.int .i64 0] 1, .int .i64 0]) := by
  have := Pages_ok leatherB leather_valid
  rw [leather_pages] at this
  exact this
theorem Pages_open : PureA Try.prog 50 [.agg (brdA openB)] (.tup [.psl [.int .i64 0, .int .i64 1, .int .i64 2] 3, .int .i64 0]) := by
  have := Pages_ok openB open_valid
  rw [open_pages] at this
  exact this
theorem Verdict_l0 : PureA Try.prog 51 [.agg (brdA leatherB), .int .i64 0] (.tup [.int .i64 1, .int .i64 0]) := by
  have := Verdict_ok leatherB leather_valid (okBoard.of leather_valid) 0 (by decide)
  rw [verdB, leather_pages] at this
  exact this
theorem Verdict_l1 : PureA Try.prog 51 [.agg (brdA leatherB), .int .i64 1] (.tup [.int .i64 2, .int .i64 0]) := by
  have := Verdict_ok leatherB leather_valid (okBoard.of leather_valid) 1 (by decide)
  rw [verdB, leather_pages] at this
  exact this
theorem Verdict_o1 : PureA Try.prog 51 [.agg (brdA openB), .int .i64 1] (.tup [.int .i64 3, .int .i64 0]) := by
  have := Verdict_ok openB open_valid (okBoard.of open_valid) 1 (by decide)
  rw [verdB, open_pages] at this
  exact this
theorem eqLays_one : PureA Try.prog 57 [.psl [.int .i64 0, .bool false, .int .i64 0, .int .i64 0] 1, .psl [.int .i64 0, .bool false, .int .i64 0, .int .i64 0] 1] (.bool true) := by
  have := eqLays_ok [⟨0, false, 0, 0⟩] [⟨0, false, 0, 0⟩] (by decide)
  rw [show decide (([⟨0, false, 0, 0⟩] : List Lay) = [⟨0, false, 0, 0⟩]) = true by simp] at this
  exact this
theorem eqInts_lit (l : List Int) (hl : l.length ≤ 1000) : PureA Try.prog 41 [.psl (l.flatMap cInt) l.length, .psl (l.flatMap cInt) l.length] (.bool true) := by
  have := eqInts_ok l l (by omega)
  rw [beq_self_eq_true] at this
  exact this
theorem Misfits_l1 : PureA Try.prog 25 [.agg (brdA leatherB), .agg [.int .i64 1, .bool false, .int .i64 0, .int .i64 0]] (.tup [.psl [.psl [.int .i64 0, .int .i64 1] 2, .psl [.int .i64 1, .int .i64 0] 2] 2, .int .i64 0]) := by
  have := Misfits_ok leatherB ⟨1, false, 0, 0⟩ ⟨by decide, by decide⟩ ⟨by decide, by decide⟩
  rw [show layErr2 leatherB ⟨1, false, 0, 0⟩ = 0 by kernel_rfl, leather_mis1] at this
  exact this
theorem Misfits_l0 : PureA Try.prog 25 [.agg (brdA leatherB), .agg [.int .i64 0, .bool false, .int .i64 0, .int .i64 0]] (.tup [.psl [] 0, .int .i64 0]) := by
  have := Misfits_ok leatherB ⟨0, false, 0, 0⟩ ⟨by decide, by decide⟩ ⟨by decide, by decide⟩
  rw [show layErr2 leatherB ⟨0, false, 0, 0⟩ = 0 by kernel_rfl, leather_mis0] at this
  exact this
theorem Nearest_l : PureA Try.prog 44 [.agg (brdA leatherB)] (.tup [.agg [.int .i64 0, .bool false, .int .i64 0, .int .i64 0], .int .i64 0, .int .i64 0]) := by
  have := Nearest_ok leatherB
  rw [leather_near] at this
  exact this
theorem Nearest_e : PureA Try.prog 44 [.agg (brdA extraB)] (.tup [.agg [.int .i64 0, .bool false, .int .i64 0, .int .i64 0], .int .i64 1, .int .i64 0]) := by
  have := Nearest_ok extraB
  rw [extra_near] at this
  exact this
theorem eqLists_two : PureA Try.prog 43 [.psl [.psl [.int .i64 0, .int .i64 1] 2, .psl [.int .i64 1, .int .i64 0] 2] 2, .psl [.psl [.int .i64 0, .int .i64 1] 2, .psl [.int .i64 1, .int .i64 0] 2] 2] (.bool true) := by
  have := eqLists_ok [[0, 1], [1, 0]] [[0, 1], [1, 0]] (by decide) (by decide)
  exact this
theorem Emend_e1 : PureA Try.prog 27 [.agg (brdA extraB), .int .i64 1] (.tup [.psl [.str [98, 100], .str [105, 105]] 2, .int .i64 2, .agg [.int .i64 1, .bool false, .int .i64 0, .int .i64 0], .int .i64 0]) := by
  have := Emend_ok extraB 1
  rw [extra_emend1] at this
  exact this
theorem Emend_e2 : PureA Try.prog 27 [.agg (brdA extraB), .int .i64 2] (.tup [.nilsl, .int .i64 0, .agg [.int .i64 0, .bool false, .int .i64 0, .int .i64 0], .int .i64 11]) := by
  have := Emend_ok extraB 2
  rw [extra_emend2] at this
  exact this
theorem Double_l (h : List Blk) (hro : h[0]? = some (.role true)) : QuietAt 38 [.agg (brdA leatherB), .int .i64 0, .int .i64 2] h (.tup [.int .i64 16, .int .i64 0]) := by
  have := Double_ok leatherB 0 2 h hro
  rw [leather_double] at this
  exact this
theorem eqStrings_two : PureA Try.prog 59 [.psl [.str [98, 100], .str [105, 105]] 2, .psl [.str [98, 100], .str [105, 105]] 2] (.bool true) := by
  have := eqStrings_ok [[98, 100], [105, 105]] [[98, 100], [105, 105]] (by decide) (by decide) (by decide)
  rw [show (([[98, 100], [105, 105]] : List (List UInt8)) == [[98, 100], [105, 105]]) = true by decide] at this
  exact this
theorem Explain_l (h : List Blk) (hro : h[0]? = some (.role true)) : QuietAt 49 [.agg (brdA leatherB)] h (.tup [.psl [.int .i64 0] 1, .int .i64 0]) := by
  have := Explain_okE leatherB leather_valid h hro
  rw [show explV leatherB = .tup [.psl [.int .i64 0] 1, .int .i64 0] by rw [explV, if_neg (by rw [leather_seen]; simp), if_pos (by rw [leather_pages]; decide), leather_pages]; rfl] at this
  exact this
theorem Explain_e (h : List Blk) (hro : h[0]? = some (.role true)) : QuietAt 49 [.agg (brdA extraB)] h (.tup [.psl [.int .i64 0, .int .i64 0] 2, .int .i64 0]) := by
  have := Explain_okE extraB extra_valid h hro
  rw [show explV extraB = .tup [.psl [.int .i64 0, .int .i64 0] 2, .int .i64 0] by rw [explV, if_neg (by rw [extra_seen]; simp), if_neg (by rw [extra_pages]; decide), extra_find]; rfl] at this
  exact this
theorem Explain_b (h : List Blk) (hro : h[0]? = some (.role true)) : QuietAt 49 [.agg (brdA blankB)] h (.tup [.nilsl, .int .i64 0]) := by
  have := Explain_okE blankB blank_valid h hro
  rw [show explV blankB = .tup [.nilsl, .int .i64 0] by rw [explV, if_pos blank_seen]] at this
  exact this
theorem Strokes_o0 : PureA Try.prog 48 [.agg (brdA openB), .int .i64 0, .int .i64 0] (.tup [.int .i64 8, .int .i64 13, .int .i64 0]) := by
  have := Strokes_ok openB 0 0
  rw [open_strokes0] at this
  exact this
theorem Strokes_o1 : PureA Try.prog 48 [.agg (brdA openB), .int .i64 0, .int .i64 1] (.tup [.int .i64 0, .int .i64 14, .int .i64 0]) := by
  have := Strokes_ok openB 0 1
  rw [open_strokes1] at this
  exact this
theorem Strokes_e : PureA Try.prog 48 [.agg (brdA extraB), .int .i64 0, .int .i64 0] (.tup [.int .i64 0, .int .i64 0, .int .i64 9]) := by
  have := Strokes_ok extraB 0 0
  rw [extra_strokes] at this
  exact this
theorem Next_l : PureA Try.prog 39 [.agg (brdA leatherB)] (.tup [.int .i64 0, .int .i64 0, .int .i64 0, .int .i64 11]) := by
  have := Next_ok leatherB
  rw [leather_next] at this
  exact this
end Go.Mac
namespace Go.Mac
open Go Go.Conc Go.Proofs
set_option maxRecDepth 40000
def nameB : Board := { leatherB with pages := [[[98, 120], [45, 105]], [[99, 100], [105, 45]], [[111, 111]]] }
def shortB : Board := { leatherB with pages := [[[98, 99], [105]], [[99, 100], [105, 45]], [[111, 111]]] }
def bothB : Board := { leatherB with cells := [[⟨9, 1⟩, ⟨2, 0⟩], [⟨16, 1⟩, ⟨0, 0⟩]] }
def noneB : Board := { leatherB with pages := [] }
theorem name_err : boardErr nameB = 2 := by kernel_rfl
theorem short_err : boardErr shortB = 9 := by kernel_rfl
theorem both_err : boardErr bothB = 9 := by kernel_rfl
theorem none_err : boardErr noneB = 7 := by kernel_rfl
theorem WPI.tail4 {P : Program} {fk : FK} {its : List Item} {Q : AExit → AS → Prop} {i : Nat} {sl : List AV} {df : List ADef} {gh : Gst} {h Kk : List Blk} {A B C D : Blk} (h1 : (Kk)[i]? = some A) (h2 : (Kk)[i + 1]? = some B) (h3 : (Kk)[i + 2]? = some C) (h4 : (Kk)[i + 3]? = some D)
    (hk : ∀ Kk : List Blk, (Kk)[i]? = some A → (Kk)[i + 1]? = some B → (Kk)[i + 2]? = some C → (Kk)[i + 3]? = some D → WPI P fk its Q ⟨sl, df, h ++ Kk, gh⟩) : WPI P fk its Q ⟨sl, df, h ++ Kk, gh⟩ := hk Kk h1 h2 h3 h4
set_option maxHeartbeats 8000000 in
theorem Known_walk (h : List Blk) (hro : h[0]? = some (.role true)) : CallsA Try.prog 15 [] h fun e h' => e = .ret (.bool true) ∧ h' = h := by
  refine CallsA.of_wpe [] { shut := [117, 118, 119, 120, 221, 227, 233, 300, 301, 302, 350, 386, 392], cut := [58, 63, 68, 73, 78, 97, 101, 105, 109, 146, 186, 190, 194, 198, 202, 206, 210, 214, 218, 225, 231, 263, 267, 271, 275, 280, 285, 289, 294, 298, 327, 331, 335, 339, 344, 348, 371, 375, 379, 384, 390, 423, 427, 431, 435, 439, 443, 447], hand := [2, 3] } 451 mixed Try.func15 (by kernel_rfl) rfl (by kernel_rfl) fun j hB hA => ?_; simp only [junk_succ, junk_zero, List.cons_append, List.nil_append, List.length_cons, List.length_nil, Nat.reduceAdd]
  simp (implicitDefEqProofs := false) (dsimp := false) only [go_sem]
  refine CallsA.mono (leatherP_ok _) ?_
  rintro _ _ ⟨a0, a1, a2, a3, a4, a5, rfl, rfl⟩
  simp only [List.append_assoc, List.cons_append, List.nil_append, List.length_append, List.length_cons, List.length_nil, Nat.zero_add, Nat.add_assoc, Nat.reduceAdd]
  simp (implicitDefEqProofs := false) (dsimp := false) only [go_sem]
  refine CallsA.mono (leatherP_ok _) ?_
  rintro _ _ ⟨b0, b1, b2, b3, b4, b5, rfl, rfl⟩
  simp (implicitDefEqProofs := false) (dsimp := false) only [go_sem, pagA, pagH]
  refine CallsA.mono (leatherC_ok _) ?_
  rintro _ _ ⟨c0, c1, c2, c3, c4, c5, rfl, rfl⟩
  simp (implicitDefEqProofs := false) (dsimp := false) only [go_sem, celA, celH, cTrace]
  (first | refine CallsA.use (leatherB_ok) ?_ | refine QuietCalls.use (leatherB_ok) ?_)
  simp (implicitDefEqProofs := false) (dsimp := false) only [go_sem]
  refine ⟨⟨rfl, rfl, by decide⟩, ?_⟩
  refine WP.noisy (so := { shut := [117, 118, 119, 120, 221, 227, 233, 300, 301, 302, 350, 386, 392], cut := [58, 63, 68, 73, 78, 97, 101, 105, 109, 146, 186, 190, 194, 198, 202, 206, 210, 214, 218, 225, 231, 263, 267, 271, 275, 280, 285, 289, 294, 298, 327, 331, 335, 339, 344, 348, 371, 375, 379, 384, 390, 423, 427, 431, 435, 439, 443, 447], }) 21 [14, 16, 18, 20] [0, 0, 0, 0, 0, 0, 0, 0, 0, 0, 0, 0, 0, 0, 0, 1, 0, 2, 0, 3, 0] [0, 0, 0, 0, 0, 0, 0, 0, 0, 0, 0, 0, 2, 0, 0, 1, 0, 2, 0, 3, 0] ([h ++ [a0, a1, a2, a3, a4, a5, .cells 0 [.str [98, 99], .str [45, 105]], .cells 0 [.sl ⟨h.length + 6, 0⟩ 1 0 2, sliceOf cStr [[99, 100], [105, 45]], sliceOf cStr [[111, 111]]], b0, b1, b2, b3, b4, b5, .cells 0 [.str [98, 99], .str [45, 105]], .cells 0 [.sl ⟨h.length + 14, 0⟩ 1 0 2, sliceOf cStr [[99, 100], [105, 45]], sliceOf cStr [[111, 111]]], c0, c1, c2, c3, c4, c5, .cells 0 [.int .i64 8, .int .i64 0, .int .i64 2, .int .i64 0], .cells 0 [.sl ⟨h.length + 22, 0⟩ 2 0 2, sliceOf cTrace [⟨16, 1⟩, ⟨0, 0⟩]], .cells 0 [sliceOf cGlyph openB.glyphs, .sl ⟨h.length + 7, 0⟩ 1 0 3, sliceOf cTraces [[⟨8, 0⟩, ⟨2, 0⟩], [⟨16, 1⟩, ⟨0, 0⟩]]], .cells 0 [sliceOf cGlyph openB.glyphs, .sl ⟨h.length + 15, 0⟩ 1 0 3, sliceOf cTraces [[⟨8, 0⟩, ⟨2, 0⟩], [⟨16, 1⟩, ⟨0, 0⟩]]], .cells 0 [sliceOf cGlyph openB.glyphs, sliceOf cPage openB.pages, .sl ⟨h.length + 23, 0⟩ 1 0 2], .cells 0 [sliceOf cGlyph openB.glyphs, sliceOf cPage openB.pages, sliceOf cTraces [[⟨8, 0⟩, ⟨2, 0⟩], [⟨16, 1⟩, ⟨0, 0⟩]]]], h ++ [a0, a1, a2, a3, a4, a5, .cells 0 [.str [98, 120], .str [45, 105]], .cells 0 [.sl ⟨h.length + 6, 0⟩ 1 0 2, sliceOf cStr [[99, 100], [105, 45]], sliceOf cStr [[111, 111]]], b0, b1, b2, b3, b4, b5, .cells 0 [.str [98, 99], .str [45, 105]], .cells 0 [.sl ⟨h.length + 14, 0⟩ 1 0 2, sliceOf cStr [[99, 100], [105, 45]], sliceOf cStr [[111, 111]]], c0, c1, c2, c3, c4, c5, .cells 0 [.int .i64 8, .int .i64 0, .int .i64 2, .int .i64 0], .cells 0 [.sl ⟨h.length + 22, 0⟩ 2 0 2, sliceOf cTrace [⟨16, 1⟩, ⟨0, 0⟩]], .cells 0 [sliceOf cGlyph openB.glyphs, .sl ⟨h.length + 7, 0⟩ 1 0 3, sliceOf cTraces [[⟨8, 0⟩, ⟨2, 0⟩], [⟨16, 1⟩, ⟨0, 0⟩]]], .cells 0 [sliceOf cGlyph openB.glyphs, .sl ⟨h.length + 15, 0⟩ 1 0 3, sliceOf cTraces [[⟨8, 0⟩, ⟨2, 0⟩], [⟨16, 1⟩, ⟨0, 0⟩]]], .cells 0 [sliceOf cGlyph openB.glyphs, sliceOf cPage openB.pages, .sl ⟨h.length + 23, 0⟩ 1 0 2], .cells 0 [sliceOf cGlyph openB.glyphs, sliceOf cPage openB.pages, sliceOf cTraces [[⟨8, 0⟩, ⟨2, 0⟩], [⟨16, 1⟩, ⟨0, 0⟩]]]], h ++ [a0, a1, a2, a3, a4, a5, .cells 0 [.str [98, 120], .str [45, 105]], .cells 0 [.sl ⟨h.length + 6, 0⟩ 1 0 2, sliceOf cStr [[99, 100], [105, 45]], sliceOf cStr [[111, 111]]], b0, b1, b2, b3, b4, b5, .cells 0 [.str [98, 99], .str [105]], .cells 0 [.sl ⟨h.length + 14, 0⟩ 1 0 2, sliceOf cStr [[99, 100], [105, 45]], sliceOf cStr [[111, 111]]], c0, c1, c2, c3, c4, c5, .cells 0 [.int .i64 8, .int .i64 0, .int .i64 2, .int .i64 0], .cells 0 [.sl ⟨h.length + 22, 0⟩ 2 0 2, sliceOf cTrace [⟨16, 1⟩, ⟨0, 0⟩]], .cells 0 [sliceOf cGlyph openB.glyphs, .sl ⟨h.length + 7, 0⟩ 1 0 3, sliceOf cTraces [[⟨8, 0⟩, ⟨2, 0⟩], [⟨16, 1⟩, ⟨0, 0⟩]]], .cells 0 [sliceOf cGlyph openB.glyphs, .sl ⟨h.length + 15, 0⟩ 1 0 3, sliceOf cTraces [[⟨8, 0⟩, ⟨2, 0⟩], [⟨16, 1⟩, ⟨0, 0⟩]]], .cells 0 [sliceOf cGlyph openB.glyphs, sliceOf cPage openB.pages, .sl ⟨h.length + 23, 0⟩ 1 0 2], .cells 0 [sliceOf cGlyph openB.glyphs, sliceOf cPage openB.pages, sliceOf cTraces [[⟨8, 0⟩, ⟨2, 0⟩], [⟨16, 1⟩, ⟨0, 0⟩]]]], h ++ [a0, a1, a2, a3, a4, a5, .cells 0 [.str [98, 120], .str [45, 105]], .cells 0 [.sl ⟨h.length + 6, 0⟩ 1 0 2, sliceOf cStr [[99, 100], [105, 45]], sliceOf cStr [[111, 111]]], b0, b1, b2, b3, b4, b5, .cells 0 [.str [98, 99], .str [105]], .cells 0 [.sl ⟨h.length + 14, 0⟩ 1 0 2, sliceOf cStr [[99, 100], [105, 45]], sliceOf cStr [[111, 111]]], c0, c1, c2, c3, c4, c5, .cells 0 [.int .i64 9, .int .i64 1, .int .i64 2, .int .i64 0], .cells 0 [.sl ⟨h.length + 22, 0⟩ 2 0 2, sliceOf cTrace [⟨16, 1⟩, ⟨0, 0⟩]], .cells 0 [sliceOf cGlyph openB.glyphs, .sl ⟨h.length + 7, 0⟩ 1 0 3, sliceOf cTraces [[⟨8, 0⟩, ⟨2, 0⟩], [⟨16, 1⟩, ⟨0, 0⟩]]], .cells 0 [sliceOf cGlyph openB.glyphs, .sl ⟨h.length + 15, 0⟩ 1 0 3, sliceOf cTraces [[⟨8, 0⟩, ⟨2, 0⟩], [⟨16, 1⟩, ⟨0, 0⟩]]], .cells 0 [sliceOf cGlyph openB.glyphs, sliceOf cPage openB.pages, .sl ⟨h.length + 23, 0⟩ 1 0 2], .cells 0 [sliceOf cGlyph openB.glyphs, sliceOf cPage openB.pages, sliceOf cTraces [[⟨8, 0⟩, ⟨2, 0⟩], [⟨16, 1⟩, ⟨0, 0⟩]]]], h ++ [a0, a1, a2, a3, a4, a5, .cells 0 [.str [98, 120], .str [45, 105]], .cells 0 [.sl ⟨h.length + 6, 0⟩ 1 0 2, sliceOf cStr [[99, 100], [105, 45]], sliceOf cStr [[111, 111]]], b0, b1, b2, b3, b4, b5, .cells 0 [.str [98, 99], .str [105]], .cells 0 [.sl ⟨h.length + 14, 0⟩ 1 0 2, sliceOf cStr [[99, 100], [105, 45]], sliceOf cStr [[111, 111]]], c0, c1, c2, c3, c4, c5, .cells 0 [.int .i64 9, .int .i64 1, .int .i64 2, .int .i64 0], .cells 0 [.sl ⟨h.length + 22, 0⟩ 2 0 2, sliceOf cTrace [⟨16, 1⟩, ⟨0, 0⟩]], .cells 0 [sliceOf cGlyph openB.glyphs, .sl ⟨h.length + 7, 0⟩ 1 0 3, sliceOf cTraces [[⟨8, 0⟩, ⟨2, 0⟩], [⟨16, 1⟩, ⟨0, 0⟩]]], .cells 0 [sliceOf cGlyph openB.glyphs, .sl ⟨h.length + 15, 0⟩ 1 0 3, sliceOf cTraces [[⟨8, 0⟩, ⟨2, 0⟩], [⟨16, 1⟩, ⟨0, 0⟩]]], .cells 0 [sliceOf cGlyph openB.glyphs, sliceOf cPage openB.pages, .sl ⟨h.length + 23, 0⟩ 1 0 2], .cells 0 [sliceOf cGlyph openB.glyphs, .nilsl, sliceOf cTraces [[⟨8, 0⟩, ⟨2, 0⟩], [⟨16, 1⟩, ⟨0, 0⟩]]]]]) rfl mixed (by kernel_rfl) (by kernel_rfl) (by decide) (by kernel_rfl) rfl ?_
  simp (implicitDefEqProofs := false) (dsimp := false) only [go_sem, brdA]
  refine WPI.turn (Turns.seal_cell (i := h.length + 7) (g := 0) (j := 0) (a := .sl ⟨h.length + 6, 0⟩ 1 0 2) (a' := .psl [.str [98, 120], .str [45, 105]] 2) (by simp only; rw [hget]; rfl) rfl (by simp only [sealV]; rw [hget]; rfl) (by simp [nmOf])) ?_
  simp only [nmOf, hset, List.set_cons_succ, List.set_cons_zero]
  refine WPI.turn (Turns.seal_cell (i := h.length + 24) (g := 0) (j := 1) (a := .sl ⟨h.length + 7, 0⟩ 1 0 3) (a' := .psl [.psl [.str [98, 120], .str [45, 105]] 2, .psl (List.flatMap cStr [[99, 100], [105, 45]]) 2, .psl (List.flatMap cStr [[111, 111]]) 1] 3) (by simp only; rw [hget]; rfl) rfl (by simp only [sealV]; rw [hget]; rfl) (by simp [nmOf])) ?_
  simp only [nmOf, hset, List.set_cons_succ, List.set_cons_zero]
  refine WPI.turn (Turns.seal_cell (i := h.length + 15) (g := 0) (j := 0) (a := .sl ⟨h.length + 14, 0⟩ 1 0 2) (a' := .psl [.str [98, 99], .str [105]] 2) (by simp only; rw [hget]; rfl) rfl (by simp only [sealV]; rw [hget]; rfl) (by simp [nmOf])) ?_
  simp only [nmOf, hset, List.set_cons_succ, List.set_cons_zero]
  refine WPI.turn (Turns.seal_cell (i := h.length + 25) (g := 0) (j := 1) (a := .sl ⟨h.length + 15, 0⟩ 1 0 3) (a' := .psl [.psl [.str [98, 99], .str [105]] 2, .psl (List.flatMap cStr [[99, 100], [105, 45]]) 2, .psl (List.flatMap cStr [[111, 111]]) 1] 3) (by simp only; rw [hget]; rfl) rfl (by simp only [sealV]; rw [hget]; rfl) (by simp [nmOf])) ?_
  simp only [nmOf, hset, List.set_cons_succ, List.set_cons_zero]
  refine WPI.turn (Turns.seal_cell (i := h.length + 23) (g := 0) (j := 0) (a := .sl ⟨h.length + 22, 0⟩ 2 0 2) (a' := .psl [.int .i64 9, .int .i64 1, .int .i64 2, .int .i64 0] 2) (by simp only; rw [hget]; rfl) rfl (by simp only [sealV]; rw [hget]; rfl) (by simp [nmOf])) ?_
  simp only [nmOf, hset, List.set_cons_succ, List.set_cons_zero]
  refine WPI.turn (Turns.seal_cell (i := h.length + 26) (g := 0) (j := 2) (a := .sl ⟨h.length + 23, 0⟩ 1 0 2) (a' := .psl [.psl [.int .i64 9, .int .i64 1, .int .i64 2, .int .i64 0] 2, .psl (List.flatMap cTrace [⟨16, 1⟩, ⟨0, 0⟩]) 2] 2) (by simp only; rw [hget]; rfl) rfl (by simp only [sealV]; rw [hget]; rfl) (by simp [nmOf])) ?_
  simp only [nmOf, hset, List.set_cons_succ, List.set_cons_zero]
  refine WPI.turn (Turns.nilCell (i := h.length + 27) (j := 1) (sz := 1) (by simp only; rw [hget]; rfl) rfl) ?_
  simp only [hset, List.append_assoc, List.set_cons_succ, List.set_cons_zero, List.cons_append, List.nil_append, List.length_append, List.length_cons, List.length_nil, Nat.zero_add, Nat.reduceAdd]
  refine WPI.turn (Turns.seal_cell (i := h.length + 27) (g := 0) (j := 1) (a := .sl ⟨h.length + 28, 0⟩ 1 0 0) (a' := .psl [] 0) (by simp only; rw [hget]; rfl) rfl (by simp only [sealV]; rw [hget]; rfl) (by simp [nmOf])) ?_
  simp only [nmOf, hset, List.set_cons_succ, List.set_cons_zero]
  refine WPI.tail4 (i := 24) (A := .cells 0 (brdA nameB)) (B := .cells 0 (brdA shortB)) (C := .cells 0 (brdA bothB)) (D := .cells 0 (brdA noneB)) rfl rfl rfl rfl fun K hK1 hK2 hK3 hK4 => ?_
  simp only [brdA, Nat.reduceAdd] at hK1 hK2 hK3 hK4
  have hC0 := Check_ok leatherB
  have hC1 := Check_ok nameB
  have hC2 := Check_ok shortB
  have hC3 := Check_ok bothB
  have hC4 := Check_ok noneB
  rw [leather_valid] at hC0
  rw [name_err] at hC1
  rw [short_err] at hC2
  rw [both_err] at hC3
  rw [none_err] at hC4
  refine wp_shut [] (so := { shut := [117, 118, 119, 120, 221, 227, 233, 300, 301, 302, 350, 386, 392], cut := [58, 63, 68, 73, 78, 97, 101, 105, 109, 146, 186, 190, 194, 198, 202, 206, 210, 214, 218, 225, 231, 263, 267, 271, 275, 280, 285, 289, 294, 298, 327, 331, 335, 339, 344, 348, 371, 375, 379, 384, 390, 423, 427, 431, 435, 439, 443, 447], }) mixed _ (by kernel_rfl) ?_
  simp (implicitDefEqProofs := false) (dsimp := false) only [go_sem]
  refine QuietAt.use (pressed_ok _ (role_left hro)) ?_
  simp (implicitDefEqProofs := false) (dsimp := false) only [go_sem]
  (first | refine CallsA.use (leatherB_ok) ?_ | refine QuietCalls.use (leatherB_ok) ?_)
  simp (implicitDefEqProofs := false) (dsimp := false) only [go_sem]
  (first | refine CallsA.use (hC0) ?_ | refine QuietCalls.use (hC0) ?_)
  simp (implicitDefEqProofs := false) (dsimp := false) only [go_sem, hK1, hK2, hK3, hK4]
  (first | refine CallsA.use (hC1) ?_ | refine QuietCalls.use (hC1) ?_)
  simp (implicitDefEqProofs := false) (dsimp := false) only [go_sem, hK1, hK2, hK3, hK4]
  (first | refine CallsA.use (hC2) ?_ | refine QuietCalls.use (hC2) ?_)
  simp (implicitDefEqProofs := false) (dsimp := false) only [go_sem, hK1, hK2, hK3, hK4]
  (first | refine CallsA.use (hC3) ?_ | refine QuietCalls.use (hC3) ?_)
  simp (implicitDefEqProofs := false) (dsimp := false) only [go_sem, hK1, hK2, hK3, hK4]
  (first | refine CallsA.use (hC4) ?_ | refine QuietCalls.use (hC4) ?_)
  simp (implicitDefEqProofs := false) (dsimp := false) only [go_sem]
  (first | refine CallsA.use (Turn_9) ?_ | refine QuietCalls.use (Turn_9) ?_)
  simp (implicitDefEqProofs := false) (dsimp := false) only [go_sem]
  (first | refine CallsA.use (Turn_16) ?_ | refine QuietCalls.use (Turn_16) ?_)
  simp (implicitDefEqProofs := false) (dsimp := false) only [go_sem]
  (first | refine CallsA.use (Turn_64) ?_ | refine QuietCalls.use (Turn_64) ?_)
  simp (implicitDefEqProofs := false) (dsimp := false) only [go_sem]
  (first | refine CallsA.use (lay_lit 0 0 0) ?_ | refine QuietCalls.use (lay_lit 0 0 0) ?_)
  simp (implicitDefEqProofs := false) (dsimp := false) only [go_sem]
  (first | refine CallsA.use (lay_lit 0 0 0) ?_ | refine QuietCalls.use (lay_lit 0 0 0) ?_)
  simp (implicitDefEqProofs := false) (dsimp := false) only [go_sem]
  (first | refine CallsA.use (half_lit 0 0 0) ?_ | refine QuietCalls.use (half_lit 0 0 0) ?_)
  simp (implicitDefEqProofs := false) (dsimp := false) only [go_sem]
  (first | refine CallsA.use (lay_lit 0 1 0) ?_ | refine QuietCalls.use (lay_lit 0 1 0) ?_)
  simp (implicitDefEqProofs := false) (dsimp := false) only [go_sem]
  refine WP.loopI (fun (i : Nat) s => (i ≤ 4) ∧ s.sl.length = 451 ∧ s.df = [] ∧ s.gh = {} ∧ (∃ J, s.hp = h ++ J) ∧ evA s.sl (.tmp 11) = .psl (laysK.flatMap cLay) 4 ∧ evA s.sl (.tmp 12) = .psl (rsK.flatMap cInt) 4 ∧ evA s.sl (.tmp 13) = .psl (csK.flatMap cInt) 4 ∧ evA s.sl (.tmp 14) = .psl (dueK4.flatMap cInt) 4 ∧ evA s.sl (.tmp 15) = .int .i64 i) (fun (i : Nat) => 4 - i) (0) ?_ ?_
  · simp (implicitDefEqProofs := false) (dsimp := false) only [go_sem, Nat.zero_le]
    exact ⟨rfl, rfl, rfl, rfl⟩
  · rintro i ⟨sl, df, hp, gh⟩ ⟨ab, al, rfl, rfl, ah, a11, a12, a13, a14, a15⟩
    simp only at ab al ah a11 a12 a13 a14 a15
    obtain ⟨j, rfl⟩ := slots_lit al; clear al; simp only [junk_succ, junk_zero, evA_tmp, nth_16, nth_four, nth_one, nth_zero, Nat.zero_add, Nat.reduceAdd] at  a11 a12 a13 a14 a15 ⊢
    refine wp_ok (so := { shut := [117, 118, 119, 120, 221, 227, 233, 300, 301, 302, 350, 386, 392], cut := [58, 63, 68, 73, 78, 97, 101, 105, 109, 146, 186, 190, 194, 198, 202, 206, 210, 214, 218, 225, 231, 263, 267, 271, 275, 280, 285, 289, 294, 298, 327, 331, 335, 339, 344, 348, 371, 375, 379, 384, 390, 423, 427, 431, 435, 439, 443, 447], hand := [2, 3] }) mixed _ (by kernel_rfl) ?_
    obtain ⟨J, rfl⟩ := ah
    by_cases hi : i < 4
    · have hi4 : ((i : Int) < 4) = True := eq_true (by omega)
      have q1 : i < laysK.length := hi
      have q2 : i < rsK.length := hi
      have q3 : i < csK.length := hi
      have q4 : i < dueK4.length := hi
      obtain ⟨hS, d1, d2⟩ := shown_k hi
      have e1 : laysK.getD i ⟨0, false, 0, 0⟩ = laysK[i] := by rw [List.getD_eq_getElem?_getD, List.getElem?_eq_getElem q1]; rfl
      have e2 : rsK.getD i 0 = rsK[i] := by rw [List.getD_eq_getElem?_getD, List.getElem?_eq_getElem q2]; rfl
      have e3 : csK.getD i 0 = csK[i] := by rw [List.getD_eq_getElem?_getD, List.getElem?_eq_getElem q3]; rfl
      have e4 : dueK4.getD i 0 = dueK4[i] := by rw [List.getD_eq_getElem?_getD, List.getElem?_eq_getElem q4]; rfl
      have hSh := Shown_ok leatherB _ (rsK.getD i 0) (csK.getD i 0) d1 d2
      rw [hS, e1, e2, e3, e4] at hSh
      simp only [pairA] at hSh
      have hself : (dueK4[i] != dueK4[i]) = false := bne_self_eq_false _
      simp (implicitDefEqProofs := false) (dsimp := false) only [go_sem, a11, a12, a13, a14, a15, hi4, decide_true]
      (first | refine CallsA.use (leatherB_ok) ?_ | refine QuietCalls.use (leatherB_ok) ?_)
      simp (implicitDefEqProofs := false) (dsimp := false) only [go_sem, hi4, rowN cLay_len q1, rowN_le cLay_len q1, cLay, row1 cInt_len q2, row1_le cInt_len q2, row1 cInt_len q3, row1_le cInt_len q3, cInt]
      (first | refine CallsA.use (hSh) ?_ | refine QuietCalls.use (hSh) ?_)
      simp (implicitDefEqProofs := false) (dsimp := false) only [go_sem, hi4, hself, row1 cInt_len q4, row1_le cInt_len q4, cInt]
      exact ⟨i + 1, ⟨by omega, wrap_succ (by omega)⟩, by omega⟩
    · have hi4 : ((i : Int) < 4) = False := eq_false (by omega)
      simp (implicitDefEqProofs := false) (dsimp := false) only [go_sem, a11, a12, a13, a14, a15, hi4, decide_false]
      (first | refine CallsA.use (leatherB_ok) ?_ | refine QuietCalls.use (leatherB_ok) ?_)
      simp (implicitDefEqProofs := false) (dsimp := false) only [go_sem]
      (first | refine CallsA.use (Lays_leather) ?_ | refine QuietCalls.use (Lays_leather) ?_)
      simp (implicitDefEqProofs := false) (dsimp := false) only [go_sem]
      (first | refine CallsA.use (leatherB_ok) ?_ | refine QuietCalls.use (leatherB_ok) ?_)
      simp (implicitDefEqProofs := false) (dsimp := false) only [go_sem]
      (first | refine CallsA.use (Pages_leather) ?_ | refine QuietCalls.use (Pages_leather) ?_)
      simp (implicitDefEqProofs := false) (dsimp := false) only [go_sem]
      (first | refine CallsA.use (openB_ok) ?_ | refine QuietCalls.use (openB_ok) ?_)
      simp (implicitDefEqProofs := false) (dsimp := false) only [go_sem]
      (first | refine CallsA.use (Pages_open) ?_ | refine QuietCalls.use (Pages_open) ?_)
      simp (implicitDefEqProofs := false) (dsimp := false) only [go_sem]
      (first | refine CallsA.use (leatherB_ok) ?_ | refine QuietCalls.use (leatherB_ok) ?_)
      simp (implicitDefEqProofs := false) (dsimp := false) only [go_sem]
      (first | refine CallsA.use (Verdict_l0) ?_ | refine QuietCalls.use (Verdict_l0) ?_)
      simp (implicitDefEqProofs := false) (dsimp := false) only [go_sem]
      (first | refine CallsA.use (leatherB_ok) ?_ | refine QuietCalls.use (leatherB_ok) ?_)
      simp (implicitDefEqProofs := false) (dsimp := false) only [go_sem]
      (first | refine CallsA.use (Verdict_l1) ?_ | refine QuietCalls.use (Verdict_l1) ?_)
      simp (implicitDefEqProofs := false) (dsimp := false) only [go_sem]
      (first | refine CallsA.use (openB_ok) ?_ | refine QuietCalls.use (openB_ok) ?_)
      simp (implicitDefEqProofs := false) (dsimp := false) only [go_sem]
      (first | refine CallsA.use (Verdict_o1) ?_ | refine QuietCalls.use (Verdict_o1) ?_)
      simp (implicitDefEqProofs := false) (dsimp := false) only [go_sem]
      (first | refine CallsA.use (lay_lit 0 0 0) ?_ | refine QuietCalls.use (lay_lit 0 0 0) ?_)
      simp (implicitDefEqProofs := false) (dsimp := false) only [go_sem]
      (first | refine CallsA.use (eqLays_one) ?_ | refine QuietCalls.use (eqLays_one) ?_)
      simp (implicitDefEqProofs := false) (dsimp := false) only [go_sem]
      (first | refine CallsA.use (eqInts_lit [0] (by decide)) ?_ | refine QuietCalls.use (eqInts_lit [0] (by decide)) ?_)
      simp (implicitDefEqProofs := false) (dsimp := false) only [go_sem]
      (first | refine CallsA.use (eqInts_lit [0, 1, 2] (by decide)) ?_ | refine QuietCalls.use (eqInts_lit [0, 1, 2] (by decide)) ?_)
      simp (implicitDefEqProofs := false) (dsimp := false) only [go_sem]
      have hJ0 : ∀ x : Blk, (J ++ [x])[J.length]? = some x := fun x => by simp
      have hJ1 : ∀ x y : Blk, (J ++ [x, y])[J.length]? = some x := fun x y => by simp
      have hJ2 : ∀ x y : Blk, (J ++ [x, y])[J.length + 1]? = some y := fun x y => by rw [List.getElem?_append_right (by omega), Nat.add_sub_cancel_left]; rfl
      have hS0 : ∀ x z : Blk, (J ++ [x]).set J.length z = J ++ [z] := fun x z => by simp
      have hS1 : ∀ x y z : Blk, (J ++ [x, y]).set J.length z = J ++ [z, y] := fun x y z => by simp
      have hS2 : ∀ x y z : Blk, (J ++ [x, y]).set (J.length + 1) z = J ++ [x, z] := fun x y z => by rw [List.set_append_right _ _ (by omega), Nat.add_sub_cancel_left]; rfl
      (first | refine CallsA.use (leatherB_ok) ?_ | refine QuietCalls.use (leatherB_ok) ?_)
      simp (implicitDefEqProofs := false) (dsimp := false) only [go_sem]
      (first | refine CallsA.use (lay_lit 1 0 0) ?_ | refine QuietCalls.use (lay_lit 1 0 0) ?_)
      simp (implicitDefEqProofs := false) (dsimp := false) only [go_sem]
      (first | refine CallsA.use (Misfits_l1) ?_ | refine QuietCalls.use (Misfits_l1) ?_)
      simp (implicitDefEqProofs := false) (dsimp := false) only [go_sem]
      (first | refine CallsA.use (leatherB_ok) ?_ | refine QuietCalls.use (leatherB_ok) ?_)
      simp (implicitDefEqProofs := false) (dsimp := false) only [go_sem]
      (first | refine CallsA.use (lay_lit 0 0 0) ?_ | refine QuietCalls.use (lay_lit 0 0 0) ?_)
      simp (implicitDefEqProofs := false) (dsimp := false) only [go_sem]
      (first | refine CallsA.use (Misfits_l0) ?_ | refine QuietCalls.use (Misfits_l0) ?_)
      simp (implicitDefEqProofs := false) (dsimp := false) only [go_sem]
      (first | refine CallsA.use (leatherB_ok) ?_ | refine QuietCalls.use (leatherB_ok) ?_)
      simp (implicitDefEqProofs := false) (dsimp := false) only [go_sem]
      (first | refine CallsA.use (Nearest_l) ?_ | refine QuietCalls.use (Nearest_l) ?_)
      simp (implicitDefEqProofs := false) (dsimp := false) only [go_sem, hJ0, hJ1, hJ2, hS0, hS1, hS2]
      (first | refine CallsA.use (extraB_ok) ?_ | refine QuietCalls.use (extraB_ok) ?_)
      simp (implicitDefEqProofs := false) (dsimp := false) only [go_sem]
      (first | refine CallsA.use (Nearest_e) ?_ | refine QuietCalls.use (Nearest_e) ?_)
      simp (implicitDefEqProofs := false) (dsimp := false) only [go_sem, hJ0, hJ1, hJ2, hS0, hS1, hS2, eqLay, eqGuardL, eq_self, decide_true]
      (first | refine CallsA.use (lay_lit 0 0 0) ?_ | refine QuietCalls.use (lay_lit 0 0 0) ?_)
      simp (implicitDefEqProofs := false) (dsimp := false) only [go_sem, hJ0, hJ1, hJ2, hS0, hS1, hS2, eqLay, eqGuardL, eq_self, decide_true]
      (first | refine CallsA.use (lay_lit 0 0 0) ?_ | refine QuietCalls.use (lay_lit 0 0 0) ?_)
      simp (implicitDefEqProofs := false) (dsimp := false) only [go_sem, hJ0, hJ1, hJ2, hS0, hS1, hS2, eqLay, eqGuardL, eq_self, decide_true]
      (first | refine CallsA.use (eqLists_two) ?_ | refine QuietCalls.use (eqLists_two) ?_)
      simp (implicitDefEqProofs := false) (dsimp := false) only [go_sem, hJ0, hJ1, hJ2, hS0, hS1, hS2]
      (first | refine CallsA.use (extraB_ok) ?_ | refine QuietCalls.use (extraB_ok) ?_)
      simp (implicitDefEqProofs := false) (dsimp := false) only [go_sem]
      (first | refine CallsA.use (Emend_e1) ?_ | refine QuietCalls.use (Emend_e1) ?_)
      simp (implicitDefEqProofs := false) (dsimp := false) only [go_sem, hJ0, hJ1, hJ2, hS0, hS1, hS2]
      (first | refine CallsA.use (extraB_ok) ?_ | refine QuietCalls.use (extraB_ok) ?_)
      simp (implicitDefEqProofs := false) (dsimp := false) only [go_sem]
      (first | refine CallsA.use (Emend_e2) ?_ | refine QuietCalls.use (Emend_e2) ?_)
      simp (implicitDefEqProofs := false) (dsimp := false) only [go_sem]
      (first | refine CallsA.use (leatherB_ok) ?_ | refine QuietCalls.use (leatherB_ok) ?_)
      simp (implicitDefEqProofs := false) (dsimp := false) only [go_sem]
      refine QuietAt.use (Double_l _ (role_left hro)) ?_
      simp (implicitDefEqProofs := false) (dsimp := false) only [go_sem, hJ0, hJ1, hJ2, hS0, hS1, hS2, eqLay, eqGuardL]
      (first | refine CallsA.use (lay_lit 1 0 0) ?_ | refine QuietCalls.use (lay_lit 1 0 0) ?_)
      simp (implicitDefEqProofs := false) (dsimp := false) only [go_sem, hJ0, hJ1, hJ2, hS0, hS1, hS2, eqLay, eqGuardL, eq_self, decide_true]
      (first | refine CallsA.use (eqStrings_two) ?_ | refine QuietCalls.use (eqStrings_two) ?_)
      simp (implicitDefEqProofs := false) (dsimp := false) only [go_sem]
      (first | refine CallsA.use (leatherB_ok) ?_ | refine QuietCalls.use (leatherB_ok) ?_)
      simp (implicitDefEqProofs := false) (dsimp := false) only [go_sem]
      refine QuietAt.use (Explain_l _ (role_left hro)) ?_
      simp (implicitDefEqProofs := false) (dsimp := false) only [go_sem]
      (first | refine CallsA.use (extraB_ok) ?_ | refine QuietCalls.use (extraB_ok) ?_)
      simp (implicitDefEqProofs := false) (dsimp := false) only [go_sem]
      refine QuietAt.use (Explain_e _ (role_left hro)) ?_
      simp (implicitDefEqProofs := false) (dsimp := false) only [go_sem]
      (first | refine CallsA.use (blankB_ok) ?_ | refine QuietCalls.use (blankB_ok) ?_)
      simp (implicitDefEqProofs := false) (dsimp := false) only [go_sem]
      refine QuietAt.use (Explain_b _ (role_left hro)) ?_
      simp (implicitDefEqProofs := false) (dsimp := false) only [go_sem]
      (first | refine CallsA.use (eqInts_lit [0] (by decide)) ?_ | refine QuietCalls.use (eqInts_lit [0] (by decide)) ?_)
      simp (implicitDefEqProofs := false) (dsimp := false) only [go_sem]
      (first | refine CallsA.use (eqInts_lit [0, 0] (by decide)) ?_ | refine QuietCalls.use (eqInts_lit [0, 0] (by decide)) ?_)
      simp (implicitDefEqProofs := false) (dsimp := false) only [go_sem]
      (first | refine CallsA.use (openB_ok) ?_ | refine QuietCalls.use (openB_ok) ?_)
      simp (implicitDefEqProofs := false) (dsimp := false) only [go_sem]
      (first | refine CallsA.use (Strokes_o0) ?_ | refine QuietCalls.use (Strokes_o0) ?_)
      simp (implicitDefEqProofs := false) (dsimp := false) only [go_sem]
      (first | refine CallsA.use (openB_ok) ?_ | refine QuietCalls.use (openB_ok) ?_)
      simp (implicitDefEqProofs := false) (dsimp := false) only [go_sem]
      (first | refine CallsA.use (Strokes_o1) ?_ | refine QuietCalls.use (Strokes_o1) ?_)
      simp (implicitDefEqProofs := false) (dsimp := false) only [go_sem]
      (first | refine CallsA.use (extraB_ok) ?_ | refine QuietCalls.use (extraB_ok) ?_)
      simp (implicitDefEqProofs := false) (dsimp := false) only [go_sem]
      (first | refine CallsA.use (Strokes_e) ?_ | refine QuietCalls.use (Strokes_e) ?_)
      simp (implicitDefEqProofs := false) (dsimp := false) only [go_sem]
      (first | refine CallsA.use (leatherB_ok) ?_ | refine QuietCalls.use (leatherB_ok) ?_)
      simp (implicitDefEqProofs := false) (dsimp := false) only [go_sem]
      (first | refine CallsA.use (Next_l) ?_ | refine QuietCalls.use (Next_l) ?_)
      simp (implicitDefEqProofs := false) (dsimp := false) only [go_sem]
      exact quiet_fine hB rfl
end Go.Mac


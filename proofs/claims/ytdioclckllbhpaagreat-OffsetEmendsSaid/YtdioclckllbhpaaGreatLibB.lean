/- A part of the logic and of the contracts of the functions that the statement reaches; the statement itself is proved in the last text. -/
import Derived.Test.YtdioclckllbhpaaGreatLibA
import Derived.Test.YtdioclckllbhpaaGreatLibMacRX

set_option linter.all false
set_option linter.unusedVariables false
set_option linter.unusedSimpArgs false
set_option linter.unnecessarySimpa false
namespace Go.Mac
open Go Go.Conc Go.Proofs
set_option maxRecDepth 4000
def gkey (g : Glyph) : Nat := (g.name.headD 0).toNat
def mapB (gs : List Glyph) : List (Int × Int) := (45, 0) :: gs.map fun g => ((gkey g : Int), g.strokes)
def pagesErr (m : List (Int × Int)) : List (List (List UInt8)) → Int
  | [] => 0
  | p :: l => if pageErr m p ≠ 0 then pageErr m p else pagesErr m l
def boardErr (b : Board) : Int :=
  if glyphsErr b.glyphs ≠ 0 then glyphsErr b.glyphs
  else if sizedB b.pages.length 4 ≠ 0 then sizedB b.pages.length 4
  else if pagesErr (mapB b.glyphs) b.pages ≠ 0 then pagesErr (mapB b.glyphs) b.pages
  else cellsErr b.cells
structure okGlyphs (gs : List Glyph) : Prop where
  pos : 0 < gs.length
  most : gs.length ≤ 6
  one : ∀ g ∈ gs, g.name.length = 1 ∧ 97 ≤ gkey g ∧ gkey g ≤ 122 ∧ 1 ≤ g.strokes ∧ g.strokes ≤ 63
  pair : gs.Pairwise fun x g => gkey x < gkey g ∧ x.strokes ≠ g.strokes
theorem one_name {g : Glyph} (h : g.name.length = 1) : ∃ c : UInt8, g.name = [c] ∧ gkey g = c.toNat := by
  match hn : g.name, h with
  | [c], _ => exact ⟨c, rfl, by simp [gkey, hn]⟩
theorem less_one (a b : UInt8) : Op.bytesLess [a] [b] = decide (a < b) := by simp [Op.bytesLess]
theorem gli_ok : ∀ {l before : List Glyph}, gliErr before l = 0 → (∀ x ∈ before, x.name.length = 1 ∧ gkey x ≤ gkey (before.getLastD ⟨[], 0⟩)) →
    (∀ g ∈ l, g.name.length = 1 ∧ 97 ≤ gkey g ∧ gkey g ≤ 122 ∧ 1 ≤ g.strokes ∧ g.strokes ≤ 63) ∧ (∀ x ∈ before, ∀ g ∈ l, gkey x < gkey g ∧ x.strokes ≠ g.strokes) ∧ l.Pairwise fun x g => gkey x < gkey g ∧ x.strokes ≠ g.strokes
  | [], before, _, _ => ⟨by simp, by simp, .nil⟩
  | g :: l, before, h, hb => by
    rw [gliErr] at h
    by_cases c1 : g.name.length ≠ 1 ∨ Op.bytesLess g.name [97] = true ∨ (Op.bytesLess g.name [122] || g.name == [122]) = false
    · rw [if_pos c1] at h; cases h
    rw [if_neg c1] at h
    by_cases c2 : before ≠ [] ∧ (Op.bytesLess g.name (lastName before) || g.name == lastName before) = true
    · rw [if_pos c2] at h; cases h
    rw [if_neg c2] at h
    by_cases c3 : g.strokes < 1 ∨ 63 < g.strokes
    · rw [if_pos c3] at h; cases h
    rw [if_neg c3] at h
    by_cases c4 : (before.any fun x => x.strokes == g.strokes) = true
    · rw [if_pos c4] at h; cases h
    rw [if_neg c4] at h
    have h1 : g.name.length = 1 := Classical.byContradiction fun e => c1 (.inl e)
    obtain ⟨c, hc, hk⟩ := one_name h1
    rw [hc, less_one, less_one] at c1
    have k97 : 97 ≤ gkey g := by
      rw [hk]
      have : ¬ c < 97 := fun e => c1 (.inr (.inl (by simp [e])))
      rw [UInt8.lt_iff_toNat_lt] at this
      simpa using this
    have k122 : gkey g ≤ 122 := by
      rw [hk]
      have : ¬ (decide (c < 122) || [c] == [122]) = false := fun e => c1 (.inr (.inr e))
      simp only [Bool.or_eq_false_iff, not_and, Bool.not_eq_false, decide_eq_false_iff_not] at this
      by_cases e : c < 122
      · rw [UInt8.lt_iff_toNat_lt] at e
        have : (122 : UInt8).toNat = 122 := rfl
        omega
      · have := this e
        simp at this
        subst this
        decide
    have kb : ∀ x ∈ before, gkey x < gkey g ∧ x.strokes ≠ g.strokes := by
      intro x hx
      obtain ⟨x1, x2⟩ := hb x hx
      refine ⟨?_, fun e => c4 (List.any_eq_true.2 ⟨x, hx, by simp [e]⟩)⟩
      have hne : before ≠ [] := by intro e; rw [e] at hx; cases hx
      have hl : before.getLastD ⟨[], 0⟩ ∈ before := by
        rw [List.getLastD_eq_getLast?, List.getLast?_eq_some_getLast hne]; exact List.getLast_mem hne
      obtain ⟨d, hd, hdk⟩ := one_name (hb _ hl).1
      have c2' : ¬ (Op.bytesLess g.name (lastName before) || g.name == lastName before) = true := fun e => c2 ⟨hne, e⟩
      rw [lastName, hd, hc, less_one] at c2'
      simp only [Bool.or_eq_true, decide_eq_true_eq, beq_iff_eq, List.cons.injEq, and_true, not_or] at c2'
      have : d < c := by
        rw [UInt8.lt_iff_toNat_lt, ← UInt8.toNat_inj] at *
        omega
      rw [UInt8.lt_iff_toNat_lt] at this
      omega
    have hb' : ∀ x ∈ before ++ [g], x.name.length = 1 ∧ gkey x ≤ gkey ((before ++ [g]).getLastD ⟨[], 0⟩) := by
      intro x hx
      rw [List.getLastD_concat]
      rcases List.mem_append.1 hx with hx | hx
      · exact ⟨(hb x hx).1, by have := (kb x hx).1; omega⟩
      · rw [List.mem_singleton.1 hx]; exact ⟨h1, Nat.le_refl _⟩
    obtain ⟨q1, q2, q3⟩ := gli_ok h hb'
    refine ⟨?_, ?_, ?_⟩
    · intro x hx
      rcases List.mem_cons.1 hx with rfl | hx
      · exact ⟨h1, k97, k122, by omega, by omega⟩
      · exact q1 x hx
    · intro x hx y hy
      rcases List.mem_cons.1 hy with rfl | hy
      · exact kb x hx
      · exact q2 x (List.mem_append_left _ hx) y hy
    · exact List.pairwise_cons.2 ⟨fun y hy => q2 g (by simp) y hy, q3⟩
theorem okGlyphs.of {gs : List Glyph} (h : glyphsErr gs = 0) : okGlyphs gs := by
  unfold glyphsErr at h
  by_cases c1 : gs.length = 0
  · rw [if_pos c1] at h; cases h
  rw [if_neg c1] at h
  by_cases c2 : 6 < gs.length
  · rw [if_pos c2] at h; cases h
  rw [if_neg c2] at h
  obtain ⟨q1, _, q3⟩ := gli_ok h (by simp)
  exact ⟨by omega, by omega, q1, q3⟩
theorem mapB_low {gs : List Glyph} (h : okGlyphs gs) : lowKeys (mapB gs) := by
  intro p hp
  rcases List.mem_cons.1 hp with rfl | hp
  · decide
  · obtain ⟨g, hg, rfl⟩ := List.mem_map.1 hp
    have := h.one g hg
    simp only; omega
theorem mapB_take {gs : List Glyph} {i : Nat} (hi : i < gs.length) : mapB (gs.take (i + 1)) = mapB (gs.take i) ++ [((gkey gs[i] : Int), gs[i].strokes)] := by
  unfold mapB
  rw [List.take_add_one, List.getElem?_eq_getElem hi]
  simp only [Option.toList_some, List.map_append, List.map_cons, List.map_nil, List.cons_append]
theorem mapB_new {gs : List Glyph} (h : okGlyphs gs) {i : Nat} (hi : i < gs.length) : hasB (mapB (gs.take i)) (gkey gs[i]) = false := by
  have h0 := h.one _ (List.getElem_mem hi)
  unfold hasB mapB
  rw [List.any_eq_false]
  intro p hp
  rcases List.mem_cons.1 hp with rfl | hp
  · simp; omega
  · obtain ⟨g, hg, rfl⟩ := List.mem_map.1 hp
    obtain ⟨j, hj, rfl⟩ := List.mem_take_iff_getElem.1 hg
    have := (List.pairwise_iff_getElem.1 h.pair) j i (by omega) hi (by omega)
    simp; omega
theorem findA_none {m : List (Int × Int)} {c : Int} (h : hasB m c = false) : findA Tryz.prog 21 (.int .i32 c) (m.map fun p => .int .i32 p.1) 0 = some none := by
  rw [findA_int (g := fun p : Int × Int => p.1) ty21 rfl]
  have : m.findIdx? (fun p => c == p.1) = none := by
    rw [List.findIdx?_eq_none_iff]
    intro x hx
    unfold hasB at h
    rw [List.any_eq_false] at h
    simpa using h x hx
  rw [this]; rfl
theorem upd92 {m : List (Int × Int)} {c v : Int} {h : List Blk} {n : Nat} (hn : h[n]? = some (.map (m.map fun p => .int .i32 p.1) (m.map fun p => .int .i64 p.2))) (hm : hasB m c = false) :
    mapUpdateE Tryz.prog 89 (.map ⟨n, 0⟩) (.int .i32 c) (.int .i64 v) h = some (True, .tup [], h.set n (.map ((m ++ [(c, v)]).map fun p => .int .i32 p.1) ((m ++ [(c, v)]).map fun p => .int .i64 p.2))) := by
  simp only [mapUpdateE, ty89, ty21, hn, findA_none hm, eqA_int (n := 5) ty21 rfl, beq_self_eq_true, and_self, List.map_append, List.map_cons, List.map_nil]
theorem fits_fault : zeroFits Tryz.prog 160 = true := by kernel_rfl
theorem faultRec_none (n : Nat) (h : List Blk) (Post : List Blk → Prop) (hp : Post h) : RecA Tryz.prog 105 [.ptr ⟨n, 0⟩ 0] h none Post := by
  refine RecA.of_wp {} 10 mixed Tryz.func105 (by kernel_rfl) rfl rfl rfl rfl rfl (by kernel_rfl) fun j hB => ?_
  simp only [junk_succ, junk_zero, List.cons_append, List.nil_append, List.length_cons, List.length_nil, Nat.reduceAdd]
  simp (implicitDefEqProofs := false) (dsimp := false) only [go_sem, List.take_left, fits_fault]
  exact ⟨hB, hp⟩
theorem faultRec_some (n : Nat) (h : List Blk) (Post : List Blk → Prop) (e a : Int) (hn : h[n]? = some (.cells 0 [.int .i64 a])) (hp : Post (h.set n (.cells 0 [.int .i64 e]))) : RecA Tryz.prog 105 [.ptr ⟨n, 0⟩ 0] h (some (faultA e)) Post := by
  have hlt : n < h.length := (List.getElem?_eq_some_iff.1 hn).1
  refine RecA.of_wp {} 10 mixed Tryz.func105 (by kernel_rfl) rfl rfl rfl rfl rfl (by kernel_rfl) fun j hB => ?_
  simp only [junk_succ, junk_zero, List.cons_append, List.nil_append, List.length_cons, List.length_nil, Nat.reduceAdd]
  have hn2 : ∀ k, (h ++ k)[n]? = some (.cells 0 [.int .i64 a]) := fun k => by rw [List.getElem?_append_left hlt]; exact hn
  have hs2 : ∀ k b, (h ++ k).set n b = h.set n b ++ k := fun k b => by rw [List.set_append_left _ _ hlt]
  have hl2 : (h.set n (.cells 0 [.int .i64 e])).length = h.length := List.length_set
  simp (implicitDefEqProofs := false) (dsimp := false) only [go_sem, hn2, hs2, fits_fault]
  rw [List.take_left' hl2]
  refine ⟨?_, hp⟩
  rw [List.all_eq_true] at *
  intro b hb
  rcases List.mem_or_eq_of_mem_set hb with hb | rfl
  · exact hB b hb
  · rfl
theorem call_open1 : callable Tryz.prog 105 := ⟨_, Tryz.func105, rfl, rfl⟩
theorem upd92_first {c v : Int} {h : List Blk} {n : Nat} (hn : h[n]? = some (.map [] [])) : mapUpdateE Tryz.prog 89 (.map ⟨n, 0⟩) (.int .i32 c) (.int .i64 v) h = some (True, .tup [], h.set n (.map [.int .i32 c] [.int .i64 v])) := upd92 (m := []) hn rfl
def OpenP (b : Board) (h : List Blk) (e : AEnd) (h' : List Blk) : Prop :=
  h' = h ∧ ((boardErr b = 0 ∧ e = .ret (.tup [.agg (bdA b (mapB b.glyphs)), .int .i64 0])) ∨ (boardErr b ≠ 0 ∧ ∃ x y z t, [x, y, z, t].all leafA = true ∧ e = .ret (.tup [.agg [x, y, z, t], .int .i64 (boardErr b)])))
theorem open_bad {b : Board} {h k : List Blk} {x y z t : AV} {e : Int} (hb : h.all (belowBlk h.length) = true) (h0 : e ≠ 0) (he : e = boardErr b) (hx : belowL 0 [x, y, z, t] = true) (hf : [x, y, z, t].all leafA = true) : ∃ v n, AV.tup [.agg [x, y, z, t], .int .i64 e] = v ∧ h.length ≤ n ∧ below n v = true ∧ ((h ++ k).take n).all (belowBlk n) = true ∧ OpenP b h (.ret v) ((h ++ k).take n) := by
  refine ⟨_, h.length, rfl, Nat.le_refl _, ?_, ?_, ?_, .inr ⟨by rw [← he]; exact h0, x, y, z, t, hf, by rw [he]⟩⟩
  · have := belowL_mono (Nat.zero_le h.length) _ hx
    simpa [below, belowL] using this
  · rw [List.take_left]; exact hb
  · rw [List.take_left]
theorem open_good {b : Board} {h k : List Blk} (hb : h.all (belowBlk h.length) = true) (he : boardErr b = 0) : ∃ v n, AV.tup [.agg (bdA b (mapB b.glyphs)), .int .i64 0] = v ∧ h.length ≤ n ∧ below n v = true ∧ ((h ++ k).take n).all (belowBlk n) = true ∧ OpenP b h (.ret v) ((h ++ k).take n) := by
  refine ⟨_, h.length, rfl, Nat.le_refl _, ?_, ?_, ?_, .inl ⟨he, rfl⟩⟩
  · have := belowL_mono (Nat.zero_le h.length) _ (bdA_below b (mapB b.glyphs))
    simp only [below, belowL, this, Bool.and_self]
  · rw [List.take_left]; exact hb
  · rw [List.take_left]
theorem slices_below (b : Board) : belowL 0 [sliceOf cGlyph b.glyphs, sliceOf cPage b.pages, sliceOf cTraces b.cells] = true := by
  have := bdA_below b []
  simp only [bdA, belowL, Bool.and_eq_true] at this ⊢
  exact ⟨this.1, this.2.1, this.2.2.1, trivial⟩
theorem cPage_len1 (p : List (List (List UInt8))) : (p.flatMap cPage).length = p.length := rows_length (fun _ => rfl) p
theorem open_ok (b : Board) (h : List Blk) : CallsA Tryz.prog 58 [.agg (brdA b)] h (OpenP b h) := by
  refine CallsA.of_wpr 105 [.ptr ⟨h.length + 2, 0⟩ 0] { shut := [11], hand := [9], tail := [(7, 8)] } 54 call_open1 mixed Tryz.func58 (by kernel_rfl) rfl (by kernel_rfl) fun j hB hA => ?_
  simp only [junk_succ, junk_zero, List.cons_append, List.nil_append, List.length_cons, List.length_nil, Nat.reduceAdd]
  simp (implicitDefEqProofs := false) (dsimp := false) only [go_sem, brdA]
  refine WP.region_splitN (so := { shut := [11], tail := [(7, 8)] }) 1 [1] rfl (by decide) ?_
  simp (implicitDefEqProofs := false) (dsimp := false) only [go_sem]
  refine WPI.deferN rfl rfl rfl rfl rfl rfl ?_
  simp (implicitDefEqProofs := false) (dsimp := false) only [go_sem]
  (first | refine CallsA.use (lightCheck_ok b.glyphs) ?_ | refine QuietCalls.use (lightCheck_ok b.glyphs) ?_)
  simp (implicitDefEqProofs := false) (dsimp := false) only [go_sem]
  refine FaultC.use (must_ok _) (fun e1 k => ?_) (fun e0 => ?_)
  · simp (implicitDefEqProofs := false) (dsimp := false) only [go_sem]
    refine faultRec_some _ _ _ _ 0 (by rw [hget]; rfl) ?_
    simp (implicitDefEqProofs := false) (dsimp := false) only [go_sem]
    exact open_bad hB e1 (by rw [boardErr, if_pos e1]) rfl rfl
  have ok := okGlyphs.of e0
  simp (implicitDefEqProofs := false) (dsimp := false) only [go_sem, upd92_first]
  refine WP.loopI (fun (i : Nat) s => (i ≤ b.glyphs.length) ∧ s.sl.length = 55 ∧ s.df = [.call (.func 105) [.ptr ⟨h.length + 2, 0⟩ 0] []] ∧ s.gh = {} ∧ (∃ k, s.hp = h ++ .cells 0 (brdA b) :: .cells 0 [sliceOf cGlyph b.glyphs, sliceOf cPage b.pages, sliceOf cTraces b.cells, .map ⟨h.length + 3, 0⟩] :: .cells 0 [.int .i64 0] :: .map ((mapB (b.glyphs.take i)).map fun p => .int .i32 p.1) ((mapB (b.glyphs.take i)).map fun p => .int .i64 p.2) :: k) ∧ evA s.sl (.tmp 1) = .ptr ⟨h.length, 0⟩ 0 ∧ evA s.sl (.tmp 2) = .ptr ⟨h.length + 1, 0⟩ 0 ∧ evA s.sl (.tmp 3) = .ptr ⟨h.length + 2, 0⟩ 0 ∧ evA s.sl (.tmp 20) = sliceOf cGlyph b.glyphs ∧ evA s.sl (.tmp 21) = .int .i64 b.glyphs.length ∧ evA s.sl (.tmp 22) = .int .i64 i) (fun (i : Nat) => b.glyphs.length - i) (0) ?_ ?_
  · simp (implicitDefEqProofs := false) (dsimp := false) only [go_sem, brdA, Nat.zero_le]
    exact ⟨_, rfl, rfl⟩
  · rintro i ⟨sl, df, hp, gh⟩ ⟨ab, al, rfl, rfl, ah, a1, a2, a3, a20, a21, a22⟩
    simp only at ab al ah a1 a2 a3 a20 a21 a22
    obtain ⟨j, rfl⟩ := slots_lit al; clear al; simp only [junk_succ, junk_zero, evA_tmp, nth_16, nth_four, nth_one, nth_zero, Nat.zero_add, Nat.reduceAdd] at  a1 a2 a3 a20 a21 a22 ⊢
    refine wp_ok (so := { shut := [11], hand := [9], tail := [(7, 8)] }) mixed _ (by kernel_rfl) ?_
    obtain ⟨k, rfl⟩ := ah
    by_cases hi : i < b.glyphs.length
    · have u : ∀ {h : List Blk} {n : Nat}, h[n]? = some (.map ((mapB (b.glyphs.take i)).map fun p => .int .i32 p.1) ((mapB (b.glyphs.take i)).map fun p => .int .i64 p.2)) → mapUpdateE Tryz.prog 89 (.map ⟨n, 0⟩) (.int .i32 (gkey b.glyphs[i])) (.int .i64 b.glyphs[i].strokes) h = some (True, .tup [], h.set n (.map ((mapB (b.glyphs.take (i + 1))).map fun p => .int .i32 p.1) ((mapB (b.glyphs.take (i + 1))).map fun p => .int .i64 p.2))) := fun hn => by
        rw [mapB_take hi]; exact upd92 hn (mapB_new ok hi)
      obtain ⟨c, hc, hk⟩ := one_name (ok.one _ (List.getElem_mem hi)).1
      rw [hk] at u
      simp (implicitDefEqProofs := false) (dsimp := false) only [go_sem, a1, a2, a3, a20, a21, a22, brdA, nat_lt hi, decide_true, rowN cGlyph_len hi, rowN_le cGlyph_len hi, hi, cGlyph, hc, wrap_byte, u]
      exact ⟨i + 1, ⟨by omega, ⟨_, rfl, rfl⟩, wrap_succ (by have := ok.most; omega)⟩, by omega⟩
    · have hs : ((i : Int) < (b.glyphs.length : Int)) = False := eq_false (by omega)
      simp (implicitDefEqProofs := false) (dsimp := false) only [go_sem, a1, a2, a3, a20, a21, a22, brdA, hs, decide_false]
      have ei : i = b.glyphs.length := by omega
      subst ei
      rw [List.take_length]
      refine WPI.turn (Turns.seal_cell (i := h.length + 1) (g := 0) (j := 3) (a := .map ⟨h.length + 3, 0⟩) (a' := .pmap ((mapB b.glyphs).map fun p => .int .i32 p.1) ((mapB b.glyphs).map fun p => .int .i64 p.2)) (by rw [hget]; rfl) rfl (by simp only [sealV]; rw [hget]; rfl) (by simp [nmOf])) ?_
      simp only [nmOf, hset, List.set_cons_succ, List.set_cons_zero]
      refine wp_shut [] (so := { shut := [11], tail := [(7, 8)] }) mixed _ (by kernel_rfl) ?_
      simp (implicitDefEqProofs := false) (dsimp := false) only [go_sem]
      (first | refine CallsA.use (sized_ok _ _) ?_ | refine QuietCalls.use (sized_ok _ _) ?_)
      simp (implicitDefEqProofs := false) (dsimp := false) only [go_sem]
      have hbad : ∀ {k : List Blk} {e : Int}, e ≠ 0 → e = boardErr b → ∃ v n, AV.tup [.agg (bdA b (mapB b.glyphs)), .int .i64 e] = v ∧ h.length ≤ n ∧ below n v = true ∧ ((h ++ k).take n).all (belowBlk n) = true ∧ OpenP b h (.ret v) ((h ++ k).take n) := fun h0 he => open_bad hB h0 he (bdA_below b _) rfl
      refine FaultC.use (must_ok _) (fun e1 k2 => ?_) (fun e1 => ?_)
      · simp (implicitDefEqProofs := false) (dsimp := false) only [go_sem]
        refine faultRec_some _ _ _ _ 0 (by rw [hget]; rfl) ?_
        simp (implicitDefEqProofs := false) (dsimp := false) only [go_sem]
        exact hbad e1 (by rw [boardErr, if_neg (by simp [e0]), if_pos e1])
      have p4 := sizedB_zero e1
      simp (implicitDefEqProofs := false) (dsimp := false) only [go_sem]
      refine WP.loopI (fun (x : Nat) s => (x ≤ b.pages.length ∧ pagesErr (mapB b.glyphs) (b.pages.drop x) = pagesErr (mapB b.glyphs) b.pages) ∧ s.sl.length = 55 ∧ s.df = [.call (.func 105) [.ptr ⟨h.length + 2, 0⟩ 0] []] ∧ s.gh = {} ∧ (s.hp = h ++ .cells 0 (brdA b) :: .cells 0 (bdA b (mapB b.glyphs)) :: .cells 0 [.int .i64 0] :: .dead :: k) ∧ evA s.sl (.tmp 1) = .ptr ⟨h.length, 0⟩ 0 ∧ evA s.sl (.tmp 2) = .ptr ⟨h.length + 1, 0⟩ 0 ∧ evA s.sl (.tmp 3) = .ptr ⟨h.length + 2, 0⟩ 0 ∧ evA s.sl (.tmp 41) = sliceOf cPage b.pages ∧ evA s.sl (.tmp 42) = .int .i64 b.pages.length ∧ evA s.sl (.tmp 43) = .int .i64 x) (fun (x : Nat) => b.pages.length - x) (0) ?_ ?_
      · simp (implicitDefEqProofs := false) (dsimp := false) only [go_sem, brdA, bdA, Nat.zero_le]
      · rintro x ⟨sl, df, hp, gh⟩ ⟨cb, cl, rfl, rfl, rfl, c1, c2, c3, c41, c42, c43⟩
        simp only at cb cl c1 c2 c3 c41 c42 c43
        obtain ⟨j, rfl⟩ := slots_lit cl; clear cl; simp only [junk_succ, junk_zero, evA_tmp, nth_16, nth_four, nth_one, nth_zero, Nat.zero_add, Nat.reduceAdd] at  c1 c2 c3 c41 c42 c43 ⊢
        refine wp_shut [] (so := { shut := [11], tail := [(7, 8)] }) mixed _ (by kernel_rfl) ?_
        obtain ⟨cb, cq⟩ := cb
        by_cases hx : x < b.pages.length
        · rw [drop_get hx] at cq
          simp (implicitDefEqProofs := false) (dsimp := false) only [go_sem, c1, c2, c3, c41, c42, c43, brdA, bdA, nat_lt hx, decide_true, row1 cPage_len hx, row1_le cPage_len hx, hx, cPage]
          refine FaultC.use (checkPage_ok b (mapB b.glyphs) (mapB_low ok) b.pages[x]) (fun f1 k2 => ?_) (fun f0 => ?_)
          · simp (implicitDefEqProofs := false) (dsimp := false) only [go_sem]
            refine faultRec_some _ _ _ _ 0 (by rw [hget]; rfl) ?_
            simp (implicitDefEqProofs := false) (dsimp := false) only [go_sem]
            have e2 : pagesErr (mapB b.glyphs) b.pages = pageErr (mapB b.glyphs) b.pages[x] := by rw [← cq, pagesErr, if_pos f1]
            exact hbad f1 (by rw [boardErr, if_neg (by simp [e0]), if_neg (by simp [e1]), if_pos (by rw [e2]; exact f1), e2])
          · simp (implicitDefEqProofs := false) (dsimp := false) only [go_sem, brdA, bdA]
            refine ⟨x + 1, ⟨⟨by omega, ?_⟩, wrap_succ (by omega)⟩, by omega⟩
            rw [← cq]
            conv => rhs; rw [pagesErr, if_neg (by simp [f0])]
        · have hs : ((x : Int) < (b.pages.length : Int)) = False := eq_false (by omega)
          simp (implicitDefEqProofs := false) (dsimp := false) only [go_sem, c1, c2, c3, c41, c42, c43, brdA, bdA, hs, decide_false]
          rw [List.drop_eq_nil_of_le (by omega)] at cq
          have e2 : pagesErr (mapB b.glyphs) b.pages = 0 := cq.symm
          refine FaultC.use (checkCells_ok b.cells) (fun f1 k2 => ?_) (fun f0 => ?_)
          · simp (implicitDefEqProofs := false) (dsimp := false) only [go_sem]
            refine faultRec_some _ _ _ _ 0 (by rw [hget]; rfl) ?_
            simp (implicitDefEqProofs := false) (dsimp := false) only [go_sem]
            exact hbad f1 (by rw [boardErr, if_neg (by simp [e0]), if_neg (by simp [e1]), if_neg (by simp [e2])])
          · simp (implicitDefEqProofs := false) (dsimp := false) only [go_sem]
            refine faultRec_none _ _ _ ?_
            simp (implicitDefEqProofs := false) (dsimp := false) only [go_sem]
            exact open_good hB (by rw [boardErr, if_neg (by simp [e0]), if_neg (by simp [e1]), if_neg (by simp [e2])]; exact f0)
end Go.Mac
namespace Go.Mac
open Go Go.Conc Go.Proofs
set_option maxRecDepth 4000
def overTo (p q : List Int) (n : Nat) : List Int := (List.range 12).map fun k => if k < n then orK .i64 (p.getD k 0) (q.getD k 0) else p.getD k 0
def overB (p q : List Int) : List Int := overTo p q 12
theorem overTo_len (p q : List Int) (n : Nat) : (overTo p q n).length = 12 := by simp [overTo]
theorem overTo_zero {p q : List Int} (h : p.length = 12) : overTo p q 0 = p := by
  apply List.ext_getElem?
  intro k
  by_cases hk : k < 12
  · simp [overTo, hk, h, List.getD]
  · rw [List.getElem?_eq_none (by rw [overTo_len]; omega), List.getElem?_eq_none (by omega)]
theorem overTo_get {p q : List Int} {n k : Nat} (hk : k < 12) : (overTo p q n).getD k 0 = if k < n then orK .i64 (p.getD k 0) (q.getD k 0) else p.getD k 0 := by
  simp [overTo, List.getD, hk]
theorem overTo_set {p q : List Int} {n : Nat} (hn : n < 12) : (nums12 (overTo p q n)).set n (.int .i64 (orK .i64 (p.getD n 0) (q.getD n 0))) = nums12 (overTo p q (n + 1)) := by
  unfold nums12 overTo
  apply List.ext_getElem?
  intro k
  by_cases hk : k < 12
  · by_cases h : n = k
    · subst h
      simp [List.getElem?_set, hk]
    · simp only [List.getElem?_set, h, if_false, List.getElem?_map, List.getElem?_range hk, Option.map_some]
      by_cases h1 : k < n
      · simp [h1, show k < n + 1 by omega]
      · simp [h1, show ¬ k < n + 1 by omega]
  · rw [List.getElem?_eq_none (by simp; omega), List.getElem?_eq_none (by simp; omega)]
theorem len_eq0 (n : Nat) : ((n : Int) == 0) = (n == 0) := by rw [Bool.eq_iff_iff]; simp
def togetherB (cs : List (List Trace)) (p q : List Int) : Bool := (misB (overB p q) cs).length == 0
theorem together_ok (b : Board) (m : List (Int × Int)) (p q : List Int) (hp : p.length = 12) (hq : q.length = 12) (okc : okCells b.cells) : PureA Tryz.prog 126 [.agg (bdA b m), .agg (nums12 p), .agg (nums12 q)] (.bool (togetherB b.cells p q)) := by
  refine PureA.of_wpp { tail := [(7, 12)] } 32 mixed Tryz.func126 (by kernel_rfl) rfl (by kernel_rfl) (rfl) fun h j hB => ?_
  simp only [junk_succ, junk_zero, List.cons_append, List.nil_append, List.length_cons, List.length_nil, Nat.reduceAdd]
  simp (implicitDefEqProofs := false) (dsimp := false) only [go_sem, bdA]
  refine WP.loopI (fun (r : Nat) s => (r ≤ 3) ∧ s.sl.length = 35 ∧ s.df = [] ∧ s.gh = {} ∧ (s.hp = h ++ [.cells 0 (bdA b m), .cells 0 (nums12 (overTo p q (r * 4))), .cells 0 (nums12 q)]) ∧ evA s.sl (.tmp 3) = .ptr ⟨h.length, 0⟩ 0 ∧ evA s.sl (.tmp 4) = .ptr ⟨h.length + 1, 0⟩ 0 ∧ evA s.sl (.tmp 5) = .ptr ⟨h.length + 2, 0⟩ 0 ∧ evA s.sl (.tmp 9) = .int .i64 r) (fun (r : Nat) => 3 - r) (0) ?_ ?_
  · simp (implicitDefEqProofs := false) (dsimp := false) only [go_sem, bdA, Nat.zero_mul, overTo_zero hp]
  · rintro r ⟨sl, df, hp, gh⟩ ⟨ab, al, rfl, rfl, rfl, a3, a4, a5, a9⟩
    simp only at ab al a3 a4 a5 a9
    obtain ⟨j, rfl⟩ := slots_lit al; clear al; simp only [junk_succ, junk_zero, evA_tmp, nth_16, nth_four, nth_one, nth_zero, Nat.zero_add, Nat.reduceAdd] at  a3 a4 a5 a9 ⊢
    refine wp_ok (so := { tail := [(7, 12)] }) mixed _ (by kernel_rfl) ?_
    by_cases hr : r < 3
    · have hs : ((r : Int) < 3) = True := eq_true (by omega)
      simp (implicitDefEqProofs := false) (dsimp := false) only [go_sem, a3, a4, a5, a9, hs, decide_true]
      refine WP.loopI (fun (x : Nat) s => (x ≤ 4) ∧ s.sl.length = 35 ∧ s.df = [] ∧ s.gh = {} ∧ (s.hp = h ++ [.cells 0 (bdA b m), .cells 0 (nums12 (overTo p q (r * 4 + x))), .cells 0 (nums12 q)]) ∧ evA s.sl (.tmp 3) = .ptr ⟨h.length, 0⟩ 0 ∧ evA s.sl (.tmp 4) = .ptr ⟨h.length + 1, 0⟩ 0 ∧ evA s.sl (.tmp 5) = .ptr ⟨h.length + 2, 0⟩ 0 ∧ evA s.sl (.tmp 9) = .int .i64 r ∧ evA s.sl (.tmp 7) = .int .i64 r ∧ evA s.sl (.tmp 12) = .int .i64 x) (fun (x : Nat) => 4 - x) (0) ?_ ?_
      · simp (implicitDefEqProofs := false) (dsimp := false) only [go_sem, bdA]
      · rintro x ⟨sl, df, hp, gh⟩ ⟨cb, cl, rfl, rfl, rfl, c3, c4, c5, c9, c7, c12⟩
        simp only at cb cl c3 c4 c5 c9 c7 c12
        obtain ⟨j, rfl⟩ := slots_lit cl; clear cl; simp only [junk_succ, junk_zero, evA_tmp, nth_16, nth_four, nth_one, nth_zero, Nat.zero_add, Nat.reduceAdd] at  c3 c4 c5 c9 c7 c12 ⊢
        refine wp_ok (so := { tail := [(7, 12)] }) mixed _ (by kernel_rfl) ?_
        by_cases hx : x < 4
        · have hs2 : ((x : Int) < 4) = True := eq_true (by omega)
          have f1 : (nums12 (overTo p q (r * 4 + x))).drop (r * 4 + x) = .int .i64 (p.getD (r * 4 + x) 0) :: (nums12 (overTo p q (r * 4 + x))).drop (r * 4 + x + 1) := by
            rw [nums12_at (overTo_len _ _ _) (by omega), overTo_get (by omega), if_neg (by omega)]
          have f2 : (nums12 q).drop (r * 4 + x) = .int .i64 (q.getD (r * 4 + x) 0) :: (nums12 q).drop (r * 4 + x + 1) := nums12_at hq (by omega)
          simp (implicitDefEqProofs := false) (dsimp := false) only [go_sem, c3, c4, c5, c9, c7, c12, bdA, hs2, decide_true, f1, f2, hs]
          exact ⟨by rw [nums12_len, overTo_len]; omega, x + 1, ⟨by omega, overTo_set (by omega), wrap_succ (by omega)⟩, by omega⟩
        · have hs2 : ((x : Int) < 4) = False := eq_false (by omega)
          simp (implicitDefEqProofs := false) (dsimp := false) only [go_sem, c3, c4, c5, c9, c7, c12, bdA, hs2, decide_false]
          exact ⟨r + 1, ⟨by omega, by rw [show (r + 1) * 4 = r * 4 + x by omega], wrap_succ (by omega)⟩, by omega⟩
    · have hs : ((r : Int) < 3) = False := eq_false (by omega)
      simp (implicitDefEqProofs := false) (dsimp := false) only [go_sem, a3, a4, a5, a9, bdA, hs, decide_false]
      have e3 : r = 3 := by omega
      subst e3
      refine ⟨by rw [nums12_len, overTo_len]; decide, ?_⟩
      rw [nums_take (overTo_len _ _ _)]
      (first | refine CallsA.use (misfits_ok b m (overB p q) (overTo_len _ _ _) okc) ?_ | refine QuietCalls.use (misfits_ok b m (overB p q) (overTo_len _ _ _) okc) ?_)
      simp (implicitDefEqProofs := false) (dsimp := false) only [go_sem, len_eq0]
      rfl
def allWaysA (b : Board) (m : List (Int × Int)) : AV := .fn (.func 124) [] [.pptr (bdA b m)]
theorem lays_ok (b : Board) (m : List (Int × Int)) : PureA Tryz.prog 90 [.agg (bdA b m)] (allWaysA b m) := by
  refine PureA.of_wpp { hand := [1] } 3 mixed Tryz.func90 (by kernel_rfl) rfl (by kernel_rfl) (by simp only [allWaysA, below, belowL, bdA_below, Bool.and_true]) fun h j hB => ?_
  simp only [junk_succ, junk_zero, List.cons_append, List.nil_append, List.length_cons, List.length_nil, Nat.reduceAdd]
  simp (implicitDefEqProofs := false) (dsimp := false) only [go_sem, bdA]
  refine wp_shut [1] (so := { }) mixed _ (by kernel_rfl) ?_
  simp (implicitDefEqProofs := false) (dsimp := false) only [go_sem]
  simp [allWaysA, bdA, sliceOf]
end Go.Mac
namespace Go.Mac
open Go Go.Conc Go.Proofs
set_option maxRecDepth 4000
def cList (l : List Int) : List AV := [ints l]
@[simp] theorem cList_len (n) : (cList n).length = 1 := rfl
theorem eqStrings_ok (a b : List (List UInt8)) (hla : a.length < 9223372036854775807) (hsa : ∀ s ∈ a, s.length ≤ 4000000000) (hsb : ∀ s ∈ b, s.length ≤ 4000000000) : PureA Tryz.prog 18 [sliceOf cStr a, sliceOf cStr b] (.bool (a == b)) := by
  refine PureA.of_wpp { cut := [13] } 29 mixed Tryz.func18 (by kernel_rfl) rfl (by kernel_rfl) (rfl) fun h j hB => ?_
  simp only [junk_succ, junk_zero, List.cons_append, List.nil_append, List.length_cons, List.length_nil, Nat.reduceAdd]
  simp (implicitDefEqProofs := false) (dsimp := false) only [go_sem]
  refine WP.loopI (fun (x : Nat × Bool) s => x.1 ≤ a.length ∧ (x.2 = true ↔ a.length = b.length ∧ a.take x.1 = b.take x.1) ∧ s.sl.length = 31 ∧ s.df = [] ∧ s.gh = {} ∧ s.hp = h ∧ evA s.sl (.tmp 0) = sliceOf cStr a ∧ evA s.sl (.tmp 1) = sliceOf cStr b ∧ evA s.sl (.tmp 5) = .bool x.2 ∧ evA s.sl (.tmp 6) = .int .i64 x.1) (fun x => a.length - x.1) (0, a.length == b.length) ?_ ?_
  · simp (implicitDefEqProofs := false) (dsimp := false) only [go_sem]
    refine ⟨Nat.zero_le _, ?_⟩
    rw [Bool.eq_iff_iff]; simp; omega
  · rintro ⟨i, q⟩ ⟨sl, df, hp, gh⟩ ⟨h1, hq, h2, rfl, rfl, rfl, h3, h4, h5, h6⟩
    simp only at h1 hq h2 h3 h4 h5 h6
    obtain ⟨j, rfl⟩ := slots_lit h2; clear h2; simp only [junk_succ, junk_zero, evA_tmp, nth_16, nth_four, nth_one, nth_zero, Nat.zero_add, Nat.reduceAdd] at  h3 h4 h5 h6 ⊢
    refine wp_ok (so := { cut := [13] }) mixed _ (by kernel_rfl) ?_
    cases q with
    | false =>
      simp (implicitDefEqProofs := false) (dsimp := false) only [go_sem, h3, h4, h5, h6]
      symm
      rw [beq_eq_false_iff_ne]
      rintro rfl
      simp at hq
    | true =>
      obtain ⟨e1, e2⟩ := hq.1 rfl
      by_cases hi : i < a.length
      · have hib : i < b.length := by omega
        simp (implicitDefEqProofs := false) (dsimp := false) only [go_sem, h3, h4, h5, h6, row1 cStr_len hi, row1 cStr_len hib, row1_le cStr_len hi, row1_le cStr_len hib, cStr, nat_lt hi, nat_lt hib, decide_true, wrap_succ (show i < 9223372036854775807 by omega)]
        refine ⟨by have := hsa _ (List.getElem_mem hi); have := hsb _ (List.getElem_mem hib); omega, ?_⟩
        refine ⟨(i + 1, a[i] == b[i]), ⟨hi, ?_, rfl, rfl⟩, by simp only; omega⟩
        rw [beq_iff_eq, take_eq_succ hi hib e2]
        simp [e1]
      · have hs : ((i : Int) < (a.length : Int)) = False := eq_false (by omega)
        simp (implicitDefEqProofs := false) (dsimp := false) only [go_sem, h3, h4, h5, h6,  hs, decide_false]
        have : i = a.length := by omega
        subst this
        rw [List.take_length, e1, List.take_length] at e2
        simp [e2]
theorem eqLists_ok (a b : List (List Int)) (hla : a.length < 9223372036854775807) (hsa : ∀ s ∈ a, s.length < 9223372036854775807) : PureA Tryz.prog 22 [sliceOf cList a, sliceOf cList b] (.bool (a == b)) := by
  refine PureA.of_wpp { cut := [13] } 29 mixed Tryz.func22 (by kernel_rfl) rfl (by kernel_rfl) (rfl) fun h j hB => ?_
  simp only [junk_succ, junk_zero, List.cons_append, List.nil_append, List.length_cons, List.length_nil, Nat.reduceAdd]
  simp (implicitDefEqProofs := false) (dsimp := false) only [go_sem]
  refine WP.loopI (fun (x : Nat × Bool) s => x.1 ≤ a.length ∧ (x.2 = true ↔ a.length = b.length ∧ a.take x.1 = b.take x.1) ∧ s.sl.length = 31 ∧ s.df = [] ∧ s.gh = {} ∧ s.hp = h ∧ evA s.sl (.tmp 0) = sliceOf cList a ∧ evA s.sl (.tmp 1) = sliceOf cList b ∧ evA s.sl (.tmp 5) = .bool x.2 ∧ evA s.sl (.tmp 6) = .int .i64 x.1) (fun x => a.length - x.1) (0, a.length == b.length) ?_ ?_
  · simp (implicitDefEqProofs := false) (dsimp := false) only [go_sem]
    refine ⟨Nat.zero_le _, ?_⟩
    rw [Bool.eq_iff_iff]; simp; omega
  · rintro ⟨i, q⟩ ⟨sl, df, hp, gh⟩ ⟨h1, hq, h2, rfl, rfl, rfl, h3, h4, h5, h6⟩
    simp only at h1 hq h2 h3 h4 h5 h6
    obtain ⟨j, rfl⟩ := slots_lit h2; clear h2; simp only [junk_succ, junk_zero, evA_tmp, nth_16, nth_four, nth_one, nth_zero, Nat.zero_add, Nat.reduceAdd] at  h3 h4 h5 h6 ⊢
    refine wp_ok (so := { cut := [13] }) mixed _ (by kernel_rfl) ?_
    cases q with
    | false =>
      simp (implicitDefEqProofs := false) (dsimp := false) only [go_sem, h3, h4, h5, h6]
      symm
      rw [beq_eq_false_iff_ne]
      rintro rfl
      simp at hq
    | true =>
      obtain ⟨e1, e2⟩ := hq.1 rfl
      by_cases hi : i < a.length
      · have hib : i < b.length := by omega
        simp (implicitDefEqProofs := false) (dsimp := false) only [go_sem, h3, h4, h5, h6, row1 cList_len hi, row1 cList_len hib, row1_le cList_len hi, row1_le cList_len hib, cList, nat_lt hi, nat_lt hib, decide_true, wrap_succ (show i < 9223372036854775807 by omega)]
        (first | refine CallsA.use (eqInts_ok a[i] b[i] (hsa _ (List.getElem_mem hi))) ?_ | refine QuietCalls.use (eqInts_ok a[i] b[i] (hsa _ (List.getElem_mem hi))) ?_)
        simp (implicitDefEqProofs := false) (dsimp := false) only [go_sem, wrap_succ (show i < 9223372036854775807 by omega)]
        refine ⟨(i + 1, a[i] == b[i]), ⟨hi, ?_, rfl, rfl⟩, by simp only; omega⟩
        rw [beq_iff_eq, take_eq_succ hi hib e2]
        simp [e1]
      · have hs : ((i : Int) < (a.length : Int)) = False := eq_false (by omega)
        simp (implicitDefEqProofs := false) (dsimp := false) only [go_sem, h3, h4, h5, h6,  hs, decide_false]
        have : i = a.length := by omega
        subst this
        rw [List.take_length, e1, List.take_length] at e2
        simp [e2]
theorem hasCell_ok (b : Board) (m : List (Int × Int)) (r c : Int) (h0 : 0 < b.cells.length) : PureA Tryz.prog 68 [.agg (bdA b m), .int .i64 r, .int .i64 c] (.bool (decide (0 ≤ r) && decide (r < b.cells.length) && (decide (0 ≤ c) && decide (c < (b.cells.headD []).length)))) := by
  refine PureA.of_wpp { cut := [9, 17, 21] } 28 mixed Tryz.func68 (by kernel_rfl) rfl (by kernel_rfl) (rfl) fun h j hB => ?_
  simp only [junk_succ, junk_zero, List.cons_append, List.nil_append, List.length_cons, List.length_nil, Nat.reduceAdd]
  simp (implicitDefEqProofs := false) (dsimp := false) only [go_sem, bdA, cells_get0 h0, cells_len1, show (1 ≤ b.cells.length) = True from eq_true h0]
  refine ⟨fun c1 => ⟨fun c2 => ⟨fun c3 => ⟨⟨by omega, by omega⟩, ?_⟩, fun c3 => ?_⟩, fun c2 => ?_⟩, fun c1 => ?_⟩
  · simp [c1, c2, c3]
  · simp [c3]
  · simp [c2]
  · simp [c1]
def isI64 (n : Int) : Prop := -9223372036854775808 ≤ n ∧ n ≤ 9223372036854775807
theorem wrap_neg {n : Int} (h : isI64 n) : IntKind.i64.wrap (0 - n) = if n = -9223372036854775808 then n else -n := by
  obtain ⟨h1, h2⟩ := h
  by_cases e : n = -9223372036854775808
  · subst e; decide
  · rw [if_neg e, wrap64 (by omega) (by omega)]; omega
def layErr (b : Board) (l : Lay) : Int := if ¬ (0 ≤ l.page ∧ l.page < b.pages.length) then 3 else if 1 < l.down ∨ l.down < -1 ∨ 1 < l.right ∨ l.right < -1 then 1 else 0
theorem checkLay_ok (b : Board) (m : List (Int × Int)) (l : Lay) (hd : isI64 l.down) (hr : isI64 l.right) : PureA Tryz.prog 78 [.agg (bdA b m), .agg (cLay l)] (.int .i64 (layErr b l)) := by
  refine PureA.of_wpp { cut := [22] } 28 mixed Tryz.func78 (by kernel_rfl) rfl (by kernel_rfl) (rfl) fun h j hB => ?_
  simp only [junk_succ, junk_zero, List.cons_append, List.nil_append, List.length_cons, List.length_nil, Nat.reduceAdd]
  simp (implicitDefEqProofs := false) (dsimp := false) only [go_sem, bdA, cLay]
  (first | refine CallsA.use (hasPage_ok b m l.page) ?_ | refine QuietCalls.use (hasPage_ok b m l.page) ?_)
  simp (implicitDefEqProofs := false) (dsimp := false) only [go_sem, wrap_neg hd, wrap_neg hr, List.foldl_cons, List.foldl_nil]
  refine ⟨fun c1 => ?_, fun c1 => ?_⟩
  · have : ¬ (0 ≤ l.page ∧ l.page < b.pages.length) := by
      simp at c1; omega
    simp only [layErr, if_pos this]
  have hp : ¬ ¬ (0 ≤ l.page ∧ l.page < b.pages.length) := by
    simp at c1; omega
  obtain ⟨d1, d2⟩ := hd
  obtain ⟨r1, r2⟩ := hr
  simp only [layErr, if_neg hp]
  refine ⟨fun c2 => ?_, fun c2 => ⟨fun c3 => ?_, fun c3 => ?_⟩⟩
  · split
    · rfl
    · exfalso; (repeat' split at c2) <;> omega
  · split
    · rfl
    · exfalso; (repeat' split at c3) <;> omega
  · split
    · exfalso; (repeat' split at c2) <;> (repeat' split at c3) <;> omega
    · rfl
def turnErr (n : Int) : Int := if n < 0 ∨ 63 < n then 1 else 0
theorem turn_ok (n : Int) : PureA Tryz.prog 30 [.int .i64 n] (.tup [.int .i64 (if turnErr n = 0 then turnB n else 0), .int .i64 (turnErr n)]) := by
  refine PureA.of_wpp { cut := [6] } 11 mixed Tryz.func30 (by kernel_rfl) rfl (by kernel_rfl) (rfl) fun h j hB => ?_
  simp only [junk_succ, junk_zero, List.cons_append, List.nil_append, List.length_cons, List.length_nil, Nat.reduceAdd]
  simp (implicitDefEqProofs := false) (dsimp := false) only [go_sem]
  refine ⟨fun c1 => ?_, fun c1 => ⟨fun c2 => ?_, fun c2 => ?_⟩⟩
  · simp [turnErr, show n < 0 by simpa using c1]
  · simp [turnErr, show 63 < n by simpa using c2]
  · (first | refine CallsA.use (turned_ok n) ?_ | refine QuietCalls.use (turned_ok n) ?_)
    simp (implicitDefEqProofs := false) (dsimp := false) only [go_sem]
    have : ¬ (n < 0 ∨ 63 < n) := by simp at c1 c2; omega
    simp [turnErr, this]
end Go.Mac

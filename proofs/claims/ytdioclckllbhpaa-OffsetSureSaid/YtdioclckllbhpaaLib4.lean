/- Part 4 of the logic and of the contracts of the functions that the statement reaches; the statement itself is proved in the last text. -/
import Derived.Attr
import Derived.Test.YtdioclckllbhpaaRows
import Derived.Conc.LeavingOf
import Derived.Test.YtdioclckllbhpaaLib3

/-! MacRX -/
/- MacRX: regions with an operation that is not reckoned; deferred calls that recover, by what is reckoned. No program is in sight. -/
namespace Go.Mac
open Go Go.Conc

section
variable {P : Program} {fk : FK} {so : Opt} {ops : Array Oper}

theorem runL_pre {rest : List Nat} : ∀ {l : List Oper} {k : Nat} {K : AExit → AS → Prop} {s : AS}, (∀ j, j < l.length → l[j]? = ops[k + j]?) → runL P so ops l (seqK (WPI P fk [.inRegion ops rest] K) K) s → WPI P fk [.inRegion ops (List.range' k l.length ++ rest)] K s
  | [], k, K, s, _, h => h
  | o :: l, k, K, s, hl, h => by
    have ho : ops[k]? = some o := by simpa using (hl 0 (by simp)).symm
    have hrest : ∀ j, j < l.length → l[j]? = ops[k + 1 + j]? := fun j hj => by have := hl (j + 1) (by simp; omega); simpa [Nat.add_assoc, Nat.add_comm 1 j] using this
    simp only [runL] at h
    rw [List.length_cons, List.range'_succ, List.cons_append]
    unfold guardW guardV at h
    split at h
    · rename_i hg
      exact stepW_ok (K := K) ho (fun _ _ _ => by simp [Region.wanted, hg]) (fun v h' q => by unfold withVH at q; exact runL_pre hrest (cutV_ok q)) h
    · rename_i j want hg
      split at h
      · rename_i d hd
        split at h
        · rename_i t ht
          replace ht := evA_bool ht
          have hj : ∃ oj, ops[j]? = some oj ∧ oj.dst = some d := by
            cases hoj : ops[j]? with
            | none => rw [hoj] at hd; cases hd
            | some oj => rw [hoj] at hd; exact ⟨oj, rfl, hd⟩
          obtain ⟨oj, hj1, hj2⟩ := hj
          by_cases he : t = want
          · exact stepW_ok (K := K) ho (fun c tmps hv => by simp [Region.wanted, hg, yielded_of hv hj1 hj2 ht, he]) (fun v h' q => by unfold withVH at q; exact runL_pre hrest (cutV_ok q)) (guardB_yes h he)
          · exact WPI.op_out ho hg hj1 hj2 ht he (runL_pre hrest (guardB_no h he))
        · exact h.elim
      · exact h.elim

/-- A region up to an operation that is not reckoned. -/
theorem WP.region_split {id : Nat} {K : AExit → AS → Prop} {s : AS} (so : Opt) (l1 : List Oper) (rest : List Nat) (hsz : List.range ops.size = List.range' 0 l1.length ++ rest) (hl : ∀ j, j < l1.length → l1[j]? = ops[j]?)
    (h : runL P so ops l1 (seqK (WPI P fk [.inRegion ops rest] K) K) s) : WP P fk (.region id ops false) K s := by
  refine WP.region ?_
  rw [hsz]
  exact runL_pre (fun j hj => by rw [Nat.zero_add]; exact hl j hj) h

theorem WP.region_splitN {id : Nat} {K : AExit → AS → Prop} {s : AS} (so : Opt) (n : Nat) (rest : List Nat) (hsz : List.range ops.size = List.range' 0 n ++ rest) (hn : n ≤ ops.size)
    (h : runL P so ops (ops.toList.take n) (seqK (WPI P fk [.inRegion ops rest] K) K) s) : WP P fk (.region id ops false) K s := by
  have hl : (ops.toList.take n).length = n := by simp; omega
  refine WP.region_split so (ops.toList.take n) rest (by rw [hl]; exact hsz) (fun j hj => ?_) h
  rw [List.getElem?_take_of_lt (by omega)]; simp

/-- A call is deferred, in the last operation of a region. -/
theorem WPI.deferN {K : AExit → AS → Prop} {i : Nat} {o : Oper} {f : Operand} {ats : Array TypeId} {g : FuncId} {cap sl : List AV} {df : List ADef} {hp : List Blk} {gh : Gst} (hrnd : fk.rnd = false) (ho : ops[i]? = some o) (hop : o.op = .defer { callee := .value f, args := #[], argTypes := ats }) (hog : o.guard = none) (hod : o.dst = none) (hf : evA sl f = .fn (.func g) [] cap)
    (h : K .normal ⟨sl, .call (.func g) cap [] :: df, hp, gh⟩) : WPI P fk [.inRegion ops [i]] K ⟨sl, df, hp, gh⟩ := by
  refine WPI.defer hrnd ho hop hog hf (WPI.region_end ?_)
  rw [hod]; exact h

theorem jumpQ_none {Q : AExit → AS → Prop} {s : AS} : jumpQ Q none s = Q .normal s := rfl
theorem jumpQ_exit {Q : AExit → AS → Prop} {s : AS} {id : Nat} : jumpQ Q (some (.exit id)) s = Q (.exit id) s := rfl
theorem jumpQ_goto {Q : AExit → AS → Prop} {s : AS} {l : Nat} : jumpQ Q (some (.goto l)) s = Q (.goto l) s := rfl
theorem jumpQ_ret {Q : AExit → AS → Prop} {s : AS} : jumpQ Q (some .ret) s = Q .ret s := rfl
attribute [go_sem ↓] jumpQ_none jumpQ_exit jumpQ_goto jumpQ_ret

/-- .. and from there on. -/
theorem WPI.region_rest {K : AExit → AS → Prop} {s : AS} (so : Opt) (l : List Oper) (k : Nat) (rest : List Nat) (hr : rest = List.range' k l.length) (hl : ∀ j, l[j]? = ops[k + j]?) (h : runL P so ops l K s) : WPI P fk [.inRegion ops rest] K s := by
  subst hr; exact runL_ok hl h
end

section
variable {P : Program} {fn : Func}
/-- What the body of a deferred call that recovers must achieve. -/
def recP (n0 : Nat) (Post : List Blk → Prop) : AExit → AS → Prop
  | .normal, s | .ret, s => s.df = [] ∧ s.gh = {} ∧ (s.hp.take n0).all (belowBlk n0) = true ∧ Post (s.hp.take n0)
  | _, _ => False
theorem recP_normal {n0 : Nat} {Post : List Blk → Prop} {sl : List AV} {df : List ADef} {hp : List Blk} {gh : Gst} : recP n0 Post .normal ⟨sl, df, hp, gh⟩ = (df = [] ∧ gh = {} ∧ (hp.take n0).all (belowBlk n0) = true ∧ Post (hp.take n0)) := rfl
theorem recP_ret {n0 : Nat} {Post : List Blk → Prop} {sl : List AV} {df : List ADef} {hp : List Blk} {gh : Gst} : recP n0 Post .ret ⟨sl, df, hp, gh⟩ = (df = [] ∧ gh = {} ∧ (hp.take n0).all (belowBlk n0) = true ∧ Post (hp.take n0)) := rfl
attribute [go_sem ↓] recP_normal recP_ret

theorem RecA.of_wp {g : FuncId} {id : Nat} {o : Oper} {l : List Oper} {rest : Code} {dst : Tmp} {args : List AV} {h : List Blk} {rec : Option AV} {Post : List Blk → Prop} (so : Opt) (m : Nat) (hm : P.follows .mixedOrders = true) (hf : P.funcs[g]? = some fn) (hn : max args.length fn.ntmps = args.length + m) (hb : fn.body = some (.seq (.region id (o :: l).toArray false) rest)) (hres : fn.results = #[])
    (hop : o.op = .call { callee := .builtin .recover, args := #[], argTypes := #[] }) (hog : o.guard = none) (hod : o.dst = some dst) (hd : drawsOk so rest = true)
    (hw : ∀ (j : Nat → AV), h.all (belowBlk h.length) = true → withS (setN dst (rec.getD .niliface) (args ++ junk j args.length m)) fun sl => runL P so (o :: l).toArray l (seqK (wp P so ⟨g, false, h.length⟩ rest (recP h.length Post)) (recP h.length Post)) ⟨sl, [], h, {}⟩) : RecA P g args h rec Post := by
  refine RecA.of_body hf hb hres (by simp) hop hog hod fun hbel => ?_
  obtain ⟨j, hj⟩ := entry_lit (l := args ++ List.replicate (fn.ntmps - args.length) (.tup [])) (args := args) (m := m) (by simp; omega) (fun i a hi => by
    have : i < args.length := (List.getElem?_eq_some_iff.1 hi).1
    simp [evA, List.getD, List.getElem?_append_left this, hi])
  have := hw j hbel
  rw [hj]
  have e : (args ++ junk j args.length m).set dst (rec.getD .niliface) = setN dst (rec.getD .niliface) (args ++ junk j args.length m) := by
    have := putA_some (l := args ++ junk j args.length m) (d := dst) (v := rec.getD .niliface)
    simpa [putA] using this
  rw [e]
  have hq : ∀ e s, recP h.length Post e s → recQ h.length Post e s := fun e s q => by cases e <;> exact q
  refine (WPI.cons rfl (Q := recP h.length Post) ?_).mono hq
  have h2 : runL P so (o :: l).toArray l (seqK (wp P so ⟨g, false, h.length⟩ rest (recP h.length Post)) (recP h.length Post)) ⟨setN dst (rec.getD .niliface) (args ++ junk j args.length m), [], h, {}⟩ := this
  have x : WPI P ⟨g, false, h.length⟩ [.inRegion (o :: l).toArray (List.range' 1 l.length)] (seqK (wp P so ⟨g, false, h.length⟩ rest (recP h.length Post)) (recP h.length Post)) ⟨setN dst (rec.getD .niliface) (args ++ junk j args.length m), [], h, {}⟩ := runL_ok (k := 1) (fun j => by simp [Nat.add_comm 1 j]) h2
  have hl : List.range' 1 l.length = List.range' 1 ((o :: l).toArray.size - 1) := by simp
  rw [← hl]
  refine x.mono fun e s q => ?_
  cases e with
  | normal => exact wp_ok hm _ hd q
  | exit _ => exact q
  | goto _ => exact q
  | ret => exact q
  | panic _ => exact q

/-- The end of a function that has deferred one call, which recovers. -/
def retR (P : Program) (fn : Func) (n0 : Nat) (g : FuncId) (cap : List AV) (Post : AEnd → List Blk → Prop) : AExit → AS → Prop
  | .normal, s | .ret, s => s.gh = {} ∧ s.df = [.call (.func g) cap []] ∧ RecA P g cap s.hp none fun h1 => ∃ v n, resA P fn s.sl h1 = some v ∧ n0 ≤ n ∧ below n v = true ∧ (h1.take n).all (belowBlk n) = true ∧ Post (.ret v) (h1.take n)
  | .panic x, s => s.gh = {} ∧ s.df = [.call (.func g) cap []] ∧ RecA P g cap s.hp (some x) fun h1 => ∃ v n, resA P fn s.sl h1 = some v ∧ n0 ≤ n ∧ below n v = true ∧ (h1.take n).all (belowBlk n) = true ∧ Post (.ret v) (h1.take n)
  | _, _ => False
section
variable {n0 : Nat} {g : FuncId} {cap : List AV} {Post : AEnd → List Blk → Prop} {sl : List AV} {df : List ADef} {hp : List Blk} {gh : Gst} {x : AV}
theorem retR_normal : retR P fn n0 g cap Post .normal ⟨sl, df, hp, gh⟩ = (gh = {} ∧ df = [.call (.func g) cap []] ∧ RecA P g cap hp none fun h1 => ∃ v n, resA P fn sl h1 = some v ∧ n0 ≤ n ∧ below n v = true ∧ (h1.take n).all (belowBlk n) = true ∧ Post (.ret v) (h1.take n)) := rfl
theorem retR_ret : retR P fn n0 g cap Post .ret ⟨sl, df, hp, gh⟩ = (gh = {} ∧ df = [.call (.func g) cap []] ∧ RecA P g cap hp none fun h1 => ∃ v n, resA P fn sl h1 = some v ∧ n0 ≤ n ∧ below n v = true ∧ (h1.take n).all (belowBlk n) = true ∧ Post (.ret v) (h1.take n)) := rfl
theorem retR_panic : retR P fn n0 g cap Post (.panic x) ⟨sl, df, hp, gh⟩ = (gh = {} ∧ df = [.call (.func g) cap []] ∧ RecA P g cap hp (some x) fun h1 => ∃ v n, resA P fn sl h1 = some v ∧ n0 ≤ n ∧ below n v = true ∧ (h1.take n).all (belowBlk n) = true ∧ Post (.ret v) (h1.take n)) := rfl
end
attribute [go_sem ↓] retR_normal retR_ret retR_panic

theorem CallsA.of_wpr {f : FuncId} {code : Code} {args : List AV} {h : List Blk} {Post : AEnd → List Blk → Prop} (g : FuncId) (cap : List AV) (so : Opt) (m : Nat) (hc : callable P g) (hm : P.follows .mixedOrders = true) (hf : P.funcs[f]? = some fn) (hn : max args.length fn.ntmps = args.length + m) (hb : fn.body = some code) (hd : drawsOk so code = true)
    (hw : ∀ (j : Nat → AV), h.all (belowBlk h.length) = true → belowL h.length args = true → wp P so ⟨f, false, h.length⟩ code (retR P fn h.length g cap Post) ⟨args ++ junk j args.length m, [], h, {}⟩) : CallsA P f args h Post := by
  refine CallsA.of_bodyR hf hb fun h1 h2 => ?_
  obtain ⟨j, hj⟩ := entry_lit (l := args ++ List.replicate (fn.ntmps - args.length) (.tup [])) (args := args) (m := m) (by simp; omega) (fun i a hi => by
    have : i < args.length := (List.getElem?_eq_some_iff.1 hi).1
    simp [evA, List.getD, List.getElem?_append_left this, hi])
  rw [hj]
  refine (wp_ok hm _ hd (hw j h1 h2)).mono fun e s q => ?_
  cases e with
  | normal => exact ⟨s, .refl, q.1, g, cap, q.2.1, hc, q.2.2⟩
  | ret => exact ⟨s, .refl, q.1, g, cap, q.2.1, hc, q.2.2⟩
  | panic v => exact ⟨q.1, g, cap, q.2.1, hc, q.2.2⟩
  | exit id => exact q.elim
  | goto l => exact q.elim
end
end Go.Mac

/-! FnI -/
/- FnI: boards are opened. -/
namespace Go.Mac
open Go Go.Conc Go.Proofs
set_option maxRecDepth 4000

/-- The letter of a glyph. -/
def gkey (g : Glyph) : Nat := (g.name.headD 0).toNat
def mapB (gs : List Glyph) : List (Int × Int) := (45, 0) :: gs.map fun g => ((gkey g : Int), g.strokes)
def pagesErr (m : List (Int × Int)) : List (List (List UInt8)) → Int
  | [] => 0
  | p :: l => if pageErr m p ≠ 0 then pageErr m p else pagesErr m l
def boardErr (b : Board) : Int :=
  if glyphsErr b.glyphs ≠ 0 then glyphsErr b.glyphs
  else if sizedB b.pages.length 4 ≠ 0 then sizedB b.pages.length 4
  else if pagesErr (mapB b.glyphs) b.pages ≠ 0 then pagesErr (mapB b.glyphs) b.pages
  else cellsErr b.cells

/-- Glyphs in order. -/
structure okGlyphs (gs : List Glyph) : Prop where
  pos : 0 < gs.length
  most : gs.length ≤ 6
  one : ∀ g ∈ gs, g.name.length = 1 ∧ 97 ≤ gkey g ∧ gkey g ≤ 122 ∧ 1 ≤ g.strokes ∧ g.strokes ≤ 63
  pair : gs.Pairwise fun x g => gkey x < gkey g ∧ x.strokes ≠ g.strokes

theorem one_name {g : Glyph} (h : g.name.length = 1) : ∃ c : UInt8, g.name = [c] ∧ gkey g = c.toNat := by
  match hn : g.name, h with
  | [c], _ => exact ⟨c, rfl, by simp [gkey, hn]⟩
theorem less_one (a b : UInt8) : Op.bytesLess [a] [b] = decide (a < b) := by simp [Op.bytesLess]

theorem gli_ok : ∀ {l before : List Glyph}, gliErr before l = 0 → (∀ x ∈ before, x.name.length = 1 ∧ gkey x ≤ gkey (before.getLastD ⟨[], 0⟩)) →
    (∀ g ∈ l, g.name.length = 1 ∧ 97 ≤ gkey g ∧ gkey g ≤ 122 ∧ 1 ≤ g.strokes ∧ g.strokes ≤ 63) ∧ (∀ x ∈ before, ∀ g ∈ l, gkey x < gkey g ∧ x.strokes ≠ g.strokes) ∧ l.Pairwise fun x g => gkey x < gkey g ∧ x.strokes ≠ g.strokes
  | [], before, _, _ => ⟨by simp, by simp, .nil⟩
  | g :: l, before, h, hb => by
    rw [gliErr] at h
    by_cases c1 : g.name.length ≠ 1 ∨ Op.bytesLess g.name [97] = true ∨ (Op.bytesLess g.name [122] || g.name == [122]) = false
    · rw [if_pos c1] at h; cases h
    rw [if_neg c1] at h
    by_cases c2 : before ≠ [] ∧ (Op.bytesLess g.name (lastName before) || g.name == lastName before) = true
    · rw [if_pos c2] at h; cases h
    rw [if_neg c2] at h
    by_cases c3 : g.strokes < 1 ∨ 63 < g.strokes
    · rw [if_pos c3] at h; cases h
    rw [if_neg c3] at h
    by_cases c4 : (before.any fun x => x.strokes == g.strokes) = true
    · rw [if_pos c4] at h; cases h
    rw [if_neg c4] at h
    have h1 : g.name.length = 1 := Classical.byContradiction fun e => c1 (.inl e)
    obtain ⟨c, hc, hk⟩ := one_name h1
    rw [hc, less_one, less_one] at c1
    have k97 : 97 ≤ gkey g := by
      rw [hk]
      have : ¬ c < 97 := fun e => c1 (.inr (.inl (by simp [e])))
      rw [UInt8.lt_iff_toNat_lt] at this
      simpa using this
    have k122 : gkey g ≤ 122 := by
      rw [hk]
      have : ¬ (decide (c < 122) || [c] == [122]) = false := fun e => c1 (.inr (.inr e))
      simp only [Bool.or_eq_false_iff, not_and, Bool.not_eq_false, decide_eq_false_iff_not] at this
      by_cases e : c < 122
      · rw [UInt8.lt_iff_toNat_lt] at e
        have : (122 : UInt8).toNat = 122 := rfl
        omega
      · have := this e
        simp at this
        subst this
        decide
    have kb : ∀ x ∈ before, gkey x < gkey g ∧ x.strokes ≠ g.strokes := by
      intro x hx
      obtain ⟨x1, x2⟩ := hb x hx
      refine ⟨?_, fun e => c4 (List.any_eq_true.2 ⟨x, hx, by simp [e]⟩)⟩
      have hne : before ≠ [] := by intro e; rw [e] at hx; cases hx
      have hl : before.getLastD ⟨[], 0⟩ ∈ before := by
        rw [List.getLastD_eq_getLast?, List.getLast?_eq_some_getLast hne]; exact List.getLast_mem hne
      obtain ⟨d, hd, hdk⟩ := one_name (hb _ hl).1
      have c2' : ¬ (Op.bytesLess g.name (lastName before) || g.name == lastName before) = true := fun e => c2 ⟨hne, e⟩
      rw [lastName, hd, hc, less_one] at c2'
      simp only [Bool.or_eq_true, decide_eq_true_eq, beq_iff_eq, List.cons.injEq, and_true, not_or] at c2'
      have : d < c := by
        rw [UInt8.lt_iff_toNat_lt, ← UInt8.toNat_inj] at *
        omega
      rw [UInt8.lt_iff_toNat_lt] at this
      omega
    have hb' : ∀ x ∈ before ++ [g], x.name.length = 1 ∧ gkey x ≤ gkey ((before ++ [g]).getLastD ⟨[], 0⟩) := by
      intro x hx
      rw [List.getLastD_concat]
      rcases List.mem_append.1 hx with hx | hx
      · exact ⟨(hb x hx).1, by have := (kb x hx).1; omega⟩
      · rw [List.mem_singleton.1 hx]; exact ⟨h1, Nat.le_refl _⟩
    obtain ⟨q1, q2, q3⟩ := gli_ok h hb'
    refine ⟨?_, ?_, ?_⟩
    · intro x hx
      rcases List.mem_cons.1 hx with rfl | hx
      · exact ⟨h1, k97, k122, by omega, by omega⟩
      · exact q1 x hx
    · intro x hx y hy
      rcases List.mem_cons.1 hy with rfl | hy
      · exact kb x hx
      · exact q2 x (List.mem_append_left _ hx) y hy
    · exact List.pairwise_cons.2 ⟨fun y hy => q2 g (by simp) y hy, q3⟩
theorem okGlyphs.of {gs : List Glyph} (h : glyphsErr gs = 0) : okGlyphs gs := by
  unfold glyphsErr at h
  by_cases c1 : gs.length = 0
  · rw [if_pos c1] at h; cases h
  rw [if_neg c1] at h
  by_cases c2 : 6 < gs.length
  · rw [if_pos c2] at h; cases h
  rw [if_neg c2] at h
  obtain ⟨q1, _, q3⟩ := gli_ok h (by simp)
  exact ⟨by omega, by omega, q1, q3⟩

theorem mapB_low {gs : List Glyph} (h : okGlyphs gs) : lowKeys (mapB gs) := by
  intro p hp
  rcases List.mem_cons.1 hp with rfl | hp
  · decide
  · obtain ⟨g, hg, rfl⟩ := List.mem_map.1 hp
    have := h.one g hg
    simp only; omega
theorem mapB_take {gs : List Glyph} {i : Nat} (hi : i < gs.length) : mapB (gs.take (i + 1)) = mapB (gs.take i) ++ [((gkey gs[i] : Int), gs[i].strokes)] := by
  unfold mapB
  rw [List.take_add_one, List.getElem?_eq_getElem hi]
  simp only [Option.toList_some, List.map_append, List.map_cons, List.map_nil, List.cons_append]
theorem mapB_new {gs : List Glyph} (h : okGlyphs gs) {i : Nat} (hi : i < gs.length) : hasB (mapB (gs.take i)) (gkey gs[i]) = false := by
  have h0 := h.one _ (List.getElem_mem hi)
  unfold hasB mapB
  rw [List.any_eq_false]
  intro p hp
  rcases List.mem_cons.1 hp with rfl | hp
  · simp; omega
  · obtain ⟨g, hg, rfl⟩ := List.mem_map.1 hp
    obtain ⟨j, hj, rfl⟩ := List.mem_take_iff_getElem.1 hg
    have := (List.pairwise_iff_getElem.1 h.pair) j i (by omega) hi (by omega)
    simp; omega
theorem findA_none {m : List (Int × Int)} {c : Int} (h : hasB m c = false) : findA Try.prog 21 (.int .i32 c) (m.map fun p => .int .i32 p.1) 0 = some none := by
  rw [findA_int (g := fun p : Int × Int => p.1) ty21 rfl]
  have : m.findIdx? (fun p => c == p.1) = none := by
    rw [List.findIdx?_eq_none_iff]
    intro x hx
    unfold hasB at h
    rw [List.any_eq_false] at h
    simpa using h x hx
  rw [this]; rfl
theorem upd92 {m : List (Int × Int)} {c v : Int} {h : List Blk} {n : Nat} (hn : h[n]? = some (.map (m.map fun p => .int .i32 p.1) (m.map fun p => .int .i64 p.2))) (hm : hasB m c = false) :
    mapUpdateE Try.prog 92 (.map ⟨n, 0⟩) (.int .i32 c) (.int .i64 v) h = some (True, .tup [], h.set n (.map ((m ++ [(c, v)]).map fun p => .int .i32 p.1) ((m ++ [(c, v)]).map fun p => .int .i64 p.2))) := by
  simp only [mapUpdateE, ty92, ty21, hn, findA_none hm, eqA_int (n := 5) ty21 rfl, beq_self_eq_true, and_self, List.map_append, List.map_cons, List.map_nil]

theorem fits_fault : zeroFits Try.prog 149 = true := by kernel_rfl
theorem faultRec_none (n : Nat) (h : List Blk) (Post : List Blk → Prop) (hp : Post h) : RecA Try.prog 97 [.ptr ⟨n, 0⟩ 0] h none Post := by
  refine RecA.of_wp {} 10 mixed Try.func97 (by kernel_rfl) rfl rfl rfl rfl rfl (by kernel_rfl) fun j hB => ?_
  simp only [junk_succ, junk_zero, List.cons_append, List.nil_append, List.length_cons, List.length_nil, Nat.reduceAdd]
  simp (implicitDefEqProofs := false) (dsimp := false) only [go_sem, List.take_left, fits_fault]
  exact ⟨hB, hp⟩
theorem faultRec_some (n : Nat) (h : List Blk) (Post : List Blk → Prop) (e a : Int) (hn : h[n]? = some (.cells 0 [.int .i64 a])) (hp : Post (h.set n (.cells 0 [.int .i64 e]))) : RecA Try.prog 97 [.ptr ⟨n, 0⟩ 0] h (some (faultA e)) Post := by
  have hlt : n < h.length := (List.getElem?_eq_some_iff.1 hn).1
  refine RecA.of_wp {} 10 mixed Try.func97 (by kernel_rfl) rfl rfl rfl rfl rfl (by kernel_rfl) fun j hB => ?_
  simp only [junk_succ, junk_zero, List.cons_append, List.nil_append, List.length_cons, List.length_nil, Nat.reduceAdd]
  have hn2 : ∀ k, (h ++ k)[n]? = some (.cells 0 [.int .i64 a]) := fun k => by rw [List.getElem?_append_left hlt]; exact hn
  have hs2 : ∀ k b, (h ++ k).set n b = h.set n b ++ k := fun k b => by rw [List.set_append_left _ _ hlt]
  have hl2 : (h.set n (.cells 0 [.int .i64 e])).length = h.length := List.length_set
  simp (implicitDefEqProofs := false) (dsimp := false) only [go_sem, hn2, hs2, fits_fault]
  rw [List.take_left' hl2]
  refine ⟨?_, hp⟩
  rw [List.all_eq_true] at *
  intro b hb
  rcases List.mem_or_eq_of_mem_set hb with hb | rfl
  · exact hB b hb
  · rfl

theorem call_open1 : callable Try.prog 97 := ⟨_, Try.func97, rfl, rfl⟩
theorem upd92_first {c v : Int} {h : List Blk} {n : Nat} (hn : h[n]? = some (.map [] [])) : mapUpdateE Try.prog 92 (.map ⟨n, 0⟩) (.int .i32 c) (.int .i64 v) h = some (True, .tup [], h.set n (.map [.int .i32 c] [.int .i64 v])) := upd92 (m := []) hn rfl
/-- How 'open' ends. -/
def OpenP (b : Board) (h : List Blk) (e : AEnd) (h' : List Blk) : Prop :=
  h' = h ∧ ((boardErr b = 0 ∧ e = .ret (.tup [.agg (bdA b (mapB b.glyphs)), .int .i64 0])) ∨ (boardErr b ≠ 0 ∧ ∃ x y z t, [x, y, z, t].all leafA = true ∧ e = .ret (.tup [.agg [x, y, z, t], .int .i64 (boardErr b)])))
theorem open_bad {b : Board} {h k : List Blk} {x y z t : AV} {e : Int} (hb : h.all (belowBlk h.length) = true) (h0 : e ≠ 0) (he : e = boardErr b) (hx : belowL 0 [x, y, z, t] = true) (hf : [x, y, z, t].all leafA = true) : ∃ v n, AV.tup [.agg [x, y, z, t], .int .i64 e] = v ∧ h.length ≤ n ∧ below n v = true ∧ ((h ++ k).take n).all (belowBlk n) = true ∧ OpenP b h (.ret v) ((h ++ k).take n) := by
  refine ⟨_, h.length, rfl, Nat.le_refl _, ?_, ?_, ?_, .inr ⟨by rw [← he]; exact h0, x, y, z, t, hf, by rw [he]⟩⟩
  · have := belowL_mono (Nat.zero_le h.length) _ hx
    simpa [below, belowL] using this
  · rw [List.take_left]; exact hb
  · rw [List.take_left]
theorem open_good {b : Board} {h k : List Blk} (hb : h.all (belowBlk h.length) = true) (he : boardErr b = 0) : ∃ v n, AV.tup [.agg (bdA b (mapB b.glyphs)), .int .i64 0] = v ∧ h.length ≤ n ∧ below n v = true ∧ ((h ++ k).take n).all (belowBlk n) = true ∧ OpenP b h (.ret v) ((h ++ k).take n) := by
  refine ⟨_, h.length, rfl, Nat.le_refl _, ?_, ?_, ?_, .inl ⟨he, rfl⟩⟩
  · have := belowL_mono (Nat.zero_le h.length) _ (bdA_below b (mapB b.glyphs))
    simp only [below, belowL, this, Bool.and_self]
  · rw [List.take_left]; exact hb
  · rw [List.take_left]
theorem slices_below (b : Board) : belowL 0 [sliceOf cGlyph b.glyphs, sliceOf cPage b.pages, sliceOf cTraces b.cells] = true := by
  have := bdA_below b []
  simp only [bdA, belowL, Bool.and_eq_true] at this ⊢
  exact ⟨this.1, this.2.1, this.2.2.1, trivial⟩
theorem cPage_len1 (p : List (List (List UInt8))) : (p.flatMap cPage).length = p.length := rows_length (fun _ => rfl) p
theorem open_ok (b : Board) (h : List Blk) : CallsA Try.prog 62 [.agg (brdA b)] h (OpenP b h) := by
  refine CallsA.of_wpr 97 [.ptr ⟨h.length + 2, 0⟩ 0] { shut := [11], hand := [9], tail := [(7, 8)] } 54 call_open1 mixed Try.func62 (by kernel_rfl) rfl (by kernel_rfl) fun j hB hA => ?_
  simp only [junk_succ, junk_zero, List.cons_append, List.nil_append, List.length_cons, List.length_nil, Nat.reduceAdd]
  simp (implicitDefEqProofs := false) (dsimp := false) only [go_sem, brdA]
  refine WP.region_splitN (so := { shut := [11], tail := [(7, 8)] }) 1 [1] rfl (by decide) ?_
  simp (implicitDefEqProofs := false) (dsimp := false) only [go_sem]
  refine WPI.deferN rfl rfl rfl rfl rfl rfl ?_
  simp (implicitDefEqProofs := false) (dsimp := false) only [go_sem]
  (first | refine CallsA.use (lightCheck_ok b.glyphs) ?_ | refine QuietCalls.use (lightCheck_ok b.glyphs) ?_)
  simp (implicitDefEqProofs := false) (dsimp := false) only [go_sem]
  refine FaultC.use (must_ok _) (fun e1 k => ?_) (fun e0 => ?_)
  · simp (implicitDefEqProofs := false) (dsimp := false) only [go_sem]
    refine faultRec_some _ _ _ _ 0 (by rw [hget]; rfl) ?_
    simp (implicitDefEqProofs := false) (dsimp := false) only [go_sem]
    exact open_bad hB e1 (by rw [boardErr, if_pos e1]) rfl rfl
  have ok := okGlyphs.of e0
  simp (implicitDefEqProofs := false) (dsimp := false) only [go_sem, upd92_first]
  refine WP.loopI (fun (i : Nat) s => (i ≤ b.glyphs.length) ∧ s.sl.length = 55 ∧ s.df = [.call (.func 97) [.ptr ⟨h.length + 2, 0⟩ 0] []] ∧ s.gh = {} ∧ (∃ k, s.hp = h ++ .cells 0 (brdA b) :: .cells 0 [sliceOf cGlyph b.glyphs, sliceOf cPage b.pages, sliceOf cTraces b.cells, .map ⟨h.length + 3, 0⟩] :: .cells 0 [.int .i64 0] :: .map ((mapB (b.glyphs.take i)).map fun p => .int .i32 p.1) ((mapB (b.glyphs.take i)).map fun p => .int .i64 p.2) :: k) ∧ evA s.sl (.tmp 1) = .ptr ⟨h.length, 0⟩ 0 ∧ evA s.sl (.tmp 2) = .ptr ⟨h.length + 1, 0⟩ 0 ∧ evA s.sl (.tmp 3) = .ptr ⟨h.length + 2, 0⟩ 0 ∧ evA s.sl (.tmp 20) = sliceOf cGlyph b.glyphs ∧ evA s.sl (.tmp 21) = .int .i64 b.glyphs.length ∧ evA s.sl (.tmp 22) = .int .i64 i) (fun (i : Nat) => b.glyphs.length - i) (0) ?_ ?_
  · simp (implicitDefEqProofs := false) (dsimp := false) only [go_sem, brdA, Nat.zero_le]
    exact ⟨_, rfl, rfl⟩
  · rintro i ⟨sl, df, hp, gh⟩ ⟨ab, al, rfl, rfl, ah, a1, a2, a3, a20, a21, a22⟩
    simp only at ab al ah a1 a2 a3 a20 a21 a22
    obtain ⟨j, rfl⟩ := slots_lit al; clear al; simp only [junk_succ, junk_zero, evA_tmp, nth_16, nth_four, nth_one, nth_zero, Nat.zero_add, Nat.reduceAdd] at  a1 a2 a3 a20 a21 a22 ⊢
    refine wp_ok (so := { shut := [11], hand := [9], tail := [(7, 8)] }) mixed _ (by kernel_rfl) ?_
    obtain ⟨k, rfl⟩ := ah
    by_cases hi : i < b.glyphs.length
    · have u : ∀ {h : List Blk} {n : Nat}, h[n]? = some (.map ((mapB (b.glyphs.take i)).map fun p => .int .i32 p.1) ((mapB (b.glyphs.take i)).map fun p => .int .i64 p.2)) → mapUpdateE Try.prog 92 (.map ⟨n, 0⟩) (.int .i32 (gkey b.glyphs[i])) (.int .i64 b.glyphs[i].strokes) h = some (True, .tup [], h.set n (.map ((mapB (b.glyphs.take (i + 1))).map fun p => .int .i32 p.1) ((mapB (b.glyphs.take (i + 1))).map fun p => .int .i64 p.2))) := fun hn => by
        rw [mapB_take hi]; exact upd92 hn (mapB_new ok hi)
      obtain ⟨c, hc, hk⟩ := one_name (ok.one _ (List.getElem_mem hi)).1
      rw [hk] at u
      simp (implicitDefEqProofs := false) (dsimp := false) only [go_sem, a1, a2, a3, a20, a21, a22, brdA, nat_lt hi, decide_true, rowN cGlyph_len hi, rowN_le cGlyph_len hi, hi, cGlyph, hc, wrap_byte, u]
      exact ⟨i + 1, ⟨by omega, ⟨_, rfl, rfl⟩, wrap_succ (by have := ok.most; omega)⟩, by omega⟩
    · have hs : ((i : Int) < (b.glyphs.length : Int)) = False := eq_false (by omega)
      simp (implicitDefEqProofs := false) (dsimp := false) only [go_sem, a1, a2, a3, a20, a21, a22, brdA, hs, decide_false]
      have ei : i = b.glyphs.length := by omega
      subst ei
      rw [List.take_length]
      refine WPI.turn (Turns.seal_cell (i := h.length + 1) (g := 0) (j := 3) (a := .map ⟨h.length + 3, 0⟩) (a' := .pmap ((mapB b.glyphs).map fun p => .int .i32 p.1) ((mapB b.glyphs).map fun p => .int .i64 p.2)) (by rw [hget]; rfl) rfl (by simp only [sealV]; rw [hget]; rfl) (by simp [nmOf])) ?_
      simp only [nmOf, hset, List.set_cons_succ, List.set_cons_zero]
      refine wp_shut [] (so := { shut := [11], tail := [(7, 8)] }) mixed _ (by kernel_rfl) ?_
      simp (implicitDefEqProofs := false) (dsimp := false) only [go_sem]
      (first | refine CallsA.use (sized_ok _ _) ?_ | refine QuietCalls.use (sized_ok _ _) ?_)
      simp (implicitDefEqProofs := false) (dsimp := false) only [go_sem]
      have hbad : ∀ {k : List Blk} {e : Int}, e ≠ 0 → e = boardErr b → ∃ v n, AV.tup [.agg (bdA b (mapB b.glyphs)), .int .i64 e] = v ∧ h.length ≤ n ∧ below n v = true ∧ ((h ++ k).take n).all (belowBlk n) = true ∧ OpenP b h (.ret v) ((h ++ k).take n) := fun h0 he => open_bad hB h0 he (bdA_below b _) rfl
      refine FaultC.use (must_ok _) (fun e1 k2 => ?_) (fun e1 => ?_)
      · simp (implicitDefEqProofs := false) (dsimp := false) only [go_sem]
        refine faultRec_some _ _ _ _ 0 (by rw [hget]; rfl) ?_
        simp (implicitDefEqProofs := false) (dsimp := false) only [go_sem]
        exact hbad e1 (by rw [boardErr, if_neg (by simp [e0]), if_pos e1])
      have p4 := sizedB_zero e1
      simp (implicitDefEqProofs := false) (dsimp := false) only [go_sem]
      refine WP.loopI (fun (x : Nat) s => (x ≤ b.pages.length ∧ pagesErr (mapB b.glyphs) (b.pages.drop x) = pagesErr (mapB b.glyphs) b.pages) ∧ s.sl.length = 55 ∧ s.df = [.call (.func 97) [.ptr ⟨h.length + 2, 0⟩ 0] []] ∧ s.gh = {} ∧ (s.hp = h ++ .cells 0 (brdA b) :: .cells 0 (bdA b (mapB b.glyphs)) :: .cells 0 [.int .i64 0] :: .dead :: k) ∧ evA s.sl (.tmp 1) = .ptr ⟨h.length, 0⟩ 0 ∧ evA s.sl (.tmp 2) = .ptr ⟨h.length + 1, 0⟩ 0 ∧ evA s.sl (.tmp 3) = .ptr ⟨h.length + 2, 0⟩ 0 ∧ evA s.sl (.tmp 41) = sliceOf cPage b.pages ∧ evA s.sl (.tmp 42) = .int .i64 b.pages.length ∧ evA s.sl (.tmp 43) = .int .i64 x) (fun (x : Nat) => b.pages.length - x) (0) ?_ ?_
      · simp (implicitDefEqProofs := false) (dsimp := false) only [go_sem, brdA, bdA, Nat.zero_le]
      · rintro x ⟨sl, df, hp, gh⟩ ⟨cb, cl, rfl, rfl, rfl, c1, c2, c3, c41, c42, c43⟩
        simp only at cb cl c1 c2 c3 c41 c42 c43
        obtain ⟨j, rfl⟩ := slots_lit cl; clear cl; simp only [junk_succ, junk_zero, evA_tmp, nth_16, nth_four, nth_one, nth_zero, Nat.zero_add, Nat.reduceAdd] at  c1 c2 c3 c41 c42 c43 ⊢
        refine wp_shut [] (so := { shut := [11], tail := [(7, 8)] }) mixed _ (by kernel_rfl) ?_
        obtain ⟨cb, cq⟩ := cb
        by_cases hx : x < b.pages.length
        · rw [drop_get hx] at cq
          simp (implicitDefEqProofs := false) (dsimp := false) only [go_sem, c1, c2, c3, c41, c42, c43, brdA, bdA, nat_lt hx, decide_true, row1 cPage_len hx, row1_le cPage_len hx, hx, cPage]
          refine FaultC.use (checkPage_ok b (mapB b.glyphs) (mapB_low ok) b.pages[x]) (fun f1 k2 => ?_) (fun f0 => ?_)
          · simp (implicitDefEqProofs := false) (dsimp := false) only [go_sem]
            refine faultRec_some _ _ _ _ 0 (by rw [hget]; rfl) ?_
            simp (implicitDefEqProofs := false) (dsimp := false) only [go_sem]
            have e2 : pagesErr (mapB b.glyphs) b.pages = pageErr (mapB b.glyphs) b.pages[x] := by rw [← cq, pagesErr, if_pos f1]
            exact hbad f1 (by rw [boardErr, if_neg (by simp [e0]), if_neg (by simp [e1]), if_pos (by rw [e2]; exact f1), e2])
          · simp (implicitDefEqProofs := false) (dsimp := false) only [go_sem, brdA, bdA]
            refine ⟨x + 1, ⟨⟨by omega, ?_⟩, wrap_succ (by omega)⟩, by omega⟩
            rw [← cq]
            conv => rhs; rw [pagesErr, if_neg (by simp [f0])]
        · have hs : ((x : Int) < (b.pages.length : Int)) = False := eq_false (by omega)
          simp (implicitDefEqProofs := false) (dsimp := false) only [go_sem, c1, c2, c3, c41, c42, c43, brdA, bdA, hs, decide_false]
          rw [List.drop_eq_nil_of_le (by omega)] at cq
          have e2 : pagesErr (mapB b.glyphs) b.pages = 0 := cq.symm
          refine FaultC.use (checkCells_ok b.cells) (fun f1 k2 => ?_) (fun f0 => ?_)
          · simp (implicitDefEqProofs := false) (dsimp := false) only [go_sem]
            refine faultRec_some _ _ _ _ 0 (by rw [hget]; rfl) ?_
            simp (implicitDefEqProofs := false) (dsimp := false) only [go_sem]
            exact hbad f1 (by rw [boardErr, if_neg (by simp [e0]), if_neg (by simp [e1]), if_neg (by simp [e2])])
          · simp (implicitDefEqProofs := false) (dsimp := false) only [go_sem]
            refine faultRec_none _ _ _ ?_
            simp (implicitDefEqProofs := false) (dsimp := false) only [go_sem]
            exact open_good hB (by rw [boardErr, if_neg (by simp [e0]), if_neg (by simp [e1]), if_neg (by simp [e2])]; exact f0)
end Go.Mac

/-! FnK -/
/- FnK: faces together; all ways of all pages. -/
namespace Go.Mac
open Go Go.Conc Go.Proofs
set_option maxRecDepth 4000

/-- Two faces one over the other, the first cells alone. -/
def overTo (p q : List Int) (n : Nat) : List Int := (List.range 12).map fun k => if k < n then orK .i64 (p.getD k 0) (q.getD k 0) else p.getD k 0
def overB (p q : List Int) : List Int := overTo p q 12
theorem overTo_len (p q : List Int) (n : Nat) : (overTo p q n).length = 12 := by simp [overTo]
theorem overTo_zero {p q : List Int} (h : p.length = 12) : overTo p q 0 = p := by
  apply List.ext_getElem?
  intro k
  by_cases hk : k < 12
  · simp [overTo, hk, h, List.getD]
  · rw [List.getElem?_eq_none (by rw [overTo_len]; omega), List.getElem?_eq_none (by omega)]
theorem overTo_get {p q : List Int} {n k : Nat} (hk : k < 12) : (overTo p q n).getD k 0 = if k < n then orK .i64 (p.getD k 0) (q.getD k 0) else p.getD k 0 := by
  simp [overTo, List.getD, hk]
theorem overTo_set {p q : List Int} {n : Nat} (hn : n < 12) : (nums12 (overTo p q n)).set n (.int .i64 (orK .i64 (p.getD n 0) (q.getD n 0))) = nums12 (overTo p q (n + 1)) := by
  unfold nums12 overTo
  apply List.ext_getElem?
  intro k
  by_cases hk : k < 12
  · by_cases h : n = k
    · subst h
      simp [List.getElem?_set, hk]
    · simp only [List.getElem?_set, h, if_false, List.getElem?_map, List.getElem?_range hk, Option.map_some]
      by_cases h1 : k < n
      · simp [h1, show k < n + 1 by omega]
      · simp [h1, show ¬ k < n + 1 by omega]
  · rw [List.getElem?_eq_none (by simp; omega), List.getElem?_eq_none (by simp; omega)]

theorem len_eq0 (n : Nat) : ((n : Int) == 0) = (n == 0) := by rw [Bool.eq_iff_iff]; simp
/-- Are two faces right one over the other? -/
def togetherB (cs : List (List Trace)) (p q : List Int) : Bool := (misB (overB p q) cs).length == 0

theorem together_ok (b : Board) (m : List (Int × Int)) (p q : List Int) (hp : p.length = 12) (hq : q.length = 12) (okc : okCells b.cells) : PureA Try.prog 111 [.agg (bdA b m), .agg (nums12 p), .agg (nums12 q)] (.bool (togetherB b.cells p q)) := by
  refine PureA.of_wpp { tail := [(7, 12)] } 32 mixed Try.func111 (by kernel_rfl) rfl (by kernel_rfl) (rfl) fun h j hB => ?_
  simp only [junk_succ, junk_zero, List.cons_append, List.nil_append, List.length_cons, List.length_nil, Nat.reduceAdd]
  simp (implicitDefEqProofs := false) (dsimp := false) only [go_sem, bdA]
  refine WP.loopI (fun (r : Nat) s => (r ≤ 3) ∧ s.sl.length = 35 ∧ s.df = [] ∧ s.gh = {} ∧ (s.hp = h ++ [.cells 0 (bdA b m), .cells 0 (nums12 (overTo p q (r * 4))), .cells 0 (nums12 q)]) ∧ evA s.sl (.tmp 3) = .ptr ⟨h.length, 0⟩ 0 ∧ evA s.sl (.tmp 4) = .ptr ⟨h.length + 1, 0⟩ 0 ∧ evA s.sl (.tmp 5) = .ptr ⟨h.length + 2, 0⟩ 0 ∧ evA s.sl (.tmp 9) = .int .i64 r) (fun (r : Nat) => 3 - r) (0) ?_ ?_
  · simp (implicitDefEqProofs := false) (dsimp := false) only [go_sem, bdA, Nat.zero_mul, overTo_zero hp]
  · rintro r ⟨sl, df, hp, gh⟩ ⟨ab, al, rfl, rfl, rfl, a3, a4, a5, a9⟩
    simp only at ab al a3 a4 a5 a9
    obtain ⟨j, rfl⟩ := slots_lit al; clear al; simp only [junk_succ, junk_zero, evA_tmp, nth_16, nth_four, nth_one, nth_zero, Nat.zero_add, Nat.reduceAdd] at  a3 a4 a5 a9 ⊢
    refine wp_ok (so := { tail := [(7, 12)] }) mixed _ (by kernel_rfl) ?_
    by_cases hr : r < 3
    · have hs : ((r : Int) < 3) = True := eq_true (by omega)
      simp (implicitDefEqProofs := false) (dsimp := false) only [go_sem, a3, a4, a5, a9, hs, decide_true]
      refine WP.loopI (fun (x : Nat) s => (x ≤ 4) ∧ s.sl.length = 35 ∧ s.df = [] ∧ s.gh = {} ∧ (s.hp = h ++ [.cells 0 (bdA b m), .cells 0 (nums12 (overTo p q (r * 4 + x))), .cells 0 (nums12 q)]) ∧ evA s.sl (.tmp 3) = .ptr ⟨h.length, 0⟩ 0 ∧ evA s.sl (.tmp 4) = .ptr ⟨h.length + 1, 0⟩ 0 ∧ evA s.sl (.tmp 5) = .ptr ⟨h.length + 2, 0⟩ 0 ∧ evA s.sl (.tmp 9) = .int .i64 r ∧ evA s.sl (.tmp 7) = .int .i64 r ∧ evA s.sl (.tmp 12) = .int .i64 x) (fun (x : Nat) => 4 - x) (0) ?_ ?_
      · simp (implicitDefEqProofs := false) (dsimp := false) only [go_sem, bdA]
      · rintro x ⟨sl, df, hp, gh⟩ ⟨cb, cl, rfl, rfl, rfl, c3, c4, c5, c9, c7, c12⟩
        simp only at cb cl c3 c4 c5 c9 c7 c12
        obtain ⟨j, rfl⟩ := slots_lit cl; clear cl; simp only [junk_succ, junk_zero, evA_tmp, nth_16, nth_four, nth_one, nth_zero, Nat.zero_add, Nat.reduceAdd] at  c3 c4 c5 c9 c7 c12 ⊢
        refine wp_ok (so := { tail := [(7, 12)] }) mixed _ (by kernel_rfl) ?_
        by_cases hx : x < 4
        · have hs2 : ((x : Int) < 4) = True := eq_true (by omega)
          have f1 : (nums12 (overTo p q (r * 4 + x))).drop (r * 4 + x) = .int .i64 (p.getD (r * 4 + x) 0) :: (nums12 (overTo p q (r * 4 + x))).drop (r * 4 + x + 1) := by
            rw [nums12_at (overTo_len _ _ _) (by omega), overTo_get (by omega), if_neg (by omega)]
          have f2 : (nums12 q).drop (r * 4 + x) = .int .i64 (q.getD (r * 4 + x) 0) :: (nums12 q).drop (r * 4 + x + 1) := nums12_at hq (by omega)
          simp (implicitDefEqProofs := false) (dsimp := false) only [go_sem, c3, c4, c5, c9, c7, c12, bdA, hs2, decide_true, f1, f2, hs]
          exact ⟨by rw [nums12_len, overTo_len]; omega, x + 1, ⟨by omega, overTo_set (by omega), wrap_succ (by omega)⟩, by omega⟩
        · have hs2 : ((x : Int) < 4) = False := eq_false (by omega)
          simp (implicitDefEqProofs := false) (dsimp := false) only [go_sem, c3, c4, c5, c9, c7, c12, bdA, hs2, decide_false]
          exact ⟨r + 1, ⟨by omega, by rw [show (r + 1) * 4 = r * 4 + x by omega], wrap_succ (by omega)⟩, by omega⟩
    · have hs : ((r : Int) < 3) = False := eq_false (by omega)
      simp (implicitDefEqProofs := false) (dsimp := false) only [go_sem, a3, a4, a5, a9, bdA, hs, decide_false]
      have e3 : r = 3 := by omega
      subst e3
      refine ⟨by rw [nums12_len, overTo_len]; decide, ?_⟩
      rw [nums_take (overTo_len _ _ _)]
      (first | refine CallsA.use (misfits_ok b m (overB p q) (overTo_len _ _ _) okc) ?_ | refine QuietCalls.use (misfits_ok b m (overB p q) (overTo_len _ _ _) okc) ?_)
      simp (implicitDefEqProofs := false) (dsimp := false) only [go_sem, len_eq0]
      rfl

def allWaysA (b : Board) (m : List (Int × Int)) : AV := .fn (.func 112) [] [.pptr (bdA b m)]
theorem lays_ok (b : Board) (m : List (Int × Int)) : PureA Try.prog 86 [.agg (bdA b m)] (allWaysA b m) := by
  refine PureA.of_wpp { hand := [1] } 3 mixed Try.func86 (by kernel_rfl) rfl (by kernel_rfl) (by simp only [allWaysA, below, belowL, bdA_below, Bool.and_true]) fun h j hB => ?_
  simp only [junk_succ, junk_zero, List.cons_append, List.nil_append, List.length_cons, List.length_nil, Nat.reduceAdd]
  simp (implicitDefEqProofs := false) (dsimp := false) only [go_sem, bdA]
  refine wp_shut [1] (so := { }) mixed _ (by kernel_rfl) ?_
  simp (implicitDefEqProofs := false) (dsimp := false) only [go_sem]
  simp [allWaysA, bdA, sliceOf]
end Go.Mac

/-! MacNZ -/
/- MacNZ: regions that draw their order, in which some operations turn the blocks, one behind the other, and the others leave them alone. No program is in sight. -/
namespace Go.Mac
open Go Go.Conc

/-- The operations that turn the blocks stand in a row; each other one waits for those before its first state and is waited for by those from its last state on. -/
def nzOk (ops : Array Oper) (m : Nat) (nz lo hi : List Nat) : Bool :=
  ((List.range nz.length).all fun a => decide (nz.getD a 0 < m) && (match ops[nz.getD a 0]? with | some o => o.guard.isNone | none => false) && (List.range a).all fun b => decide (nz.getD b 0 < nz.getD a 0) && reachB ops ops.size (nz.getD a 0) (nz.getD b 0)) &&
  (List.range m).all fun i => nz.contains i || (decide (lo.getD i 0 ≤ nz.length) && (List.range nz.length).all fun a => (decide (lo.getD i 0 ≤ a) || reachB ops ops.size i (nz.getD a 0)) && (decide (a < hi.getD i 0) || reachB ops ops.size (nz.getD a 0) i))

/-- The same value from other blocks. -/
def sameQ (P : Program) (so : Opt) (o : Oper) (sl : List AV) (Hs : List (List Blk)) (v : AV) : List Nat → Prop
  | [] => True
  | a :: l => quietW P so o sl (Hs.getD a []) (fun v' => v' = v) ∧ sameQ P so o sl Hs v l

/-- What an operation asks that gives one value and turns the blocks into these. -/
def TurnCalls (P : Program) (g : FuncId) (args : List AV) (h H' : List Blk) (K : AV → Prop) : Prop := ∃ v, CallsA P g args h (fun e h' => e = .ret v ∧ h' = H') ∧ K v
@[congr] theorem TurnCalls_congr {P : Program} {g : FuncId} {args args' : List AV} {h H' : List Blk} {K : AV → Prop} (e : args = args') : TurnCalls P g args h H' K = TurnCalls P g args' h H' K := by rw [e]
theorem TurnCalls.use {P : Program} {g : FuncId} {args : List AV} {h H' : List Blk} {v : AV} {K : AV → Prop} (c : CallsA P g args h fun e h' => e = .ret v ∧ h' = H') (hk : K v) : TurnCalls P g args h H' K := ⟨v, c, hk⟩
def turnC (P : Program) (f : AV) (args : List AV) (h H' : List Blk) (K : AV → Prop) : Prop :=
  match f with
  | .fn (.func g) first cap => callable P g ∧ TurnCalls P g (first ++ args ++ cap) h H' K
  | _ => False
@[congr] theorem turnC_congr {P : Program} {f f' : AV} {args args' : List AV} {h H' : List Blk} {K : AV → Prop} (e1 : f = f') (e2 : args = args') : turnC P f args h H' K = turnC P f' args' h H' K := by rw [e1, e2]
theorem turnC_fn {P : Program} {g : FuncId} {first cap args : List AV} {h H' : List Blk} {K : AV → Prop} : turnC P (.fn (.func g) first cap) args h H' K = (callable P g ∧ TurnCalls P g (tag (first ++ args ++ cap)) h H' (held K (.mk K))) := rfl
def turnW (P : Program) (so : Opt) (o : Oper) (sl : List AV) (h H' : List Blk) (K : AV → Prop) : Prop :=
  match o.op with
  | .call cl => match cl.callee with
    | .value f => turnC P (evA sl f) (cl.args.toList.map (evA sl)) h H' K
    | .builtin .panic => False
    | _ => quietK (opE P o.op (evA sl) h) H' K
  | .buildSlice t len parts => sealed so o = false ∧ quietK (opE P (.buildSlice t len parts) (evA sl) h) H' K
  | .panic _ | .defer _ => False
  | _ => quietK (opE P o.op (evA sl) h) H' K
theorem turnW_mk {P : Program} {so : Opt} {o : Oper} {sl : List AV} {h H' : List Blk} {K : AV → Prop} : turnW P so o sl h H' K = match o.op with
  | .call cl => match cl.callee with
    | .value f => turnC P (tag (evA sl f)) (cl.args.toList.map (evA sl)) h H' K
    | .builtin .panic => False
    | _ => quietK (tag (opE P o.op (evA sl) h)) H' K
  | .buildSlice t len parts => sealed so o = false ∧ quietK (tag (opE P (.buildSlice t len parts) (evA sl) h)) H' K
  | .panic _ | .defer _ => False
  | _ => quietK (tag (opE P o.op (evA sl) h)) H' K := rfl

theorem turnW_one {P : Program} {so : Opt} {o : Oper} {sl : List AV} {h H' : List Blk} {K : AV → Prop} (hw : turnW P so o sl h H' K) : ∃ v, K v ∧ oneW P so o sl h fun v2 h2 => v2 = v ∧ h2 = H' := by
  have plain : ∀ {r : Option (Prop × AV × List Blk)}, quietK r H' K → ∃ v, K v ∧ stepK r fun v2 h2 => v2 = v ∧ h2 = H' := fun {r} q => by
    cases r with
    | none => exact q.elim
    | some x => obtain ⟨c, v, h'⟩ := x; exact ⟨v, q.2.2, q.1, rfl, q.2.1⟩
  obtain ⟨dst, op, ty, pos, after, guard⟩ := o
  cases op
  case call cl =>
    obtain ⟨callee, args, ats⟩ := cl
    cases callee with
    | value f =>
      simp only [turnW, oneW, stepW, callW, turnC] at *
      split at hw
      · rename_i g first cap hfv
        obtain ⟨h1, v, h2, h3⟩ := hw
        simp only [hfv]
        exact ⟨v, h3, trivial, h1, h2.mono fun e h' q => by rw [q.1]; exact ⟨rfl, q.2⟩⟩
      · exact hw.elim
    | invoke r m => simp only [turnW, oneW, stepW] at *; exact plain hw
    | builtin b =>
      by_cases hb : b = .panic
      · subst hb; exact hw.elim
      · cases b <;> first | exact absurd rfl hb | (simp only [turnW, oneW, stepW] at *; exact plain hw)
  case buildSlice t len parts =>
    simp only [turnW, oneW, stepW] at *
    obtain ⟨h1, h2⟩ := hw
    simp only [h1]
    exact plain h2
  case panic x => exact hw.elim
  case defer x => exact hw.elim
  all_goals (simp only [turnW, oneW, stepW] at *; exact plain hw)

/-- What an operation asks, in a region of this kind. -/
def noisyW (P : Program) (so : Opt) (o : Oper) (sl : List AV) (Hs : List (List Blk)) (lo hi : Nat) (K : AV → Prop) : Option Nat → Prop
  | some a => turnW P so o sl (Hs.getD a []) (Hs.getD (a + 1) []) K
  | none => quietW P so o sl (Hs.getD lo []) fun v => sameQ P so o sl Hs v (List.range' (lo + 1) (hi - lo)) ∧ K v

def noisyL (P : Program) (so : Opt) (ops : Array Oper) (Hs : List (List Blk)) (nz lo hi : List Nat) : Nat → List Oper → (List AV → Prop) → List AV → Prop
  | _, [], K, sl => K sl
  | i, o :: rest, K, sl => guardW ops o sl (noisyW P so o sl Hs (lo.getD i 0) (hi.getD i 0) (fun v => withVH v [] fun v h => cutV (cuts so o) v h fun v _ => noisyL P so ops Hs nz lo hi (i + 1) rest K (putA sl o.dst v)) (nz.idxOf? i)) (noisyL P so ops Hs nz lo hi (i + 1) rest K (putA sl o.dst (.tup [])))

theorem sameQ_get {P : Program} {so : Opt} {o : Oper} {sl : List AV} {Hs : List (List Blk)} {v : AV} : ∀ {l : List Nat}, sameQ P so o sl Hs v l → ∀ a ∈ l, quietW P so o sl (Hs.getD a []) (fun v' => v' = v)
  | [], _, _, h => by cases h
  | b :: l, q, a, h => by
    rcases List.mem_cons.1 h with rfl | h
    · exact q.1
    · exact sameQ_get q.2 a h

section
variable {P : Program} {fk : FK} {Q : AExit → AS → Prop} {ops : Array Oper} {so : Opt}

/-- How many of the noisy ones are in a set. -/
def cntL (nz : List Nat) (L : Nat → Bool) : Nat := (nz.filter L).length

theorem cnt_take {nz : List Nat} {L : Nat → Bool} {c : Nat} (hc : c ≤ nz.length) (h1 : ∀ a, a < c → L (nz.getD a 0) = true) (h2 : ∀ a, c ≤ a → a < nz.length → L (nz.getD a 0) = false) : cntL nz L = c := by
  unfold cntL
  induction nz generalizing c with
  | nil => simp at hc; simp [hc]
  | cons x nz ih =>
    cases c with
    | zero =>
      have hx := h2 0 (Nat.le_refl _) (by simp)
      simp only [List.getD_cons_zero] at hx
      rw [List.filter_cons_of_neg (by simp [hx])]
      exact ih (c := 0) (Nat.zero_le _) (fun a h => by omega) fun a _ hl => by have := h2 (a + 1) (by omega) (by simpa using hl); simpa using this
    | succ c =>
      have hx := h1 0 (by omega)
      simp only [List.getD_cons_zero] at hx
      rw [List.filter_cons_of_pos hx, List.length_cons, ih (c := c) (by simpa using hc) (fun a h => by have := h1 (a + 1) (by omega); simpa using this) fun a h hl => by have := h2 (a + 1) (by omega) (by simpa using hl); simpa using this]

theorem WP.noisy {id : Nat} {s : AS} (so : Opt) (m : Nat) (nz lo hi : List Nat) (Hs : List (List Blk)) (hgt : s.gh.todo = []) (hm : P.follows .mixedOrders = true) (hok : okRegion ops = true) (htail : tailOk ops m = true) (hmn : m ≤ ops.size) (hnz : nzOk ops m nz lo hi = true) (hH0 : Hs.getD 0 [] = s.hp)
    (hw : noisyL P so ops Hs nz lo hi 0 (tag (ops.toList.take m)) (fun sl => runL P so ops (tag (ops.toList.drop m)) Q { s with sl := sl, hp := Hs.getD nz.length [] }) s.sl) : WP P fk (.region id ops true) Q s := by
  -- what the check says
  unfold nzOk at hnz
  rw [Bool.and_eq_true, List.all_eq_true, List.all_eq_true] at hnz
  obtain ⟨hz1, hz2⟩ := hnz
  have zlt : ∀ a, a < nz.length → nz.getD a 0 < m := fun a ha => by have := hz1 a (List.mem_range.2 ha); simp only [Bool.and_eq_true, decide_eq_true_eq] at this; exact this.1.1
  have zg : ∀ a, a < nz.length → ∀ o, ops[nz.getD a 0]? = some o → o.guard = none := fun a ha o ho => by
    have := hz1 a (List.mem_range.2 ha); simp only [Bool.and_eq_true, ho] at this
    exact Option.isNone_iff_eq_none.1 this.1.2
  have zr : ∀ a b, a < nz.length → b < a → nz.getD b 0 < nz.getD a 0 ∧ reachB ops ops.size (nz.getD a 0) (nz.getD b 0) = true := fun a b ha hb => by
    have := hz1 a (List.mem_range.2 ha); simp only [Bool.and_eq_true, List.all_eq_true] at this
    have := this.2 b (List.mem_range.2 hb)
    simpa using this
  have zq : ∀ i, i < m → nz.contains i = false → ∀ a, a < nz.length → (lo.getD i 0 ≤ a ∨ reachB ops ops.size i (nz.getD a 0) = true) ∧ (a < hi.getD i 0 ∨ reachB ops ops.size (nz.getD a 0) i = true) := fun i hi hc a ha => by
    have := hz2 i (List.mem_range.2 hi)
    rw [hc, Bool.false_or, Bool.and_eq_true, List.all_eq_true] at this
    have := this.2 a (List.mem_range.2 ha)
    simpa using this
  have zl : ∀ i, i < m → nz.contains i = false → lo.getD i 0 ≤ nz.length := fun i hi hc => by
    have := hz2 i (List.mem_range.2 hi)
    rw [hc, Bool.false_or, Bool.and_eq_true] at this
    simpa using this.1
  have zop : ∀ a, a < nz.length → ∃ o, ops[nz.getD a 0]? = some o := fun a ha => ⟨_, Array.getElem?_eq_getElem (Nat.lt_of_lt_of_le (zlt a ha) hmn)⟩
  -- in a closed set the noisy ones are the first of the row
  have first : ∀ L, closedL ops L → ∀ a b, a < nz.length → b < a → L (nz.getD a 0) = true → L (nz.getD b 0) = true := fun L hc a b ha hb hL => by
    obtain ⟨o, ho⟩ := zop a ha
    exact reachB_closed hc ho (fun k hk => hc _ _ ho hL k hk) (zr a b ha hb).2
  have idx : ∀ i a, nz.idxOf? i = some a → a < nz.length ∧ nz.getD a 0 = i := fun i a h => by
    rw [List.idxOf?_eq_some_iff] at h
    obtain ⟨h1, h2, _⟩ := h
    exact ⟨h1, by simpa [List.getD, h1] using h2⟩
  have idxn : ∀ i, nz.idxOf? i = none → nz.contains i = false := fun i h => by
    rw [List.idxOf?_eq_none_iff] at h
    simpa using h
  have sorted : ∀ a b, a < nz.length → b < nz.length → nz.getD a 0 = nz.getD b 0 → a = b := fun a b ha hb e => by
    rcases Nat.lt_trichotomy a b with h | h | h
    · have := (zr b a hb h).1; omega
    · exact h
    · have := (zr a b ha h).1; omega
  have cnt : ∀ L, closedL ops L → ∃ c, c ≤ nz.length ∧ cntL nz L = c ∧ (∀ a, a < c → L (nz.getD a 0) = true) ∧ (∀ a, c ≤ a → a < nz.length → L (nz.getD a 0) = false) := fun L hc => by
    have : ∀ n, n ≤ nz.length → ∃ c, c ≤ n ∧ (∀ a, a < c → L (nz.getD a 0) = true) ∧ (∀ a, c ≤ a → a < n → L (nz.getD a 0) = false) := by
      intro n
      induction n with
      | zero => exact fun _ => ⟨0, Nat.le_refl _, fun a h => by omega, fun a _ h => by omega⟩
      | succ n ih =>
        intro hn
        obtain ⟨c, h1, h2, h3⟩ := ih (by omega)
        by_cases hL : L (nz.getD n 0) = true
        · refine ⟨n + 1, Nat.le_refl _, fun a ha => ?_, fun a h1 h2 => by omega⟩
          by_cases e : a = n
          · rw [e]; exact hL
          · exact first L hc n a (by omega) (by omega) hL
        · refine ⟨c, by omega, h2, fun a h4 h5 => ?_⟩
          by_cases e : a = n
          · rw [e]; simpa using hL
          · exact h3 a h4 (by omega)
    obtain ⟨c, h1, h2, h3⟩ := this nz.length (Nat.le_refl _)
    exact ⟨c, h1, cnt_take h1 h2 h3, h2, h3⟩
  -- the values
  let Good (vals : Nat → AV) (i : Nat) (o : Oper) (sl : List AV) : Prop := match nz.idxOf? i with
    | some a => OneG P so ops o sl (Hs.getD a []) (vals i) (Hs.getD (a + 1) [])
    | none => ∀ a, lo.getD i 0 ≤ a → a ≤ hi.getD i 0 → OneG P so ops o sl (Hs.getD a []) (vals i) (Hs.getD a [])
  have key : ∀ (l : List Oper) (k : Nat) (sl : List AV) (K : List AV → Prop), k + l.length = m → (∀ j, j < l.length → l[j]? = ops[k + j]?) → noisyL P so ops Hs nz lo hi k l K sl →
      ∃ vals : Nat → AV, (∀ vals' : Nat → AV, (∀ i, k ≤ i → vals' i = vals i) → ∀ sl0, slotsL ops vals' (fun _ => true) sl0 k = sl →
        (∀ i o, k ≤ i → i < m → ops[i]? = some o → Good vals' i o (slotsL ops vals' (fun _ => true) sl0 i)) ∧ K (slotsL ops vals' (fun _ => true) sl0 m)) := by
    intro l
    induction l with
    | nil =>
      intro k sl K hk _ hq
      have : k = m := by simpa using hk
      subst this
      exact ⟨fun _ => .any, fun vals' _ sl0 e => ⟨fun i o hi ho => by omega, by rw [e]; exact hq⟩⟩
    | cons o rest ih =>
      intro k sl K hk hl hq
      have ho : ops[k]? = some o := by simpa using (hl 0 (by simp)).symm
      have hrest : ∀ j, j < rest.length → rest[j]? = ops[k + 1 + j]? := fun j hj => by have := hl (j + 1) (by simpa using hj); simpa [Nat.add_assoc, Nat.add_comm 1 j] using this
      simp only [noisyL] at hq
      have fin : ∀ v, (∀ vals : Nat → AV, vals k = v → Good vals k o sl) → noisyL P so ops Hs nz lo hi (k + 1) rest K (putA sl o.dst v) →
            ∃ vals : Nat → AV, (∀ vals' : Nat → AV, (∀ i, k ≤ i → vals' i = vals i) → ∀ sl0, slotsL ops vals' (fun _ => true) sl0 k = sl →
              (∀ i o, k ≤ i → i < m → ops[i]? = some o → Good vals' i o (slotsL ops vals' (fun _ => true) sl0 i)) ∧ K (slotsL ops vals' (fun _ => true) sl0 m)) := by
        intro v h1 h2
        obtain ⟨vals, hv⟩ := ih (k + 1) _ K (by simp at hk; omega) hrest h2
        refine ⟨fun i => if i = k then v else vals i, fun vals' he sl0 hs0 => ?_⟩
        have hk' : vals' k = v := by rw [he k (Nat.le_refl _)]; simp
        have hs1 : slotsL ops vals' (fun _ => true) sl0 (k + 1) = putA sl o.dst v := by
          simp only [slotsL, if_true, hs0, ho, hk']
          rfl
        obtain ⟨g1, g2⟩ := hv vals' (fun i hi => by rw [he i (by omega)]; simp [show ¬ i = k by omega]) sl0 hs1
        refine ⟨fun i o' hi hlt ho' => ?_, g2⟩
        by_cases hik : i = k
        · subst hik
          rw [ho] at ho'
          cases ho'
          rw [hs0]
          exact h1 vals' hk'
        · exact g1 i o' (by omega) hlt ho'
      -- an operation that is carried out
      have go : ∀ (K' : AV → Prop), noisyW P so o sl Hs (lo.getD k 0) (hi.getD k 0) K' (nz.idxOf? k) → (∀ h v h', oneW P so o sl h (fun v2 h2 => v2 = v ∧ h2 = h') → OneG P so ops o sl h v h') → ∃ v, (∀ vals : Nat → AV, vals k = v → Good vals k o sl) ∧ K' v := by
        intro K' hn hone
        cases hx : nz.idxOf? k with
        | some a =>
          rw [hx] at hn
          simp only [noisyW] at hn
          obtain ⟨v, h1, h2⟩ := turnW_one hn
          refine ⟨v, fun vals hv => ?_, h1⟩
          simp only [Good, hx]
          rw [hv]
          exact hone _ _ _ h2
        | none =>
          rw [hx] at hn
          simp only [noisyW] at hn
          obtain ⟨v, ⟨h1, h2⟩, h3⟩ := quietW_one hn
          refine ⟨v, fun vals hv => ?_, h2⟩
          simp only [Good, hx]
          intro a ha hb
          rw [hv]
          by_cases e : a = lo.getD k 0
          · rw [e]; exact hone _ _ _ h3
          · obtain ⟨v2, h4, h5⟩ := quietW_one (sameQ_get h1 a (by rw [List.mem_range'_1]; omega))
            rw [h4] at h5
            exact hone _ _ _ h5
      unfold guardW guardV at hq
      split at hq
      · rename_i hg
        obtain ⟨v, h1, h2⟩ := go _ hq fun h v h' q => by unfold OneG guardW; simp only [hg]; exact q
        unfold withVH at h2; replace h2 := cutV_ok h2
        exact fin v h1 h2
      · rename_i j want hg
        split at hq
        · rename_i d hd
          split at hq
          · rename_i t ht
            by_cases he : t = want
            · obtain ⟨v, h1, h2⟩ := go _ (guardB_yes hq he) fun h v h' q => by
                unfold OneG guardW guardV
                simp only [hg, hd, ht]
                exact guardB_of (fun _ => q) (fun q => absurd he q)
              unfold withVH at h2; replace h2 := cutV_ok h2
              exact fin v h1 h2
            · refine fin (.tup []) (fun vals hv => ?_) (guardB_no hq he)
              have hout : ∀ h, OneG P so ops o sl h (vals k) h := fun h => by
                unfold OneG guardW guardV
                simp only [hg, hd, ht, hv]
                exact guardB_of (fun q => absurd q he) (fun _ => by simp)
              simp only [Good]
              split
              · rename_i a hx
                exfalso
                obtain ⟨e1, e2⟩ := idx _ _ hx
                have := zg a e1 o (by rw [e2]; exact ho)
                rw [this] at hg; cases hg
              · exact fun a _ _ => hout _
          · exact hq.elim
        · exact hq.elim
  obtain ⟨vals, hv⟩ := key (ops.toList.take m) 0 s.sl _ (by simp; omega) (fun j hj => by
    simp at hj
    rw [List.getElem?_take_of_lt (by omega)]; simp) hw
  obtain ⟨g1, g2⟩ := hv vals (fun _ _ => rfl) s.sl rfl
  refine WP.drawT (so := so) m hgt hm hok htail hmn vals (fun L => Hs.getD (cntL nz L) []) (fun L hL => ?_) (fun i o him ho L hc hd hLi => .inl ?_) (fun L h1 h2 => ?_)
  · rw [cnt_take (c := 0) (Nat.zero_le _) (fun a h => by omega) (fun a _ ha => hL _ (Nat.lt_of_lt_of_le (zlt a ha) hmn))]
    exact hH0
  · have hg := g1 i o (Nat.zero_le _) him ho
    obtain ⟨c, c1, c2, c3, c4⟩ := cnt L hc
    have hreach : ∀ j, reachB ops ops.size i j = true → L j = true := fun j hj => reachB_closed hc ho hd hj
    cases hx : nz.idxOf? i with
    | some a =>
      simp only [Good, hx] at hg
      obtain ⟨e1, e2⟩ := idx _ _ hx
      have ec : c = a := by
        rcases Nat.lt_trichotomy c a with h | h | h
        · have := c4 c (Nat.le_refl _) (by omega)
          have h3 := hreach (nz.getD c 0) (by rw [← e2]; exact (zr a c e1 h).2)
          rw [this] at h3; cases h3
        · exact h
        · have := c3 a h
          rw [e2, hLi] at this; cases this
      have ec2 : cntL nz (fun j => if j = i then true else L j) = a + 1 := by
        refine cnt_take (by omega) (fun b hb => ?_) (fun b hb hb2 => ?_)
        · by_cases e : nz.getD b 0 = i
          · exact if_pos e
          · simp only [e, if_false]
            have : b ≠ a := fun e' => e (by rw [e', e2])
            exact c3 b (by omega)
        · have : nz.getD b 0 ≠ i := fun e => by have := sorted b a hb2 e1 (by rw [e, e2]); omega
          simp only [this, if_false]
          exact c4 b (by omega) hb2
      simp only [c2, ec, ec2]
      exact hg
    | none =>
      simp only [Good, hx] at hg
      have hni := idxn i hx
      have ec2 : cntL nz (fun j => if j = i then true else L j) = c := by
        refine cnt_take c1 (fun b hb => ?_) (fun b hb hb2 => ?_)
        · split
          · rfl
          · exact c3 b hb
        · have : nz.getD b 0 ≠ i := fun e => by
            have : i ∈ nz := by rw [← e]; simp [List.getD, hb2]
            have h3 : nz.contains i = true := by simpa using this
            rw [hni] at h3; cases h3
          simp only [this, if_false]
          exact c4 b hb hb2
      simp only [c2, ec2]
      refine hg c ?_ ?_
      · refine Classical.byContradiction fun h => ?_
        have hlt : c < lo.getD i 0 := by omega
        by_cases hcl : c < nz.length
        · rcases (zq i him hni c hcl).1 with h5 | h5
          · omega
          · have h6 := hreach _ h5
            rw [c4 c (Nat.le_refl _) hcl] at h6; cases h6
        · have := zl i him hni; omega
      · refine Classical.byContradiction fun h => ?_
        have hlt : hi.getD i 0 < c := by omega
        rcases (zq i him hni (c - 1) (by omega)).2 with h5 | h5
        · omega
        · obtain ⟨o2, ho2⟩ := zop (c - 1) (by omega)
          have hL1 := c3 (c - 1) (by omega)
          have h6 := reachB_closed hc ho2 (fun k hk => hc _ _ ho2 hL1 k hk) h5
          rw [hLi] at h6; cases h6
  · have e : cntL nz L = nz.length := cnt_take (Nat.le_refl _) (fun a ha => h1 _ (zlt a ha)) (fun a h2 h3 => by omega)
    rw [e]
    have := runL_ok (fk := fk) (ops := ops) (l := ops.toList.drop m) (k := m) (fun j => by rw [List.getElem?_drop, Array.getElem?_toList]) g2
    rwa [List.length_drop, Array.length_toList] at this
end
section
variable {P : Program} {so : Opt} {ops : Array Oper} {o : Oper} {rest : List Oper} {K : List AV → Prop} {sl : List AV} {Hs : List (List Blk)} {nz lo hi : List Nat} {i a : Nat} {v : AV} {l : List Nat}
@[congr] theorem noisyL_congr {l l' : List Oper} (e : l = l') : noisyL P so ops Hs nz lo hi i l K sl = noisyL P so ops Hs nz lo hi i l' K sl := by rw [e]
theorem noisyL_nil : noisyL P so ops Hs nz lo hi i [] K sl = K sl := rfl
theorem noisyL_cons : noisyL P so ops Hs nz lo hi i (o :: rest) K sl = guardU (tag o.guard) ops sl (noisyW P so o sl Hs (lo.getD i 0) (hi.getD i 0) (fun v => cutV (tag (cuts so o)) v [] fun v _ => withS (tag (putA sl o.dst v)) fun sl => noisyL P so ops Hs nz lo hi (i + 1) rest K sl) (tag (nz.idxOf? i))) (withS (tag (putA sl o.dst (.tup []))) fun sl => noisyL P so ops Hs nz lo hi (i + 1) rest K sl) := rfl
@[congr] theorem noisyW_congr {b b' : Option Nat} {lo lo' hi hi' : Nat} {K : AV → Prop} (e0 : lo = lo') (e1 : hi = hi') (e : b = b') : noisyW P so o sl Hs lo hi K b = noisyW P so o sl Hs lo' hi' K b' := by rw [e0, e1, e]
theorem noisyW_some {lo hi : Nat} {K : AV → Prop} : noisyW P so o sl Hs lo hi K (some a) = turnW P so o sl (Hs.getD a []) (Hs.getD (a + 1) []) K := rfl
theorem noisyW_none {lo hi : Nat} {K : AV → Prop} : noisyW P so o sl Hs lo hi K none = quietW P so o sl (Hs.getD lo []) fun v => sameQ P so o sl Hs v (tag (List.range' (lo + 1) (hi - lo))) ∧ K v := rfl
@[congr] theorem sameQ_congr {l l' : List Nat} (e : l = l') : sameQ P so o sl Hs v l = sameQ P so o sl Hs v l' := by rw [e]
theorem sameQ_nil : sameQ P so o sl Hs v [] = True := rfl
theorem sameQ_cons : sameQ P so o sl Hs v (a :: l) = (quietW P so o sl (Hs.getD a []) (fun v' => v' = v) ∧ sameQ P so o sl Hs v l) := rfl
end
attribute [go_sem ↓] noisyL_nil noisyL_cons turnW_mk
attribute [go_sem] noisyW_some noisyW_none sameQ_nil sameQ_cons turnC_fn List.range'_zero List.range'_succ Nat.reduceSub List.idxOf?_cons List.idxOf?_nil

/-- 'rangeIter', the loop's name being given. -/
theorem WP.rangeIterN {P : Program} {fk : FK} {Q : AExit → AS → Prop} {s : AS} {f : Operand} {params : Array Tmp} {assign body : Code} {g : FuncId} {cap : List AV} {xs : List (List AV)} (nm : Nat) (hnm : s.hp.length + 1 = nm) (so : Opt) (hm : P.follows .mixedOrders = true) (hda : drawsOk so assign = true) (hdb : drawsOk so body = true) (hrnd : fk.rnd = false) (hf : evA s.sl f = .fn (.func g) [] cap) (hc : callable P g) (hgt : s.gh.todo = []) (hfs : (P.funcs[fk.fn]?).isSome = true)
    (hit : IterA P g cap xs) (hx : ∀ x ∈ xs, x.length = params.size) (I : Nat → List Blk → Prop) (T : Code → List Blk → Prop)
    (hI : ∀ k h, s.hp.all (belowBlk s.hp.length) = true → I k h → h.length = s.hp.length ∧ h.all (belowBlk s.hp.length) = true) (hT : ∀ c h, s.hp.all (belowBlk s.hp.length) = true → T c h → h.length = s.hp.length ∧ h.all (belowBlk s.hp.length) = true)
    (h0 : I 0 s.hp)
    (hround : ∀ k h own (hk : k < xs.length), I k h → h.length = s.hp.length → wp P so ⟨fk.fn, true, h.length + (2 + own.length)⟩ assign
      (asgK P so ⟨fk.fn, true, h.length + (2 + own.length)⟩ ⟨nm, 0⟩ body (roundP (fun hp h1 => ∃ extra, hp = loopH h1 .busy none fk.fn s.sl params assign body (own ++ extra)) (I (k + 1)) T))
      ⟨setParams s.sl params.toList xs[k], [], loopH h .ready none fk.fn s.sl params assign body own, {}⟩)
    (hend : ∀ h, I xs.length h → Q .normal { s with df := .mark ⟨s.hp.length, 0⟩ :: s.df, hp := h ++ [.defd, .dead] })
    (hstop : ∀ c h, T c h → jumpQ Q (some c) { s with df := .mark ⟨s.hp.length, 0⟩ :: s.df, hp := h ++ [.defd, .dead] }) : WP P fk (.rangeFunc f params assign body) Q s := by
  subst hnm
  exact WP.rangeIter so hm hda hdb hrnd hf hc hgt hfs hit hx I T hI hT h0 hround hend hstop
end Go.Mac

/-! FnL -/
/- FnL: all ways of all pages, one by one. -/
namespace Go.Mac
open Go Go.Conc Go.Proofs
set_option maxRecDepth 4000

/-- A board that has been checked. -/
structure okBoard (b : Board) : Prop where
  pos : 0 < b.pages.length
  most : b.pages.length ≤ 4
  page : ∀ p ∈ b.pages, okPage p
  cells : okCells b.cells

def wayN (b : Board) (m : List (Int × Int)) (p n : Nat) : Lay × List Int := (layN p n, faceB m (b.pages.getD p []) b.cells (layN p n))
def ways (b : Board) (m : List (Int × Int)) (p : Nat) : List (Lay × List Int) := (List.range 18).map (wayN b m p)
def allWays (b : Board) (m : List (Int × Int)) : List (Lay × List Int) := (List.range b.pages.length).flatMap (ways b m)
def encW (x : Lay × List Int) : List AV := [.agg (cLay x.1), .agg (nums12 x.2)]
theorem ways_len (b : Board) (m : List (Int × Int)) (p : Nat) : (ways b m p).length = 18 := by simp [ways]
theorem allWays_len (b : Board) (m : List (Int × Int)) : (allWays b m).length = b.pages.length * 18 := by
  rw [allWays, length_rows (ways_len b m), List.length_range]
theorem ways18_eq {b : Board} {m : List (Int × Int)} {p : Nat} (hp : p < b.pages.length) : ways18 m b.pages[p] b.cells p = (ways b m p).map encW := by
  simp [ways18, ways, wayN, wayA, encW, List.getD, hp, Function.comp_def]
theorem allWays_at {b : Board} {m : List (Int × Int)} {p k : Nat} (hp : p < b.pages.length) (hk : k < 18) : (allWays b m)[p * 18 + k]? = some (wayN b m p k) := by
  have h := drop_rows (f := ways b m) (n := 18) (ways_len b m) (List.range b.pages.length) p (by simpa using hp)
  have e : (allWays b m)[p * 18 + k]? = ((allWays b m).drop (p * 18))[k]? := by rw [List.getElem?_drop]
  rw [e]
  unfold allWays
  rw [h, List.getElem?_append_left (by rw [ways_len]; exact hk)]
  simp [ways, hk]

theorem iter_ways (b : Board) (m : List (Int × Int)) (p : Nat) (hpl : p < b.pages.length) (ok : okBoard b) : IterA Try.prog 104 [.pptr [.int .i64 p], .pptr (bdA b m)] ((ways b m p).map encW) := by
  rw [← ways18_eq hpl]
  exact laysOf1_ok b m p hpl (ok.page _ (List.getElem_mem hpl)) ok.cells

theorem call_laysOf1 : callable Try.prog 104 := ⟨_, Try.func104, rfl, rfl⟩
theorem encW_len {l : List (Lay × List Int)} : ∀ x ∈ l.map encW, x.length = 2 := by
  intro x hx
  obtain ⟨y, _, rfl⟩ := List.mem_map.1 hx
  rfl

/-- Blocks of mine behind those of others. -/
theorem own_ok {h1 h2 own : List Blk} {L : Nat} (e1 : h1.length = L) (e2 : h2.length = L) (b2 : h2.all (belowBlk L) = true) (hb : (h1 ++ own).all (belowBlk (h1 ++ own).length) = true) : (h2 ++ own).length = (h1 ++ own).length ∧ (h2 ++ own).all (belowBlk (h1 ++ own).length) = true := by
  rw [List.all_append, Bool.and_eq_true] at *
  exact ⟨by simp [e1, e2], allBelow_mono (by simp [e1]) b2, hb.2⟩

/-- Places in blocks of which some are known by their number alone. -/
theorem getL {h bs : List Blk} {L i : Nat} (e : h.length = L) : (h ++ bs)[L + i]? = bs[i]? := by rw [← e]; exact hget _ _ _
theorem getL0 {h bs : List Blk} {L : Nat} (e : h.length = L) : (h ++ bs)[L]? = bs[0]? := by rw [← e]; exact hget0 _ _
theorem setL {h bs : List Blk} {L i : Nat} {b : Blk} (e : h.length = L) : (h ++ bs).set (L + i) b = h ++ bs.set i b := by rw [← e]; exact hset _ _ _ _
theorem setL0 {h bs : List Blk} {L : Nat} {b : Blk} (e : h.length = L) : (h ++ bs).set L b = h ++ bs.set 0 b := by rw [← e]; exact hset0 _ _ _
theorem cLay_leaf (l : Lay) : (cLay l).all leafA = true := rfl
@[simp] theorem cLay_len (l : Lay) : (cLay l).length = 4 := rfl
theorem cLay_take (l : Lay) : (cLay l).take 4 = cLay l := rfl
theorem face_len (m : List (Int × Int)) (p : List (List UInt8)) (cs : List (List Trace)) (l : Lay) : (faceB m p cs l).length = 12 := part12_len _ _
theorem setMany12 {t : List AV} {f : List Int} (ht : t.length = 12) (hf : f.length = 12) : setMany t 0 (nums12 f) = nums12 f := setMany_whole (by rw [nums12_len, hf, ht])

/-- Blocks behind others that have been turned. -/
theorem same_tail {h1 h2 k x : List Blk} {L : Nat} (e1 : h1.length = L) (e2 : h2.length = L) : ∀ i, L ≤ i → i < (h1 ++ k).length → (h2 ++ (k ++ x))[i]? = (h1 ++ k)[i]? := fun i hi hlt => by
  rw [List.length_append] at hlt
  rw [List.getElem?_append_right (l₁ := h2) (by omega), List.getElem?_append_right (l₁ := h1) (by omega), List.getElem?_append_left (by omega), e1, e2]
theorem marks_loop {h1 h2 k : List Blk} {L hi : Nat} {df : List ADef} (e1 : h1.length = L) (e2 : h2.length = L) (hm : marksAt L (h1 ++ k) (h1 ++ k).length df) (hh : L + k.length < hi) : marksAt L (h2 ++ (k ++ [.defd, .dead])) hi (.mark ⟨L + k.length, 0⟩ :: df) := by
  refine marksAt_more hm rfl (by simp only; omega) (by simp only [List.length_append]; omega) ?_ (same_tail e1 e2) (by simp only; omega)
  simp only
  rw [getL e2, hget0]; rfl

theorem loop_cut {h k own e : List Blk} {c d l : Blk} : h ++ c :: (k ++ d :: l :: (own ++ e)) = (h ++ c :: k) ++ d :: l :: (own ++ e) := by simp
theorem setMany4 {a b c d : AV} {l : Lay} : setMany [a, b, c, d] 0 (cLay l) = cLay l := rfl
theorem setM12 {a0 a1 a2 a3 a4 a5 a6 a7 a8 a9 a10 a11 : AV} {f : List Int} (hf : f.length = 12) : setMany [a0, a1, a2, a3, a4, a5, a6, a7, a8, a9, a10, a11] 0 (nums12 f) = nums12 f := setMany12 rfl hf

theorem lays1_ok (b : Board) (m : List (Int × Int)) (ok : okBoard b) : IterA Try.prog 112 [.pptr (bdA b m)] ((allWays b m).map encW) := by
  intro n L J S hg hJ hS hY h h0
  have hlen : ((allWays b m).map encW).length = b.pages.length * 18 := by rw [List.length_map, allWays_len]
  have hL := (hJ 0 h h0).1
  refine CallsA.of_wpe [] {} 22 mixed Try.func112 (by kernel_rfl) rfl (by kernel_rfl) fun j hB hA => ?_; simp only [junk_succ, junk_zero, List.cons_append, List.nil_append, List.length_cons, List.length_nil, Nat.reduceAdd]
  simp (implicitDefEqProofs := false) (dsimp := false) only [go_sem, bdA]
  refine WP.loopI (fun (i : Nat) s => (i ≤ b.pages.length) ∧ s.sl.length = 24 ∧ True ∧ s.gh = {} ∧ (∃ h1 k, s.hp = h1 ++ .cells 0 [.yield n] :: k ∧ J (i * 18) h1 ∧ marksAt L s.hp s.hp.length s.df) ∧ evA s.sl (.tmp 1) = .pptr (bdA b m) ∧ evA s.sl (.tmp 2) = .ptr ⟨L, 0⟩ 0 ∧ evA s.sl (.tmp 9) = .int .i64 b.pages.length ∧ evA s.sl (.tmp 10) = .int .i64 i) (fun (i : Nat) => b.pages.length - i) (0) ?_ ?_
  · simp (implicitDefEqProofs := false) (dsimp := false) only [go_sem, bdA, Nat.zero_le]
    exact ⟨⟨h, [], by simp, h0, trivial⟩, by rw [hL]⟩
  · rintro i ⟨sl, df, hp, gh⟩ ⟨ab, al, ad, rfl, ah, a1, a2, a9, a10⟩
    simp only at ab al ah ad a1 a2 a9 a10
    obtain ⟨j, rfl⟩ := slots_lit al; clear al; simp only [junk_succ, junk_zero, evA_tmp, nth_16, nth_four, nth_one, nth_zero, Nat.zero_add, Nat.reduceAdd] at  a1 a2 a9 a10 ⊢
    refine wp_ok (so := {}) mixed _ (by kernel_rfl) ?_
    obtain ⟨h1, k, rfl, hj, hmk⟩ := ah
    obtain ⟨g1, g2, g3, g4⟩ := hJ _ _ hj
    by_cases hi : i < b.pages.length
    · have gL0 : ∀ bs : List Blk, (h1 ++ bs)[L]? = bs[0]? := fun bs => by rw [← g1]; exact hget0 _ _
      simp (implicitDefEqProofs := false) (dsimp := false) only [go_sem, a1, a2, a9, a10, bdA, nat_lt hi, decide_true]
      (first | refine CallsA.use (laysOf_ok b m i) ?_ | refine QuietCalls.use (laysOf_ok b m i) ?_)
      simp (implicitDefEqProofs := false) (dsimp := false) only [go_sem]
      refine WP.rangeIter (so := {}) mixed (by kernel_rfl) (by kernel_rfl) rfl rfl (call_laysOf1) rfl rfl (iter_ways b m i hi ok) (encW_len) (fun k2 h => ∃ h2, h = h2 ++ .cells 0 [.yield n] :: k ∧ J (i * 18 + k2) h2) (fun c h => c = .ret ∧ ∃ h2, h = h2 ++ .cells 0 [.yield n] :: k ∧ S h2) ?_ ?_ ?_ ?_ ?_ ?_
      · rintro k2 h hb ⟨h2, rfl, hj2⟩
        obtain ⟨q1, q2, _⟩ := hJ _ _ hj2
        exact own_ok g1 q1 q2 hb
      · rintro c h hb ⟨_, h2, rfl, hj2⟩
        obtain ⟨q1, q2⟩ := hS _ hj2
        exact own_ok g1 q1 q2 hb
      · exact ⟨h1, rfl, hj⟩
      · rintro k2 h own hk ⟨h2, rfl, hj2⟩ hl2
        rw [List.length_map, ways_len] at hk
        have ex : ((ways b m i).map encW)[k2]'(by rw [List.length_map, ways_len]; exact hk) = [.agg (cLay (layN i k2)), .agg (nums12 (faceB m b.pages[i] b.cells (layN i k2)))] := by simp [ways, wayN, encW, List.getD, hi]
        rw [ex]
        dsimp only
        obtain ⟨q1, q2, q3, q4⟩ := hJ _ _ hj2
        have aL : ∀ a, L + a + 1 = L + (a + 1) := fun a => Nat.add_assoc L a 1
        simp (implicitDefEqProofs := false) (dsimp := false) only [go_sem, a1, a2, a9, a10, bdA, g1, q1, aL, getL q1, getL0 q1, setL q1, setL0 q1, cLay_leaf, cLay_len, cLay_take, setMany4, setM12 (face_len _ _ _ _), nums_take (face_len _ _ _ _), nums_leaf, nums12_len, face_len, Nat.le_refl]
        refine ⟨hg, ?_, ?_⟩
        · rw [loopAr_append _ (by omega), q4 (by rw [hlen]; omega)]
          rw [encW_len _ (List.getElem_mem _)]
        · have ex2 : ((allWays b m).map encW)[i * 18 + k2]'(by rw [hlen]; omega) = [.agg (cLay (layN i k2)), .agg (nums12 (faceB m b.pages[i] b.cells (layN i k2)))] := by
            rw [List.getElem_map]
            have := allWays_at (b := b) (m := m) hi hk
            rw [List.getElem?_eq_getElem (by rw [allWays_len]; omega)] at this
            rw [Option.some.inj this]
            simp [wayN, encW, List.getD, hi]
          have hy := fun own => hY (i * 18 + k2) h2 own (by rw [hlen]; omega) hj2
          rw [ex2] at hy
          refine YieldA.mono (hy _) ?_
          rintro e h' ⟨q, h3, rfl, rfl, hq⟩
          cases q with
          | true =>
            simp (implicitDefEqProofs := false) (dsimp := false) only [go_sem]
            exact ⟨_, ⟨_, loop_cut⟩, h3, rfl, hq⟩
          | false =>
            simp (implicitDefEqProofs := false) (dsimp := false) only [go_sem]
            exact ⟨_, ⟨_, loop_cut⟩, h3, rfl, hq⟩
      · rintro h ⟨h2, rfl, hj2⟩
        rw [List.length_map, ways_len] at hj2
        simp (implicitDefEqProofs := false) (dsimp := false) only [go_sem, bdA]
        refine ⟨i + 1, ⟨by omega, ⟨h2, _, rfl, by rw [show (i + 1) * 18 = i * 18 + 18 by omega]; exact hj2, ?_⟩, wrap_succ (by have := ok.most; omega)⟩, by omega⟩
        rw [g1]
        exact marks_loop (k := .cells 0 [.yield n] :: k) g1 ((hJ _ _ hj2).1) hmk (by rw [(hJ _ _ hj2).1]; simp)
      · rintro c h ⟨rfl, h2, rfl, hj2⟩
        simp (implicitDefEqProofs := false) (dsimp := false) only [go_sem]
        obtain ⟨r1, r2⟩ := hS _ hj2
        rw [g1, ← unmarkK_mark (n := ⟨L + (k.length + 1), 0⟩)]
        refine unmarkK_marks (marks_loop (k := .cells 0 [.yield n] :: k) (hi := L + k.length + 3) g1 r1 hmk (by simp; omega)) fun h' e1 e2 => ⟨_, L, rfl, by omega, rfl, ?_⟩
        rw [e2, List.take_left' r1]
        exact ⟨r2, rfl, .inr hj2⟩
    · have hs : ((i : Int) < (b.pages.length : Int)) = False := eq_false (by omega)
      simp (implicitDefEqProofs := false) (dsimp := false) only [go_sem, a1, a2, a9, a10, hs, decide_false]
      have ei : i = b.pages.length := by omega
      refine unmarkK_marks hmk fun h' e1 e2 => ⟨_, L, rfl, by omega, rfl, ?_⟩
      rw [e2, List.take_left' g1, hlen]
      exact ⟨g2, rfl, .inl (by rw [← ei]; exact hj)⟩
end Go.Mac

/-! FnM -/
/- FnM: the ways that are right. -/
namespace Go.Mac
open Go Go.Conc Go.Proofs
set_option maxRecDepth 4000

def rightB (b : Board) (x : Lay × List Int) : Bool := (misB x.2 b.cells).length == 0
def rightsB (b : Board) (m : List (Int × Int)) : List (Lay × List Int) := (allWays b m).filter (rightB b)
def rightsTo (b : Board) (m : List (Int × Int)) (k : Nat) : List (Lay × List Int) := ((allWays b m).take k).filter (rightB b)
def cLayF (x : Lay × List Int) : List AV := cLay x.1
def cFaceF (x : Lay × List Int) : List AV := nums12 x.2

theorem belowL_flat {α : Type} {f : α → List AV} {n : Nat} (h : ∀ x, belowL 0 (f x) = true) (l : List α) : belowL n (l.flatMap f) = true := by
  refine belowL_mono (Nat.zero_le n) _ ?_
  rw [belowL_all, List.all_flatMap, List.all_eq_true]
  intro x _
  have := h x
  rwa [belowL_all] at this
theorem nums_below (f : List Int) : belowL 0 (nums12 f) = true := by
  rw [belowL_all, List.all_eq_true]; intro x hx
  obtain ⟨y, _, rfl⟩ := List.mem_map.1 hx
  rfl
theorem allWays_face {b : Board} {m : List (Int × Int)} (k : Nat) (hk : k < (allWays b m).length) : (allWays b m)[k].2.length = 12 := by
  have h : ∀ x ∈ allWays b m, x.2.length = 12 := by
    intro x hx
    obtain ⟨p, _, hx⟩ := List.mem_flatMap.1 hx
    obtain ⟨n, _, rfl⟩ := List.mem_map.1 hx
    exact face_len _ _ _ _
  exact h _ (List.getElem_mem hk)
theorem call_lays1 : callable Try.prog 112 := ⟨_, Try.func112, rfl, rfl⟩
theorem rightsTo_succ {b : Board} {m : List (Int × Int)} {k : Nat} (hk : k < (allWays b m).length) : rightsTo b m (k + 1) = rightsTo b m k ++ if rightB b (allWays b m)[k] = true then [(allWays b m)[k]] else [] := by
  unfold rightsTo
  rw [List.take_add_one, List.getElem?_eq_getElem hk, List.filter_append]
  congr 1
  simp only [Option.toList_some, List.filter_cons, List.filter_nil]
@[simp] theorem cLayF_len (x) : (cLayF x).length = 4 := rfl
theorem cFaceF_len12 (x : Lay × List Int) (h : x.2.length = 12) : (cFaceF x).length = 12 := by rw [cFaceF, nums12_len, h]
theorem faces_len : ∀ (l : List (Lay × List Int)), (∀ x ∈ l, x.2.length = 12) → (l.flatMap cFaceF).length = l.length * 12
  | [], _ => rfl
  | x :: l, h => by
    rw [List.flatMap_cons, List.length_append, faces_len l (fun y hy => h y (by simp [hy])), cFaceF_len12 x (h x (by simp)), List.length_cons]
    omega
theorem rightsTo_face {b : Board} {m : List (Int × Int)} {k : Nat} (x) (hx : x ∈ rightsTo b m k) : x.2.length = 12 := by
  have h1 := List.mem_of_mem_take (List.mem_filter.1 hx).1
  obtain ⟨i, hi, rfl⟩ := List.mem_iff_getElem.1 h1
  exact allWays_face i hi
theorem rightsTo_le {b : Board} {m : List (Int × Int)} (ok : okBoard b) (k : Nat) : (rightsTo b m k).length ≤ 72 := by
  have h1 : (rightsTo b m k).length ≤ ((allWays b m).take k).length := List.length_filter_le _ _
  rw [List.length_take, allWays_len] at h1
  have := ok.most
  omega
theorem cLay_below {n : Nat} (l : Lay) : belowL n (cLay l) = true := belowL_mono (Nat.zero_le n) _ rfl
theorem nums_belowN {n : Nat} (f : List Int) : belowL n (nums12 f) = true := belowL_mono (Nat.zero_le n) _ (nums_below f)
theorem loop_cut5 {h own e : List Blk} {a b c d f g l : Blk} : h ++ a :: b :: c :: d :: f :: g :: l :: (own ++ e) = (h ++ [a, b, c, d, f]) ++ g :: l :: (own ++ e) := by simp
/-- The blocks of 'rights' within its loop. -/
def rightsH (b : Board) (m : List (Int × Int)) (L : Nat) (l : List (Lay × List Int)) : List Blk :=
  [.cells 0 (bdA b m), .cells 0 [.sl ⟨L + 3, l.length⟩ 4 0 l.length], .cells 0 [.sl ⟨L + 4, l.length⟩ 12 0 l.length], .cells l.length (l.flatMap cLayF), .cells l.length (l.flatMap cFaceF)]

theorem mine_ok {h bs : List Blk} {n : Nat} (hB : h.all (belowBlk h.length) = true) (hn : n = h.length + bs.length) (hb : bs.all (belowBlk n) = true) : (h ++ bs).length = n ∧ (h ++ bs).all (belowBlk n) = true := by
  refine ⟨by rw [List.length_append, hn], ?_⟩
  rw [List.all_append, hb, allBelow_mono (by omega) hB]; rfl
theorem rightsH_below (b : Board) (m : List (Int × Int)) (L : Nat) (l : List (Lay × List Int)) {n : Nat} (hn : n = L + 5) : (rightsH b m L l).all (belowBlk n) = true := by
  have := belowL_mono (Nat.zero_le n) _ (bdA_below b m)
  subst hn
  simp only [rightsH, List.all_cons, List.all_nil, belowBlk, this, belowL, below, belowL_flat (f := cLayF) (fun _ => rfl), belowL_flat (f := cFaceF) (fun _ => nums_below _)]
  simp

theorem rights_ok (b : Board) (m : List (Int × Int)) (ok : okBoard b) : PureA Try.prog 63 [.agg (bdA b m)] (.tup [sliceOf cLayF (rightsB b m), sliceOf cFaceF (rightsB b m)]) := by
  refine PureA.of_wpe [2,3] { shut := [19, 23], hand := [7] } 26 mixed Try.func63 (by kernel_rfl) rfl (by kernel_rfl) (by simp only [below, belowL, sliceOf, belowL_flat (f := cLayF) (fun _ => rfl), belowL_flat (f := cFaceF) (fun _ => nums_below _), Bool.and_self]) fun h j hB => ?_
  simp only [junk_succ, junk_zero, List.cons_append, List.nil_append, List.length_cons, List.length_nil, Nat.reduceAdd]
  simp (implicitDefEqProofs := false) (dsimp := false) only [go_sem, bdA]
  (first | refine CallsA.use (lays_ok b m) ?_ | refine QuietCalls.use (lays_ok b m) ?_)
  simp (implicitDefEqProofs := false) (dsimp := false) only [go_sem]
  refine WPI.turn (Turns.nilCell (i := h.length + 1) (j := 0) (sz := 4) (by simp only; rw [hget]; rfl) rfl) ?_
  refine WPI.turn (Turns.nilCell (i := h.length + 2) (j := 0) (sz := 12) (by simp only [List.append_assoc]; rw [hset, List.append_assoc, hget]; rfl) rfl) ?_
  simp only [hset, List.append_assoc, List.set_cons_succ, List.set_cons_zero, List.cons_append, List.nil_append, List.length_append, List.length_cons, List.length_nil, Nat.zero_add, Nat.reduceAdd]
  refine WP.rangeIterN (h.length + 6) (by simp <;> omega)  (so := { shut := [19, 23], hand := [7] }) mixed (by kernel_rfl) (by kernel_rfl) rfl rfl (call_lays1) rfl rfl (lays1_ok b m ok) (encW_len) (fun k h1 => h1 = h ++ rightsH b m h.length (rightsTo b m k)) (fun _ _ => False) ?_ ?_ ?_ ?_ ?_ ?_
  · rintro k _ _ rfl
    exact mine_ok hB (by simp [rightsH]) (rightsH_below _ _ _ _ (by simp))
  · rintro _ _ _ ⟨⟩
  · simp [rightsH, rightsTo, bdA, sliceOf]
  · rintro k _ own hk rfl hl2
    rw [List.length_map] at hk
    have ex : ((allWays b m).map encW)[k]'(by rw [List.length_map]; exact hk) = [.agg (cLay (allWays b m)[k].1), .agg (nums12 (allWays b m)[k].2)] := by simp [encW]
    rw [ex]
    dsimp only
    have e12 := allWays_face (b := b) (m := m) k hk
    simp (implicitDefEqProofs := false) (dsimp := false) only [go_sem, rightsH, bdA, cLay_leaf, cLay_len, cLay_take, setMany4, setM12 e12, nums_take e12, nums_leaf, nums12_len, e12, Nat.le_refl]
    (first | refine CallsA.use (misfits_ok b m _ e12 ok.cells) ?_ | refine QuietCalls.use (misfits_ok b m _ e12 ok.cells) ?_)
    simp (implicitDefEqProofs := false) (dsimp := false) only [go_sem, len_eq0]
    refine ⟨fun hr => ?_, fun hr => ?_⟩
    · have hl : (rightsTo b m (k + 1)) = rightsTo b m k ++ [(allWays b m)[k]] := by
        rw [rightsTo_succ hk, rightB, hr]; rfl
      refine WP.noisy (so := { shut := [19, 23], }) 8 [3, 7] [0, 0, 0, 0, 0, 0, 0, 0] [0, 0, 0, 0, 1, 1, 1, 0] ((fun T => [h ++ .cells 0 (bdA b m) :: .cells 0 [.sl ⟨h.length + 3, (rightsTo b m k).length⟩ 4 0 (rightsTo b m k).length] :: .cells 0 [.sl ⟨h.length + 4, (rightsTo b m k).length⟩ 12 0 (rightsTo b m k).length] :: .cells (rightsTo b m k).length ((rightsTo b m k).flatMap cLayF) :: .cells (rightsTo b m k).length ((rightsTo b m k).flatMap cFaceF) :: T, h ++ .cells 0 (bdA b m) :: .cells 0 [.sl ⟨h.length + 3, (rightsTo b m k).length⟩ 4 0 (rightsTo b m k).length] :: .cells 0 [.sl ⟨h.length + 4, (rightsTo b m k).length⟩ 12 0 (rightsTo b m k).length] :: .cells ((rightsTo b m k).length + 1) ((rightsTo b m k).flatMap cLayF ++ cLay (allWays b m)[k].1) :: .cells (rightsTo b m k).length ((rightsTo b m k).flatMap cFaceF) :: T, h ++ .cells 0 (bdA b m) :: .cells 0 [.sl ⟨h.length + 3, (rightsTo b m k).length⟩ 4 0 (rightsTo b m k).length] :: .cells 0 [.sl ⟨h.length + 4, (rightsTo b m k).length⟩ 12 0 (rightsTo b m k).length] :: .cells ((rightsTo b m k).length + 1) ((rightsTo b m k).flatMap cLayF ++ cLay (allWays b m)[k].1) :: .cells ((rightsTo b m k).length + 1) ((rightsTo b m k).flatMap cFaceF ++ nums12 (allWays b m)[k].2) :: T]) _) rfl mixed (by kernel_rfl) (by kernel_rfl) (by decide) (by kernel_rfl) rfl ?_
      have hF := faces_len (rightsTo b m k) (fun x hx => rightsTo_face x hx)
      have hN := rightsTo_le (m := m) ok k
      simp (implicitDefEqProofs := false) (dsimp := false) only [go_sem, bdA, length_rows cLayF_len, hF, cLay_leaf, cLay_len, cLay_take, setMany4, setM12 e12, nums_take e12, nums_leaf, nums12_len, e12, Nat.le_refl, cLay_below, nums_belowN]
      refine ⟨by omega, by omega, _, ⟨_, loop_cut5⟩, ?_⟩
      rw [hl]
      simp [cLayF, cFaceF, rightsH, bdA, sliceOf]
    · have hl : (rightsTo b m (k + 1)) = rightsTo b m k := by
        rw [rightsTo_succ hk, rightB, hr]; simp
      rw [hl]
      exact ⟨_, ⟨_, loop_cut5⟩, rfl⟩
  · rintro _ rfl
    simp (implicitDefEqProofs := false) (dsimp := false) only [go_sem, rightsH]
    have hl : rightsTo b m ((allWays b m).map encW).length = rightsB b m := by rw [List.length_map, rightsTo, List.take_length]; rfl
    have hF := faces_len (rightsTo b m ((allWays b m).map encW).length) (fun x hx => rightsTo_face x hx)
    rw [List.take_of_length_le (by rw [length_rows cLayF_len]; exact Nat.le_refl _), List.take_of_length_le (by rw [hF]; exact Nat.le_refl _), hl]
    exact ⟨rfl, rfl⟩
  · rintro _ _ ⟨⟩
end Go.Mac

/-! FnN -/
/- FnN: what the checks say of a board; Lays. -/
namespace Go.Mac
open Go Go.Conc Go.Proofs
set_option maxRecDepth 4000

theorem rowsErr_zero {m : List (Int × Int)} {w : Nat} : ∀ {l : List (List UInt8)}, rowsErr m w l = 0 → ∀ r ∈ l, sizedB r.length 4 = 0 ∧ r.length = w ∧ charsErr m r = 0
  | [], _, r, hr => by cases hr
  | row :: l, h, r, hr => by
    unfold rowsErr at h
    by_cases c1 : sizedB row.length 4 = 0
    · rw [if_neg (by simp [c1])] at h
      by_cases c2 : row.length = w
      · rw [if_neg (by simp [c2])] at h
        by_cases c3 : charsErr m row = 0
        · rw [if_neg (by simp [c3])] at h
          rcases List.mem_cons.1 hr with rfl | hr
          · exact ⟨c1, c2, c3⟩
          · exact rowsErr_zero h r hr
        · rw [if_pos c3] at h; cases h
      · rw [if_pos c2] at h; cases h
    · rw [if_pos c1] at h; exact absurd h c1
theorem headD_get {α : Type} {l : List α} {d : α} (h : 0 < l.length) : l.headD d = l[0] := by cases l with | nil => simp at h | cons a l => rfl
theorem okPage.of {m : List (Int × Int)} {p : List (List UInt8)} (h : pageErr m p = 0) : okPage p := by
  unfold pageErr at h
  by_cases c1 : sizedB p.length 3 = 0
  · rw [if_neg (by simp [c1])] at h
    have h1 := sizedB_zero c1
    have h2 := rowsErr_zero h
    have h3 := sizedB_zero (h2 _ (List.getElem_mem (show 0 < p.length by omega))).1
    have h4 := headD_get (d := ([] : List UInt8)) (show 0 < p.length by omega)
    exact ⟨by omega, by omega, fun r hr => (h2 r hr).2.1, by rw [h4]; omega, by rw [h4]; omega⟩
  · rw [if_pos c1] at h; exact absurd h c1
theorem pagesErr_zero {m : List (Int × Int)} : ∀ {l : List (List (List UInt8))}, pagesErr m l = 0 → ∀ p ∈ l, pageErr m p = 0
  | [], _, r, hr => by cases hr
  | q :: l, h, p, hp => by
    unfold pagesErr at h
    by_cases c : pageErr m q = 0
    · rw [if_neg (by simp [c])] at h
      rcases List.mem_cons.1 hp with rfl | hp
      · exact c
      · exact pagesErr_zero h p hp
    · rw [if_pos c] at h; exact absurd h c
theorem cellRowsErr_zero {w : Nat} : ∀ {l : List (List Trace)}, cellRowsErr w l = 0 → ∀ r ∈ l, sizedB r.length 4 = 0 ∧ r.length = w ∧ tracesErr r = 0
  | [], _, r, hr => by cases hr
  | row :: l, h, r, hr => by
    unfold cellRowsErr at h
    by_cases c1 : sizedB row.length 4 = 0
    · rw [if_neg (by simp [c1])] at h
      by_cases c2 : row.length = w
      · rw [if_neg (by simp [c2])] at h
        by_cases c3 : tracesErr row = 0
        · rw [if_neg (by simp [c3])] at h
          rcases List.mem_cons.1 hr with rfl | hr
          · exact ⟨c1, c2, c3⟩
          · exact cellRowsErr_zero h r hr
        · rw [if_pos c3] at h; exact absurd h c3
      · rw [if_pos c2] at h; cases h
    · rw [if_pos c1] at h; exact absurd h c1
theorem okCells.of {p : List (List Trace)} (h : cellsErr p = 0) : okCells p := by
  unfold cellsErr at h
  by_cases c1 : sizedB p.length 3 = 0
  · rw [if_neg (by simp [c1])] at h
    have h1 := sizedB_zero c1
    have h2 := cellRowsErr_zero h
    have h3 := sizedB_zero (h2 _ (List.getElem_mem (show 0 < p.length by omega))).1
    have h4 := headD_get (d := ([] : List Trace)) (show 0 < p.length by omega)
    exact ⟨by omega, by omega, fun r hr => (h2 r hr).2.1, by rw [h4]; omega, by rw [h4]; omega⟩
  · rw [if_pos c1] at h; exact absurd h c1
/-- What a board that has been checked is. -/
theorem boardErr_zero {b : Board} (h : boardErr b = 0) : glyphsErr b.glyphs = 0 ∧ sizedB b.pages.length 4 = 0 ∧ pagesErr (mapB b.glyphs) b.pages = 0 ∧ cellsErr b.cells = 0 := by
  unfold boardErr at h
  by_cases c1 : glyphsErr b.glyphs = 0
  · rw [if_neg (by simp [c1])] at h
    by_cases c2 : sizedB b.pages.length 4 = 0
    · rw [if_neg (by simp [c2])] at h
      by_cases c3 : pagesErr (mapB b.glyphs) b.pages = 0
      · rw [if_neg (by simp [c3])] at h
        exact ⟨c1, c2, c3, h⟩
      · rw [if_pos c3] at h; exact absurd h c3
    · rw [if_pos c2] at h; exact absurd h c2
  · rw [if_pos c1] at h; exact absurd h c1
theorem okBoard.of {b : Board} (h : boardErr b = 0) : okBoard b := by
  obtain ⟨_, h2, h3, h4⟩ := boardErr_zero h
  have := sizedB_zero h2
  exact ⟨by omega, by omega, fun p hp => okPage.of (pagesErr_zero h3 p hp), okCells.of h4⟩

theorem leaf4 {x y z t : AV} (h : [x, y, z, t].all leafA = true) : leafA x = true ∧ leafA y = true ∧ leafA z = true ∧ leafA t = true := by
  simp only [List.all_cons, List.all_nil, Bool.and_true, Bool.and_eq_true] at h
  exact ⟨h.1, h.2.1, h.2.2.1, h.2.2.2⟩
/-- 'open' is called. -/
theorem open_use {b : Board} {h : List Blk} {Post : AEnd → List Blk → Prop} (h1 : boardErr b = 0 → Post (.ret (.tup [.agg (bdA b (mapB b.glyphs)), .int .i64 0])) h) (h2 : boardErr b ≠ 0 → (boardErr b != 0) = true → ∀ x y z t, leafA x = true → leafA y = true → leafA z = true → leafA t = true → Post (.ret (.tup [.agg [x, y, z, t], .int .i64 (boardErr b)])) h) : CallsA Try.prog 62 [.agg (brdA b)] h Post :=
  (open_ok b h).mono fun e h' q => by
    obtain ⟨rfl, ⟨e0, rfl⟩ | ⟨e1, x, y, z, t, hf, rfl⟩⟩ := q
    · exact h1 e0
    · obtain ⟨f1, f2, f3, f4⟩ := leaf4 hf
      exact h2 e1 (by simpa using e1) x y z t f1 f2 f3 f4
def laysB (b : Board) : List (Lay × List Int) := rightsB b (mapB b.glyphs)
/-- A list, or nothing when there is an error. -/
def unlessErr (e : Int) (v : AV) : AV := if e = 0 then v else .nilsl
theorem unless_ok {e : Int} {v : AV} (h : e = 0) : unlessErr e v = v := if_pos h
theorem unless_bad {e : Int} {v : AV} (h : e ≠ 0) : unlessErr e v = .nilsl := if_neg h
theorem unless_below {e : Int} {v : AV} (h : below 0 v = true) : below 0 (unlessErr e v) = true := by
  unfold unlessErr; split
  · exact h
  · rfl

theorem Lays_ok (b : Board) : PureA Try.prog 22 [.agg (brdA b)] (.tup [unlessErr (boardErr b) (sliceOf cLayF (laysB b)), .int .i64 (boardErr b)]) := by
  refine PureA.of_wpp {} 21 mixed Try.func22 (by kernel_rfl) rfl (by kernel_rfl) (by simp only [below, belowL, unless_below (v := sliceOf cLayF (laysB b)) (below_psl (fun _ => rfl) _), Bool.and_self]) fun h j hB => ?_
  simp only [junk_succ, junk_zero, List.cons_append, List.nil_append, List.length_cons, List.length_nil, Nat.reduceAdd]
  simp (implicitDefEqProofs := false) (dsimp := false) only [go_sem, brdA]
  refine open_use (fun e0 => ?_) (fun e1 e2 x y z t f1 f2 f3 f4 => ?_)
  · simp (implicitDefEqProofs := false) (dsimp := false) only [go_sem, bdA]
    (first | refine CallsA.use (rights_ok b _ (okBoard.of e0)) ?_ | refine QuietCalls.use (rights_ok b _ (okBoard.of e0)) ?_)
    simp (implicitDefEqProofs := false) (dsimp := false) only [go_sem, e0, unless_ok e0]
    rfl
  · simp only [leafA] at f1 f2 f3 f4
    simp (implicitDefEqProofs := false) (dsimp := false) only [go_sem, f1, f2, f3, f4, e2, unless_bad e1]
end Go.Mac

/-! FnO -/
/- FnO: a letter with which a way is right in a cell. -/
namespace Go.Mac
open Go Go.Conc Go.Proofs
set_option maxRecDepth 4000

def cByte (n : Nat) : List AV := [.int .u8 n]
@[simp] theorem cByte_len (n) : (cByte n).length = 1 := rfl
def nameL (gs : List Glyph) : List Nat := 45 :: gs.map gkey
/-- The first letter with which a way is right. -/
def changeB (m : List (Int × Int)) (gs : List Glyph) (l : Lay) (t : Trace) : Option Nat := (nameL gs).find? fun n => fitsB (asB l (inkB m n)) t
def changeA : Option Nat → AV
  | some n => .tup [.int .u8 n, .bool true]
  | none => .tup [.int .u8 0, .bool false]
theorem changeA_below (o : Option Nat) : below 0 (changeA o) = true := by cases o <;> rfl
/-- Zeros, but for one place. -/
def one12 (k : Nat) (v : Int) : List Int := part12 (fun i => if i = k then v else 0) 12
theorem one12_len (k : Nat) (v : Int) : (one12 k v).length = 12 := part12_len _ _
theorem one12_get {k : Nat} {v : Int} (h : k < 12) : (one12 k v).getD k 0 = v := by
  simp [one12, part12, List.getD, h]
theorem zeros_set {k : Nat} {v : Int} (h : k < 12) : [AV.int .i64 0, .int .i64 0, .int .i64 0, .int .i64 0, .int .i64 0, .int .i64 0, .int .i64 0, .int .i64 0, .int .i64 0, .int .i64 0, .int .i64 0, .int .i64 0].set k (.int .i64 v) = nums12 (one12 k v) := by
  apply List.ext_getElem?
  intro i
  by_cases hi : i < 12
  · have e : [AV.int .i64 0, .int .i64 0, .int .i64 0, .int .i64 0, .int .i64 0, .int .i64 0, .int .i64 0, .int .i64 0, .int .i64 0, .int .i64 0, .int .i64 0, .int .i64 0] = List.replicate 12 (.int .i64 0) := rfl
    rw [e, List.getElem?_set]
    simp only [List.length_replicate, h, if_true, nums12, one12, part12, List.getElem?_map, List.getElem?_range hi, hi, Option.map_some, List.getElem?_replicate]
    by_cases hk : k = i
    · subst hk; simp
    · rw [if_neg hk, if_neg (fun e : i = k => hk e.symm)]
  · rw [List.getElem?_eq_none (by simp; omega), List.getElem?_eq_none (by rw [nums12_len, one12_len]; omega)]

theorem name_wrap {gs : List Glyph} (h : okGlyphs gs) {x : Nat} (hx : x < (nameL gs).length) : IntKind.i32.wrap ((nameL gs)[x] : Int) = (((nameL gs)[x] : Nat) : Int) := by
  have hn : ∀ n ∈ nameL gs, n ≤ 122 := by
    intro n hn
    rcases List.mem_cons.1 hn with rfl | hn
    · decide
    · obtain ⟨g, hg, rfl⟩ := List.mem_map.1 hn
      exact (h.one g hg).2.2.1
  have := hn _ (List.getElem_mem hx)
  exact wrap32 (by omega) (by omega)

theorem change_ok (b : Board) (m : List (Int × Int)) (l : Lay) (okg : okGlyphs b.glyphs) (okc : okCells b.cells) (r c : Nat) (hr : r < b.cells.length) (hc : c < (b.cells.headD []).length) : PureA Try.prog 107 [.agg (bdA b m), .agg (cLay l), .int .i64 r, .int .i64 c] (changeA (changeB m b.glyphs l (traceAt b.cells r c))) := by
  refine PureA.of_wpp { shut := [29], tail := [(11, 10)] } 52 mixed Try.func107 (by kernel_rfl) rfl (by kernel_rfl) (changeA_below _) fun h j hB => ?_
  simp only [junk_succ, junk_zero, List.cons_append, List.nil_append, List.length_cons, List.length_nil, Nat.reduceAdd]
  have q1 := okc.most
  have q2 := okc.wmost
  have q3 := okg.most
  simp (implicitDefEqProofs := false) (dsimp := false) only [go_sem, bdA]
  refine WP.loopI (fun (i : Nat) s => (i ≤ b.glyphs.length) ∧ s.sl.length = 56 ∧ s.df = [] ∧ s.gh = {} ∧ (∃ k, s.hp = h ++ .cells 0 (bdA b m) :: .cells 0 (cLay l) :: .cells i ((nameL (b.glyphs.take i)).flatMap cByte) :: k) ∧ evA s.sl (.tmp 2) = .int .i64 r ∧ evA s.sl (.tmp 3) = .int .i64 c ∧ evA s.sl (.tmp 4) = .ptr ⟨h.length, 0⟩ 0 ∧ evA s.sl (.tmp 5) = .ptr ⟨h.length + 1, 0⟩ 0 ∧ evA s.sl (.tmp 10) = .sl ⟨h.length + 2, i⟩ 1 0 (i + 1) ∧ evA s.sl (.tmp 19) = sliceOf cGlyph b.glyphs ∧ evA s.sl (.tmp 20) = .int .i64 b.glyphs.length ∧ evA s.sl (.tmp 21) = .int .i64 i) (fun (i : Nat) => b.glyphs.length - i) (0) ?_ ?_
  · simp (implicitDefEqProofs := false) (dsimp := false) only [go_sem, bdA, Nat.zero_le]
    exact ⟨_, rfl, rfl⟩
  · rintro i ⟨sl, df, hp, gh⟩ ⟨ab, al, rfl, rfl, ah, a2, a3, a4, a5, a10, a19, a20, a21⟩
    simp only at ab al ah a2 a3 a4 a5 a10 a19 a20 a21
    obtain ⟨j, rfl⟩ := slots_lit al; clear al; simp only [junk_succ, junk_zero, evA_tmp, nth_16, nth_four, nth_one, nth_zero, Nat.zero_add, Nat.reduceAdd] at  a2 a3 a4 a5 a10 a19 a20 a21 ⊢
    refine wp_ok (so := { shut := [29], tail := [(11, 10)] }) mixed _ (by kernel_rfl) ?_
    obtain ⟨k, rfl⟩ := ah
    by_cases hi : i < b.glyphs.length
    · obtain ⟨c', hc', hk'⟩ := one_name (okg.one _ (List.getElem_mem hi)).1
      have hl : (nameL (b.glyphs.take i)).length = i + 1 := by simp [nameL]; omega
      simp (implicitDefEqProofs := false) (dsimp := false) only [go_sem, a2, a3, a4, a5, a10, a19, a20, a21, bdA, nat_lt hi, decide_true, rowN cGlyph_len hi, rowN_le cGlyph_len hi, hi, cGlyph, hc', length_rows cByte_len, hl]
      refine ⟨by omega, i + 1, ⟨by omega, ⟨_, ⟨rfl, ?_⟩, rfl⟩, rfl, wrap_succ (by omega)⟩, by omega⟩
      have ht : b.glyphs.take (i + 1) = b.glyphs.take i ++ [b.glyphs[i]] := by rw [List.take_add_one, List.getElem?_eq_getElem hi]; rfl
      rw [ht]
      simp only [nameL, List.map_append, List.map_cons, List.map_nil, List.flatMap_cons, List.flatMap_append, List.flatMap_nil, List.append_nil, cByte, hk', List.cons_append, List.nil_append]
    · have hs : ((i : Int) < (b.glyphs.length : Int)) = False := eq_false (by omega)
      have ei : i = b.glyphs.length := by omega
      subst ei
      rw [List.take_length]
      simp (implicitDefEqProofs := false) (dsimp := false) only [go_sem, a2, a3, a4, a5, a10, a19, a20, a21, bdA, hs, decide_false]
      have hl : (nameL b.glyphs).length = b.glyphs.length + 1 := by simp [nameL]
      refine WP.loopI (fun (x : Nat) s => (x ≤ b.glyphs.length + 1 ∧ ((nameL b.glyphs).drop x).find? (fun n : Nat => fitsB (asB l (inkB m n)) (traceAt b.cells r c)) = changeB m b.glyphs l (traceAt b.cells r c)) ∧ s.sl.length = 56 ∧ s.df = [] ∧ s.gh = {} ∧ (∃ k, s.hp = h ++ .cells 0 (bdA b m) :: .cells 0 (cLay l) :: .cells b.glyphs.length ((nameL b.glyphs).flatMap cByte) :: k) ∧ evA s.sl (.tmp 2) = .int .i64 r ∧ evA s.sl (.tmp 3) = .int .i64 c ∧ evA s.sl (.tmp 4) = .ptr ⟨h.length, 0⟩ 0 ∧ evA s.sl (.tmp 5) = .ptr ⟨h.length + 1, 0⟩ 0 ∧ evA s.sl (.tmp 32) = .sl ⟨h.length + 2, b.glyphs.length⟩ 1 0 (b.glyphs.length + 1) ∧ evA s.sl (.tmp 33) = .int .i64 (b.glyphs.length + 1 : Nat) ∧ evA s.sl (.tmp 34) = .int .i64 x) (fun (x : Nat) => b.glyphs.length + 1 - x) (0) ?_ ?_
      · simp (implicitDefEqProofs := false) (dsimp := false) only [go_sem, bdA, Nat.zero_le]
        rfl
      · rintro x ⟨sl, df, hp, gh⟩ ⟨eb, el, rfl, rfl, eh, e2, e3, e4, e5, e32, e33, e34⟩
        simp only at eb el eh e2 e3 e4 e5 e32 e33 e34
        obtain ⟨j, rfl⟩ := slots_lit el; clear el; simp only [junk_succ, junk_zero, evA_tmp, nth_16, nth_four, nth_one, nth_zero, Nat.zero_add, Nat.reduceAdd] at  e2 e3 e4 e5 e32 e33 e34 ⊢
        refine wp_ok (so := { shut := [29], tail := [(11, 10)] }) mixed _ (by kernel_rfl) ?_
        obtain ⟨k, rfl⟩ := eh
        obtain ⟨eb, eq⟩ := eb
        by_cases hx : x < b.glyphs.length + 1
        · have hx2 : x < (nameL b.glyphs).length := by omega
          rw [drop_get hx2] at eq
          have hg := row1 cByte_len hx2
          simp (implicitDefEqProofs := false) (dsimp := false) only [go_sem, e2, e3, e4, e5, e32, e33, e34, bdA, nat_lt hx, decide_true, hg, cByte, length_rows cByte_len, hl, name_wrap okg hx2, look92, cLay_len, cLay_take, Nat.le_refl]
          (first | refine CallsA.use (as_ok l _) ?_ | refine QuietCalls.use (as_ok l _) ?_)
          simp (implicitDefEqProofs := false) (dsimp := false) only [go_sem, zeros_set (k := r * 4 + c) (by omega), bdA, nums12_len, one12_len, Nat.le_refl, nums_take (one12_len _ _)]
          refine ⟨by omega, by omega, by omega, ?_⟩
          have hr1 := right_ok b m (one12 (r * 4 + c) (asB l (inkB m (nameL b.glyphs)[x]))) (one12_len _ _) okc r c hr hc
          rw [show 4 * r + c = r * 4 + c by omega, one12_get (by omega)] at hr1
          (first | refine CallsA.use (hr1) ?_ | refine QuietCalls.use (hr1) ?_)
          cases hf : fitsB (asB l (inkB m (nameL b.glyphs)[x])) (traceAt b.cells r c) with
          | true =>
            simp (implicitDefEqProofs := false) (dsimp := false) only [go_sem]
            simp only [List.find?_cons, hf] at eq
            rw [← eq]; rfl
          | false =>
            simp (implicitDefEqProofs := false) (dsimp := false) only [go_sem, bdA]
            simp only [List.find?_cons, hf] at eq
            exact ⟨x + 1, ⟨⟨by omega, eq⟩, wrap_succ (by omega)⟩, by omega⟩
        · have hs : ((x : Int) < ((b.glyphs.length + 1 : Nat) : Int)) = False := eq_false (by omega)
          simp (implicitDefEqProofs := false) (dsimp := false) only [go_sem, e2, e3, e4, e5, e32, e33, e34, bdA, hs, decide_false]
          rw [List.drop_eq_nil_of_le (by omega)] at eq
          rw [← eq]; rfl
end Go.Mac

/-! FnP -/
/- FnP: a page is emended. -/
namespace Go.Mac
open Go Go.Conc Go.Proofs
set_option maxRecDepth 4000

def setL2 (p : List (List UInt8)) (r c : Nat) (b : UInt8) : List (List UInt8) := p.set r ((p.getD r []).set c b)
/-- One letter is changed. -/
def emStep (m : List (Int × Int)) (gs : List Glyph) (pg : List (List UInt8)) (cs : List (List Trace)) (l : Lay) (p : List (List UInt8)) (x : Int × Int) : Option (List (List UInt8)) :=
  match changeB m gs l (traceAt cs x.1.toNat x.2.toNat) with
  | some n => if (letterB pg l x.1 x.2).2.2 then some (setL2 p (letterB pg l x.1 x.2).1.toNat (letterB pg l x.1 x.2).2.1.toNat (UInt8.ofNat n)) else none
  | none => none
def emFold (m : List (Int × Int)) (gs : List Glyph) (pg : List (List UInt8)) (cs : List (List Trace)) (l : Lay) : List (Int × Int) → List (List UInt8) → Option (List (List UInt8))
  | [], p => some p
  | x :: xs, p => match emStep m gs pg cs l p x with
    | some q => emFold m gs pg cs l xs q
    | none => none
def wrongB (m : List (Int × Int)) (pg : List (List UInt8)) (cs : List (List Trace)) (l : Lay) : List (Int × Int) := misB (faceB m pg cs l) cs
/-- The page with which a way is right. -/
def emendB (m : List (Int × Int)) (gs : List Glyph) (pg : List (List UInt8)) (cs : List (List Trace)) (l : Lay) : Option (List (List UInt8)) := emFold m gs pg cs l (wrongB m pg cs l) pg
structure Em where
  rows : List (List UInt8)
  letters : Int
  way : Lay
def cEm (e : Em) : List AV := sliceOf cStr e.rows :: .int .i64 e.letters :: cLay e.way
def noEm : List AV := [.nilsl, .int .i64 0, .int .i64 0, .bool false, .int .i64 0, .int .i64 0]
def emA : Option Em → AV
  | some e => .tup [.agg (cEm e), .bool true]
  | none => .tup [.agg noEm, .bool false]
def emOf (m : List (Int × Int)) (gs : List Glyph) (pg : List (List UInt8)) (cs : List (List Trace)) (l : Lay) : Option Em := (emendB m gs pg cs l).map fun p => ⟨p, (wrongB m pg cs l).length, l⟩

theorem emA_below (o : Option Em) : below 0 (emA o) = true := by
  cases o with
  | none => rfl
  | some e =>
    have := belowL_flat (n := 0) (f := cStr) (fun _ => rfl) e.rows
    simp [emA, cEm, cLay, below, belowL, sliceOf, this]

theorem misTo_mem {f : List Int} {cs : List (List Trace)} : ∀ {n : Nat}, n ≤ 4 * cs.length → ∀ x ∈ misTo f cs n, ∃ r c : Nat, x = ((r : Int), (c : Int)) ∧ r < cs.length ∧ c < (cs.headD []).length := by
  intro n hn x hx
  unfold misTo at hx
  obtain ⟨k, hk, hx⟩ := List.mem_flatMap.1 hx
  rw [List.mem_range] at hk
  split at hx
  · rename_i hc
    unfold misAt at hx
    split at hx
    · cases hx
    · rw [List.mem_singleton] at hx
      exact ⟨k / 4, k % 4, hx, by omega, hc⟩
  · cases hx
theorem misB_mem {f : List Int} {cs : List (List Trace)} (x) (hx : x ∈ misB f cs) : ∃ r c : Nat, x = ((r : Int), (c : Int)) ∧ r < cs.length ∧ c < (cs.headD []).length := misTo_mem (Nat.le_refl _) x hx
theorem letterB_bound {p : List (List UInt8)} {l : Lay} {row col : Int} (h : (letterB p l row col).2.2 = true) : ∃ r c : Nat, letterB p l row col = ((r : Int), (c : Int), true) ∧ r < p.length ∧ c < (p.headD []).length := by
  unfold letterB at h ⊢
  simp only at h ⊢
  split at h
  · cases h
  · rename_i hn
    rw [if_neg hn]
    split
    · exact ⟨((p.length : Int) - 1 - (row - l.down)).toNat, (col - l.right).toNat, by simp only [Prod.mk.injEq, and_true]; omega, by omega, by omega⟩
    · exact ⟨(row - l.down).toNat, (((p.headD []).length : Int) - 1 - (col - l.right)).toNat, by simp only [Prod.mk.injEq, and_true]; omega, by omega, by omega⟩

/-- Rows of bytes, each of them in a block of its own. -/
def cB (b : UInt8) : List AV := [.int .u8 b.toNat]
@[simp] theorem cB_len (b) : (cB b).length = 1 := rfl
def rowBlk (s : List UInt8) : Blk := .cells 0 (s.flatMap cB)
def rowsA (L w n : Nat) : List AV := (List.range n).map fun j => .sl ⟨L + (j + 6), 0⟩ 1 0 w
theorem rowsA_len (L w n : Nat) : (rowsA L w n).length = n := by simp [rowsA]
theorem rowsA_succ (L w n : Nat) : rowsA L w (n + 1) = rowsA L w n ++ [.sl ⟨L + (n + 6), 0⟩ 1 0 w] := by simp [rowsA, List.range_succ]
theorem rowsA_drop {L w n r : Nat} (h : r < n) : (rowsA L w n).drop r = .sl ⟨L + (r + 6), 0⟩ 1 0 w :: (rowsA L w n).drop (r + 1) := by
  rw [drop_get (by rw [rowsA_len]; exact h)]
  simp [rowsA]
theorem bytes_cB : ∀ (s : List UInt8), bytesA (s.flatMap cB) = some s
  | [] => rfl
  | b :: s => by
    simp only [List.flatMap_cons, cB, List.cons_append, List.nil_append, bytesA, bytes_cB s, Option.map_some]
    simp

theorem map_cB : ∀ (s : List UInt8), (s.map fun b => AV.int .u8 (b.toNat : Int)) = s.flatMap cB
  | [] => rfl
  | b :: s => by simp [cB, map_cB s]
theorem copied (s : List UInt8) : setMany (if s.length = 0 then [] else (List.range s.length).map fun j => [AV.int .u8 0].getD (j % 1) .any) 0 ((s.map fun b => AV.int .u8 (b.toNat : Int)).take (s.length.min s.length)) = s.flatMap cB := by
  have e : s.length.min s.length = s.length := Nat.min_self _
  rw [e, List.take_of_length_le (by simp), setMany_whole, map_cB]
  split
  · rename_i h; simp [h]
  · simp
theorem cBs_leaf (s : List UInt8) : (s.map fun b => AV.int .u8 (b.toNat : Int)).all leafA = true := by
  rw [List.all_eq_true]; intro x hx
  obtain ⟨b, _, rfl⟩ := List.mem_map.1 hx
  rfl
theorem copied_len (s : List UInt8) : s.length ≤ (if s.length = 0 then [] else (List.range s.length).map fun j => [AV.int .u8 0].getD (j % 1) .any).length := by
  split
  · rename_i h; simp [h]
  · simp
theorem cB_set (s : List UInt8) (c : Nat) (x : UInt8) : (s.flatMap cB).set c (.int .u8 (x.toNat : Int)) = (s.set c x).flatMap cB := by
  rw [← map_cB, ← map_cB, List.map_set]
theorem rows_set {pg : List (List UInt8)} {r c : Nat} {x : UInt8} (hr : r < pg.length) : (pg.map rowBlk).set r (.cells 0 ((pg[r].flatMap cB).set c (.int .u8 (x.toNat : Int)))) = (setL2 pg r c x).map rowBlk := by
  rw [cB_set]
  unfold setL2
  rw [List.map_set]
  simp [rowBlk, List.getD, hr]
theorem change_small {m : List (Int × Int)} {gs : List Glyph} {l : Lay} {t : Trace} (h : okGlyphs gs) {n : Nat} (hn : changeB m gs l t = some n) : n ≤ 122 := by
  have h1 := List.mem_of_find?_eq_some hn
  rcases List.mem_cons.1 h1 with rfl | h1
  · decide
  · obtain ⟨g, hg, rfl⟩ := List.mem_map.1 h1
    exact (h.one g hg).2.2.1
theorem setL2_len (p : List (List UInt8)) (r c : Nat) (x : UInt8) : (setL2 p r c x).length = p.length := by simp [setL2]
theorem setL2_wide {p : List (List UInt8)} {r c : Nat} {x : UInt8} {w : Nat} (h : ∀ s ∈ p, s.length = w) (hr : r < p.length) : ∀ s ∈ setL2 p r c x, s.length = w := by
  intro s hs
  rcases List.mem_or_eq_of_mem_set hs with hs | rfl
  · exact h s hs
  · simp only [List.getD, List.getElem?_eq_getElem hr, Option.getD_some, List.length_set]
    exact h _ (List.getElem_mem hr)
theorem fits_fault0 : zeroFits Try.prog 149 = true := fits_fault
theorem emRec_none (n k : Nat) (h : List Blk) (Post : List Blk → Prop) (hp : Post h) : RecA Try.prog 105 [.ptr ⟨n, 0⟩ 0, .ptr ⟨k, 0⟩ 0] h none Post := by
  refine RecA.of_wp { hand := [2] } 12 mixed Try.func105 (by kernel_rfl) rfl rfl rfl rfl rfl (by kernel_rfl) fun j hB => ?_
  simp only [junk_succ, junk_zero, List.cons_append, List.nil_append, List.length_cons, List.length_nil, Nat.reduceAdd]
  simp (implicitDefEqProofs := false) (dsimp := false) only [go_sem, List.take_left, fits_fault]
  exact ⟨hB, hp⟩
theorem emRec_some (n k : Nat) (hnk : n ≠ k) (h : List Blk) (Post : List Blk → Prop) (e : Int) (a0 a1 a2 a3 a4 a5 a6 : AV) (hn : h[n]? = some (.cells 0 [a0, a1, a2, a3, a4, a5])) (hk : h[k]? = some (.cells 0 [a6])) (he : e ≠ 0) (hp : Post ((h.set n (.cells 0 noEm)).set k (.cells 0 [.bool false]))) : RecA Try.prog 105 [.ptr ⟨n, 0⟩ 0, .ptr ⟨k, 0⟩ 0] h (some (faultA e)) Post := by
  have hlt : n < h.length := (List.getElem?_eq_some_iff.1 hn).1
  have hlk : k < h.length := (List.getElem?_eq_some_iff.1 hk).1
  refine RecA.of_wp { hand := [2] } 12 mixed Try.func105 (by kernel_rfl) rfl rfl rfl rfl rfl (by kernel_rfl) fun j hB => ?_
  simp only [junk_succ, junk_zero, List.cons_append, List.nil_append, List.length_cons, List.length_nil, Nat.reduceAdd]
  have hn2 : ∀ x, (h ++ x)[n]? = some (.cells 0 [a0, a1, a2, a3, a4, a5]) := fun x => by rw [List.getElem?_append_left hlt]; exact hn
  have hs2 : ∀ x b, (h ++ x).set n b = h.set n b ++ x := fun x b => by rw [List.set_append_left _ _ hlt]
  have hk2 : ∀ x, (h.set n (.cells 0 noEm) ++ x)[k]? = some (.cells 0 [a6]) := fun x => by rw [List.getElem?_append_left (by simpa using hlk), List.getElem?_set_ne hnk]; exact hk
  have hs3 : ∀ x b, (h.set n (.cells 0 noEm) ++ x).set k b = (h.set n (.cells 0 noEm)).set k b ++ x := fun x b => by rw [List.set_append_left _ _ (by simpa using hlk)]
  have hl2 : ((h.set n (.cells 0 noEm)).set k (.cells 0 [.bool false])).length = h.length := by simp
  have he2 : (e == 0) = false := by simpa using he
  simp only [noEm] at hk2 hs3 hl2
  have hg2 : ∀ x : List Blk, (h.set n (.cells 0 [.nilsl, .int .i64 0, .int .i64 0, .bool false, .int .i64 0, .int .i64 0]) ++ x)[h.length]? = x[0]? := fun x => getL0 (by simp)
  simp (implicitDefEqProofs := false) (dsimp := false) only [go_sem, hn2, hs2, hk2, hs3, fits_fault, he2]
  refine WP.noisy (so := { }) 5 [4] [0, 0, 0, 0, 0] [0, 1, 1, 1, 0] ([h ++ [.cells 0 [.int .i64 e]], h.set n (.cells 0 noEm) ++ [.cells 0 [.int .i64 e]]]) rfl mixed (by kernel_rfl) (by kernel_rfl) (by decide) (by kernel_rfl) rfl ?_
  simp (implicitDefEqProofs := false) (dsimp := false) only [go_sem, hn2, hs2, hk2, hs3, hg2, fits_fault, he2, noEm]
  rw [List.take_left' hl2]
  refine ⟨?_, hp⟩
  rw [List.all_eq_true] at *
  intro b hb
  rcases List.mem_or_eq_of_mem_set hb with hb | rfl
  · rcases List.mem_or_eq_of_mem_set hb with hb | rfl
    · exact hB b hb
    · rfl
  · rfl

theorem call_emend1 : callable Try.prog 105 := ⟨_, Try.func105, rfl, rfl⟩
theorem emend_ok (b : Board) (m : List (Int × Int)) (okg : okGlyphs b.glyphs) (l : Lay) (p : Nat) (hp : l.page = p) (hpl : p < b.pages.length) (ok : okPage b.pages[p]) (okc : okCells b.cells) (hd : -1000 ≤ l.down ∧ l.down ≤ 1000) (hrt : -1000 ≤ l.right ∧ l.right ≤ 1000) : PureA Try.prog 70 [.agg (bdA b m), .agg (cLay l)] (emA (emOf m b.glyphs b.pages[p] b.cells l)) := by
  intro h
  refine CallsA.of_wpr 105 [.ptr ⟨h.length + 2, 0⟩ 0, .ptr ⟨h.length + 3, 0⟩ 0] { shut := [41, 106], cut := [82], hand := [25] } 114 call_emend1 mixed Try.func70 (by kernel_rfl) rfl (by kernel_rfl) fun j hB hA => ?_
  simp only [junk_succ, junk_zero, List.cons_append, List.nil_append, List.length_cons, List.length_nil, Nat.reduceAdd]
  simp (implicitDefEqProofs := false) (dsimp := false) only [go_sem, bdA]
  refine WP.region_splitN (so := { shut := [41, 106], cut := [82], }) 1 [1] rfl (by decide) ?_
  simp (implicitDefEqProofs := false) (dsimp := false) only [go_sem]
  refine WPI.deferN rfl rfl rfl rfl rfl rfl ?_
  simp (implicitDefEqProofs := false) (dsimp := false) only [go_sem, cLay, hp, row1 cPage_len hpl, row1_le cPage_len hpl, hpl, cPage]
  refine ⟨by omega, ?_⟩
  refine WPI.turn (Turns.nilSlot (d := 6) (sz := 1) ?_) ?_
  · simp (implicitDefEqProofs := false) (dsimp := false) only [go_sem]
  refine WPI.turn (Turns.nilCell (i := h.length + 2) (j := 0) (sz := 1) (by simp only [List.append_assoc]; rw [hget]; rfl) rfl) ?_
  simp only [hset, List.append_assoc, List.set_cons_succ, List.set_cons_zero, List.cons_append, List.nil_append, List.length_append, List.length_cons, List.length_nil, Nat.zero_add, Nat.reduceAdd]
  have w0 := ok.most
  refine WP.loopI (fun (i : Nat) s => (i ≤ b.pages[p].length) ∧ s.sl.length = 116 ∧ s.df = [.call (.func 105) [.ptr ⟨h.length + 2, 0⟩ 0, .ptr ⟨h.length + 3, 0⟩ 0] []] ∧ s.gh = {} ∧ (∃ R, s.hp = h ++ .cells 0 (bdA b m) :: .cells 0 (cLay l) :: .cells 0 [.sl ⟨h.length + 5, 0⟩ 1 0 0, .int .i64 0, .int .i64 0, .bool false, .int .i64 0, .int .i64 0] :: .cells 0 [.bool false] :: .cells i (rowsA h.length (b.pages[p].headD []).length i) :: .cells 0 [] :: R ∧ R = (b.pages[p].take i).map rowBlk) ∧ evA s.sl (.tmp 2) = .ptr ⟨h.length, 0⟩ 0 ∧ evA s.sl (.tmp 3) = .ptr ⟨h.length + 1, 0⟩ 0 ∧ evA s.sl (.tmp 4) = .ptr ⟨h.length + 2, 0⟩ 0 ∧ evA s.sl (.tmp 5) = .ptr ⟨h.length + 3, 0⟩ 0 ∧ evA s.sl (.tmp 6) = .sl ⟨h.length + 4, i⟩ 1 0 i ∧ evA s.sl (.tmp 27) = sliceOf cStr b.pages[p] ∧ evA s.sl (.tmp 28) = .int .i64 b.pages[p].length ∧ evA s.sl (.tmp 29) = .int .i64 i) (fun (i : Nat) => b.pages[p].length - i) (0) ?_ ?_
  · simp (implicitDefEqProofs := false) (dsimp := false) only [go_sem, bdA, cLay, hp, Nat.zero_le]
    exact ⟨_, ⟨rfl, rfl⟩, rfl⟩
  · rintro i ⟨sl, df, hp, gh⟩ ⟨ab, al, rfl, rfl, ah, a2, a3, a4, a5, a6, a27, a28, a29⟩
    simp only at ab al ah a2 a3 a4 a5 a6 a27 a28 a29
    obtain ⟨j, rfl⟩ := slots_lit al; clear al; simp only [junk_succ, junk_zero, evA_tmp, nth_16, nth_four, nth_one, nth_zero, Nat.zero_add, Nat.reduceAdd] at  a2 a3 a4 a5 a6 a27 a28 a29 ⊢
    refine wp_ok (so := { shut := [41, 106], cut := [82], hand := [25] }) mixed _ (by kernel_rfl) ?_
    obtain ⟨R, rfl, hR⟩ := ah
    by_cases hi : i < b.pages[p].length
    · have hRl : R.length = i := by rw [hR, List.length_map, List.length_take]; omega
      have hw : b.pages[p][i].length = (b.pages[p].headD []).length := ok.row hi
      simp (implicitDefEqProofs := false) (dsimp := false) only [go_sem, a2, a3, a4, a5, a6, a27, a28, a29, bdA, nat_lt hi, decide_true, row1 cStr_len hi, row1_le cStr_len hi, hi, cStr, hRl, getL hRl, getL0 hRl, setL hRl, setL0 hRl, zeroRow_one]
      have w1 := ok.wmost
      refine ⟨⟨by omega, by omega⟩, ⟨copied_len _, by simp, cBs_leaf _⟩, by omega, ⟨rowsA_len _ _ _, by omega⟩, i + 1, ⟨by omega, ⟨_, ⟨⟨rfl, ?_⟩, rfl⟩, ?_⟩, rfl, wrap_succ (by omega)⟩, by omega⟩
      · rw [rowsA_succ, hw]
      · rw [copied, hR, List.take_add_one, List.getElem?_eq_getElem hi, List.map_append]
        rfl
    · have hs : ((i : Int) < (b.pages[p].length : Int)) = False := eq_false (by omega)
      have ei : i = b.pages[p].length := by omega
      subst ei
      simp (implicitDefEqProofs := false) (dsimp := false) only [go_sem, a2, a3, a4, a5, a6, a27, a28, a29, bdA, hs, decide_false]
      rw [List.take_length] at hR
      have hf12 : (faceB m b.pages[p] b.cells l).length = 12 := face_len _ _ _ _
      simp (implicitDefEqProofs := false) (dsimp := false) only [go_sem, cLay_len, cLay_take, Nat.le_refl]
      (first | refine CallsA.use (face_ok b m l p hp hpl ok okc hd hrt) ?_ | refine QuietCalls.use (face_ok b m l p hp hpl ok okc hd hrt) ?_)
      simp (implicitDefEqProofs := false) (dsimp := false) only [go_sem]
      (first | refine CallsA.use (misfits_ok b m _ hf12 okc) ?_ | refine QuietCalls.use (misfits_ok b m _ hf12 okc) ?_)
      simp (implicitDefEqProofs := false) (dsimp := false) only [go_sem]
      refine WP.loopI (fun (y : Nat × List (List UInt8)) s => (y.1 ≤ (wrongB m b.pages[p] b.cells l).length ∧ emFold m b.glyphs b.pages[p] b.cells l ((wrongB m b.pages[p] b.cells l).drop y.1) y.2 = emendB m b.glyphs b.pages[p] b.cells l ∧ y.2.length = b.pages[p].length ∧ (∀ r ∈ y.2, r.length = (b.pages[p].headD []).length)) ∧ s.sl.length = 116 ∧ s.df = [.call (.func 105) [.ptr ⟨h.length + 2, 0⟩ 0, .ptr ⟨h.length + 3, 0⟩ 0] []] ∧ s.gh = {} ∧ (∃ R, s.hp = h ++ .cells 0 (bdA b m) :: .cells 0 (cLay l) :: .cells 0 [.sl ⟨h.length + 5, 0⟩ 1 0 0, .int .i64 0, .int .i64 0, .bool false, .int .i64 0, .int .i64 0] :: .cells 0 [.bool false] :: .cells b.pages[p].length (rowsA h.length (b.pages[p].headD []).length b.pages[p].length) :: .cells 0 [] :: R ∧ R = y.2.map rowBlk) ∧ evA s.sl (.tmp 2) = .ptr ⟨h.length, 0⟩ 0 ∧ evA s.sl (.tmp 3) = .ptr ⟨h.length + 1, 0⟩ 0 ∧ evA s.sl (.tmp 4) = .ptr ⟨h.length + 2, 0⟩ 0 ∧ evA s.sl (.tmp 5) = .ptr ⟨h.length + 3, 0⟩ 0 ∧ evA s.sl (.tmp 6) = .sl ⟨h.length + 4, b.pages[p].length⟩ 1 0 b.pages[p].length ∧ evA s.sl (.tmp 10) = sliceOf cPair (wrongB m b.pages[p] b.cells l) ∧ evA s.sl (.tmp 49) = sliceOf cPair (wrongB m b.pages[p] b.cells l) ∧ evA s.sl (.tmp 50) = .int .i64 (wrongB m b.pages[p] b.cells l).length ∧ evA s.sl (.tmp 51) = .int .i64 y.1) (fun (y : Nat × List (List UInt8)) => (wrongB m b.pages[p] b.cells l).length - y.1) ((0, b.pages[p])) ?_ ?_
      · simp (implicitDefEqProofs := false) (dsimp := false) only [go_sem, bdA, Nat.zero_le]
        exact ⟨⟨rfl, ok.wide⟩, ⟨_, rfl, hR⟩, rfl, rfl, rfl⟩
      · rintro ⟨x, pg⟩ ⟨sl, df, hp, gh⟩ ⟨cb, cl, rfl, rfl, ch, c2, c3, c4, c5, c6, c10, c49, c50, c51⟩
        simp only at cb cl ch c2 c3 c4 c5 c6 c10 c49 c50 c51
        obtain ⟨j, rfl⟩ := slots_lit cl; clear cl; simp only [junk_succ, junk_zero, evA_tmp, nth_16, nth_four, nth_one, nth_zero, Nat.zero_add, Nat.reduceAdd] at  c2 c3 c4 c5 c6 c10 c49 c50 c51 ⊢
        refine wp_ok (so := { shut := [41, 106], cut := [82], hand := [25] }) mixed _ (by kernel_rfl) ?_
        obtain ⟨R, rfl, hR⟩ := ch
        obtain ⟨cb, cq, cn, cw⟩ := cb
        by_cases hx : x < (wrongB m b.pages[p] b.cells l).length
        · obtain ⟨r0, c0, ex, hr0, hc0⟩ := misB_mem _ (List.getElem_mem (l := wrongB m b.pages[p] b.cells l) hx)
          have hrow := row1 cPair_len hx
          rw [ex] at hrow
          rw [drop_get hx, ex] at cq
          have z0 := okc.most
          have z1 := okc.wmost
          simp (implicitDefEqProofs := false) (dsimp := false) only [go_sem, c2, c3, c4, c5, c6, c10, c49, c50, c51, bdA, nat_lt hx, decide_true, hrow, row1_le cPair_len hx, hx, cPair, cLay_len, cLay_take, Nat.le_refl]
          have hlet := letter_ok b m l r0 c0 p hp hpl ok.pos (by omega) (by omega) hd hrt (by omega) (by have := ok.wmost; omega)
          have hchg := change_ok b m l okg okc r0 c0 hr0 hc0
          have hbd := letterB_bound (p := b.pages[p]) (l := l) (row := r0) (col := c0)
          have hst : emStep m b.glyphs b.pages[p] b.cells l pg ((r0 : Int), (c0 : Int)) = match changeB m b.glyphs l (traceAt b.cells r0 c0) with
            | some n => if (letterB b.pages[p] l r0 c0).2.2 then some (setL2 pg (letterB b.pages[p] l r0 c0).1.toNat (letterB b.pages[p] l r0 c0).2.1.toNat (UInt8.ofNat n)) else none
            | none => none := rfl
          rw [emFold] at cq
          have hRl : R.length = b.pages[p].length := by rw [hR, List.length_map, cn]
          have fail : ∀ (Post : List Blk → Prop), Post (h ++ .cells 0 (bdA b m) :: .cells 0 (cLay l) :: .cells 0 noEm :: .cells 0 [.bool false] :: .cells b.pages[p].length (rowsA h.length (b.pages[p].headD []).length b.pages[p].length) :: .cells 0 [] :: R) →
              RecA Try.prog 105 [.ptr ⟨h.length + 2, 0⟩ 0, .ptr ⟨h.length + 3, 0⟩ 0] (h ++ .cells 0 (bdA b m) :: .cells 0 (cLay l) :: .cells 0 [.sl ⟨h.length + 5, 0⟩ 1 0 0, .int .i64 0, .int .i64 0, .bool false, .int .i64 0, .int .i64 0] :: .cells 0 [.bool false] :: .cells b.pages[p].length (rowsA h.length (b.pages[p].headD []).length b.pages[p].length) :: .cells 0 [] :: R) (some (faultA 11)) Post := fun Post hq => by
            refine emRec_some _ _ (by omega) _ _ 11 _ _ _ _ _ _ _ (by rw [hget]; rfl) (by rw [hget]; rfl) (by decide) ?_
            simp only [hset, List.set_cons_succ, List.set_cons_zero]
            exact hq
          have none_of : emStep m b.glyphs b.pages[p] b.cells l pg ((r0 : Int), (c0 : Int)) = none → emOf m b.glyphs b.pages[p] b.cells l = none := fun e => by
            rw [e] at cq
            simp only at cq
            rw [emOf, ← cq]; rfl
          generalize hlb : letterB b.pages[p] l r0 c0 = z at hlet hbd hst
          generalize hcb : changeB m b.glyphs l (traceAt b.cells r0 c0) = o at hchg hst
          obtain ⟨lr, lc, lt⟩ := z
          (first | refine CallsA.use (hlet) ?_ | refine QuietCalls.use (hlet) ?_)
          simp (implicitDefEqProofs := false) (dsimp := false) only [go_sem, tup3, cLay_len, cLay_take, Nat.le_refl]
          (first | refine CallsA.use (hchg) ?_ | refine QuietCalls.use (hchg) ?_)
          cases o with
          | none =>
            simp (implicitDefEqProofs := false) (dsimp := false) only [go_sem, changeA]
            rw [none_of hst]
            refine ⟨fun _ => fail _ ?_, fun _ => fail _ ?_⟩
            · simp (implicitDefEqProofs := false) (dsimp := false) only [go_sem, noEm]
              exact quiet_fine hB rfl
            · simp (implicitDefEqProofs := false) (dsimp := false) only [go_sem, noEm]
              exact quiet_fine hB rfl
          | some n =>
            cases lt with
            | false =>
              simp (implicitDefEqProofs := false) (dsimp := false) only [go_sem, changeA]
              rw [none_of hst]
              refine fail _ ?_
              simp (implicitDefEqProofs := false) (dsimp := false) only [go_sem, noEm]
              exact quiet_fine hB rfl
            | true =>
              obtain ⟨r, c1, e, hr, hc1⟩ := hbd rfl
              simp only [Prod.mk.injEq, and_true] at e
              obtain ⟨rfl, rfl⟩ := e
              have hrp : r < pg.length := by omega
              have hRr : R[r]? = some (.cells 0 (pg[r].flatMap cB)) := by
                rw [hR, List.getElem?_map, List.getElem?_eq_getElem hrp]; rfl
              have hn := change_small okg hcb
              have hnu : ((n : Nat) : Int) = ((UInt8.ofNat n).toNat : Int) := by simp; omega
              have hwr := cw _ (List.getElem_mem hrp)
              simp only [if_true] at hst
              rw [hst] at cq
              simp (implicitDefEqProofs := false) (dsimp := false) only [go_sem, changeA, bdA, rowsA_drop hr, hRr, length_rows cB_len, hwr]
              refine ⟨by omega, by omega, by omega, (x + 1, setL2 pg r c1 (UInt8.ofNat n)), ⟨⟨by simp only; omega, ?_, by simp only; rw [setL2_len]; exact cn, setL2_wide cw hrp⟩, ⟨_, rfl, ?_⟩, wrap_succ (by have := misTo_len (faceB m b.pages[p] b.cells l) b.cells (4 * b.cells.length); simp only [wrongB, misB] at hx; omega)⟩, by simp only; omega⟩
              · simpa using cq
              · simp only
                subst hR
                rw [hnu, rows_set]
        · have hs : ((x : Int) < ((wrongB m b.pages[p] b.cells l).length : Int)) = False := eq_false (by omega)
          simp (implicitDefEqProofs := false) (dsimp := false) only [go_sem, c2, c3, c4, c5, c6, c10, c49, c50, c51, bdA, hs, decide_false]
          have hRl : R.length = b.pages[p].length := by rw [hR, List.length_map, cn]
          rw [List.drop_eq_nil_of_le (by omega)] at cq
          have hsome : emOf m b.glyphs b.pages[p] b.cells l = some ⟨pg, (wrongB m b.pages[p] b.cells l).length, l⟩ := by
            rw [emOf, ← cq]; rfl
          rw [hsome]
          refine WP.loopI (fun (i : Nat) s => (i ≤ pg.length) ∧ s.sl.length = 116 ∧ s.df = [.call (.func 105) [.ptr ⟨h.length + 2, 0⟩ 0, .ptr ⟨h.length + 3, 0⟩ 0] []] ∧ s.gh = {} ∧ (s.hp = h ++ .cells 0 (bdA b m) :: .cells 0 (cLay l) :: .cells 0 [.sl ⟨h.length + 5, i⟩ 1 0 i, .int .i64 0, .int .i64 0, .bool false, .int .i64 0, .int .i64 0] :: .cells 0 [.bool false] :: .cells pg.length (rowsA h.length (b.pages[p].headD []).length pg.length) :: .cells i ((pg.take i).flatMap cStr) :: R) ∧ evA s.sl (.tmp 2) = .ptr ⟨h.length, 0⟩ 0 ∧ evA s.sl (.tmp 3) = .ptr ⟨h.length + 1, 0⟩ 0 ∧ evA s.sl (.tmp 4) = .ptr ⟨h.length + 2, 0⟩ 0 ∧ evA s.sl (.tmp 5) = .ptr ⟨h.length + 3, 0⟩ 0 ∧ evA s.sl (.tmp 10) = sliceOf cPair (wrongB m b.pages[p] b.cells l) ∧ evA s.sl (.tmp 96) = .sl ⟨h.length + 4, pg.length⟩ 1 0 pg.length ∧ evA s.sl (.tmp 97) = .int .i64 pg.length ∧ evA s.sl (.tmp 98) = .int .i64 i) (fun (i : Nat) => pg.length - i) (0) ?_ ?_
          · simp (implicitDefEqProofs := false) (dsimp := false) only [go_sem, bdA, cn, Nat.zero_le]
            rfl
          · rintro i ⟨sl, df, hp, gh⟩ ⟨db, dl, rfl, rfl, rfl, d2, d3, d4, d5, d10, d96, d97, d98⟩
            simp only at db dl d2 d3 d4 d5 d10 d96 d97 d98
            obtain ⟨j, rfl⟩ := slots_lit dl; clear dl; simp only [junk_succ, junk_zero, evA_tmp, nth_16, nth_four, nth_one, nth_zero, Nat.zero_add, Nat.reduceAdd] at  d2 d3 d4 d5 d10 d96 d97 d98 ⊢
            refine wp_ok (so := { shut := [41, 106], cut := [82], hand := [25] }) mixed _ (by kernel_rfl) ?_
            by_cases hi : i < pg.length
            · have hRr : R[i]? = some (.cells 0 (pg[i].flatMap cB)) := by
                rw [hR, List.getElem?_map, List.getElem?_eq_getElem hi]; rfl
              have hwr := cw _ (List.getElem_mem hi)
              have hby : bytesA ((pg[i].flatMap cB).take (b.pages[p].headD []).length) = some pg[i] := by
                rw [List.take_of_length_le (by rw [length_rows cB_len]; omega)]; exact bytes_cB _
              have htl : ((pg[i].flatMap cB).take (b.pages[p].headD []).length).length = (b.pages[p].headD []).length := by
                rw [List.length_take, length_rows cB_len]; omega
              simp (implicitDefEqProofs := false) (dsimp := false) only [go_sem, d2, d3, d4, d5, d10, d96, d97, d98, bdA, nat_lt hi, decide_true, rowsA_drop hi, hRr, length_rows cB_len, hwr, hby, htl, length_rows cStr_len]
              refine ⟨⟨by rw [List.length_take]; omega, by omega⟩, i + 1, ⟨by omega, ⟨rfl, rfl, ?_⟩, wrap_succ (by omega)⟩, by omega⟩
              rw [List.take_add_one, List.getElem?_eq_getElem hi, List.flatMap_append]
              rfl
            · have hs : ((i : Int) < (pg.length : Int)) = False := eq_false (by omega)
              have ei : i = pg.length := by omega
              subst ei
              simp (implicitDefEqProofs := false) (dsimp := false) only [go_sem, d2, d3, d4, d5, d10, d96, d97, d98, bdA, hs, decide_false]
              rw [List.take_length]
              refine WPI.turn (Turns.seal_cell (i := h.length + 2) (g := 0) (j := 0) (a := .sl ⟨h.length + 5, pg.length⟩ 1 0 pg.length) (a' := sliceOf cStr pg) (by simp only; rw [hget]; rfl) rfl (by simp only [sealV]; rw [hget]; simp only [List.getElem?_cons_succ, List.getElem?_cons_zero, if_true, List.drop_zero, Nat.mul_one]; rw [List.take_of_length_le (by rw [length_rows cStr_len]; omega)]; rfl) (by simp [nmOf])) ?_
              simp only [nmOf, hset, List.set_cons_succ, List.set_cons_zero]
              refine WP.noisy (so := { shut := [41, 106], cut := [82], }) 5 [4] [0, 0, 0, 0, 0] [0, 0, 1, 0, 0] ((fun T => [h ++ .cells 0 (bdA b m) :: .cells 0 (cLay l) :: .cells 0 [sliceOf cStr pg, .int .i64 0, .int .i64 0, .bool false, .int .i64 0, .int .i64 0] :: T, h ++ .cells 0 (bdA b m) :: .cells 0 (cLay l) :: .cells 0 [sliceOf cStr pg, .int .i64 (wrongB m b.pages[p] b.cells l).length, .int .i64 0, .bool false, .int .i64 0, .int .i64 0] :: T]) _) rfl mixed (by kernel_rfl) (by kernel_rfl) (by decide) (by kernel_rfl) rfl ?_
              simp (implicitDefEqProofs := false) (dsimp := false) only [go_sem, bdA, cLay]
              refine emRec_none _ _ _ _ ?_
              simp (implicitDefEqProofs := false) (dsimp := false) only [go_sem]
              exact quiet_fine (v := emA (some ⟨pg, (wrongB m b.pages[p] b.cells l).length, l⟩)) hB (below_mono (Nat.zero_le _) _ (emA_below _))
end Go.Mac

/-! FnQ -/
/- FnQ: the page with the fewest letters changed. -/
namespace Go.Mac
open Go Go.Conc Go.Proofs
set_option maxRecDepth 4000

def fewEm : Option Em → List AV
  | some e => [sliceOf cStr e.rows, .int .i64 e.letters, .int .i64 e.way.page, .bool e.way.turned, .int .i64 e.way.down, .int .i64 e.way.right, .int .i64 e.letters, .bool true, .fn (.func 68) [] []]
  | none => [.nilsl, .int .i64 0, .int .i64 0, .bool false, .int .i64 0, .int .i64 0, .int .i64 0, .bool false, .fn (.func 68) [] []]
def takeEm (o : Option Em) (x : Em) : Option Em :=
  match o with
  | none => some x
  | some b => if x.letters < b.letters then some x else some b

theorem countEm_ok (x : Em) : PureA Try.prog 68 [.agg (cEm x)] (.int .i64 x.letters) := by
  refine PureA.of_wpp {} 4 mixed Try.func68 (by kernel_rfl) rfl (by kernel_rfl) (rfl) fun h j hB => ?_
  simp only [junk_succ, junk_zero, List.cons_append, List.nil_append, List.length_cons, List.length_nil, Nat.reduceAdd]
  simp (implicitDefEqProofs := false) (dsimp := false) only [go_sem, cEm, cLay]

/-- The end of a function that turns one block. -/
theorem set_fine {h k : List Blk} {n : Nat} {b : Blk} {v : AV} (hb : h.all (belowBlk h.length) = true) (hbb : belowBlk h.length b = true) (hv : below h.length v = true) : ∃ v' m, v = v' ∧ h.length ≤ m ∧ below m v' = true ∧ ((h.set n b ++ k).take m).all (belowBlk m) = true ∧ AEnd.ret v' = .ret v ∧ (h.set n b ++ k).take m = h.set n b := by
  have e : (h.set n b ++ k).take h.length = h.set n b := List.take_left' (by simp)
  refine ⟨_, h.length, rfl, Nat.le_refl _, hv, ?_, rfl, e⟩
  rw [e, List.all_eq_true] at *
  intro x hx
  rcases List.mem_or_eq_of_mem_set hx with hx | rfl
  · exact hb x hx
  · exact hbb
theorem set_same {h : List Blk} {n : Nat} {b : Blk} (hn : h[n]? = some b) : h.set n b = h := by
  obtain ⟨h1, h2⟩ := List.getElem?_eq_some_iff.1 hn
  rw [← h2]; exact List.set_getElem_self h1
theorem fewEm_below (o : Option Em) (n : Nat) : belowBlk n (.cells 0 (fewEm o)) = true := by
  cases o with
  | none => rfl
  | some e =>
    have := belowL_flat (n := n) (f := cStr) (fun _ => rfl) e.rows
    simp [belowBlk, fewEm, below, belowL, sliceOf, this]
theorem call_count : callable Try.prog 68 = True := eq_true ⟨_, Try.func68, rfl, rfl⟩
theorem takeEm_ok (n : Nat) (o : Option Em) (x : Em) (h : List Blk) (hn : h[n]? = some (.cells 0 (fewEm o))) : CallsA Try.prog 71 [.ptr ⟨n, 0⟩ 0, .agg (cEm x)] h fun e h' => e = .ret (.tup []) ∧ h' = h.set n (.cells 0 (fewEm (takeEm o x))) := by
  have hlt : n < h.length := (List.getElem?_eq_some_iff.1 hn).1
  refine CallsA.of_wpe [] { cut := [16], tail := [(1, 5)] } 33 mixed Try.func71 (by kernel_rfl) rfl (by kernel_rfl) fun j hB hA => ?_; simp only [junk_succ, junk_zero, List.cons_append, List.nil_append, List.length_cons, List.length_nil, Nat.reduceAdd]
  have hn2 : ∀ k, (h ++ k)[n]? = some (.cells 0 (fewEm o)) := fun k => by rw [List.getElem?_append_left hlt]; exact hn
  have hs2 : ∀ k b, (h ++ k).set n b = h.set n b ++ k := fun k b => by rw [List.set_append_left _ _ hlt]
  have hg2 : ∀ b k, (h.set n b ++ k)[n]? = some b := fun b k => by rw [List.getElem?_append_left (by simpa using hlt), List.getElem?_set_self hlt]
  have hs3 : ∀ k a b, (h.set n a ++ k).set n b = h.set n b ++ k := fun k a b => by rw [List.set_append_left _ _ (by simpa using hlt), List.set_set]
  cases o with
  | none =>
    simp only [fewEm] at hn2
    simp (implicitDefEqProofs := false) (dsimp := false) only [go_sem, hn2, cEm, cLay, call_count]
    (first | refine CallsA.use (countEm_ok x) ?_ | refine QuietCalls.use (countEm_ok x) ?_)
    simp (implicitDefEqProofs := false) (dsimp := false) only [go_sem, hn2, hs2, hg2, hs3]
    exact set_fine (b := .cells 0 (fewEm (some x))) (v := .tup []) hB (fewEm_below _ _) rfl
  | some b =>
    simp only [fewEm] at hn2
    simp (implicitDefEqProofs := false) (dsimp := false) only [go_sem, hn2, cEm, cLay, call_count]
    (first | refine CallsA.use (countEm_ok x) ?_ | refine QuietCalls.use (countEm_ok x) ?_)
    simp (implicitDefEqProofs := false) (dsimp := false) only [go_sem, hn2, hs2, hg2, hs3]
    refine ⟨fun hc => ?_, fun hc => ?_⟩
    · have e : takeEm (some b) x = some x := if_pos hc
      rw [e]
      exact set_fine (b := .cells 0 (fewEm (some x))) (v := .tup []) hB (fewEm_below _ _) rfl
    · have e : takeEm (some b) x = some b := if_neg hc
      rw [e, set_same hn]
      exact quiet_fine hB rfl

/-- The best of the first ways of a page. -/
def emTo (b : Board) (m : List (Int × Int)) (p k : Nat) : Option Em := (List.range k).foldl (fun o n => match emOf m b.glyphs (b.pages.getD p []) b.cells (layN p n) with | some e => takeEm o e | none => o) none
theorem emTo_succ (b : Board) (m : List (Int × Int)) (p k : Nat) : emTo b m p (k + 1) = match emOf m b.glyphs (b.pages.getD p []) b.cells (layN p k) with | some e => takeEm (emTo b m p k) e | none => emTo b m p k := by
  simp [emTo, List.range_succ]
def emendR (b : Board) (page : Int) : Option Em × Int :=
  if boardErr b ≠ 0 then (none, boardErr b) else if ¬ (0 ≤ page ∧ page < b.pages.length) then (none, 3) else
    match emTo b (mapB b.glyphs) page.toNat 18 with
    | some e => (some e, 0)
    | none => (none, 11)
def emendA : Option Em × Int → AV
  | (some e, c) => .tup [sliceOf cStr e.rows, .int .i64 e.letters, .agg (cLay e.way), .int .i64 c]
  | (none, c) => .tup [.nilsl, .int .i64 0, .agg [.int .i64 0, .bool false, .int .i64 0, .int .i64 0], .int .i64 c]
theorem emendA_below (x : Option Em × Int) : below 0 (emendA x) = true := by
  obtain ⟨o, c⟩ := x
  cases o with
  | none => rfl
  | some e =>
    have := belowL_flat (n := 0) (f := cStr) (fun _ => rfl) e.rows
    simp [emendA, cLay, below, belowL, sliceOf, this]
def emendH (b : Board) (o : Option Em) : List Blk := [.cells 0 (brdA b), .cells 0 [.int .i64 0, .bool false, .int .i64 0, .int .i64 0], .cells 0 (bdA b (mapB b.glyphs)), .cells 0 (fewEm o)]
theorem emendH_below (b : Board) (o : Option Em) (n : Nat) : (emendH b o).all (belowBlk n) = true := by
  have h1 := belowL_mono (Nat.zero_le n) _ (bdA_below b (mapB b.glyphs))
  have h2 := belowL_mono (Nat.zero_le n) _ (slices_below b)
  have h3 := fewEm_below o n
  have h4 : belowBlk n (.cells 0 (brdA b)) = true := h2
  have h5 : belowBlk n (.cells 0 (bdA b (mapB b.glyphs))) = true := h1
  simp only [emendH, List.all_cons, List.all_nil, h4, h5, h3]
  rfl

theorem loop_cut4 {h own e : List Blk} {a b c d g l : Blk} : h ++ a :: b :: c :: d :: g :: l :: (own ++ e) = (h ++ [a, b, c, d]) ++ g :: l :: (own ++ e) := by simp
theorem Emend_ok (b : Board) (page : Int) : PureA Try.prog 27 [.agg (brdA b), .int .i64 page] (emendA (emendR b page)) := by
  refine PureA.of_wpe [] { tail := [(14, 11)] } 54 mixed Try.func27 (by kernel_rfl) rfl (by kernel_rfl) (emendA_below _) fun h j hB => ?_
  simp only [junk_succ, junk_zero, List.cons_append, List.nil_append, List.length_cons, List.length_nil, Nat.reduceAdd]
  simp (implicitDefEqProofs := false) (dsimp := false) only [go_sem, brdA]
  refine open_use (fun e0 => ?_) (fun e1 e2 x y z t f1 f2 f3 f4 => ?_)
  · simp (implicitDefEqProofs := false) (dsimp := false) only [go_sem, bdA]
    (first | refine CallsA.use (hasPage_ok b _ page) ?_ | refine QuietCalls.use (hasPage_ok b _ page) ?_)
    simp (implicitDefEqProofs := false) (dsimp := false) only [go_sem, e0]
    have hc : (decide (0 ≤ page) && decide (page < (b.pages.length : Int))) = decide (0 ≤ page ∧ page < (b.pages.length : Int)) := by simp
    refine ⟨fun c1 => ?_, fun c1 => ?_⟩
    · have c2 : ¬ (0 ≤ page ∧ page < (b.pages.length : Int)) := by simp at c1; omega
      rw [emendR, if_neg (by simp [e0]), if_pos c2]
      rfl
    · have c2 : 0 ≤ page ∧ page < (b.pages.length : Int) := by rw [hc] at c1; simpa using c1
      obtain ⟨p, rfl⟩ : ∃ p : Nat, page = p := ⟨page.toNat, by omega⟩
      have hp : p < b.pages.length := by omega
      have ok := okBoard.of e0
      obtain ⟨q1, _⟩ := boardErr_zero e0
      have okg := okGlyphs.of q1
      have hR : emendR b p = match emTo b (mapB b.glyphs) p 18 with | some e => (some e, 0) | none => (none, 11) := by
        rw [emendR, if_neg (by simp [e0]), if_neg (by omega)]; rfl
      rw [hR]
      (first | refine CallsA.use (laysOf_ok b _ p) ?_ | refine QuietCalls.use (laysOf_ok b _ p) ?_)
      simp (implicitDefEqProofs := false) (dsimp := false) only [go_sem]
      refine WP.rangeIterN (h.length + 5) (by simp <;> omega)  (so := { tail := [(14, 11)] }) mixed (by kernel_rfl) (by kernel_rfl) rfl rfl (call_laysOf1) rfl rfl (iter_ways b _ p hp ok) (encW_len) (fun k h1 => h1 = h ++ emendH b (emTo b (mapB b.glyphs) p k)) (fun _ _ => False) ?_ ?_ ?_ ?_ ?_ ?_
      · rintro k _ _ rfl
        exact mine_ok hB (by simp [emendH]) (emendH_below _ _ _)
      · rintro _ _ _ ⟨⟩
      · simp [emendH, emTo, brdA, bdA, sliceOf, fewEm]
      · rintro k _ own hk rfl hl2
        rw [List.length_map, ways_len] at hk
        have ex : ((ways b (mapB b.glyphs) p).map encW)[k]'(by rw [List.length_map, ways_len]; exact hk) = [.agg (cLay (layN p k)), .agg (nums12 (faceB (mapB b.glyphs) b.pages[p] b.cells (layN p k)))] := by simp [ways, wayN, encW, List.getD, hp]
        rw [ex]
        dsimp only
        simp (implicitDefEqProofs := false) (dsimp := false) only [go_sem, emendH, bdA, cLay_leaf, cLay_len, cLay_take, setMany4, Nat.le_refl]
        (first | refine CallsA.use (emend_ok b _ okg (layN p k) p rfl hp (ok.page _ (List.getElem_mem hp)) ok.cells (by simp only [layN]; omega) (by simp only [layN]; omega)) ?_ | refine QuietCalls.use (emend_ok b _ okg (layN p k) p rfl hp (ok.page _ (List.getElem_mem hp)) ok.cells (by simp only [layN]; omega) (by simp only [layN]; omega)) ?_)
        have hs := emTo_succ b (mapB b.glyphs) p k
        simp only [List.getD, List.getElem?_eq_getElem hp, Option.getD_some] at hs
        generalize emOf (mapB b.glyphs) b.glyphs b.pages[p] b.cells (layN p k) = o at hs ⊢
        cases o with
        | none =>
          simp only at hs
          simp (implicitDefEqProofs := false) (dsimp := false) only [go_sem, emA, noEm]
          exact ⟨_, ⟨_, loop_cut4⟩, by rw [hs]; rfl⟩
        | some e =>
          simp only at hs
          simp (implicitDefEqProofs := false) (dsimp := false) only [go_sem, emA, cEm, cLay]
          refine (takeEm_ok _ (emTo b (mapB b.glyphs) p k) e _ (by rw [hget]; rfl)).mono ?_
          rintro _ _ ⟨rfl, rfl⟩
          simp (implicitDefEqProofs := false) (dsimp := false) only [go_sem]
          exact ⟨_, ⟨_, loop_cut4⟩, by rw [hs]; rfl⟩
      · rintro _ rfl
        rw [List.length_map, ways_len]
        generalize emTo b (mapB b.glyphs) p 18 = o
        cases o with
        | none =>
          simp (implicitDefEqProofs := false) (dsimp := false) only [go_sem, emendH, fewEm]
          rfl
        | some e =>
          simp (implicitDefEqProofs := false) (dsimp := false) only [go_sem, emendH, fewEm]
          rfl
      · rintro _ _ ⟨⟩
  · simp only [leafA] at f1 f2 f3 f4
    simp (implicitDefEqProofs := false) (dsimp := false) only [go_sem, f1, f2, f3, f4, e2]
    rw [emendR, if_pos e1]
    rfl
end Go.Mac

/-! FnR -/
/- FnR: pairs of ways: what one goroutine sends. -/
namespace Go.Mac
open Go Go.Conc Go.Proofs
set_option maxRecDepth 4000

/-- Rows of cells, the members of the list being of the right length. -/
theorem length_rowsM {α β : Type} {f : α → List β} {n : Nat} : ∀ {l : List α}, (∀ x ∈ l, (f x).length = n) → (l.flatMap f).length = l.length * n
  | [], _ => by simp
  | x :: l, h => by
    rw [List.flatMap_cons, List.length_append, h x (by simp), length_rowsM fun y hy => h y (by simp [hy]), List.length_cons, Nat.succ_mul]
    omega
theorem drop_rowsM {α β : Type} {f : α → List β} {n : Nat} : ∀ {l : List α} {i : Nat} (_ : ∀ x ∈ l, (f x).length = n) (h : i < l.length), (l.flatMap f).drop (i * n) = f l[i] ++ (l.drop (i + 1)).flatMap f
  | [], i, _, h => by simp at h
  | x :: l, 0, _, h => by simp
  | x :: l, i + 1, hf, h => by
    have hi : i < l.length := by simpa using h
    simp only [List.flatMap_cons, List.getElem_cons_succ, List.drop_succ_cons]
    rw [show (i + 1) * n = n + i * n by rw [Nat.succ_mul]; omega, List.drop_append, hf x (by simp)]
    rw [show n + i * n - n = i * n by omega, List.drop_eq_nil_of_le (by rw [hf x (by simp)]; omega), List.nil_append]
    exact drop_rowsM (fun y hy => hf y (by simp [hy])) hi

/-- Something is sent, in the last operation of a region. -/
theorem WPI.sendN {P : Program} {fk : FK} {K : AExit → AS → Prop} {ops : Array Oper} {i : Nat} {o : Oper} {ch x : Operand} {n : Nm} {bv : Bool} {out : List (Nm × Value)} {ri : Nat} {sl : List AV} {df : List ADef} {hp : List Blk} {todo : List (List (Nm × Value))} (hro : hp[ri]? = some (.role false)) (ho : ops[i]? = some o) (hop : o.op = .send ch x) (hog : o.guard = none) (hod : o.dst = none) (hc : evA sl ch = .chan n) (hx : evA sl x = .bool bv)
    (hne : out ≠ []) (hlive : hp[n.id]? = some (.chan n.gen)) (h : K .normal ⟨sl, df, hp, ⟨out, todo⟩⟩) : WPI P fk [.inRegion ops [i]] K ⟨sl, df, hp, ⟨(n, .bool bv) :: out, todo⟩⟩ := by
  refine WPI.send hro ho hop hog hc hx rfl hne hlive (WPI.region_end ?_)
  rw [hod]; exact h

/-- What is sent of a face and others, from the 'k'th on. -/
def bitsFrom (cs : List (List Trace)) (p q : Int) (x : List Int) (i : Nat) : Nat → List (List Int) → List Bool
  | _, [] => []
  | k, y :: ys => (if p ≠ q ∨ i < k then [togetherB cs x y] else []) ++ bitsFrom cs p q x i (k + 1) ys
def msgs (met done : Nm) (bs : List Bool) : List (Nm × Value) := bs.map (fun b => (met, .bool b)) ++ [(done, .bool true)]
theorem msgs_cons (met done : Nm) (b : Bool) (bs : List Bool) : msgs met done (b :: bs) = (met, .bool b) :: msgs met done bs := rfl
theorem msgs_ne (met done : Nm) (bs : List Bool) : msgs met done bs ≠ [] := by simp [msgs]
def cF (f : List Int) : List AV := nums12 f

theorem double1_ok (b : Board) (m : List (Int × Int)) (okc : okCells b.cells) (p q : Int) (i : Nat) (x : List Int) (hx : x.length = 12) (fs : List (List Int)) (hf : ∀ y ∈ fs, y.length = 12) (hl : fs.length ≤ 1000) (hil : i ≤ 1000) (met done : Nm) (h : List Blk) (h0 : h[0]? = some (.role false)) (h1 : h[met.id]? = some (.chan met.gen)) (h2 : h[done.id]? = some (.chan done.gen)) :
    SendA Try.prog 110 [.pptr [sliceOf cF fs], .pptr [.int .i64 p], .pptr [.int .i64 q], .pptr [.int .i64 i], .pptr [.chan met], .pptr (bdA b m), .pptr (nums12 x), .pptr [.chan done]] h (msgs met done (bitsFrom b.cells p q x i 0 fs)) := by
  apply SendA.of_body (n := done) (ri := 0) (ht := ty171) (hf := Try.func110)
  iterate 11 (exact rfl)
  simp only [List.length_cons, List.length_nil, Nat.reduceAdd]
  refine wp_ok (so := { cut := [20], hand := [4] }) mixed _ (by kernel_rfl) ?_
  rw [show Try.f110.ntmps - 8 = 24 from rfl]
  simp only [List.replicate_succ, List.replicate_zero, List.cons_append, List.nil_append]
  have l0 : 0 < h.length := (List.getElem?_eq_some_iff.1 h0).1
  have l1 : met.id < h.length := (List.getElem?_eq_some_iff.1 h1).1
  have l2 : done.id < h.length := (List.getElem?_eq_some_iff.1 h2).1
  have g0 : ∀ k, (h ++ k)[0]? = some (.role false) := fun k => by rw [List.getElem?_append_left l0]; exact h0
  have g1 : ∀ k, (h ++ k)[met.id]? = some (.chan met.gen) := fun k => by rw [List.getElem?_append_left l1]; exact h1
  have g2 : ∀ k, (h ++ k)[done.id]? = some (.chan done.gen) := fun k => by rw [List.getElem?_append_left l2]; exact h2
  simp (implicitDefEqProofs := false) (dsimp := false) only [go_sem, bdA]
  refine WP.loopI (fun (k : Nat) s => (k ≤ fs.length) ∧ s.sl.length = 32 ∧ s.df = [] ∧ s.gh = { out := msgs met done (bitsFrom b.cells p q x i k (fs.drop k)) } ∧ (∃ e, s.hp = h ++ e) ∧ evA s.sl (.tmp 1) = .pptr [.int .i64 p] ∧ evA s.sl (.tmp 2) = .pptr [.int .i64 q] ∧ evA s.sl (.tmp 3) = .pptr [.int .i64 i] ∧ evA s.sl (.tmp 4) = .pptr [.chan met] ∧ evA s.sl (.tmp 5) = .pptr (bdA b m) ∧ evA s.sl (.tmp 6) = .pptr (nums12 x) ∧ evA s.sl (.tmp 7) = .pptr [.chan done] ∧ evA s.sl (.tmp 10) = sliceOf cF fs ∧ evA s.sl (.tmp 11) = .int .i64 fs.length ∧ evA s.sl (.tmp 12) = .int .i64 k) (fun (k : Nat) => fs.length - k) (0) ?_ ?_
  · simp (implicitDefEqProofs := false) (dsimp := false) only [go_sem, bdA, Nat.zero_le]
  · rintro k ⟨sl, df, hp, gh⟩ ⟨ab, al, rfl, rfl, ah, a1, a2, a3, a4, a5, a6, a7, a10, a11, a12⟩
    simp only at ab al ah a1 a2 a3 a4 a5 a6 a7 a10 a11 a12
    obtain ⟨j, rfl⟩ := slots_lit al; clear al; simp only [junk_succ, junk_zero, evA_tmp, nth_16, nth_four, nth_one, nth_zero, Nat.zero_add, Nat.reduceAdd] at  a1 a2 a3 a4 a5 a6 a7 a10 a11 a12 ⊢
    refine wp_ok (so := { cut := [20], hand := [4] }) mixed _ (by kernel_rfl) ?_
    obtain ⟨e, rfl⟩ := ah
    by_cases hk : k < fs.length
    · have hy := hf _ (List.getElem_mem hk)
      have hcl : ∀ y ∈ fs, (cF y).length = 12 := fun y hy => by rw [cF, nums12_len, hf y hy]
      have hr := drop_rowsM hcl hk
      have hrl : k * 12 ≤ (fs.flatMap cF).length := by rw [length_rowsM hcl]; omega
      rw [drop_get hk, bitsFrom]
      have hTk : ∀ R, (nums12 fs[k] ++ R).take 12 = nums12 fs[k] := fun R => List.take_left' (by rw [nums12_len, hy])
      have hTx := nums_take hx
      simp (implicitDefEqProofs := false) (dsimp := false) only [go_sem, a1, a2, a3, a4, a5, a6, a7, a10, a11, a12, bdA, nat_lt hk, decide_true, hr, hrl, cF, hTk, nums12_len, hy, nums_leaf, setM12 hy, Nat.le_refl]
      refine ⟨by omega, fun c1 => ?_, fun c1 => ⟨fun c2 => ?_, fun c2 => ?_⟩⟩
      · have c3 : p ≠ q := by simpa using c1
        rw [if_pos (by exact .inl c3)]
        simp only [List.cons_append, List.nil_append, msgs_cons]
        refine WP.quietS (so := { cut := [20] }) 5 rfl mixed (by kernel_rfl) (by kernel_rfl) (by decide) ?_
        simp (implicitDefEqProofs := false) (dsimp := false) only [go_sem, bdA, g0, g1, hTx, nums12_len, hx, hy, Nat.le_refl, nums_take hy]
        (first | refine CallsA.use (together_ok b m x fs[k] hx hy okc) ?_ | refine QuietCalls.use (together_ok b m x fs[k] hx hy okc) ?_)
        simp (implicitDefEqProofs := false) (dsimp := false) only [go_sem]
        refine WPI.sendN (n := met) (ri := 0) (g0 _) rfl rfl rfl rfl rfl rfl (msgs_ne _ _ _) (g1 _) ?_
        simp (implicitDefEqProofs := false) (dsimp := false) only [go_sem]
        exact ⟨k + 1, ⟨by omega, rfl, wrap_succ (by omega)⟩, by omega⟩
      · have c3 : p = q := by simpa using c1
        rw [if_pos (by exact .inr (by omega))]
        simp only [List.cons_append, List.nil_append, msgs_cons]
        refine WP.quietS (so := { cut := [20] }) 5 rfl mixed (by kernel_rfl) (by kernel_rfl) (by decide) ?_
        simp (implicitDefEqProofs := false) (dsimp := false) only [go_sem, bdA, g0, g1, hTx, nums12_len, hx, hy, Nat.le_refl, nums_take hy]
        (first | refine CallsA.use (together_ok b m x fs[k] hx hy okc) ?_ | refine QuietCalls.use (together_ok b m x fs[k] hx hy okc) ?_)
        simp (implicitDefEqProofs := false) (dsimp := false) only [go_sem]
        refine WPI.sendN (n := met) (ri := 0) (g0 _) rfl rfl rfl rfl rfl rfl (msgs_ne _ _ _) (g1 _) ?_
        simp (implicitDefEqProofs := false) (dsimp := false) only [go_sem]
        exact ⟨k + 1, ⟨by omega, rfl, wrap_succ (by omega)⟩, by omega⟩
      · have c3 : p = q := by simpa using c1
        rw [if_neg (by omega)]
        exact ⟨k + 1, ⟨by omega, rfl, wrap_succ (by omega)⟩, by omega⟩
    · have hs : ((k : Int) < (fs.length : Int)) = False := eq_false (by omega)
      rw [List.drop_eq_nil_of_le (by omega), bitsFrom]
      simp (implicitDefEqProofs := false) (dsimp := false) only [go_sem, a1, a2, a3, a4, a5, a6, a7, a10, a11, a12, bdA, hs, decide_false, g0, g2]
      rfl
end Go.Mac

/-! FnS -/
/- FnS: pairs of ways of two pages, by goroutines. -/
namespace Go.Mac
open Go Go.Conc Go.Proofs
set_option maxRecDepth 4000

theorem wpi_shut {P : Program} {fk : FK} {its : List Item} {Q : AExit → AS → Prop} {sl : List AV} {df : List ADef} {hp : List Blk} {gh : Gst} (ds : List Nat) (h : shutK ds sl hp fun sl hp => WPI P fk its Q ⟨sl, df, hp, gh⟩) : WPI P fk its Q ⟨sl, df, hp, gh⟩ := by
  obtain ⟨⟨sl', df', hp', gh'⟩, t, h1, h2, h3⟩ := shutK_turns (n0 := fk.low) (s := ⟨sl, df, hp, gh⟩) h
  simp only at h1 h2 h3
  subst h1; subst h2
  exact WPI.turn t h3

/-- The last operation of a region. -/
theorem WPI.region_one {P : Program} {fk : FK} {K : AExit → AS → Prop} {s : AS} {ops : Array Oper} {i : Nat} {o : Oper} (so : Opt) (ho : ops[i]? = some o) (h : runL P so ops [o] K s) : WPI P fk [.inRegion ops [i]] K s := by
  simp only [runL] at h
  unfold guardW guardV at h
  split at h
  · rename_i hg
    exact stepW_ok (K := K) (rest := []) ho (fun _ _ _ => by simp [Region.wanted, hg]) (fun v h' q => by unfold withVH at q; exact WPI.region_end (cutV_ok q)) h
  · rename_i j want hg
    split at h
    · rename_i d hd
      split at h
      · rename_i t ht
        replace ht := evA_bool ht
        have hj : ∃ oj, ops[j]? = some oj ∧ oj.dst = some d := by
          cases hoj : ops[j]? with
          | none => rw [hoj] at hd; cases hd
          | some oj => rw [hoj] at hd; exact ⟨oj, rfl, hd⟩
        obtain ⟨oj, hj1, hj2⟩ := hj
        by_cases he : t = want
        · exact stepW_ok (K := K) (rest := []) ho (fun c tmps hv => by simp [Region.wanted, hg, yielded_of hv hj1 hj2 ht, he]) (fun v h' q => by unfold withVH at q; exact WPI.region_end (cutV_ok q)) (guardB_yes h he)
        · exact WPI.op_out ho hg hj1 hj2 ht he (WPI.region_end (guardB_no h he))
      · exact h.elim
    · exact h.elim

/-- A region from an operation on. -/
theorem WPI.region_from {P : Program} {fk : FK} {K : AExit → AS → Prop} {s : AS} {ops : Array Oper} (so : Opt) (k : Nat) {rest : List Nat} (hr : rest = List.range' k (ops.size - k)) (h : runL P so ops (tag (ops.toList.drop k)) K s) : WPI P fk [.inRegion ops rest] K s := by
  subst hr
  have := runL_ok (fk := fk) (ops := ops) (l := ops.toList.drop k) (k := k) (fun j => by rw [List.getElem?_drop, Array.getElem?_toList]) h
  rwa [List.length_drop, Array.length_toList] at this
/-- A select of two cases, in the first operation of a region. -/
theorem WPI.selectN {P : Program} {fk : FK} {Q : AExit → AS → Prop} {ops : Array Oper} {rest : List Nat} {o : Oper} {x0 x1 : Operand} {e0 e1 : TypeId} {f0 f1 : TF} {n0 n1 : Nm} {ri d : Nat} {sl : List AV} {df : List ADef} {hp : List Blk} {out : List (Nm × Value)} {todo : List (List (Nm × Value))} (hro : hp[ri]? = some (.role true)) (ho : ops[0]? = some o) (hop : o.op = .select #[⟨x0, none, e0⟩, ⟨x1, none, e1⟩] true) (hog : o.guard = none) (hod : o.dst = some d)
    (hx0 : evA sl x0 = .chan n0) (hx1 : evA sl x1 = .chan n1) (h0 : hp[n0.id]? = some (.chan n0.gen)) (h1 : hp[n1.id]? = some (.chan n1.gen)) (hne : n0.id ≠ n1.id)
    (ht0 : tyT P e0 = some f0) (ht1 : tyT P e1 = some f1) (hz0 : f0.d = .bool) (hz1 : f1.d = .bool) (hzz0 : f0.ze = some [.bool false]) (hzz1 : f1.ze = some [.bool false]) (hf0 : zeroFits P e0 = true) (hf1 : zeroFits P e1 = true)
    (hnil : todo ≠ []) (hall : ∀ ms ∈ todo, ∃ n b r, ms = (n, .bool b) :: r ∧ (n = n0 ∨ n = n1))
    (h : ∀ T1 n b r T2, todo = T1 ++ ((n, .bool b) :: r) :: T2 →
      (n = n0 → WPI P fk [.inRegion ops rest] Q ⟨setN d (.tup [.int .i64 0, .bool true, .bool b, .bool false]) sl, df, hp, ⟨out, T1 ++ restA r ++ T2⟩⟩) ∧
      (n = n1 → WPI P fk [.inRegion ops rest] Q ⟨setN d (.tup [.int .i64 1, .bool true, .bool false, .bool b]) sl, df, hp, ⟨out, T1 ++ restA r ++ T2⟩⟩)) : WPI P fk [.inRegion ops (0 :: rest)] Q ⟨sl, df, hp, ⟨out, todo⟩⟩ := by
  refine WPI.select hro ho hop hog hod hx0 hx1 h0 h1 hne ht0 ht1 hz0 hz1 hzz0 hzz1 hf0 hf1 hnil hall fun T1 n b r T2 e => ?_
  obtain ⟨g1, g2⟩ := h T1 n b r T2 e
  have es : ∀ v, sl.set d v = setN d v sl := fun v => by have := putA_some (l := sl) (d := d) (v := v); simpa [putA] using this
  refine ⟨fun e => ?_, fun e => ?_⟩
  · simp only [es]; exact g1 e
  · simp only [es]; exact g2 e
/-- A goroutine is started, in the last operation of a region. -/
theorem WPI.goN {P : Program} {fk : FK} {K : AExit → AS → Prop} {ops : Array Oper} {i : Nat} {o : Oper} {f : Operand} {ats : Array TypeId} {g : FuncId} {cap sl : List AV} {df : List ADef} {hp : List Blk} {out : List (Nm × Value)} {todo : List (List (Nm × Value))} {ri : Nat} (O : List (Nm × Value)) (hro : hp[ri]? = some (.role true)) (ho : ops[i]? = some o) (hop : o.op = .go { callee := .value f, args := #[], argTypes := ats }) (hog : o.guard = none) (hod : o.dst = none) (hf : evA sl f = .fn (.func g) [] cap)
    (hO : O ≠ []) (hch : ∀ m ∈ O, hp[m.1.id]? = some (.chan m.1.gen)) (hs : SendA P g cap (hp.map shareB) O) (h : K .normal ⟨sl, df, hp, ⟨out, todo ++ [O]⟩⟩) : WPI P fk [.inRegion ops [i]] K ⟨sl, df, hp, ⟨out, todo⟩⟩ := by
  refine WPI.go O hro ho hop hog hf hO hch hs (WPI.region_end ?_)
  rw [hod]; exact h
theorem msgs_mem {met done : Nm} {bs : List Bool} {x : Nm × Value} (h : x ∈ msgs met done bs) : x.1 = met ∨ x.1 = done := by
  rcases List.mem_append.1 h with h | h
  · obtain ⟨y, _, rfl⟩ := List.mem_map.1 h; exact .inl rfl
  · rw [List.mem_singleton.1 h]; exact .inr rfl

def facesOf (b : Board) (m : List (Int × Int)) (p : Nat) : List (List Int) := (ways b m p).map Prod.snd
theorem facesOf_len (b : Board) (m : List (Int × Int)) (p : Nat) : (facesOf b m p).length = 18 := by simp [facesOf, ways_len]
theorem facesOf_face {b : Board} {m : List (Int × Int)} {p : Nat} : ∀ y ∈ facesOf b m p, y.length = 12 := by
  intro y hy
  obtain ⟨x, hx, rfl⟩ := List.mem_map.1 hy
  obtain ⟨n, _, rfl⟩ := List.mem_map.1 hx
  exact face_len _ _ _ _
theorem facesOf_get {b : Board} {m : List (Int × Int)} {p k : Nat} (hk : k < 18) : (facesOf b m p)[k]'(by rw [facesOf_len]; exact hk) = faceB m (b.pages.getD p []) b.cells (layN p k) := by simp [facesOf, ways, wayN]
/-- What all goroutines send. -/
def bitsAll (cs : List (List Trace)) (p q : Int) (one two : List (List Int)) (n : Nat) : List (List Bool) := (List.range n).map fun i => bitsFrom cs p q (one.getD i []) i 0 two
theorem bitsAll_succ (cs : List (List Trace)) (p q : Int) (one two : List (List Int)) (n : Nat) : bitsAll cs p q one two (n + 1) = bitsAll cs p q one two n ++ [bitsFrom cs p q (one.getD n []) n 0 two] := by simp [bitsAll, List.range_succ]
theorem bitsAll_len (cs : List (List Trace)) (p q : Int) (one two : List (List Int)) (n : Nat) : (bitsAll cs p q one two n).length = n := by simp [bitsAll]
def countT (l : List (List Bool)) : Nat := (l.map fun x => x.count true).sum
theorem bitsFrom_len (cs : List (List Trace)) (p q : Int) (x : List Int) (i : Nat) : ∀ (k : Nat) (fs : List (List Int)), (bitsFrom cs p q x i k fs).length ≤ fs.length
  | _, [] => Nat.le_refl _
  | k, y :: ys => by
    have := bitsFrom_len cs p q x i (k + 1) ys
    rw [bitsFrom, List.length_append, List.length_cons]
    split
    · simp only [List.length_cons, List.length_nil]; omega
    · simp only [List.length_nil]; omega
theorem countT_le {n : Nat} : ∀ {l : List (List Bool)}, (∀ x ∈ l, x.length ≤ n) → countT l ≤ l.length * n
  | [], _ => Nat.zero_le _
  | x :: l, h => by
    have h1 := countT_le (l := l) fun y hy => h y (by simp [hy])
    have h2 := h x (by simp)
    have h3 : x.count true ≤ x.length := List.count_le_length
    simp only [countT, List.map_cons, List.sum_cons, List.length_cons, Nat.succ_mul] at *
    omega
def doubleB (b : Board) (m : List (Int × Int)) (p q : Nat) : Nat := countT (bitsAll b.cells p q (facesOf b m p) (facesOf b m q) 18)

theorem doubleB_le (b : Board) (m : List (Int × Int)) (p q : Nat) : doubleB b m p q ≤ 324 := by
  have h := countT_le (n := 18) (l := bitsAll b.cells p q (facesOf b m p) (facesOf b m q) 18) fun x hx => by
    obtain ⟨i, _, rfl⟩ := List.mem_map.1 hx
    have := bitsFrom_len b.cells p q ((facesOf b m p).getD i []) i 0 (facesOf b m q)
    rwa [facesOf_len] at this
  rw [bitsAll_len] at h
  exact h
def dblH (b : Board) (m : List (Int × Int)) (p q : Nat) (L : Nat) (l1 l2 : List (List Int)) : List Blk :=
  [.cells 0 (bdA b m), .cells 0 [.int .i64 p], .cells 0 [.int .i64 q], .cells 0 [.sl ⟨L + 5, l1.length⟩ 12 0 l1.length], .cells 0 [.sl ⟨L + 6, l2.length⟩ 12 0 l2.length], .cells l1.length (l1.flatMap cF), .cells l2.length (l2.flatMap cF)]
theorem dblH_below (b : Board) (m : List (Int × Int)) (p q L : Nat) (l1 l2 : List (List Int)) {n : Nat} (hn : L + 7 ≤ n) : (dblH b m p q L l1 l2).all (belowBlk n) = true := by
  have h1 : belowBlk n (.cells 0 (bdA b m)) = true := belowL_mono (Nat.zero_le n) _ (bdA_below b m)
  have h2 : ∀ l : List (List Int), belowBlk n (.cells l.length (l.flatMap cF)) = true := fun l => belowL_flat (f := cF) (fun _ => nums_below _) l
  simp only [dblH, List.all_cons, List.all_nil, h1, h2]
  simp only [belowBlk, belowL, below, Bool.and_true, Bool.true_and, decide_eq_true_eq, Bool.and_eq_true]
  omega

theorem loop_cut7 {h own e : List Blk} {a b c d f k g l i : Blk} : h ++ a :: b :: c :: d :: f :: k :: g :: i :: l :: (own ++ e) = (h ++ [a, b, c, d, f, k, g]) ++ i :: l :: (own ++ e) := by simp
theorem loop_cut9 {h own e : List Blk} {a b c d f k g l i m n : Blk} : h ++ a :: b :: c :: d :: f :: k :: g :: m :: n :: i :: l :: (own ++ e) = (h ++ [a, b, c, d, f, k, g, m, n]) ++ i :: l :: (own ++ e) := by simp
theorem cF_len {l : List (List Int)} (h : ∀ y ∈ l, y.length = 12) : (l.flatMap cF).length = l.length * 12 := length_rowsM fun y hy => by rw [cF, nums12_len, h y hy]
theorem take_face {l : List (List Int)} (h : ∀ y ∈ l, y.length = 12) (k : Nat) : ∀ y ∈ l.take k, y.length = 12 := fun y hy => h y (List.mem_of_mem_take hy)

def chB (x : Bool) : Blk := if x then .chan 1 else .cells 0 []
def varB (x y : Bool) (n : Nm) : Blk := if y then .cells 1 [.chan n] else if x then .cells 1 [.any] else .cells 0 []
def dblD (b : Board) (m : List (Int × Int)) (p q : Nat) (h : List Blk) (c0 c1 v0 v1 : Blk) : List Blk := h ++ (dblH b m p q h.length (facesOf b m p) (facesOf b m q) ++ [.defd, .dead, .defd, .dead, c0, c1, v0, v1])
section
variable {b : Board} {m : List (Int × Int)} {p q : Nat} {h : List Blk} {c0 c1 v0 v1 x : Blk}
theorem dblD_set0 : (dblD b m p q h c0 c1 v0 v1).set (h.length + 11) x = dblD b m p q h x c1 v0 v1 := by simp [dblD, dblH, hset]
theorem dblD_set1 : (dblD b m p q h c0 c1 v0 v1).set (h.length + 12) x = dblD b m p q h c0 x v0 v1 := by simp [dblD, dblH, hset]
theorem dblD_set2 : (dblD b m p q h c0 c1 v0 v1).set (h.length + 13) x = dblD b m p q h c0 c1 x v1 := by simp [dblD, dblH, hset]
theorem dblD_set3 : (dblD b m p q h c0 c1 v0 v1).set (h.length + 14) x = dblD b m p q h c0 c1 v0 x := by simp [dblD, dblH, hset]
theorem dblD_get0 : (dblD b m p q h c0 c1 v0 v1)[h.length + 11]? = some c0 := by unfold dblD; rw [hget]; rfl
theorem dblD_get1 : (dblD b m p q h c0 c1 v0 v1)[h.length + 12]? = some c1 := by unfold dblD; rw [hget]; rfl
theorem dblD_get2 : (dblD b m p q h c0 c1 v0 v1)[h.length + 13]? = some v0 := by unfold dblD; rw [hget]; rfl
theorem dblD_get3 : (dblD b m p q h c0 c1 v0 v1)[h.length + 14]? = some v1 := by unfold dblD; rw [hget]; rfl
end
theorem double_ok (b : Board) (m : List (Int × Int)) (ok : okBoard b) (p q : Nat) (hp : p < b.pages.length) (hq : q < b.pages.length) (h : List Blk) (hro : h[0]? = some (.role true)) : QuietAt 82 [.agg (bdA b m), .int .i64 p, .int .i64 q] h (.int .i64 (doubleB b m p q)) := by
  unfold QuietAt
  refine CallsA.of_wpe [] { shut := [27, 36], hand := [8, 9] } 63 mixed Try.func82 (by kernel_rfl) rfl (by kernel_rfl) fun j hB hA => ?_; simp only [junk_succ, junk_zero, List.cons_append, List.nil_append, List.length_cons, List.length_nil, Nat.reduceAdd]
  simp (implicitDefEqProofs := false) (dsimp := false) only [go_sem, bdA]
  (first | refine CallsA.use (laysOf_ok b m p) ?_ | refine QuietCalls.use (laysOf_ok b m p) ?_)
  simp (implicitDefEqProofs := false) (dsimp := false) only [go_sem]
  refine WPI.turn (Turns.nilCell (i := h.length + 3) (j := 0) (sz := 12) (by simp only; rw [hget]; rfl) rfl) ?_
  refine WPI.turn (Turns.nilCell (i := h.length + 4) (j := 0) (sz := 12) (by simp only [List.append_assoc]; rw [hset, List.append_assoc, hget]; rfl) rfl) ?_
  simp only [hset, List.append_assoc, List.set_cons_succ, List.set_cons_zero, List.cons_append, List.nil_append, List.length_append, List.length_cons, List.length_nil, Nat.zero_add, Nat.reduceAdd]
  refine WP.rangeIterN (h.length + 8) (by simp <;> omega)  (so := { shut := [27, 36], hand := [8, 9] }) mixed (by kernel_rfl) (by kernel_rfl) rfl rfl (call_laysOf1) rfl rfl (iter_ways b m p hp ok) (encW_len) (fun k h1 => h1 = h ++ dblH b m p q h.length ((facesOf b m p).take k) []) (fun _ _ => False) ?_ ?_ ?_ ?_ ?_ ?_
  · rintro k _ _ rfl
    exact mine_ok hB (by simp [dblH]) (dblH_below _ _ _ _ _ _ _ (by simp))
  · rintro _ _ _ ⟨⟩
  · simp [dblH, bdA, sliceOf]
  · rintro k _ own hk rfl hl2
    rw [List.length_map, ways_len] at hk
    have ex : ((ways b m p).map encW)[k]'(by rw [List.length_map, ways_len]; exact hk) = [.agg (cLay (layN p k)), .agg (nums12 (faceB m b.pages[p] b.cells (layN p k)))] := by simp [ways, wayN, encW, List.getD, hp]
    rw [ex]
    dsimp only
    have e12 : (faceB m b.pages[p] b.cells (layN p k)).length = 12 := face_len _ _ _ _
    have hl : (facesOf b m p).take (k + 1) = (facesOf b m p).take k ++ [faceB m b.pages[p] b.cells (layN p k)] := by
      rw [List.take_add_one, List.getElem?_eq_getElem (by rw [facesOf_len]; exact hk), facesOf_get hk]
      simp [List.getD, hp]
    rw [hl]
    have hcl := cF_len (take_face (facesOf_face (b := b) (m := m) (p := p)) k)
    have hkl : ((facesOf b m p).take k).length = k := by rw [List.length_take, facesOf_len]; omega
    simp (implicitDefEqProofs := false) (dsimp := false) only [go_sem, dblH, bdA, setM12 e12, nums_take e12, nums_leaf, nums12_len, e12, Nat.le_refl, hcl, hkl, nums_belowN]
    exact ⟨by omega, _, ⟨_, loop_cut7⟩, by simp [cF]⟩
  · rintro _ rfl
    rw [List.length_map, ways_len, List.take_of_length_le (by rw [facesOf_len]; exact Nat.le_refl _)]
    simp (implicitDefEqProofs := false) (dsimp := false) only [go_sem, dblH, bdA, facesOf_len]
    (first | refine CallsA.use (laysOf_ok b m q) ?_ | refine QuietCalls.use (laysOf_ok b m q) ?_)
    simp (implicitDefEqProofs := false) (dsimp := false) only [go_sem]
    refine WP.rangeIterN (h.length + 10) (by simp <;> omega)  (so := { shut := [27, 36], hand := [8, 9] }) mixed (by kernel_rfl) (by kernel_rfl) rfl rfl (call_laysOf1) rfl rfl (iter_ways b m q hq ok) (encW_len) (fun k h1 => h1 = h ++ (dblH b m p q h.length (facesOf b m p) ((facesOf b m q).take k) ++ [.defd, .dead])) (fun _ _ => False) ?_ ?_ ?_ ?_ ?_ ?_
    · rintro k _ _ rfl
      refine mine_ok hB (by simp [dblH]) ?_
      rw [List.all_append, dblH_below _ _ _ _ _ _ _ (by simp)]
      rfl
    · rintro _ _ _ ⟨⟩
    · simp [dblH, bdA, sliceOf, facesOf_len]
    · rintro k _ own hk rfl hl2
      rw [List.length_map, ways_len] at hk
      have ex : ((ways b m q).map encW)[k]'(by rw [List.length_map, ways_len]; exact hk) = [.agg (cLay (layN q k)), .agg (nums12 (faceB m b.pages[q] b.cells (layN q k)))] := by simp [ways, wayN, encW, List.getD, hq]
      rw [ex]
      dsimp only
      have e12 : (faceB m b.pages[q] b.cells (layN q k)).length = 12 := face_len _ _ _ _
      have hl : (facesOf b m q).take (k + 1) = (facesOf b m q).take k ++ [faceB m b.pages[q] b.cells (layN q k)] := by
        rw [List.take_add_one, List.getElem?_eq_getElem (by rw [facesOf_len]; exact hk), facesOf_get hk]
        simp [List.getD, hq]
      rw [hl]
      have hcl := cF_len (take_face (facesOf_face (b := b) (m := m) (p := q)) k)
      have hkl : ((facesOf b m q).take k).length = k := by rw [List.length_take, facesOf_len]; omega
      simp (implicitDefEqProofs := false) (dsimp := false) only [go_sem, dblH, bdA, setM12 e12, nums_take e12, nums_leaf, nums12_len, e12, Nat.le_refl, hcl, hkl, nums_belowN]
      exact ⟨by omega, _, ⟨_, loop_cut9⟩, by simp [cF]⟩
    · rintro _ rfl
      rw [List.length_map, ways_len, List.take_of_length_le (by rw [facesOf_len]; exact Nat.le_refl _)]
      simp (implicitDefEqProofs := false) (dsimp := false) only [go_sem, dblH, bdA, facesOf_len]
      refine WPI.turn Turns.reserve (WPI.turn Turns.reserve (WPI.turn Turns.reserve (WPI.turn Turns.reserve ?_)))
      simp only [List.append_assoc, List.cons_append, List.nil_append]
      refine WP.drawT (so := {}) 5 rfl mixed (by kernel_rfl) (by kernel_rfl) (by decide) (fun i => match i with | 0 => .chan ⟨h.length + 11, 1⟩ | 1 => .chan ⟨h.length + 12, 1⟩ | 2 => .ptr ⟨h.length + 13, 1⟩ 0 | 3 => .ptr ⟨h.length + 14, 1⟩ 0 | _ => .tup []) (fun L => dblD b m p q h (chB (L 0)) (chB (L 1)) (varB (L 2) (L 4) ⟨h.length + 11, 1⟩) (varB (L 3) false ⟨h.length + 12, 1⟩)) ?_ ?_ ?_
      · intro L hL
        rw [hL 0 (by decide), hL 1 (by decide), hL 2 (by decide), hL 3 (by decide), hL 4 (by decide)]
        simp [dblD, dblH, chB, varB, bdA, sliceOf, facesOf_len]
      · intro i o hi ho L hcl hw hLi
        have hi5 : i = 0 ∨ i = 1 ∨ i = 2 ∨ i = 3 ∨ i = 4 := by omega
        rcases hi5 with rfl | rfl | rfl | rfl | rfl
        · obtain rfl := Option.some.inj (show some _ = some o from ho)
          right
          have := FreeAt.makeChan (P := Try.prog) (fk := ⟨82, false, h.length⟩) ho rfl rfl ty171 rfl ty4 (dblD_get0 (b := b) (m := m) (p := p) (q := q) (h := h) (c0 := .cells 0 []) (c1 := chB (L 1)) (v0 := varB (L 2) (L 4) ⟨h.length + 11, 1⟩) (v1 := varB (L 3) false ⟨h.length + 12, 1⟩))
          rw [dblD_set0] at this
          rw [hLi]
          exact this
        · obtain rfl := Option.some.inj (show some _ = some o from ho)
          right
          have := FreeAt.makeChan (P := Try.prog) (fk := ⟨82, false, h.length⟩) ho rfl rfl ty171 rfl ty4 (dblD_get1 (b := b) (m := m) (p := p) (q := q) (h := h) (c0 := chB (L 0)) (c1 := .cells 0 []) (v0 := varB (L 2) (L 4) ⟨h.length + 11, 1⟩) (v1 := varB (L 3) false ⟨h.length + 12, 1⟩))
          rw [dblD_set1] at this
          rw [hLi]
          exact this
        · obtain rfl := Option.some.inj (show some _ = some o from ho)
          right
          have h4 : L 4 = false := by
            cases e : L 4 with
            | false => rfl
            | true => have := hcl 4 _ rfl e 2 (by kernel_rfl); rw [hLi] at this; cases this
          have := FreeAt.alloc (P := Try.prog) (fk := ⟨82, false, h.length⟩) ho rfl rfl ty171 rfl (dblD_get2 (b := b) (m := m) (p := p) (q := q) (h := h) (c0 := chB (L 0)) (c1 := chB (L 1)) (v0 := .cells 0 []) (v1 := varB (L 3) false ⟨h.length + 12, 1⟩))
          rw [dblD_set2] at this
          show FreeAt _ _ _ _ _ _ _ (dblD b m p q h (chB (L 0)) (chB (L 1)) (varB true (L 4) ⟨h.length + 11, 1⟩) (varB (L 3) false ⟨h.length + 12, 1⟩))
          rw [hLi, h4]
          exact this
        · obtain rfl := Option.some.inj (show some _ = some o from ho)
          right
          have := FreeAt.alloc (P := Try.prog) (fk := ⟨82, false, h.length⟩) ho rfl rfl ty171 rfl (dblD_get3 (b := b) (m := m) (p := p) (q := q) (h := h) (c0 := chB (L 0)) (c1 := chB (L 1)) (v0 := varB (L 2) (L 4) ⟨h.length + 11, 1⟩) (v1 := .cells 0 []))
          rw [dblD_set3] at this
          rw [hLi]
          exact this
        · obtain rfl := Option.some.inj (show some _ = some o from ho)
          left
          show OneG _ _ _ _ _ _ _ (dblD b m p q h (chB (L 0)) (chB (L 1)) (varB (L 2) true ⟨h.length + 11, 1⟩) (varB (L 3) false ⟨h.length + 12, 1⟩))
          rw [hw 0 (by kernel_rfl), hw 2 (by kernel_rfl), hw 3 (by kernel_rfl), hLi]
          show stepK (opE Try.prog (.store 171 (.tmp 13) (.tmp 38)) (evA _) _) _
          show stepK (storeE Try.prog 171 (.ptr ⟨h.length + 13, 1⟩ 0) (.chan ⟨h.length + 11, 1⟩) _) _
          simp only [storeE, ty171, valCells, dblD_get2, varB, if_true, Bool.false_eq_true, if_false, setMany, List.set_cons_zero, dblD_set2, stepK_some, List.all_cons, leafA, List.all_nil, List.length_cons, List.length_nil]
          simp
      · intro L h1 h2
        rw [h1 0 (by decide), h1 1 (by decide), h1 2 (by decide), h1 3 (by decide), h1 4 (by decide)]
        refine WPI.region_one (so := {}) (i := 5) rfl ?_
        simp only [slotsL, if_true, List.getElem?_toArray, List.getElem?_cons_zero, List.getElem?_cons_succ, Option.bind_some, putA_some, setN_16, setN_four, setN_one, setN_zero, dblD, dblH, chB, varB, Bool.false_eq_true, if_false, facesOf_len, List.cons_append, List.nil_append]
        simp (implicitDefEqProofs := false) (dsimp := false) only [go_sem, List.getElem_toArray, List.getElem_cons_succ, List.getElem_cons_zero]
        have hF1 := cF_len (facesOf_face (b := b) (m := m) (p := p))
        have hF2 := cF_len (facesOf_face (b := b) (m := m) (p := q))
        rw [facesOf_len] at hF1 hF2
        refine WPI.turn (Turns.seal_cell (i := h.length + 3) (g := 0) (j := 0) (a := .sl ⟨h.length + 5, 18⟩ 12 0 18) (a' := .psl ((facesOf b m p).flatMap cF) 18) (by simp only; rw [hget]; rfl) rfl (by simp only [sealV]; rw [hget]; simp only [List.getElem?_cons_succ, List.getElem?_cons_zero, if_true, List.drop_zero]; rw [List.take_of_length_le (by rw [hF1]; exact Nat.le_refl _)]) (by simp [nmOf])) ?_
        simp only [nmOf, hset, List.set_cons_succ, List.set_cons_zero]
        refine WPI.turn (Turns.seal_cell (i := h.length + 4) (g := 0) (j := 0) (a := .sl ⟨h.length + 6, 18⟩ 12 0 18) (a' := .psl ((facesOf b m q).flatMap cF) 18) (by simp only; rw [hget]; rfl) rfl (by simp only [sealV]; rw [hget]; simp only [List.getElem?_cons_succ, List.getElem?_cons_zero, if_true, List.drop_zero]; rw [List.take_of_length_le (by rw [hF2]; exact Nat.le_refl _)]) (by simp [nmOf])) ?_
        simp only [nmOf, hset, List.set_cons_succ, List.set_cons_zero]
        refine wp_shut [3, 4, 5, 7, 8, 13, 14] (so := { shut := [27, 36], }) mixed _ (by kernel_rfl) ?_
        simp (implicitDefEqProofs := false) (dsimp := false) only [go_sem]
        refine WP.loopI (fun (i : Nat) s => (i ≤ 18) ∧ s.sl.length = 66 ∧ s.df = [.mark ⟨h.length + 9, 0⟩, .mark ⟨h.length + 7, 0⟩] ∧ s.gh = { todo := (bitsAll b.cells p q (facesOf b m p) (facesOf b m q) i).map (msgs ⟨h.length + 11, 1⟩ ⟨h.length + 12, 1⟩) } ∧ (∃ k, s.hp = h ++ .dead :: .dead :: .dead :: .dead :: .dead :: .dead :: .dead :: .defd :: .dead :: .defd :: .dead :: .chan 1 :: .chan 1 :: k) ∧ evA s.sl (.tmp 3) = .pptr (bdA b m) ∧ evA s.sl (.tmp 4) = .pptr [.int .i64 p] ∧ evA s.sl (.tmp 5) = .pptr [.int .i64 q] ∧ evA s.sl (.tmp 7) = .pptr [.psl ((facesOf b m p).flatMap cF) 18] ∧ evA s.sl (.tmp 8) = .pptr [.psl ((facesOf b m q).flatMap cF) 18] ∧ evA s.sl (.tmp 13) = .pptr [.chan ⟨h.length + 11, 1⟩] ∧ evA s.sl (.tmp 14) = .pptr [.chan ⟨h.length + 12, 1⟩] ∧ evA s.sl (.tmp 40) = .psl ((facesOf b m p).flatMap cF) 18 ∧ evA s.sl (.tmp 41) = .int .i64 18 ∧ evA s.sl (.tmp 42) = .int .i64 i) (fun (i : Nat) => 18 - i) (0) ?_ ?_
        · simp (implicitDefEqProofs := false) (dsimp := false) only [go_sem, bdA, Nat.zero_le]
          rfl
        · rintro i ⟨sl, df, hp, gh⟩ ⟨ab, al, rfl, rfl, ah, a3, a4, a5, a7, a8, a13, a14, a40, a41, a42⟩
          simp only at ab al ah a3 a4 a5 a7 a8 a13 a14 a40 a41 a42
          obtain ⟨j, rfl⟩ := slots_lit al; clear al; simp only [junk_succ, junk_zero, evA_tmp, nth_16, nth_four, nth_one, nth_zero, Nat.zero_add, Nat.reduceAdd] at  a3 a4 a5 a7 a8 a13 a14 a40 a41 a42 ⊢
          refine wp_ok (so := { shut := [27, 36], hand := [8, 9] }) mixed _ (by kernel_rfl) ?_
          obtain ⟨k, rfl⟩ := ah
          by_cases hi : i < 18
          · have hs : ((i : Int) < 18) = True := eq_true (by omega)
            have hil : i < (facesOf b m p).length := by rw [facesOf_len]; exact hi
            have hy := facesOf_face _ (List.getElem_mem hil)
            have hcl : ∀ y ∈ facesOf b m p, (cF y).length = 12 := fun y hy => by rw [cF, nums12_len, facesOf_face y hy]
            have hr := drop_rowsM hcl hil
            have hrl : i * 12 ≤ ((facesOf b m p).flatMap cF).length := by rw [length_rowsM hcl]; omega
            have hTk : ∀ R, (nums12 (facesOf b m p)[i] ++ R).take 12 = nums12 (facesOf b m p)[i] := fun R => List.take_left' (by rw [nums12_len, hy])
            simp (implicitDefEqProofs := false) (dsimp := false) only [go_sem, a3, a4, a5, a7, a8, a13, a14, a40, a41, a42, bdA, hs, decide_true, hr, hrl, cF, hTk, nums12_len, hy, nums_leaf, setM12 hy, Nat.le_refl]
            refine ⟨by omega, ?_⟩
            refine wpi_shut [15, 16] ?_
            simp (implicitDefEqProofs := false) (dsimp := false) only [go_sem]
            refine WP.region_splitN (so := { shut := [27, 36], }) 1 [1] rfl (by decide) ?_
            simp (implicitDefEqProofs := false) (dsimp := false) only [go_sem]
            have hd := double1_ok b m ok.cells p q i _ hy (facesOf b m q) facesOf_face (by rw [facesOf_len]; omega) (by omega) ⟨h.length + 11, 1⟩ ⟨h.length + 12, 1⟩ ((h ++ .dead :: .dead :: .dead :: .dead :: .dead :: .dead :: .dead :: .defd :: .dead :: .defd :: .dead :: .chan 1 :: .chan 1 :: (k ++ [.dead, .dead]) : List Blk).map shareB) (by rw [List.map_append, List.getElem?_append_left (by simp; exact (List.getElem?_eq_some_iff.1 hro).1), List.getElem?_map, hro]; rfl) (by rw [List.getElem?_map, hget]; rfl) (by rw [List.getElem?_map, hget]; rfl)
            rw [sliceOf, facesOf_len] at hd
            refine WPI.goN (ri := 0) _ (by rw [List.getElem?_append_left (List.getElem?_eq_some_iff.1 hro).1]; exact hro) rfl rfl rfl rfl rfl (msgs_ne _ _ _) (fun x hx => ?_) hd ?_
            · rcases msgs_mem hx with e | e <;> rw [e, hget] <;> rfl
            · simp (implicitDefEqProofs := false) (dsimp := false) only [go_sem]
              refine ⟨i + 1, ⟨by omega, ?_, wrap_succ (by omega)⟩, by omega⟩
              rw [bitsAll_succ, List.map_append]
              simp [List.getD, hil]
          · have hs : ((i : Int) < 18) = False := eq_false (by omega)
            have ei : i = 18 := by omega
            subst ei
            simp (implicitDefEqProofs := false) (dsimp := false) only [go_sem, a3, a4, a5, a7, a8, a13, a14, a40, a41, a42, bdA, hs, decide_false]
            refine WP.loopI (fun (y : Nat × List (List Bool)) s => (y.1 + countT y.2 = doubleB b m p q ∧ y.2.length ≤ 18) ∧ s.sl.length = 66 ∧ s.df = [.mark ⟨h.length + 9, 0⟩, .mark ⟨h.length + 7, 0⟩] ∧ s.gh = { todo := y.2.map (msgs ⟨h.length + 11, 1⟩ ⟨h.length + 12, 1⟩) } ∧ (∃ k, s.hp = h ++ .dead :: .dead :: .dead :: .dead :: .dead :: .dead :: .dead :: .defd :: .dead :: .defd :: .dead :: .chan 1 :: .chan 1 :: k) ∧ evA s.sl (.tmp 13) = .pptr [.chan ⟨h.length + 11, 1⟩] ∧ evA s.sl (.tmp 14) = .pptr [.chan ⟨h.length + 12, 1⟩] ∧ evA s.sl (.tmp 17) = .int .i64 y.1 ∧ evA s.sl (.tmp 18) = .int .i64 y.2.length) (fun (y : Nat × List (List Bool)) => (y.2.map fun l => l.length + 1).sum) ((0, bitsAll b.cells p q (facesOf b m p) (facesOf b m q) 18)) ?_ ?_
            · simp (implicitDefEqProofs := false) (dsimp := false) only [go_sem, bitsAll_len]
              rfl
            · rintro ⟨n, Ls⟩ ⟨sl, df, hp, gh⟩ ⟨eb, el, rfl, rfl, eh, e13, e14, e17, e18⟩
              simp only at eb el eh e13 e14 e17 e18
              obtain ⟨j, rfl⟩ := slots_lit el; clear el; simp only [junk_succ, junk_zero, evA_tmp, nth_16, nth_four, nth_one, nth_zero, Nat.zero_add, Nat.reduceAdd] at  e13 e14 e17 e18 ⊢
              refine wp_ok (so := { shut := [27, 36], hand := [8, 9] }) mixed _ (by kernel_rfl) ?_
              obtain ⟨k, rfl⟩ := eh
              obtain ⟨eb, el18⟩ := eb
              cases Ls with
              | nil =>
                simp (implicitDefEqProofs := false) (dsimp := false) only [go_sem, e13, e14, e17, e18, List.map_nil]
                have hn : n = doubleB b m p q := by simpa [countT] using eb
                rw [hn]
                exact quiet_fine hB rfl
              | cons l0 Ls0 =>
                have hgt : ((((l0 :: Ls0).length : Nat) : Int) > 0) = True := eq_true (by simp)
                simp (implicitDefEqProofs := false) (dsimp := false) only [go_sem, e13, e14, e17, e18, hgt, decide_true]
                refine ⟨fun _ => ?_, fun hc => absurd (by omega : ((Ls0.length + 1 : Nat) : Int) > 0) hc⟩
                refine WP.region ?_
                show WPI _ _ [.inRegion _ [0, 1, 2, 3]] _ _
                refine WPI.selectN (ri := 0) (n0 := ⟨h.length + 11, 1⟩) (n1 := ⟨h.length + 12, 1⟩) (by rw [List.getElem?_append_left (List.getElem?_eq_some_iff.1 hro).1]; exact hro) rfl rfl rfl rfl rfl rfl (by rw [hget]; rfl) (by rw [hget]; rfl) (by simp) ty4 ty4 rfl rfl rfl rfl (by kernel_rfl) (by kernel_rfl) (by simp) ?_ ?_
                · intro ms hms
                  rw [← List.map_cons] at hms
                  obtain ⟨l, _, rfl⟩ := List.mem_map.1 hms
                  cases l with
                  | nil => exact ⟨_, _, _, rfl, .inr rfl⟩
                  | cons b l => exact ⟨_, _, _, rfl, .inl rfl⟩
                · intro T1 nn bv r T2 heq
                  rw [← List.map_cons] at heq
                  obtain ⟨L1, Lr, hL, rfl, hr⟩ := List.map_eq_append_iff.1 heq
                  obtain ⟨l, L2, rfl, hms, rfl⟩ := List.map_eq_cons_iff.1 hr
                  have hlen : L1.length + (L2.length + 1) = Ls0.length + 1 := by have := congrArg List.length hL; simpa using this.symm
                  have hcnt : countT (l0 :: Ls0) = countT L1 + (l.count true + countT L2) := by rw [hL]; simp [countT]
                  have hmea : ((l0 :: Ls0).map fun l => l.length + 1).sum = (L1.map fun l => l.length + 1).sum + (l.length + 1 + (L2.map fun l => l.length + 1).sum) := by rw [hL]; simp
                  refine ⟨?_, ?_⟩
                  · rintro rfl
                    cases l with
                    | nil => simp [msgs] at hms
                    | cons x l =>
                      rw [msgs_cons] at hms
                      simp only [List.cons.injEq, Prod.mk.injEq, true_and, Value.bool.injEq] at hms
                      obtain ⟨rfl, rfl⟩ := hms
                      rw [restA, if_neg (msgs_ne _ _ _)]
                      refine WPI.region_from (so := {}) 1 rfl ?_
                      simp (implicitDefEqProofs := false) (dsimp := false) only [go_sem]
                      have hmx : countT (L1 ++ l :: L2) + (if x = true then 1 else 0) = countT (l0 :: Ls0) := by
                        rw [hcnt]
                        simp only [countT, List.map_append, List.map_cons, List.sum_append, List.sum_cons, List.count_cons]
                        cases x <;> simp <;> omega
                      have hme : ((L1 ++ l :: L2).map fun l => l.length + 1).sum < ((l0 :: Ls0).map fun l => l.length + 1).sum := by
                        rw [hmea]
                        simp only [List.map_append, List.map_cons, List.sum_append, List.sum_cons, List.length_cons]
                        omega
                      have hln : (L1 ++ l :: L2).length = Ls0.length + 1 := by simp only [List.length_append, List.length_cons]; omega
                      have hbd := doubleB_le b m p q
                      simp only [List.map_cons] at hme
                      refine ⟨fun hx => ?_, fun hx => ?_⟩
                      · rw [if_pos hx] at hmx
                        exact ⟨(n + 1, L1 ++ l :: L2), ⟨⟨by simp only; omega, by simp only; rw [hln]; simpa using el18⟩, by simp, wrap_succ (by omega), by simp only; rw [hln]⟩, hme⟩
                      · rw [if_neg (by simp [hx])] at hmx
                        exact ⟨(n, L1 ++ l :: L2), ⟨⟨by simp only; omega, by simp only; rw [hln]; simpa using el18⟩, by simp, rfl, by simp only; rw [hln]⟩, hme⟩
                  · rintro rfl
                    cases l with
                    | cons x l => simp [msgs] at hms
                    | nil =>
                      simp only [msgs, List.map_nil, List.nil_append, List.cons.injEq, Prod.mk.injEq, true_and, Value.bool.injEq] at hms
                      obtain ⟨rfl, rfl⟩ := hms
                      rw [restA, if_pos rfl]
                      refine WPI.region_from (so := {}) 1 rfl ?_
                      simp (implicitDefEqProofs := false) (dsimp := false) only [go_sem]
                      have hmx : countT (L1 ++ L2) = countT (l0 :: Ls0) := by
                        rw [hcnt]
                        simp [countT]
                      have hme : ((L1 ++ L2).map fun l => l.length + 1).sum < ((l0 :: Ls0).map fun l => l.length + 1).sum := by
                        rw [hmea]
                        simp only [List.map_append, List.sum_append, List.length_nil]
                        omega
                      have hln : (L1 ++ L2).length = Ls0.length := by simp only [List.length_append]; omega
                      simp only [List.map_cons] at hme
                      have h18 : Ls0.length + 1 ≤ 18 := by simpa using el18
                      exact ⟨(n, L1 ++ L2), ⟨⟨by simp only; omega, by simp only; omega⟩, by simp, rfl, by simp only; rw [hln, wrap64 (by omega) (by omega)]; omega⟩, hme⟩
    · rintro _ _ ⟨⟩
  · rintro _ _ ⟨⟩
end Go.Mac

/-! FnT -/
/- FnT: Double; Next. -/
namespace Go.Mac
open Go Go.Conc Go.Proofs
set_option maxRecDepth 4000

def inPages (b : Board) (p : Int) : Bool := decide (0 ≤ p) && decide (p < b.pages.length)
def DoubleR (b : Board) (p q : Int) : Int × Int :=
  if boardErr b ≠ 0 then (0, boardErr b) else if inPages b p = false ∨ inPages b q = false then (0, 3) else (doubleB b (mapB b.glyphs) p.toNat q.toNat, 0)
def pairA (x : Int × Int) : AV := .tup [.int .i64 x.1, .int .i64 x.2]

theorem Double_ok (b : Board) (p q : Int) (h : List Blk) (hro : h[0]? = some (.role true)) : QuietAt 38 [.agg (brdA b), .int .i64 p, .int .i64 q] h (pairA (DoubleR b p q)) := by
  unfold QuietAt
  refine CallsA.of_wpe [] { cut := [22] } 29 mixed Try.func38 (by kernel_rfl) rfl (by kernel_rfl) fun j hB hA => ?_; simp only [junk_succ, junk_zero, List.cons_append, List.nil_append, List.length_cons, List.length_nil, Nat.reduceAdd]
  simp (implicitDefEqProofs := false) (dsimp := false) only [go_sem, brdA]
  refine open_use (fun e0 => ?_) (fun e1 e2 x y z t f1 f2 f3 f4 => ?_)
  · simp (implicitDefEqProofs := false) (dsimp := false) only [go_sem, bdA]
    (first | refine CallsA.use (hasPage_ok b _ p) ?_ | refine QuietCalls.use (hasPage_ok b _ p) ?_)
    simp (implicitDefEqProofs := false) (dsimp := false) only [go_sem, e0]
    refine ⟨fun c1 => ?_, fun c1 => ?_⟩
    · have c2 : inPages b p = false := by simpa only [inPages, Bool.not_eq_true'] using c1
      rw [show DoubleR b p q = (0, 3) by rw [DoubleR, if_neg (by simp [e0]), if_pos (.inl c2)]]
      exact quiet_fine hB rfl
    · have c2 : inPages b p = true := by simpa only [inPages, Bool.not_eq_false'] using c1
      (first | refine CallsA.use (hasPage_ok b _ q) ?_ | refine QuietCalls.use (hasPage_ok b _ q) ?_)
      simp (implicitDefEqProofs := false) (dsimp := false) only [go_sem, e0]
      refine ⟨fun d1 => ?_, fun d1 => ?_⟩
      · have d2 : inPages b q = false := by simpa only [inPages, Bool.not_eq_true'] using d1
        rw [show DoubleR b p q = (0, 3) by rw [DoubleR, if_neg (by simp [e0]), if_pos (.inr d2)]]
        exact quiet_fine hB rfl
      · have d2 : inPages b q = true := by simpa only [inPages, Bool.not_eq_false'] using d1
        have hR : DoubleR b p q = ((doubleB b (mapB b.glyphs) p.toNat q.toNat : Int), 0) := by rw [DoubleR, if_neg (by simp [e0]), if_neg (by simp [c2, d2])]
        rw [hR]
        simp only [inPages, Bool.and_eq_true, decide_eq_true_eq] at c2 d2
        obtain ⟨p, rfl⟩ : ∃ n : Nat, p = n := ⟨p.toNat, by omega⟩
        obtain ⟨q, rfl⟩ : ∃ n : Nat, q = n := ⟨q.toNat, by omega⟩
        refine QuietAt.use (double_ok b _ (okBoard.of e0) p q (by omega) (by omega) _ (by rw [List.getElem?_append_left (List.getElem?_eq_some_iff.1 hro).1]; exact hro)) ?_
        simp (implicitDefEqProofs := false) (dsimp := false) only [go_sem]
        exact quiet_fine hB rfl
  · simp only [leafA] at f1 f2 f3 f4
    simp (implicitDefEqProofs := false) (dsimp := false) only [go_sem, f1, f2, f3, f4, e2]
    rw [show DoubleR b p q = (0, boardErr b) by rw [DoubleR, if_pos e1]]
    exact quiet_fine hB rfl
end Go.Mac

/-! FnU -/
/- FnU: counts by maps; the cell to look at next. -/
namespace Go.Mac
open Go Go.Conc Go.Proofs
set_option maxRecDepth 4000

/-- A number put into a map. -/
def updI : List (Int × Int) → Int → Int → List (Int × Int)
  | [], v, x => [(v, x)]
  | p :: m, v, x => if v == p.1 then (v, x) :: m else p :: updI m v x
theorem inkB_cons (p : Int × Int) (m : List (Int × Int)) (w : Int) : inkB (p :: m) w = if w == p.1 then p.2 else inkB m w := by
  unfold inkB
  rw [List.find?_cons]
  cases w == p.1 <;> rfl
theorem inkB_upd {v x w : Int} : ∀ {m : List (Int × Int)}, inkB (updI m v x) w = if w = v then x else inkB m w
  | [] => by
    rw [updI, inkB_cons]
    simp only [beq_iff_eq]
  | p :: m => by
    rw [updI]
    by_cases h : v = p.1
    · subst h
      simp only [beq_self_eq_true, if_true]
      rw [inkB_cons, inkB_cons]
      simp only [beq_iff_eq]
      split <;> simp_all
    · simp only [beq_iff_eq, h, if_false]
      rw [inkB_cons, inkB_cons, inkB_upd]
      simp only [beq_iff_eq]
      by_cases hw : w = p.1
      · subst hw
        have h' : ¬ p.1 = v := fun e => h e.symm
        simp [h']
      · simp [hw]
theorem updI_some {v x : Int} : ∀ {m : List (Int × Int)} {j : Nat}, m.findIdx? (fun p => v == p.1) = some j → updI m v x = m.set j (v, x) ∧ (m.map fun p => (AV.int .i64 p.1))[j]? = some (.int .i64 v) ∧ ((m.set j (v, x)).map fun p => (AV.int .i64 p.1)) = m.map fun p => .int .i64 p.1
  | [], j, h => by cases h
  | p :: m, j, h => by
    rw [List.findIdx?_cons] at h
    by_cases hv : v = p.1
    · subst hv
      simp only [beq_self_eq_true, if_true, Option.some.injEq] at h
      subst h
      simp [updI]
    · simp only [beq_iff_eq, hv, if_false, Option.map_eq_some_iff] at h
      obtain ⟨i, hi, rfl⟩ := h
      obtain ⟨h1, h2, h3⟩ := updI_some (x := x) hi
      simp only [updI, beq_iff_eq, hv, if_false, h1]
      refine ⟨rfl, by simpa using h2, ?_⟩
      simp only [List.set_cons_succ, List.map_cons, h3]
theorem updI_none {v x : Int} : ∀ {m : List (Int × Int)}, m.findIdx? (fun p => v == p.1) = none → updI m v x = m ++ [(v, x)]
  | [], _ => rfl
  | p :: m, h => by
    rw [List.findIdx?_cons] at h
    by_cases hv : v = p.1
    · subst hv; simp at h
    · simp only [beq_iff_eq, hv, if_false, Option.map_eq_none_iff] at h
      simp only [updI, beq_iff_eq, hv, if_false, updI_none h, List.cons_append]

def kI (m : List (Int × Int)) : List AV := m.map fun p => .int .i64 p.1
def vI (m : List (Int × Int)) : List AV := m.map fun p => .int .i64 p.2
theorem fits3 : zeroFits Try.prog 3 = true := by kernel_rfl
theorem lookI {m : List (Int × Int)} {c : Int} {h : List Blk} {n : Nat} (hn : h[n]? = some (.map (kI m) (vI m))) : lookupE Try.prog 129 (.map ⟨n, 0⟩) (.int .i64 c) false h = some (True, .int .i64 (inkB m c), h) := by
  simp only [lookupE, ty129, ty102, ty3, mapOf, hn, kI, vI, findA_int (g := fun p : Int × Int => p.1) ty102 rfl, fits3, eqA_int (n := 5) ty102 rfl, beq_self_eq_true, zeroA, aggD, and_self, Bool.false_eq_true, if_false, List.getD_cons_zero, gotA_ink, if_true]
theorem updMapI {m : List (Int × Int)} {c v : Int} {h : List Blk} {n : Nat} (hn : h[n]? = some (.map (kI m) (vI m))) :
    mapUpdateE Try.prog 129 (.map ⟨n, 0⟩) (.int .i64 c) (.int .i64 v) h = some (True, .tup [], h.set n (.map (kI (updI m c v)) (vI (updI m c v)))) := by
  simp only [mapUpdateE, ty129, ty102, hn, eqA_int (n := 5) ty102 rfl, beq_self_eq_true, and_self]
  have hf : findA Try.prog 102 (.int .i64 c) (kI m) 0 = some ((m.findIdx? fun p => c == p.1).map (· + 0)) := findA_int (g := fun p : Int × Int => p.1) ty102 rfl
  cases hx : m.findIdx? fun p => c == p.1 with
  | none =>
    rw [hf, hx, updI_none hx]
    simp [kI, vI]
  | some j =>
    obtain ⟨h1, h2, h3⟩ := updI_some (x := v) hx
    rw [hf, hx, h1]
    simp only [Option.map_some, Nat.add_zero, kI, vI]
    rw [h3]
    simp [h2, List.map_set]

/-- The greatest number of equal ones, among the first. -/
def mostTo (l : List Int) (k : Nat) : Nat := (List.range k).foldl (fun a i => max a ((l.take (i + 1)).count (l.getD i 0))) 0
theorem mostTo_succ (l : List Int) (k : Nat) : mostTo l (k + 1) = max (mostTo l k) ((l.take (k + 1)).count (l.getD k 0)) := by simp [mostTo, List.range_succ]
theorem mostTo_le (l : List Int) : ∀ k, mostTo l k ≤ k
  | 0 => by simp [mostTo]
  | k + 1 => by
    rw [mostTo_succ]
    have h1 := mostTo_le l k
    have h2 : (l.take (k + 1)).count (l.getD k 0) ≤ (l.take (k + 1)).length := List.count_le_length
    have h3 : (l.take (k + 1)).length ≤ k + 1 := by simp; omega
    omega
def atC (fs : List (List Int)) (i : Nat) : List Int := fs.map fun f => f.getD i 0

theorem next1_ok (fs : List (List Int)) (hf : ∀ f ∈ fs, f.length = 12) (hl : fs.length ≤ 1000) (r c : Nat) (hr : r < 3) (hc : c < 4) : PureA Try.prog 83 [.agg [.int .i64 r, .int .i64 c], .pptr [sliceOf cF fs]] (.int .i64 (mostTo (atC fs (4 * r + c)) fs.length)) := by
  refine PureA.of_wpp {} 32 mixed Try.func83 (by kernel_rfl) rfl (by kernel_rfl) (rfl) fun h j hB => ?_
  simp only [junk_succ, junk_zero, List.cons_append, List.nil_append, List.length_cons, List.length_nil, Nat.reduceAdd]
  simp (implicitDefEqProofs := false) (dsimp := false) only [go_sem]
  refine WP.loopI (fun (k : Nat) s => (k ≤ fs.length) ∧ s.sl.length = 34 ∧ s.df = [] ∧ s.gh = {} ∧ (∃ m e, s.hp = h ++ .cells 0 [.int .i64 r, .int .i64 c] :: .map (kI m) (vI m) :: e ∧ ∀ v, inkB m v = (((atC fs (4 * r + c)).take k).count v : Nat)) ∧ evA s.sl (.tmp 2) = .ptr ⟨h.length, 0⟩ 0 ∧ evA s.sl (.tmp 4) = .map ⟨h.length + 1, 0⟩ ∧ evA s.sl (.tmp 5) = .int .i64 (mostTo (atC fs (4 * r + c)) k) ∧ evA s.sl (.tmp 10) = sliceOf cF fs ∧ evA s.sl (.tmp 11) = .int .i64 fs.length ∧ evA s.sl (.tmp 12) = .int .i64 k) (fun (k : Nat) => fs.length - k) (0) ?_ ?_
  · simp (implicitDefEqProofs := false) (dsimp := false) only [go_sem, Nat.zero_le]
    exact ⟨⟨[], [], ⟨rfl, rfl⟩, fun v => rfl⟩, rfl⟩
  · rintro k ⟨sl, df, hp, gh⟩ ⟨ab, al, rfl, rfl, ah, a2, a4, a5, a10, a11, a12⟩
    simp only at ab al ah a2 a4 a5 a10 a11 a12
    obtain ⟨j, rfl⟩ := slots_lit al; clear al; simp only [junk_succ, junk_zero, evA_tmp, nth_16, nth_four, nth_one, nth_zero, Nat.zero_add, Nat.reduceAdd] at  a2 a4 a5 a10 a11 a12 ⊢
    refine wp_ok (so := {}) mixed _ (by kernel_rfl) ?_
    obtain ⟨m, e, rfl, hm⟩ := ah
    by_cases hk : k < fs.length
    · have hy := hf _ (List.getElem_mem hk)
      have hcl : ∀ y ∈ fs, (cF y).length = 12 := fun y hy => by rw [cF, nums12_len, hf y hy]
      have hd := drop_rowsM hcl hk
      have hrl : k * 12 ≤ (fs.flatMap cF).length := by rw [length_rowsM hcl]; omega
      have hTk : ∀ R, (nums12 fs[k] ++ R).take 12 = nums12 fs[k] := fun R => List.take_left' (by rw [nums12_len, hy])
      have hat := nums12_at hy (show r * 4 + c < 12 by omega)
      simp (implicitDefEqProofs := false) (dsimp := false) only [go_sem, a2, a4, a5, a10, a11, a12, nat_lt hk, decide_true, hd, hrl, cF, hTk, nums12_len, hy, nums_leaf, setM12 hy, Nat.le_refl, hat, lookI (m := m), updMapI (m := m), lookI (m := updI m (fs[k].getD (r * 4 + c) 0) (IntKind.i64.wrap (inkB m (fs[k].getD (r * 4 + c) 0) + 1))), inkB_upd]
      have hat2 : (atC fs (4 * r + c)).getD k 0 = fs[k].getD (r * 4 + c) 0 := by
        rw [show r * 4 + c = 4 * r + c by omega]
        simp [atC, List.getD, hk]
      have hak : k < (atC fs (4 * r + c)).length := by simpa [atC] using hk
      have htk : (atC fs (4 * r + c)).take (k + 1) = (atC fs (4 * r + c)).take k ++ [fs[k].getD (r * 4 + c) 0] := by
        rw [List.take_add_one, List.getElem?_eq_getElem hak]
        rw [List.getD_eq_getElem?_getD, List.getElem?_eq_getElem hak] at hat2
        simp only [Option.getD_some] at hat2
        rw [hat2]; rfl
      have hcnt : ∀ v, ((atC fs (4 * r + c)).take (k + 1)).count v = ((atC fs (4 * r + c)).take k).count v + if fs[k].getD (r * 4 + c) 0 = v then 1 else 0 := fun v => by
        rw [htk, List.count_append, List.count_singleton]
        simp
      have hle : ∀ v, ((atC fs (4 * r + c)).take k).count v ≤ k := fun v => by
        have h1 : ((atC fs (4 * r + c)).take k).count v ≤ ((atC fs (4 * r + c)).take k).length := List.count_le_length
        have h2 : ((atC fs (4 * r + c)).take k).length ≤ k := by simp; omega
        omega
      have hml := mostTo_le (atC fs (4 * r + c)) k
      generalize fs[k].getD (r * 4 + c) 0 = v0 at *
      have hw : IntKind.i64.wrap (inkB m v0 + 1) = (((atC fs (4 * r + c)).take (k + 1)).count v0 : Nat) := by
        have := hle v0
        rw [hm, wrap_succ (by omega), hcnt]; simp
      rw [hw]
      refine ⟨by omega, by omega, by omega, k + 1, ⟨by omega, ⟨_, _, ⟨rfl, rfl⟩, fun v => ?_⟩, ?_, wrap_succ (by omega)⟩, by omega⟩
      · rw [inkB_upd]
        split
        · rename_i e; subst e; rfl
        · rename_i e; rw [hm, hcnt, if_neg (fun x => e x.symm)]; rfl
      · rw [mostTo_succ, hat2]
        simp only [List.foldl_cons, List.foldl_nil]
        split <;> omega
    · have hs : ((k : Int) < (fs.length : Int)) = False := eq_false (by omega)
      have ek : k = fs.length := by omega
      subst ek
      simp (implicitDefEqProofs := false) (dsimp := false) only [go_sem, a2, a4, a5, a10, a11, a12, hs, decide_false]

def countF (fs : List (List Int)) : AV := .fn (.func 83) [] [.pptr [sliceOf cF fs]]
/-- What keeps the best cell. -/
def few2 (fs : List (List Int)) : Option (Nat × Nat × Nat) → List AV
  | some (r, c, n) => [.int .i64 r, .int .i64 c, .int .i64 n, .bool true, countF fs]
  | none => [.int .i64 0, .int .i64 0, .int .i64 0, .bool false, countF fs]
def take2 (o : Option (Nat × Nat × Nat)) (r c n : Nat) : Option (Nat × Nat × Nat) :=
  match o with
  | none => some (r, c, n)
  | some (r', c', n') => if n < n' then some (r, c, n) else some (r', c', n')
theorem countF_below (fs : List (List Int)) (n : Nat) : below n (countF fs) = true := by
  have := belowL_flat (n := n) (f := cF) (fun _ => nums_below _) fs
  simp [countF, below, belowL, sliceOf, this]
theorem few2_below (fs : List (List Int)) (o : Option (Nat × Nat × Nat)) (n : Nat) : belowBlk n (.cells 0 (few2 fs o)) = true := by
  have := countF_below fs n
  cases o with
  | none => simp [belowBlk, few2, below, belowL, this]
  | some e => obtain ⟨r, c, k⟩ := e; simp [belowBlk, few2, below, belowL, this]
theorem call_next1 : callable Try.prog 83 = True := eq_true ⟨_, Try.func83, rfl, rfl⟩

theorem take2_ok (n : Nat) (fs : List (List Int)) (hf : ∀ f ∈ fs, f.length = 12) (hl : fs.length ≤ 1000) (r c : Nat) (hr : r < 3) (hc : c < 4) (o : Option (Nat × Nat × Nat)) (h : List Blk) (hn : h[n]? = some (.cells 0 (few2 fs o))) : CallsA Try.prog 84 [.ptr ⟨n, 0⟩ 0, .agg [.int .i64 r, .int .i64 c]] h fun e h' => e = .ret (.tup []) ∧ h' = h.set n (.cells 0 (few2 fs (take2 o r c (mostTo (atC fs (4 * r + c)) fs.length)))) := by
  have hlt : n < h.length := (List.getElem?_eq_some_iff.1 hn).1
  refine CallsA.of_wpe [] { cut := [16], tail := [(1, 5)] } 33 mixed Try.func84 (by kernel_rfl) rfl (by kernel_rfl) fun j hB hA => ?_; simp only [junk_succ, junk_zero, List.cons_append, List.nil_append, List.length_cons, List.length_nil, Nat.reduceAdd]
  have hn2 : ∀ k, (h ++ k)[n]? = some (.cells 0 (few2 fs o)) := fun k => by rw [List.getElem?_append_left hlt]; exact hn
  have hg2 : ∀ b k, (h.set n b ++ k)[n]? = some b := fun b k => by rw [List.getElem?_append_left (by simpa using hlt), List.getElem?_set_self hlt]
  have hs2 : ∀ k b, (h ++ k).set n b = h.set n b ++ k := fun k b => by rw [List.set_append_left _ _ hlt]
  have hs3 : ∀ k a b, (h.set n a ++ k).set n b = h.set n b ++ k := fun k a b => by rw [List.set_append_left _ _ (by simpa using hlt), List.set_set]
  have hone := next1_ok fs hf hl r c hr hc
  generalize mostTo (atC fs (4 * r + c)) fs.length = mm at hone ⊢
  cases o with
  | none =>
    simp only [few2] at hn2
    simp (implicitDefEqProofs := false) (dsimp := false) only [go_sem, hn2, countF, call_next1]
    (first | refine CallsA.use (hone) ?_ | refine QuietCalls.use (hone) ?_)
    simp (implicitDefEqProofs := false) (dsimp := false) only [go_sem, hn2, hs2, hg2, hs3, countF]
    exact set_fine (b := .cells 0 (few2 fs (some (r, c, mm)))) (v := .tup []) hB (few2_below _ _ _) rfl
  | some e =>
    obtain ⟨r', c', n'⟩ := e
    simp only [few2] at hn2
    simp (implicitDefEqProofs := false) (dsimp := false) only [go_sem, hn2, countF, call_next1]
    (first | refine CallsA.use (hone) ?_ | refine QuietCalls.use (hone) ?_)
    simp (implicitDefEqProofs := false) (dsimp := false) only [go_sem, hn2, hs2, hg2, hs3, countF]
    refine ⟨fun hc => ?_, fun hc => ?_⟩
    · have e : take2 (some (r', c', n')) r c mm = some (r, c, mm) := if_pos (by omega)
      rw [e]
      exact set_fine (b := .cells 0 (few2 fs (some (r, c, mm)))) (v := .tup []) hB (few2_below _ _ _) rfl
    · have e : take2 (some (r', c', n')) r c mm = some (r', c', n') := if_neg (by omega)
      rw [e, set_same hn]
      exact quiet_fine hB rfl

/-- The best of the first cells. -/
def nextTo (fs : List (List Int)) (w k : Nat) : Option (Nat × Nat × Nat) := (List.range k).foldl (fun o i => if i % 4 < w then take2 o (i / 4) (i % 4) (mostTo (atC fs i) fs.length) else o) none
theorem nextTo_succ (fs : List (List Int)) (w k : Nat) : nextTo fs w (k + 1) = if k % 4 < w then take2 (nextTo fs w k) (k / 4) (k % 4) (mostTo (atC fs k) fs.length) else nextTo fs w k := by simp [nextTo, List.range_succ]
theorem nextTo_skip {fs : List (List Int)} {w n : Nat} : ∀ {m : Nat}, (∀ k, n ≤ k → k < n + m → ¬ k % 4 < w) → nextTo fs w (n + m) = nextTo fs w n
  | 0, _ => rfl
  | m + 1, h => by
    rw [← Nat.add_assoc, nextTo_succ, if_neg (h (n + m) (by omega) (by omega))]
    exact nextTo_skip fun k h1 h2 => h k h1 (by omega)
def NextR (b : Board) : Int × Int × Int × Int :=
  if boardErr b ≠ 0 then (0, 0, 0, boardErr b) else if (laysB b).length = 0 then (0, 0, 0, 9) else
    match nextTo ((laysB b).map Prod.snd) (b.cells.headD []).length (4 * b.cells.length) with
    | some (r, c, n) => if n = (laysB b).length then (0, 0, 0, 11) else (r, c, n, 0)
    | none => (0, 0, 0, 0)
def quadA (x : Int × Int × Int × Int) : AV := .tup [.int .i64 x.1, .int .i64 x.2.1, .int .i64 x.2.2.1, .int .i64 x.2.2.2]
theorem face_slice (l : List (Lay × List Int)) : sliceOf cFaceF l = sliceOf cF (l.map Prod.snd) := by
  simp only [sliceOf, List.length_map, List.flatMap_map]
  rfl

theorem Next_ok (b : Board) : PureA Try.prog 39 [.agg (brdA b)] (quadA (NextR b)) := by
  refine PureA.of_wpp { hand := [7] } 65 mixed Try.func39 (by kernel_rfl) rfl (by kernel_rfl) (rfl) fun h j hB => ?_
  simp only [junk_succ, junk_zero, List.cons_append, List.nil_append, List.length_cons, List.length_nil, Nat.reduceAdd]
  simp (implicitDefEqProofs := false) (dsimp := false) only [go_sem, brdA]
  refine open_use (fun e0 => ?_) (fun e1 e2 x y z t f1 f2 f3 f4 => ?_)
  · simp (implicitDefEqProofs := false) (dsimp := false) only [go_sem, bdA]
    have ok := okBoard.of e0
    have hok := rights_ok b (mapB b.glyphs) ok
    rw [face_slice, show rightsB b (mapB b.glyphs) = laysB b from rfl] at hok
    have hfl : ((laysB b).map Prod.snd).length = (laysB b).length := List.length_map _
    have hff : ∀ f ∈ (laysB b).map Prod.snd, f.length = 12 := by
      intro f hf
      obtain ⟨x, hx, rfl⟩ := List.mem_map.1 hf
      obtain ⟨i, hi, rfl⟩ := List.mem_iff_getElem.1 (List.mem_filter.1 hx).1
      exact allWays_face i hi
    have hll : (laysB b).length ≤ 72 := by
      have h1 : (laysB b).length ≤ (allWays b (mapB b.glyphs)).length := List.length_filter_le _ _
      rw [allWays_len] at h1
      have := ok.most
      omega
    (first | refine CallsA.use (hok) ?_ | refine QuietCalls.use (hok) ?_)
    simp (implicitDefEqProofs := false) (dsimp := false) only [go_sem, e0, hfl, len_eq0]
    refine ⟨fun c0 => ?_, fun c0 => ?_⟩
    · rw [NextR, if_neg (by simp [e0]), if_pos c0]
      rfl
    have c0' : (laysB b).length ≠ 0 := by simpa using c0
    have hNR : NextR b = match nextTo ((laysB b).map Prod.snd) (b.cells.headD []).length (4 * b.cells.length) with
        | some (r, c, n) => if n = (laysB b).length then (0, 0, 0, 11) else (r, c, n, 0)
        | none => (0, 0, 0, 0) := by rw [NextR, if_neg (by simp [e0]), if_neg c0']
    rw [← hfl] at c0' hNR
    have hll' : ((laysB b).map Prod.snd).length ≤ 1000 := by omega
    generalize hfs : (laysB b).map Prod.snd = fs at *
    refine wp_shut [8] (so := { }) mixed _ (by kernel_rfl) ?_
    simp (implicitDefEqProofs := false) (dsimp := false) only [go_sem, call_next1]
    have q1 := ok.cells.most
    have q2 := ok.cells.wmost
    refine WP.loopI (fun (i : Nat) s => (i ≤ b.cells.length) ∧ s.sl.length = 66 ∧ s.df = [] ∧ s.gh = {} ∧ (s.hp = h ++ [.cells 0 (brdA b), .cells 0 (bdA b (mapB b.glyphs)), .dead, .cells 0 (few2 fs (nextTo fs (b.cells.headD []).length (4 * i)))]) ∧ evA s.sl (.tmp 6) = .ptr ⟨h.length + 1, 0⟩ 0 ∧ evA s.sl (.tmp 8) = .pptr [.psl (fs.flatMap cF) (laysB b).length] ∧ evA s.sl (.tmp 9) = .ptr ⟨h.length + 3, 0⟩ 0 ∧ evA s.sl (.tmp 33) = .int .i64 b.cells.length ∧ evA s.sl (.tmp 34) = .int .i64 i) (fun (i : Nat) => b.cells.length - i) (0) ?_ ?_
    · simp (implicitDefEqProofs := false) (dsimp := false) only [go_sem, brdA, bdA, Nat.zero_le]
      rw [← hfl]
      rfl
    · rintro i ⟨sl, df, hp, gh⟩ ⟨ab, al, rfl, rfl, rfl, a6, a8, a9, a33, a34⟩
      simp only at ab al a6 a8 a9 a33 a34
      obtain ⟨j, rfl⟩ := slots_lit al; clear al; simp only [junk_succ, junk_zero, evA_tmp, nth_16, nth_four, nth_one, nth_zero, Nat.zero_add, Nat.reduceAdd] at  a6 a8 a9 a33 a34 ⊢
      refine wp_ok (so := { hand := [7] }) mixed _ (by kernel_rfl) ?_
      by_cases hi : i < b.cells.length
      · have hw := ok.cells.row hi
        simp (implicitDefEqProofs := false) (dsimp := false) only [go_sem, a6, a8, a9, a33, a34, bdA, nat_lt hi, decide_true, row1 cTraces_len hi, row1_le cTraces_len hi, hi, cTraces]
        refine WP.loopI (fun (c : Nat) s => (c ≤ (b.cells.headD []).length) ∧ s.sl.length = 66 ∧ s.df = [] ∧ s.gh = {} ∧ (s.hp = h ++ [.cells 0 (brdA b), .cells 0 (bdA b (mapB b.glyphs)), .dead, .cells 0 (few2 fs (nextTo fs (b.cells.headD []).length (4 * i + c)))]) ∧ evA s.sl (.tmp 6) = .ptr ⟨h.length + 1, 0⟩ 0 ∧ evA s.sl (.tmp 8) = .pptr [.psl (fs.flatMap cF) (laysB b).length] ∧ evA s.sl (.tmp 9) = .ptr ⟨h.length + 3, 0⟩ 0 ∧ evA s.sl (.tmp 10) = .int .i64 i ∧ evA s.sl (.tmp 33) = .int .i64 b.cells.length ∧ evA s.sl (.tmp 34) = .int .i64 i ∧ evA s.sl (.tmp 43) = .int .i64 (b.cells.headD []).length ∧ evA s.sl (.tmp 44) = .int .i64 c) (fun (c : Nat) => (b.cells.headD []).length - c) (0) ?_ ?_
        · simp (implicitDefEqProofs := false) (dsimp := false) only [go_sem, brdA, bdA, Nat.zero_le, hw]
        · rintro c ⟨sl, df, hp, gh⟩ ⟨eb, el, rfl, rfl, rfl, e6, e8, e9, e10, e33, e34, e43, e44⟩
          simp only at eb el e6 e8 e9 e10 e33 e34 e43 e44
          obtain ⟨j, rfl⟩ := slots_lit el; clear el; simp only [junk_succ, junk_zero, evA_tmp, nth_16, nth_four, nth_one, nth_zero, Nat.zero_add, Nat.reduceAdd] at  e6 e8 e9 e10 e33 e34 e43 e44 ⊢
          refine wp_ok (so := { hand := [7] }) mixed _ (by kernel_rfl) ?_
          by_cases hc : c < (b.cells.headD []).length
          · simp (implicitDefEqProofs := false) (dsimp := false) only [go_sem, e6, e8, e9, e10, e33, e34, e43, e44, bdA, nat_lt hc, decide_true]
            refine (take2_ok _ fs hff hll' i c (by omega) (by omega) (nextTo fs (b.cells.headD []).length (4 * i + c)) _ (by rw [hget]; rfl)).mono ?_
            rintro _ _ ⟨rfl, rfl⟩
            simp (implicitDefEqProofs := false) (dsimp := false) only [go_sem, bdA]
            refine ⟨c + 1, ⟨by omega, ?_, wrap_succ (by omega)⟩, by omega⟩
            rw [← Nat.add_assoc, nextTo_succ, if_pos (by omega), show (4 * i + c) / 4 = i by omega, show (4 * i + c) % 4 = c by omega]
          · have hs : ((c : Int) < ((b.cells.headD []).length : Int)) = False := eq_false (by omega)
            simp (implicitDefEqProofs := false) (dsimp := false) only [go_sem, e6, e8, e9, e10, e33, e34, e43, e44, bdA, hs, decide_false]
            refine ⟨i + 1, ⟨by omega, ?_, wrap_succ (by omega)⟩, by omega⟩
            rw [show 4 * (i + 1) = 4 * i + c + (4 - c) by omega, nextTo_skip (n := 4 * i + c) (m := 4 - c) (by intro k _ _; omega)]
      · have hs : ((i : Int) < (b.cells.length : Int)) = False := eq_false (by omega)
        have ei : i = b.cells.length := by omega
        subst ei
        generalize nextTo fs (b.cells.headD []).length (4 * b.cells.length) = o at *
        cases o with
        | none =>
          simp (implicitDefEqProofs := false) (dsimp := false) only [go_sem, a6, a8, a9, a33, a34, bdA, hs, decide_false, few2]
          rw [hNR]
          exact ⟨fun hc => by omega, fun _ => rfl⟩
        | some x =>
          obtain ⟨r, c, n⟩ := x
          simp (implicitDefEqProofs := false) (dsimp := false) only [go_sem, a6, a8, a9, a33, a34, bdA, hs, decide_false, few2]
          rw [hNR]
          refine ⟨fun hc => ?_, fun hc => ?_⟩
          · simp only
            rw [if_pos (by omega)]; rfl
          · simp only
            rw [if_neg (by rw [beq_eq_false_iff_ne] at hc; omega)]; rfl
  · simp only [leafA] at f1 f2 f3 f4
    simp (implicitDefEqProofs := false) (dsimp := false) only [go_sem, f1, f2, f3, f4, e2]
    rw [NextR, if_pos e1]
    rfl
end Go.Mac

/-! FnV -/
/- FnV: pages that can show the same. -/
namespace Go.Mac
open Go Go.Conc Go.Proofs
set_option maxRecDepth 4000

/-- What is asked within a scope that no goto leaves. -/
def noGoto (Q : AExit → AS → Prop) : AExit → AS → Prop
  | .goto _, _ => False
  | e, s => Q e s
theorem WP.scope {P : Program} {fn : FK} {Q : AExit → AS → Prop} {s : AS} {a : Code} (h : WP P fn a (noGoto Q) s) : WP P fn (.scope a) Q s := by
  refine WPI.idle [.code a, .inScope a] (fun _ _ _ _ _ _ _ _ _ => by simp [G, stepG, stepG.exec, at']) ?_
  intro main Stop b k cs base c w tmps ds h1 h2 h3 h4
  refine h main Stop b (.inScope a :: k) cs base c w tmps ds h1 h2 h3 fun e s' c' w' tmps' ds' q r y => ?_
  cases e with
  | normal => exact Go'.idle rfl rfl (fun w1 => by simp [G, stepG, stepG.exec, at']) (h4 .normal s' c' w' tmps' ds' q r y)
  | exit id' =>
    have x := h4 (.exit id') s' c' w' tmps' ds' q r y
    exact fun k' hk => x k' (by rw [hk]; simp [exitTo])
  | goto l => exact q.elim
  | ret => exact h4 .ret s' c' w' tmps' ds' q r y
  | panic v => exact h4 (.panic v) s' c' w' tmps' ds' q r y
section
variable {P : Program} {so : Opt} {k : FK} {K : AExit → AS → Prop} {s : AS}
theorem wp_scope {a : Code} : wp P so k (.scope a) K s = WPI P k [.code (.scope a)] K (tag s) := by simp only [wp]; rfl
theorem wp_label {l : Nat} : wp P so k (.label l) K s = K .normal s := by simp only [wp]
theorem noGoto_normal : noGoto K .normal s = K .normal s := rfl
theorem noGoto_exit {id : Nat} : noGoto K (.exit id) s = K (.exit id) s := rfl
theorem noGoto_ret : noGoto K .ret s = K .ret s := rfl
theorem noGoto_panic {v : AV} : noGoto K (.panic v) s = K (.panic v) s := rfl
end
attribute [go_sem ↓] wp_scope wp_label noGoto_normal noGoto_exit noGoto_ret noGoto_panic

theorem eqAll_some : ∀ l : List Bool, eqAll (l.map some) = some (l.all id)
  | [] => rfl
  | true :: l => by simp only [List.map_cons, eqAll, eqAll_some l, List.all_cons, id, Bool.true_and]
  | false :: l => rfl
theorem under_ty {P : Program} {t : TypeId} {f : TF} (h : tyT P t = some f) : P.underlying t = some f.d := (tyT_some h).choose_spec.2.1
theorem eqRow {d : Nat} {a0 a1 a2 a3 b0 b1 b2 b3 : Int} : eqA Try.prog (d + 2) 103 (.agg [.int .i64 a0, .int .i64 a1, .int .i64 a2, .int .i64 a3]) (.agg [.int .i64 b0, .int .i64 b1, .int .i64 b2, .int .i64 b3]) = some (a0 == b0 && (a1 == b1 && (a2 == b2 && a3 == b3))) := by
  have hu := under_ty ty103
  have e : ∀ a b : Int, eqA Try.prog (d + 1) 102 (.int .i64 a) (.int .i64 b) = some (a == b) := fun a b => eqA_int ty102 rfl
  have hl : List.range 4 = [0, 1, 2, 3] := rfl
  have hq := eqAll_some [a0 == b0, a1 == b1, a2 == b2, a3 == b3]
  simp only [List.map_cons, List.map_nil] at hq
  unfold eqA
  simp only [hu, ty103, ty102, hl, List.map_cons, List.map_nil, partA, aggD, Bool.false_eq_true, if_false, Nat.zero_mul, Nat.one_mul, Nat.mul_one, List.getD_cons_zero, List.getD_cons_succ, e]
  rw [hq]
  simp
theorem lit12 {f : List Int} (h : f.length = 12) : ∃ a0 a1 a2 a3 a4 a5 a6 a7 a8 a9 a10 a11, f = [a0, a1, a2, a3, a4, a5, a6, a7, a8, a9, a10, a11] := by
  match f, h with
  | [a0, a1, a2, a3, a4, a5, a6, a7, a8, a9, a10, a11], _ => exact ⟨_, _, _, _, _, _, _, _, _, _, _, _, rfl⟩
theorem eqFace {d : Nat} {f g : List Int} (hf : f.length = 12) (hg : g.length = 12) : eqA Try.prog (d + 3) 105 (.agg (nums12 f)) (.agg (nums12 g)) = some (f == g) := by
  obtain ⟨a0, a1, a2, a3, a4, a5, a6, a7, a8, a9, a10, a11, rfl⟩ := lit12 hf
  obtain ⟨b0, b1, b2, b3, b4, b5, b6, b7, b8, b9, b10, b11, rfl⟩ := lit12 hg
  have hu := under_ty ty105
  have hl : List.range 3 = [0, 1, 2] := rfl
  have hq := fun x y z : Bool => eqAll_some [x, y, z]
  simp only [List.map_cons, List.map_nil] at hq
  unfold eqA
  simp only [hu, ty105, nums12, List.map_cons, List.map_nil, hl, ty103, partA, aggD, if_true, Nat.zero_mul, Nat.one_mul, Nat.reduceMul, List.drop_zero, List.drop_succ_cons, List.take_succ_cons, List.take_zero, eqRow]
  rw [hq]
  congr 1
  rw [Bool.eq_iff_iff]
  simp [and_assoc]
theorem findFace {y : List Int} (hy : y.length = 12) : ∀ {l : List (List Int)} {i : Nat}, (∀ f ∈ l, f.length = 12) → findA Try.prog 105 (.agg (nums12 y)) (l.map fun f => .agg (nums12 f)) i = some ((l.findIdx? fun f => y == f).map (· + i))
  | [], i, _ => rfl
  | f :: l, i, h => by
    simp only [List.map_cons, findA, eqFace (d := 3) hy (h f (by simp)), List.findIdx?_cons]
    cases hc : (y == f) with
    | true => simp
    | false =>
      simp only [findFace hy (l := l) fun g hg => h g (by simp [hg]), Bool.false_eq_true, if_false, Option.map_map]
      congr 2
      funext x
      simp only [Function.comp]
      omega
def kF (l : List (List Int)) : List AV := l.map fun f => .agg (nums12 f)
def vF (l : List (List Int)) : List AV := l.map fun _ => .bool true
theorem fits4 : zeroFits Try.prog 4 = true := by kernel_rfl
theorem gotF {y : List Int} : ∀ {l : List (List Int)}, gotA ((l.findIdx? fun f => y == f).map (· + 0)) (vF l) (.bool false) = .bool (l.contains y)
  | [] => rfl
  | f :: l => by
    rw [List.findIdx?_cons, List.contains_cons]
    cases hc : (y == f) with
    | true => rfl
    | false =>
      have := gotF (y := y) (l := l)
      simp only [Bool.false_eq_true, if_false, Bool.false_or]
      rw [← this]
      cases hi : l.findIdx? (fun f => y == f) <;> simp [gotA, vF]
theorem lookF {l : List (List Int)} {y : List Int} {h : List Blk} {n : Nat} (hy : y.length = 12) (hl : ∀ f ∈ l, f.length = 12) (hn : h[n]? = some (.map (kF l) (vF l))) : lookupE Try.prog 134 (.map ⟨n, 0⟩) (.agg (nums12 y)) false h = some (True, .bool (l.contains y), h) := by
  simp only [lookupE, ty134, ty105, ty4, mapOf, hn, kF, findFace hy hl, fits4, eqFace (d := 3) hy hy, beq_self_eq_true, zeroA, aggD, and_self, Bool.false_eq_true, if_false, List.getD_cons_zero, gotF, if_true]
/-- A face put into a set. -/
def insF (l : List (List Int)) (y : List Int) : List (List Int) := if l.contains y then l else l ++ [y]
theorem updF {l : List (List Int)} {y : List Int} {h : List Blk} {n : Nat} (hy : y.length = 12) (hl : ∀ f ∈ l, f.length = 12) (hn : h[n]? = some (.map (kF l) (vF l))) :
    mapUpdateE Try.prog 134 (.map ⟨n, 0⟩) (.agg (nums12 y)) (.bool true) h = some (True, .tup [], h.set n (.map (kF (insF l y)) (vF (insF l y)))) := by
  simp only [mapUpdateE, ty134, ty105, hn, eqFace (d := 3) hy hy, beq_self_eq_true, and_self]
  have hf : findA Try.prog 105 (.agg (nums12 y)) (kF l) 0 = some ((l.findIdx? fun f => y == f).map (· + 0)) := findFace hy hl
  cases hx : l.findIdx? fun f => y == f with
  | none =>
    rw [hf, hx]
    have hc : l.contains y = false := by
      rw [List.findIdx?_eq_none_iff] at hx
      rw [← Bool.not_eq_true, List.contains_iff_mem]
      intro hm
      have := hx y hm
      simp at this
    simp only [Option.map_none, insF, hc, Bool.false_eq_true, if_false, kF, vF, List.map_append, List.map_cons, List.map_nil]
  | some j =>
    rw [hf, hx]
    obtain ⟨h1, h2, _⟩ := List.findIdx?_eq_some_iff_getElem.1 hx
    have hyj : y = l[j] := by simpa using h2
    have hc : l.contains y = true := by rw [List.contains_iff_mem, hyj]; exact List.getElem_mem h1
    have hv : (vF l).set j (.bool true) = vF l := by
      apply List.ext_getElem?
      intro i
      rw [List.getElem?_set]
      by_cases hij : j = i
      · subst hij; simp [vF, h1]
      · simp [hij]
    simp only [Option.map_some, Nat.add_zero, hv, insF, hc, if_true]
    simp [kF, h1, ← hyj]

/-! ### Marks of loops over functions, in blocks behind others -/
def marksIn (L : Nat) (k : List Blk) : Nat → List ADef → Prop
  | _, [] => True
  | hi, .mark n :: df => n.gen = 0 ∧ ∃ i, n.id = L + i ∧ i < hi ∧ k[i]? = some .defd ∧ marksIn L k i df
  | _, .call .. :: _ => False
theorem marksIn_more {L : Nat} {k x : List Blk} : ∀ {hi hi' : Nat} {df : List ADef}, hi ≤ hi' → hi ≤ k.length → marksIn L k hi df → marksIn L (k ++ x) hi' df
  | _, _, [], _, _, _ => trivial
  | _, _, .mark n :: df, h1, h2, ⟨q1, i, q2, q3, q4, q5⟩ => ⟨q1, i, q2, by omega, by rw [List.getElem?_append_left (by omega)]; exact q4, marksIn_more (Nat.le_refl _) (by omega) q5⟩
  | _, _, .call .. :: _, _, _, q => q.elim
theorem marksIn_at {h k : List Blk} {a b c d : Blk} : ∀ {hi : Nat} {df : List ADef}, marksIn (h.length + 4) k hi df → marksAt (h.length + 4) (h ++ a :: b :: c :: d :: k) (h.length + 4 + hi) df
  | _, [], _ => trivial
  | _, .mark n :: df, ⟨q1, i, q2, q3, q4, q5⟩ => by
    refine ⟨q1, by omega, by omega, ?_, ?_⟩
    · rw [q2, show h.length + 4 + i = h.length + (i + 4) by omega, hget]
      exact q4
    · rw [q2]; exact marksIn_at q5
  | _, .call .. :: _, q => q.elim
theorem marksIn_loop {L : Nat} {k x y : List Blk} {df : List ADef} {n : Nat} (hm : marksIn L k k.length df) (hn : n = L + (k ++ x).length) (hxy : x.length = y.length) : marksIn L (k ++ (y ++ [Blk.defd, Blk.dead])) (k ++ (y ++ [Blk.defd, Blk.dead])).length (.mark ⟨n, 0⟩ :: df) := by
  refine ⟨rfl, (k ++ x).length, hn, by simp [hxy], ?_, marksIn_more (by simp) (Nat.le_refl _) hm⟩
  rw [List.length_append, hxy, List.getElem?_append_right (by omega), Nat.add_sub_cancel_left, hget0]; rfl

def z12 : List Int := [0, 0, 0, 0, 0, 0, 0, 0, 0, 0, 0, 0]
def alikeP (b : Board) (m : List (Int × Int)) (p q : Nat) : Bool := (facesOf b m q).any fun y => y != z12 && (facesOf b m p).contains y
def alikeRow (b : Board) (m : List (Int × Int)) (p n : Nat) : List (Int × Int) := ((List.range' (p + 1) n).filter (alikeP b m p)).map fun (q : Nat) => ((p : Int), (q : Int))
def alikeTo (b : Board) (m : List (Int × Int)) (n : Nat) : List (Int × Int) := (List.range n).flatMap fun p => alikeRow b m p (b.pages.length - (p + 1))
def alikeB (b : Board) (m : List (Int × Int)) : List (Int × Int) := alikeTo b m b.pages.length
theorem alikeTo_succ (b : Board) (m : List (Int × Int)) (n : Nat) : alikeTo b m (n + 1) = alikeTo b m n ++ alikeRow b m n (b.pages.length - (n + 1)) := by simp [alikeTo, List.range_succ]
theorem alikeRow_succ (b : Board) (m : List (Int × Int)) (p n : Nat) : alikeRow b m p (n + 1) = alikeRow b m p n ++ if alikeP b m p (p + 1 + n) = true then [((p : Int), ((p + 1 + n : Nat) : Int))] else [] := by
  unfold alikeRow
  rw [List.range'_concat, List.filter_append, List.map_append]
  congr 1
  rw [Nat.one_mul, List.filter_cons]
  split <;> simp
theorem alikeRow_len (b : Board) (m : List (Int × Int)) (p n : Nat) : (alikeRow b m p n).length ≤ n := by
  unfold alikeRow
  rw [List.length_map]
  have := List.length_filter_le (alikeP b m p) (List.range' (p + 1) n)
  simpa using this
theorem alikeTo_len (b : Board) (m : List (Int × Int)) (n : Nat) : (alikeTo b m n).length ≤ n * b.pages.length := by
  induction n with
  | zero => simp [alikeTo]
  | succ n ih =>
    rw [alikeTo_succ, List.length_append, Nat.succ_mul]
    have := alikeRow_len b m n (b.pages.length - (n + 1))
    omega

def alikeH (b : Board) (l : List (Int × Int)) (L : Nat) (k : List Blk) : List Blk :=
  .cells 0 (brdA b) :: .cells 0 (bdA b (mapB b.glyphs)) :: .cells 0 [.sl ⟨L + 3, l.length⟩ 1 0 l.length] :: .cells l.length (l.flatMap cPair) :: k

theorem all_swap {P : Blk → Bool} {h k x y : List Blk} {a b c d : Blk} (hb : (h ++ a :: b :: c :: d :: (k ++ x)).all P = true) (hy : y.all P = true) : (h ++ a :: b :: c :: d :: (k ++ y)).all P = true := by
  simp only [List.all_append, List.all_cons, Bool.and_eq_true] at *
  exact ⟨hb.1, hb.2.1, hb.2.2.1, hb.2.2.2.1, hb.2.2.2.2.1, hb.2.2.2.2.2.1, hy⟩
theorem all_swap2 {P : Blk → Bool} {h x : List Blk} {a b c d c' d' : Blk} (hb : (h ++ a :: b :: c :: d :: x).all P = true) (hc : P c' = true) (hd : P d' = true) : (h ++ a :: b :: c' :: d' :: x).all P = true := by
  simp only [List.all_append, List.all_cons, Bool.and_eq_true] at *
  exact ⟨hb.1, hb.2.1, hb.2.2.1, hc, hd, hb.2.2.2.2.2⟩
theorem marksIn_snoc {L : Nat} {k e w : List Blk} {x y z : Blk} {df : List ADef} (h : marksIn L (k ++ x :: y :: z :: e) (k ++ x :: y :: z :: e).length df) : marksIn L (k ++ x :: y :: z :: (e ++ w)) (k ++ x :: y :: z :: (e ++ w)).length df := by
  have e1 : k ++ x :: y :: z :: (e ++ w) = (k ++ x :: y :: z :: e) ++ w := by simp
  rw [e1]
  exact marksIn_more (by simp) (Nat.le_refl _) h
theorem kF_below (l : List (List Int)) {n : Nat} : belowL n (kF l) = true := by
  rw [belowL_all, List.all_eq_true]; intro x hx
  obtain ⟨f, _, rfl⟩ := List.mem_map.1 hx
  simp only [below]; exact nums_belowN f
theorem vF_below (l : List (List Int)) {n : Nat} : belowL n (vF l) = true := by
  rw [belowL_all, List.all_eq_true]; intro x hx
  obtain ⟨f, _, rfl⟩ := List.mem_map.1 hx
  rfl
theorem eqGuardF : (Try.prog.eqGuardType Try.prog.depth 105 = false) = True := eq_true (by kernel_rfl)
theorem loop_cutK {h k own e : List Blk} {a b c d x y z g l : Blk} : h ++ a :: b :: c :: d :: (k ++ x :: y :: z :: g :: l :: (own ++ e)) = (h ++ a :: b :: c :: d :: (k ++ [x, y, z])) ++ g :: l :: (own ++ e) := by simp
theorem loop_cutE {h k own e m : List Blk} {a b c d x y z w g l : Blk} : h ++ a :: b :: c :: d :: (k ++ x :: y :: z :: (m ++ w :: g :: l :: (own ++ e))) = (h ++ a :: b :: c :: d :: (k ++ x :: y :: z :: (m ++ [w]))) ++ g :: l :: (own ++ e) := by simp
theorem mem_insF {l : List (List Int)} {y v : List Int} : v ∈ insF l y ↔ v ∈ l ∨ v = y := by
  unfold insF
  split
  · rename_i h
    rw [List.contains_iff_mem] at h
    exact ⟨.inl, fun e => e.elim id fun e => e ▸ h⟩
  · simp
def alikeR (b : Board) : List (Int × Int) := if boardErr b = 0 then alikeB b (mapB b.glyphs) else []
theorem Alike_ok (b : Board) : PureA Try.prog 42 [.agg (brdA b)] (.tup [sliceOf cPair (alikeR b), .int .i64 (boardErr b)]) := by
  refine PureA.of_wpe [2] { shut := [61, 62] } 66 mixed Try.func42 (by kernel_rfl) rfl (by kernel_rfl) (by simp only [below, belowL, below_psl (f := cPair) (fun _ => rfl) _, Bool.and_self]) fun h j hB => ?_
  simp only [junk_succ, junk_zero, List.cons_append, List.nil_append, List.length_cons, List.length_nil, Nat.reduceAdd]
  simp (implicitDefEqProofs := false) (dsimp := false) only [go_sem, brdA]
  refine open_use (fun e0 => ?_) (fun e1 e2 x y z t f1 f2 f3 f4 => ?_)
  · simp (implicitDefEqProofs := false) (dsimp := false) only [go_sem, bdA, e0]
    have ok := okBoard.of e0
    rw [show alikeR b = alikeB b (mapB b.glyphs) from if_pos e0]
    refine WPI.turn (Turns.nilCell (i := h.length + 2) (j := 0) (sz := 1) (by simp only; rw [hget]; rfl) rfl) ?_
    simp only [hset, List.append_assoc, List.set_cons_succ, List.set_cons_zero, List.cons_append, List.nil_append, List.length_append, List.length_cons, List.length_nil, Nat.zero_add, Nat.reduceAdd]
    have q1 := ok.most
    refine WP.loopI (fun (p : Nat) s => (p ≤ b.pages.length) ∧ s.sl.length = 67 ∧ True ∧ s.gh = {} ∧ (∃ k, s.hp = h ++ alikeH b (alikeTo b (mapB b.glyphs) p) h.length k ∧ marksIn (h.length + 4) k k.length s.df) ∧ evA s.sl (.tmp 4) = .ptr ⟨h.length + 1, 0⟩ 0 ∧ evA s.sl (.tmp 6) = .ptr ⟨h.length + 2, 0⟩ 0 ∧ evA s.sl (.tmp 25) = .int .i64 b.pages.length ∧ evA s.sl (.tmp 26) = .int .i64 p) (fun (p : Nat) => b.pages.length - p) (0) ?_ ?_
    · simp (implicitDefEqProofs := false) (dsimp := false) only [go_sem, bdA, Nat.zero_le, alikeH]
      exact ⟨[], ⟨rfl, rfl, ⟨rfl, rfl⟩, rfl⟩, trivial⟩
    · rintro p ⟨sl, df, hp, gh⟩ ⟨ab, al, ad, rfl, ah, a4, a6, a25, a26⟩
      simp only at ab al ah ad a4 a6 a25 a26
      obtain ⟨j, rfl⟩ := slots_lit al; clear al; simp only [junk_succ, junk_zero, evA_tmp, nth_16, nth_four, nth_one, nth_zero, Nat.zero_add, Nat.reduceAdd] at  a4 a6 a25 a26 ⊢
      refine wp_ok (so := { shut := [61, 62] }) mixed _ (by kernel_rfl) ?_
      obtain ⟨k, rfl, hmk⟩ := ah
      have hlen := alikeTo_len b (mapB b.glyphs) p
      by_cases hp : p < b.pages.length
      · simp (implicitDefEqProofs := false) (dsimp := false) only [go_sem, a4, a6, a25, a26, alikeH, bdA, nat_lt hp, decide_true]
        refine WP.scope ?_
        refine wp_ok (so := { shut := [61, 62] }) mixed _ (by kernel_rfl) ?_
        simp (implicitDefEqProofs := false) (dsimp := false) only [go_sem]
        (first | refine CallsA.use (laysOf_ok b _ p) ?_ | refine QuietCalls.use (laysOf_ok b _ p) ?_)
        simp (implicitDefEqProofs := false) (dsimp := false) only [go_sem]
        refine WP.rangeIterN (h.length + (k.length + 4 + 1 + 1 + 1 + 1)) (by simp <;> omega)  (so := { shut := [61, 62] }) mixed (by kernel_rfl) (by kernel_rfl) rfl rfl (call_laysOf1) rfl rfl (iter_ways b _ p hp ok) (encW_len) (fun n h1 => ∃ S : List (List Int), h1 = h ++ alikeH b (alikeTo b (mapB b.glyphs) p) h.length (k ++ [.cells 0 [.int .i64 p], .map (kF S) (vF S), .cells 0 [.map ⟨h.length + (k.length + 1 + 1 + 1 + 1 + 1), 0⟩]]) ∧ ∀ y, y ∈ S ↔ y ≠ z12 ∧ y ∈ (facesOf b (mapB b.glyphs) p).take n) (fun _ _ => False) ?_ ?_ ?_ ?_ ?_ ?_
        · rintro n _ hb ⟨S, rfl, _⟩
          refine ⟨by simp [alikeH], all_swap hb ?_⟩
          simp only [List.all_cons, List.all_nil, belowBlk, kF_below, vF_below, belowL, below, Bool.and_true, Bool.true_and, decide_eq_true_eq, List.length_append, List.length_cons, List.length_nil]
          omega
        · rintro _ _ _ ⟨⟩
        · exact ⟨[], by simp [alikeH, kF, vF, bdA, sliceOf], by simp⟩
        · rintro n _ own hn ⟨S, rfl, hS⟩ hl2
          rw [List.length_map, ways_len] at hn
          have ex : ((ways b (mapB b.glyphs) p).map encW)[n]'(by rw [List.length_map, ways_len]; exact hn) = [.agg (cLay (layN p n)), .agg (nums12 (faceB (mapB b.glyphs) b.pages[p] b.cells (layN p n)))] := by simp [ways, wayN, encW, List.getD, hp]
          rw [ex]
          dsimp only
          have e12 : (faceB (mapB b.glyphs) b.pages[p] b.cells (layN p n)).length = 12 := face_len _ _ _ _
          have hl : (facesOf b (mapB b.glyphs) p).take (n + 1) = (facesOf b (mapB b.glyphs) p).take n ++ [faceB (mapB b.glyphs) b.pages[p] b.cells (layN p n)] := by
            rw [List.take_add_one, List.getElem?_eq_getElem (by rw [facesOf_len]; exact hn), facesOf_get hn]
            simp [List.getD, hp]
          rw [hl]
          have hS12 : ∀ f ∈ S, f.length = 12 := fun f hf => facesOf_face _ (List.mem_of_mem_take ((hS f).1 hf).2)
          have zeq : [AV.int .i64 0, .int .i64 0, .int .i64 0, .int .i64 0, .int .i64 0, .int .i64 0, .int .i64 0, .int .i64 0, .int .i64 0, .int .i64 0, .int .i64 0, .int .i64 0] = nums12 z12 := rfl
          generalize faceB (mapB b.glyphs) b.pages[p] b.cells (layN p n) = y at e12 ⊢
          have hq := eqFace (d := 3) e12 (show z12.length = 12 from rfl)
          simp (implicitDefEqProofs := false) (dsimp := false) only [go_sem, alikeH, bdA, setM12 e12, nums_take e12, nums_leaf, nums12_len, e12, Nat.le_refl, zeq, setMany12 (t := nums12 z12) rfl e12, hq, eqGuardF, show z12.length = 12 from rfl, lookF e12 hS12, updF e12 hS12]
          refine ⟨fun hc => ⟨_, ⟨_, loop_cutK⟩, insF S y, rfl, fun v => ?_⟩, fun hc => ⟨_, ⟨_, loop_cutK⟩, S, rfl, fun v => ?_⟩⟩
          · have hc' : y ≠ z12 := by simpa using hc
            rw [mem_insF, hS v, List.mem_append, List.mem_singleton]
            constructor
            · rintro (⟨h1, h2⟩ | rfl)
              · exact ⟨h1, .inl h2⟩
              · exact ⟨hc', .inr rfl⟩
            · rintro ⟨h1, h2 | rfl⟩
              · exact .inl ⟨h1, h2⟩
              · exact .inr rfl
          · have hc' : y = z12 := by simpa using hc
            rw [hS v, List.mem_append, List.mem_singleton]
            constructor
            · rintro ⟨h1, h2⟩; exact ⟨h1, .inl h2⟩
            · rintro ⟨h1, h2 | rfl⟩
              · exact ⟨h1, h2⟩
              · exact absurd hc' h1
        · rintro _ ⟨S, rfl, hS⟩
          rw [List.length_map, ways_len, List.take_of_length_le (by rw [facesOf_len]; exact Nat.le_refl _)] at hS
          simp (implicitDefEqProofs := false) (dsimp := false) only [go_sem, alikeH]
          have hS12 : ∀ f ∈ S, f.length = 12 := fun f hf => facesOf_face _ ((hS f).1 hf).2
          refine WP.loopI (fun (y : Nat × Nat) s => (y.1 ≤ b.pages.length - (p + 1)) ∧ s.sl.length = 67 ∧ True ∧ s.gh = {} ∧ (∃ e : List Blk, s.hp = h ++ alikeH b (alikeTo b (mapB b.glyphs) p ++ alikeRow b (mapB b.glyphs) p y.1) h.length (k ++ .cells 0 [.int .i64 p] :: .map (kF S) (vF S) :: .cells 0 [.map ⟨h.length + (k.length + 1 + 1 + 1 + 1 + 1), 0⟩] :: (e ++ [.cells 0 [.int .i64 (p + 1 + y.1 : Nat)]])) ∧ e.length = y.2 ∧ marksIn (h.length + 4) (k ++ .cells 0 [.int .i64 p] :: .map (kF S) (vF S) :: .cells 0 [.map ⟨h.length + (k.length + 1 + 1 + 1 + 1 + 1), 0⟩] :: e) (k ++ .cells 0 [.int .i64 p] :: .map (kF S) (vF S) :: .cells 0 [.map ⟨h.length + (k.length + 1 + 1 + 1 + 1 + 1), 0⟩] :: e).length s.df) ∧ evA s.sl (.tmp 4) = .ptr ⟨h.length + 1, 0⟩ 0 ∧ evA s.sl (.tmp 6) = .ptr ⟨h.length + 2, 0⟩ 0 ∧ evA s.sl (.tmp 7) = .ptr ⟨h.length + (k.length + 1 + 1 + 1 + 1), 0⟩ 0 ∧ evA s.sl (.tmp 8) = .ptr ⟨h.length + (k.length + 2 + 1 + 1 + 1 + 1), 0⟩ 0 ∧ evA s.sl (.tmp 11) = .ptr ⟨h.length + (k.length + (y.2 + 1 + 1 + 1) + 1 + 1 + 1 + 1), 0⟩ 0 ∧ evA s.sl (.tmp 25) = .int .i64 b.pages.length ∧ evA s.sl (.tmp 26) = .int .i64 p) (fun (y : Nat × Nat) => b.pages.length - (p + 1) - y.1) ((0, 2)) ?_ ?_
          · simp (implicitDefEqProofs := false) (dsimp := false) only [go_sem, alikeH, Nat.zero_le]
            have hr0 : alikeRow b (mapB b.glyphs) p 0 = [] := rfl
            rw [hr0, List.append_nil]
            refine ⟨[.defd, .dead], ⟨rfl, ⟨rfl, rfl⟩, by rw [wrap_succ (by omega)]; rfl⟩, rfl, ?_⟩
            have := marksIn_loop (x := [.dead, .dead, .dead]) (y := [.cells 0 [.int .i64 p], .map (kF S) (vF S), .cells 0 [.map ⟨h.length + (k.length + 1 + 1 + 1 + 1 + 1), 0⟩]]) (n := h.length + (k.length + 3 + 1 + 1 + 1 + 1)) hmk (by simp; omega) rfl
            simpa using this
          · rintro ⟨r, ne⟩ ⟨sl, df, hp, gh⟩ ⟨eb, el, ed, rfl, eh, e4, e6, e7, e8, e11, e25, e26⟩
            simp only at eb el eh ed e4 e6 e7 e8 e11 e25 e26
            obtain ⟨j, rfl⟩ := slots_lit el; clear el; simp only [junk_succ, junk_zero, evA_tmp, nth_16, nth_four, nth_one, nth_zero, Nat.zero_add, Nat.reduceAdd] at  e4 e6 e7 e8 e11 e25 e26 ⊢
            refine wp_ok (so := { shut := [61, 62] }) mixed _ (by kernel_rfl) ?_
            obtain ⟨e, rfl, hne, hme⟩ := eh
            have hrl := alikeRow_len b (mapB b.glyphs) p r
            have hpp : p * b.pages.length ≤ 4 * 4 := Nat.mul_le_mul (by omega) q1
            have hll : (alikeTo b (mapB b.glyphs) p ++ alikeRow b (mapB b.glyphs) p r).length ≤ 24 := by rw [List.length_append]; omega
            generalize hl0 : alikeTo b (mapB b.glyphs) p ++ alikeRow b (mapB b.glyphs) p r = l at hll ⊢
            by_cases hr : r < b.pages.length - (p + 1)
            · have hq : p + 1 + r < b.pages.length := by omega
              have hlt : (((p + 1 + r : Nat) : Int) < (b.pages.length : Int)) = True := eq_true (by omega)
              simp (implicitDefEqProofs := false) (dsimp := false) only [go_sem, e4, e6, e7, e8, e11, e25, e26, alikeH, bdA, getL hne, getL0 hne, hlt, decide_true]
              (first | refine CallsA.use (laysOf_ok b _ _) ?_ | refine QuietCalls.use (laysOf_ok b _ _) ?_)
              simp (implicitDefEqProofs := false) (dsimp := false) only [go_sem]
              refine WP.rangeIterN (h.length + (k.length + (ne + 2 + 1 + 1 + 1) + 1 + 1 + 1 + 1)) (by simp <;> omega)  (so := { shut := [61, 62] }) mixed (by kernel_rfl) (by kernel_rfl) rfl rfl (call_laysOf1) rfl rfl (iter_ways b _ (p + 1 + r) hq ok) (encW_len) (fun n h1 => h1 = h ++ alikeH b l h.length (k ++ .cells 0 [.int .i64 p] :: .map (kF S) (vF S) :: .cells 0 [.map ⟨h.length + (k.length + 1 + 1 + 1 + 1 + 1), 0⟩] :: (e ++ [.cells 0 [.int .i64 (p + 1 + r : Nat)]])) ∧ ∀ v ∈ (facesOf b (mapB b.glyphs) (p + 1 + r)).take n, v ∉ S) (fun c h1 => c = .exit 5 ∧ h1 = h ++ alikeH b (l ++ [((p : Int), ((p + 1 + r : Nat) : Int))]) h.length (k ++ .cells 0 [.int .i64 p] :: .map (kF S) (vF S) :: .cells 0 [.map ⟨h.length + (k.length + 1 + 1 + 1 + 1 + 1), 0⟩] :: (e ++ [.cells 0 [.int .i64 (p + 1 + r : Nat)]])) ∧ ∃ v ∈ facesOf b (mapB b.glyphs) (p + 1 + r), v ∈ S) ?_ ?_ ?_ ?_ ?_ ?_
              · rintro n _ hb ⟨rfl, _⟩
                exact ⟨by simp [alikeH], hb⟩
              · rintro _ _ hb ⟨_, rfl, _⟩
                refine ⟨by simp [alikeH], all_swap2 hb ?_ ?_⟩
                · simp only [belowBlk, belowL, below, Bool.and_true, decide_eq_true_eq, List.length_append, List.length_cons, List.length_nil]
                  omega
                · exact belowL_flat (f := cPair) (fun _ => rfl) _
              · exact ⟨rfl, by simp⟩
              · rintro n _ own hn ⟨rfl, hno⟩ hl2
                rw [List.length_map, ways_len] at hn
                have ex : ((ways b (mapB b.glyphs) (p + 1 + r)).map encW)[n]'(by rw [List.length_map, ways_len]; exact hn) = [.agg (cLay (layN (p + 1 + r : Nat) n)), .agg (nums12 (faceB (mapB b.glyphs) b.pages[p + 1 + r] b.cells (layN (p + 1 + r : Nat) n)))] := by simp [ways, wayN, encW, List.getD, hq]
                rw [ex]
                dsimp only
                have e12 : (faceB (mapB b.glyphs) b.pages[p + 1 + r] b.cells (layN (p + 1 + r : Nat) n)).length = 12 := face_len _ _ _ _
                have hget : (facesOf b (mapB b.glyphs) (p + 1 + r))[n]'(by rw [facesOf_len]; exact hn) = faceB (mapB b.glyphs) b.pages[p + 1 + r] b.cells (layN (p + 1 + r : Nat) n) := by
                  rw [facesOf_get hn]; simp [List.getD, hq]
                have hl : (facesOf b (mapB b.glyphs) (p + 1 + r)).take (n + 1) = (facesOf b (mapB b.glyphs) (p + 1 + r)).take n ++ [faceB (mapB b.glyphs) b.pages[p + 1 + r] b.cells (layN (p + 1 + r : Nat) n)] := by
                  rw [List.take_add_one, List.getElem?_eq_getElem (by rw [facesOf_len]; exact hn), hget]; rfl
                have hmem : faceB (mapB b.glyphs) b.pages[p + 1 + r] b.cells (layN (p + 1 + r : Nat) n) ∈ facesOf b (mapB b.glyphs) (p + 1 + r) := by
                  rw [← hget]; exact List.getElem_mem _
                rw [hl]
                generalize faceB (mapB b.glyphs) b.pages[p + 1 + r] b.cells (layN (p + 1 + r : Nat) n) = y at e12 hmem ⊢
                cases hcc : S.contains y with
                | true =>
                  simp (implicitDefEqProofs := false) (dsimp := false) only [go_sem, alikeH, bdA, getL hne, getL0 hne, setL hne, setL0 hne, setM12 e12, nums_take e12, nums_leaf, nums12_len, e12, Nat.le_refl, lookF e12 hS12, hcc, length_rows cPair_len]
                  have hy : y ∈ S := by rw [← List.contains_iff_mem]; exact hcc
                  refine ⟨by omega, _, ⟨_, loop_cutE⟩, ?_, y, hmem, hy⟩
                  simp [cPair]
                | false =>
                  simp (implicitDefEqProofs := false) (dsimp := false) only [go_sem, alikeH, bdA, getL hne, getL0 hne, setL hne, setL0 hne, setM12 e12, nums_take e12, nums_leaf, nums12_len, e12, Nat.le_refl, lookF e12 hS12, hcc]
                  have hy : y ∉ S := by rw [← List.contains_iff_mem, hcc]; simp
                  refine ⟨_, ⟨_, loop_cutE⟩, rfl, fun v hv => ?_⟩
                  rcases List.mem_append.1 hv with hv | hv
                  · exact hno v hv
                  · rw [List.mem_singleton.1 hv]; exact hy
              · rintro _ ⟨rfl, hno⟩
                rw [List.length_map, ways_len, List.take_of_length_le (by rw [facesOf_len]; exact Nat.le_refl _)] at hno
                simp (implicitDefEqProofs := false) (dsimp := false) only [go_sem, alikeH, bdA, getL hne, getL0 hne, setL hne, setL0 hne]
                have hrow : alikeTo b (mapB b.glyphs) p ++ alikeRow b (mapB b.glyphs) p (r + 1) = l := by
                  have hP : alikeP b (mapB b.glyphs) p (p + 1 + r) = false := by
                    rw [alikeP, List.any_eq_false]
                    intro v hv hc
                    have h1 := hno v hv
                    rw [hS] at h1
                    simp at hc
                    exact h1 hc
                  rw [alikeRow_succ, hP]
                  simpa using hl0
                refine ⟨(r + 1, ne + 3), ⟨by simp only; omega, ⟨e ++ [.cells 0 [.int .i64 (p + 1 + r : Nat)], .defd, .dead], ?_, by simp [hne], ?_⟩, by rw [hne]⟩, by simp only; omega⟩
                · simp only
                  rw [← List.length_append, hrow, wrap_succ (by omega)]
                  refine ⟨by rfl, ⟨by rfl, rfl⟩, ?_⟩
                  simp
                  omega
                · have := marksIn_loop (x := [.dead]) (y := [.cells 0 [.int .i64 (p + 1 + r : Nat)]]) (n := h.length + (k.length + (e.length + 1 + 1 + 1 + 1) + 1 + 1 + 1 + 1)) hme (by simp; omega) rfl
                  simpa using this
              · rintro _ _ ⟨rfl, rfl, v, hv1, hv2⟩
                simp (implicitDefEqProofs := false) (dsimp := false) only [go_sem, alikeH, bdA, getL hne, getL0 hne, setL hne, setL0 hne]
                have hrow : alikeTo b (mapB b.glyphs) p ++ alikeRow b (mapB b.glyphs) p (r + 1) = l ++ [((p : Int), ((p + 1 + r : Nat) : Int))] := by
                  have hP : alikeP b (mapB b.glyphs) p (p + 1 + r) = true := by
                    rw [alikeP, List.any_eq_true]
                    have h1 := (hS v).1 hv2
                    exact ⟨v, hv1, by simpa using h1⟩
                  rw [alikeRow_succ, hP, ← hl0, if_pos rfl, List.append_assoc]
                refine ⟨(r + 1, ne + 3), ⟨by simp only; omega, ⟨e ++ [.cells 0 [.int .i64 (p + 1 + r : Nat)], .defd, .dead], ?_, by simp [hne], ?_⟩, by rw [hne]⟩, by simp only; omega⟩
                · simp only
                  rw [← List.length_append, hrow, wrap_succ (by omega)]
                  refine ⟨by simp, ⟨by simp, rfl⟩, ?_⟩
                  simp
                  omega
                · have := marksIn_loop (x := [.dead]) (y := [.cells 0 [.int .i64 (p + 1 + r : Nat)]]) (n := h.length + (k.length + (e.length + 1 + 1 + 1 + 1) + 1 + 1 + 1 + 1)) hme (by simp; omega) rfl
                  simpa using this
            · have hs : (((p + 1 + r : Nat) : Int) < (b.pages.length : Int)) = False := eq_false (by omega)
              simp (implicitDefEqProofs := false) (dsimp := false) only [go_sem, e4, e6, e7, e8, e11, e25, e26, alikeH, bdA, getL hne, getL0 hne, hs, decide_false]
              have er : r = b.pages.length - (p + 1) := by omega
              subst er
              rw [← alikeTo_succ] at hl0
              subst hl0
              exact ⟨p + 1, ⟨by omega, ⟨_, ⟨rfl, ⟨rfl, rfl⟩, rfl⟩, marksIn_snoc hme⟩, wrap_succ (by omega)⟩, by omega⟩
        · rintro _ _ ⟨⟩
      · have hs : ((p : Int) < (b.pages.length : Int)) = False := eq_false (by omega)
        have ep : p = b.pages.length := by omega
        subst ep
        simp (implicitDefEqProofs := false) (dsimp := false) only [go_sem, a4, a6, a25, a26, alikeH, hs, decide_false]
        refine unmarkK_marks (marksIn_at hmk) fun h' e1 e2 => ⟨?_, h'.drop h.length, ?_⟩
        · rw [List.take_of_length_le (by rw [length_rows cPair_len]; omega)]
          rfl
        · have e3 : h'.take h.length = h := by
            have := congrArg (List.take h.length) e2
            rw [List.take_take, List.take_take, show min h.length (h.length + 4) = h.length by omega, List.take_left] at this
            exact this
          conv => lhs; rw [← List.take_append_drop h.length h', e3]
  · simp only [leafA] at f1 f2 f3 f4
    rw [show alikeR b = [] from if_neg e1]
    simp (implicitDefEqProofs := false) (dsimp := false) only [go_sem, f1, f2, f3, f4, e2]
    rfl
end Go.Mac

/-! FnJ -/
/- FnJ: comparisons of lists; cells, ways; faces together; strokes turned. -/
namespace Go.Mac
open Go Go.Conc Go.Proofs
set_option maxRecDepth 4000

def cList (l : List Int) : List AV := [ints l]
@[simp] theorem cList_len (n) : (cList n).length = 1 := rfl

theorem eqStrings_ok (a b : List (List UInt8)) (hla : a.length < 9223372036854775807) (hsa : ∀ s ∈ a, s.length ≤ 4000000000) (hsb : ∀ s ∈ b, s.length ≤ 4000000000) : PureA Try.prog 59 [sliceOf cStr a, sliceOf cStr b] (.bool (a == b)) := by
  refine PureA.of_wpp { cut := [13] } 29 mixed Try.func59 (by kernel_rfl) rfl (by kernel_rfl) (rfl) fun h j hB => ?_
  simp only [junk_succ, junk_zero, List.cons_append, List.nil_append, List.length_cons, List.length_nil, Nat.reduceAdd]
  simp (implicitDefEqProofs := false) (dsimp := false) only [go_sem]
  refine WP.loopI (fun (x : Nat × Bool) s => x.1 ≤ a.length ∧ (x.2 = true ↔ a.length = b.length ∧ a.take x.1 = b.take x.1) ∧ s.sl.length = 31 ∧ s.df = [] ∧ s.gh = {} ∧ s.hp = h ∧ evA s.sl (.tmp 0) = sliceOf cStr a ∧ evA s.sl (.tmp 1) = sliceOf cStr b ∧ evA s.sl (.tmp 5) = .bool x.2 ∧ evA s.sl (.tmp 6) = .int .i64 x.1) (fun x => a.length - x.1) (0, a.length == b.length) ?_ ?_
  · simp (implicitDefEqProofs := false) (dsimp := false) only [go_sem]
    refine ⟨Nat.zero_le _, ?_⟩
    rw [Bool.eq_iff_iff]; simp; omega
  · rintro ⟨i, q⟩ ⟨sl, df, hp, gh⟩ ⟨h1, hq, h2, rfl, rfl, rfl, h3, h4, h5, h6⟩
    simp only at h1 hq h2 h3 h4 h5 h6
    obtain ⟨j, rfl⟩ := slots_lit h2; clear h2; simp only [junk_succ, junk_zero, evA_tmp, nth_16, nth_four, nth_one, nth_zero, Nat.zero_add, Nat.reduceAdd] at  h3 h4 h5 h6 ⊢
    refine wp_ok (so := { cut := [13] }) mixed _ (by kernel_rfl) ?_
    cases q with
    | false =>
      simp (implicitDefEqProofs := false) (dsimp := false) only [go_sem, h3, h4, h5, h6]
      symm
      rw [beq_eq_false_iff_ne]
      rintro rfl
      simp at hq
    | true =>
      obtain ⟨e1, e2⟩ := hq.1 rfl
      by_cases hi : i < a.length
      · have hib : i < b.length := by omega
        simp (implicitDefEqProofs := false) (dsimp := false) only [go_sem, h3, h4, h5, h6, row1 cStr_len hi, row1 cStr_len hib, row1_le cStr_len hi, row1_le cStr_len hib, cStr, nat_lt hi, nat_lt hib, decide_true, wrap_succ (show i < 9223372036854775807 by omega)]
        refine ⟨by have := hsa _ (List.getElem_mem hi); have := hsb _ (List.getElem_mem hib); omega, ?_⟩
        refine ⟨(i + 1, a[i] == b[i]), ⟨hi, ?_, rfl, rfl⟩, by simp only; omega⟩
        rw [beq_iff_eq, take_eq_succ hi hib e2]
        simp [e1]
      · have hs : ((i : Int) < (a.length : Int)) = False := eq_false (by omega)
        simp (implicitDefEqProofs := false) (dsimp := false) only [go_sem, h3, h4, h5, h6,  hs, decide_false]
        have : i = a.length := by omega
        subst this
        rw [List.take_length, e1, List.take_length] at e2
        simp [e2]

theorem eqLists_ok (a b : List (List Int)) (hla : a.length < 9223372036854775807) (hsa : ∀ s ∈ a, s.length < 9223372036854775807) : PureA Try.prog 43 [sliceOf cList a, sliceOf cList b] (.bool (a == b)) := by
  refine PureA.of_wpp { cut := [13] } 29 mixed Try.func43 (by kernel_rfl) rfl (by kernel_rfl) (rfl) fun h j hB => ?_
  simp only [junk_succ, junk_zero, List.cons_append, List.nil_append, List.length_cons, List.length_nil, Nat.reduceAdd]
  simp (implicitDefEqProofs := false) (dsimp := false) only [go_sem]
  refine WP.loopI (fun (x : Nat × Bool) s => x.1 ≤ a.length ∧ (x.2 = true ↔ a.length = b.length ∧ a.take x.1 = b.take x.1) ∧ s.sl.length = 31 ∧ s.df = [] ∧ s.gh = {} ∧ s.hp = h ∧ evA s.sl (.tmp 0) = sliceOf cList a ∧ evA s.sl (.tmp 1) = sliceOf cList b ∧ evA s.sl (.tmp 5) = .bool x.2 ∧ evA s.sl (.tmp 6) = .int .i64 x.1) (fun x => a.length - x.1) (0, a.length == b.length) ?_ ?_
  · simp (implicitDefEqProofs := false) (dsimp := false) only [go_sem]
    refine ⟨Nat.zero_le _, ?_⟩
    rw [Bool.eq_iff_iff]; simp; omega
  · rintro ⟨i, q⟩ ⟨sl, df, hp, gh⟩ ⟨h1, hq, h2, rfl, rfl, rfl, h3, h4, h5, h6⟩
    simp only at h1 hq h2 h3 h4 h5 h6
    obtain ⟨j, rfl⟩ := slots_lit h2; clear h2; simp only [junk_succ, junk_zero, evA_tmp, nth_16, nth_four, nth_one, nth_zero, Nat.zero_add, Nat.reduceAdd] at  h3 h4 h5 h6 ⊢
    refine wp_ok (so := { cut := [13] }) mixed _ (by kernel_rfl) ?_
    cases q with
    | false =>
      simp (implicitDefEqProofs := false) (dsimp := false) only [go_sem, h3, h4, h5, h6]
      symm
      rw [beq_eq_false_iff_ne]
      rintro rfl
      simp at hq
    | true =>
      obtain ⟨e1, e2⟩ := hq.1 rfl
      by_cases hi : i < a.length
      · have hib : i < b.length := by omega
        simp (implicitDefEqProofs := false) (dsimp := false) only [go_sem, h3, h4, h5, h6, row1 cList_len hi, row1 cList_len hib, row1_le cList_len hi, row1_le cList_len hib, cList, nat_lt hi, nat_lt hib, decide_true, wrap_succ (show i < 9223372036854775807 by omega)]
        (first | refine CallsA.use (eqInts_ok a[i] b[i] (hsa _ (List.getElem_mem hi))) ?_ | refine QuietCalls.use (eqInts_ok a[i] b[i] (hsa _ (List.getElem_mem hi))) ?_)
        simp (implicitDefEqProofs := false) (dsimp := false) only [go_sem, wrap_succ (show i < 9223372036854775807 by omega)]
        refine ⟨(i + 1, a[i] == b[i]), ⟨hi, ?_, rfl, rfl⟩, by simp only; omega⟩
        rw [beq_iff_eq, take_eq_succ hi hib e2]
        simp [e1]
      · have hs : ((i : Int) < (a.length : Int)) = False := eq_false (by omega)
        simp (implicitDefEqProofs := false) (dsimp := false) only [go_sem, h3, h4, h5, h6,  hs, decide_false]
        have : i = a.length := by omega
        subst this
        rw [List.take_length, e1, List.take_length] at e2
        simp [e2]

theorem hasCell_ok (b : Board) (m : List (Int × Int)) (r c : Int) (h0 : 0 < b.cells.length) : PureA Try.prog 80 [.agg (bdA b m), .int .i64 r, .int .i64 c] (.bool (decide (0 ≤ r) && decide (r < b.cells.length) && (decide (0 ≤ c) && decide (c < (b.cells.headD []).length)))) := by
  refine PureA.of_wpp { cut := [9, 17, 21] } 28 mixed Try.func80 (by kernel_rfl) rfl (by kernel_rfl) (rfl) fun h j hB => ?_
  simp only [junk_succ, junk_zero, List.cons_append, List.nil_append, List.length_cons, List.length_nil, Nat.reduceAdd]
  simp (implicitDefEqProofs := false) (dsimp := false) only [go_sem, bdA, cells_get0 h0, cells_len1, show (1 ≤ b.cells.length) = True from eq_true h0]
  refine ⟨fun c1 => ⟨fun c2 => ⟨fun c3 => ⟨⟨by omega, by omega⟩, ?_⟩, fun c3 => ?_⟩, fun c2 => ?_⟩, fun c1 => ?_⟩
  · simp [c1, c2, c3]
  · simp [c3]
  · simp [c2]
  · simp [c1]

/-- A number that an int can be. -/
def isI64 (n : Int) : Prop := -9223372036854775808 ≤ n ∧ n ≤ 9223372036854775807
theorem wrap_neg {n : Int} (h : isI64 n) : IntKind.i64.wrap (0 - n) = if n = -9223372036854775808 then n else -n := by
  obtain ⟨h1, h2⟩ := h
  by_cases e : n = -9223372036854775808
  · subst e; decide
  · rw [if_neg e, wrap64 (by omega) (by omega)]; omega
/-- The error of a way. -/
def layErr (b : Board) (l : Lay) : Int := if ¬ (0 ≤ l.page ∧ l.page < b.pages.length) then 3 else if 1 < l.down ∨ l.down < -1 ∨ 1 < l.right ∨ l.right < -1 then 1 else 0
theorem checkLay_ok (b : Board) (m : List (Int × Int)) (l : Lay) (hd : isI64 l.down) (hr : isI64 l.right) : PureA Try.prog 64 [.agg (bdA b m), .agg (cLay l)] (.int .i64 (layErr b l)) := by
  refine PureA.of_wpp { cut := [22] } 28 mixed Try.func64 (by kernel_rfl) rfl (by kernel_rfl) (rfl) fun h j hB => ?_
  simp only [junk_succ, junk_zero, List.cons_append, List.nil_append, List.length_cons, List.length_nil, Nat.reduceAdd]
  simp (implicitDefEqProofs := false) (dsimp := false) only [go_sem, bdA, cLay]
  (first | refine CallsA.use (hasPage_ok b m l.page) ?_ | refine QuietCalls.use (hasPage_ok b m l.page) ?_)
  simp (implicitDefEqProofs := false) (dsimp := false) only [go_sem, wrap_neg hd, wrap_neg hr, List.foldl_cons, List.foldl_nil]
  refine ⟨fun c1 => ?_, fun c1 => ?_⟩
  · have : ¬ (0 ≤ l.page ∧ l.page < b.pages.length) := by
      simp at c1; omega
    simp only [layErr, if_pos this]
  have hp : ¬ ¬ (0 ≤ l.page ∧ l.page < b.pages.length) := by
    simp at c1; omega
  obtain ⟨d1, d2⟩ := hd
  obtain ⟨r1, r2⟩ := hr
  simp only [layErr, if_neg hp]
  refine ⟨fun c2 => ?_, fun c2 => ⟨fun c3 => ?_, fun c3 => ?_⟩⟩
  · split
    · rfl
    · exfalso; (repeat' split at c2) <;> omega
  · split
    · rfl
    · exfalso; (repeat' split at c3) <;> omega
  · split
    · exfalso; (repeat' split at c2) <;> (repeat' split at c3) <;> omega
    · rfl

def turnErr (n : Int) : Int := if n < 0 ∨ 63 < n then 1 else 0
theorem turn_ok (n : Int) : PureA Try.prog 30 [.int .i64 n] (.tup [.int .i64 (if turnErr n = 0 then turnB n else 0), .int .i64 (turnErr n)]) := by
  refine PureA.of_wpp { cut := [6] } 11 mixed Try.func30 (by kernel_rfl) rfl (by kernel_rfl) (rfl) fun h j hB => ?_
  simp only [junk_succ, junk_zero, List.cons_append, List.nil_append, List.length_cons, List.length_nil, Nat.reduceAdd]
  simp (implicitDefEqProofs := false) (dsimp := false) only [go_sem]
  refine ⟨fun c1 => ?_, fun c1 => ⟨fun c2 => ?_, fun c2 => ?_⟩⟩
  · simp [turnErr, show n < 0 by simpa using c1]
  · simp [turnErr, show 63 < n by simpa using c2]
  · (first | refine CallsA.use (turned_ok n) ?_ | refine QuietCalls.use (turned_ok n) ?_)
    simp (implicitDefEqProofs := false) (dsimp := false) only [go_sem]
    have : ¬ (n < 0 ∨ 63 < n) := by simp at c1 c2; omega
    simp [turnErr, this]
end Go.Mac

/-! FnW -/
/- FnW: the chapter's examples. -/
namespace Go.Mac
open Go Go.Conc Go.Proofs
set_option maxRecDepth 4000

def boardB (a b c d : Trace) : Board := ⟨[⟨[98], 9⟩, ⟨[99], 4⟩, ⟨[100], 6⟩, ⟨[105], 48⟩, ⟨[111], 12⟩], [[[98, 99], [45, 105]], [[99, 100], [105, 45]], [[111, 111]]], [[a, b], [c, d]]⟩
def openB : Board := boardB ⟨8, 0⟩ ⟨0, 0⟩ ⟨0, 0⟩ ⟨0, 0⟩
def extraB : Board := boardB ⟨9, 0⟩ ⟨2, 0⟩ ⟨16, 0⟩ ⟨0, 0⟩

theorem open_valid : boardErr openB = 0 := by kernel_rfl
theorem extra_valid : boardErr extraB = 0 := by kernel_rfl
theorem open_lays : (laysB openB).map Prod.fst = [⟨0, false, 0, 0⟩, ⟨1, false, 0, -1⟩, ⟨1, false, 0, 0⟩, ⟨1, true, -1, -1⟩, ⟨2, false, 0, -1⟩, ⟨2, false, 0, 0⟩] := by kernel_rfl
theorem extra_emend : emendR extraB 0 = (some ⟨[[98, 100], [45, 105]], 1, ⟨0, false, 0, 0⟩⟩, 0) := by kernel_rfl
theorem extra_double : DoubleR extraB 0 1 = (3, 0) := by kernel_rfl
theorem open_next : NextR openB = (0, 0, 2, 0) := by kernel_rfl
theorem open_alike : alikeR openB = [(0, 1)] := by kernel_rfl

theorem lay_ok (p d r : Int) : PureA Try.prog 54 [.int .i64 p, .int .i64 d, .int .i64 r] (.agg (cLay ⟨p, false, d, r⟩)) := by
  refine PureA.of_wpp {} 8 mixed Try.func54 (by kernel_rfl) rfl (by kernel_rfl) (rfl) fun h j hB => ?_
  simp only [junk_succ, junk_zero, List.cons_append, List.nil_append, List.length_cons, List.length_nil, Nat.reduceAdd]
  simp (implicitDefEqProofs := false) (dsimp := false) only [go_sem]
  rfl
theorem half_ok (p d r : Int) : PureA Try.prog 55 [.int .i64 p, .int .i64 d, .int .i64 r] (.agg (cLay ⟨p, true, d, r⟩)) := by
  refine PureA.of_wpp {} 11 mixed Try.func55 (by kernel_rfl) rfl (by kernel_rfl) (rfl) fun h j hB => ?_
  simp only [junk_succ, junk_zero, List.cons_append, List.nil_append, List.length_cons, List.length_nil, Nat.reduceAdd]
  simp (implicitDefEqProofs := false) (dsimp := false) only [go_sem]
  (first | refine CallsA.use (lay_ok p d r) ?_ | refine QuietCalls.use (lay_ok p d r) ?_)
  simp (implicitDefEqProofs := false) (dsimp := false) only [go_sem, cLay]
theorem brdA_belowA (b : Board) : below 0 (.agg (brdA b)) = true := slices_below b
theorem board_ok (a b c d : Trace) : PureA Try.prog 96 [.agg (cTrace a), .agg (cTrace b), .agg (cTrace c), .agg (cTrace d)] (.agg (brdA (boardB a b c d))) := by
  refine PureA.of_wpp { shut := [14, 15, 16, 17, 18, 21, 24, 25] } 23 mixed Try.func96 (by kernel_rfl) rfl (by kernel_rfl) (brdA_belowA _) fun h j hB => ?_
  simp only [junk_succ, junk_zero, List.cons_append, List.nil_append, List.length_cons, List.length_nil, Nat.reduceAdd]
  simp (implicitDefEqProofs := false) (dsimp := false) only [go_sem, cTrace]
  rfl
theorem openB_ok : PureA Try.prog 56 [] (.agg (brdA openB)) := by
  refine PureA.of_wpp {} 6 mixed Try.func56 (by kernel_rfl) rfl (by kernel_rfl) (brdA_belowA _) fun h j hB => ?_
  simp only [junk_succ, junk_zero, List.cons_append, List.nil_append, List.length_cons, List.length_nil, Nat.reduceAdd]
  simp (implicitDefEqProofs := false) (dsimp := false) only [go_sem]
  (first | refine CallsA.use (board_ok ⟨8, 0⟩ ⟨0, 0⟩ ⟨0, 0⟩ ⟨0, 0⟩) ?_ | refine QuietCalls.use (board_ok ⟨8, 0⟩ ⟨0, 0⟩ ⟨0, 0⟩ ⟨0, 0⟩) ?_)
  simp (implicitDefEqProofs := false) (dsimp := false) only [go_sem, brdA]
  rfl
theorem extraB_ok : PureA Try.prog 58 [] (.agg (brdA extraB)) := by
  refine PureA.of_wpp {} 6 mixed Try.func58 (by kernel_rfl) rfl (by kernel_rfl) (brdA_belowA _) fun h j hB => ?_
  simp only [junk_succ, junk_zero, List.cons_append, List.nil_append, List.length_cons, List.length_nil, Nat.reduceAdd]
  simp (implicitDefEqProofs := false) (dsimp := false) only [go_sem]
  (first | refine CallsA.use (board_ok ⟨9, 0⟩ ⟨2, 0⟩ ⟨16, 0⟩ ⟨0, 0⟩) ?_ | refine QuietCalls.use (board_ok ⟨9, 0⟩ ⟨2, 0⟩ ⟨16, 0⟩ ⟨0, 0⟩) ?_)
  simp (implicitDefEqProofs := false) (dsimp := false) only [go_sem, brdA]
  rfl
theorem eqLay {d : Nat} {a0 a2 a3 b0 b2 b3 : Int} {a1 b1 : Bool} : eqA Try.prog (d + 2) 44 (.agg [.int .i64 a0, .bool a1, .int .i64 a2, .int .i64 a3]) (.agg [.int .i64 b0, .bool b1, .int .i64 b2, .int .i64 b3]) = some (decide (Lay.mk a0 a1 a2 a3 = Lay.mk b0 b1 b2 b3)) := by
  have hu := under_ty ty44
  have e : ∀ a b : Int, eqA Try.prog (d + 1) 3 (.int .i64 a) (.int .i64 b) = some (a == b) := fun a b => eqA_int ty3 rfl
  have eb : ∀ a b : Bool, eqA Try.prog (d + 1) 4 (.bool a) (.bool b) = some (a == b) := fun a b => by
    simp only [eqA, under_ty ty4, ty4]
  have hs : (Try.prog.stoodInHeld 44) = false := by kernel_rfl
  have hq := eqAll_some [a0 == b0, a1 == b1, a2 == b2, a3 == b3]
  simp only [List.map_cons, List.map_nil] at hq
  unfold eqA
  simp only [hu, ty44, hs, ty3, ty4, List.map_cons, List.map_nil, Bool.false_eq_true, if_false, partA, aggD, List.getD_cons_zero, List.getD_cons_succ, e, eb]
  rw [if_neg (by decide), if_neg (by decide), if_neg (by decide), if_neg (by decide), hq]
  congr 1
  rw [Bool.eq_iff_iff]
  simp [and_assoc]
theorem eqGuardL : (Try.prog.eqGuardType Try.prog.depth 44 = false) = True := eq_true (by kernel_rfl)
theorem eqLays_ok (a b : List Lay) (hla : a.length < 9223372036854775807) : PureA Try.prog 57 [sliceOf cLay a, sliceOf cLay b] (.bool (decide (a = b))) := by
  refine PureA.of_wpp {} 24 mixed Try.func57 (by kernel_rfl) rfl (by kernel_rfl) (rfl) fun h j hB => ?_
  simp only [junk_succ, junk_zero, List.cons_append, List.nil_append, List.length_cons, List.length_nil, Nat.reduceAdd]
  simp (implicitDefEqProofs := false) (dsimp := false) only [go_sem]
  refine ⟨fun e => ?_, fun e => ?_⟩
  · symm
    rw [decide_eq_false_iff_not]
    rintro rfl
    simp at e
  have e1 : a.length = b.length := by simp at e; omega
  refine WP.loopI (fun (i : Nat) s => (i ≤ a.length ∧ a.take i = b.take i) ∧ s.sl.length = 26 ∧ s.df = [] ∧ s.gh = {} ∧ (s.hp = h) ∧ evA s.sl (.tmp 0) = sliceOf cLay a ∧ evA s.sl (.tmp 1) = sliceOf cLay b ∧ evA s.sl (.tmp 5) = .int .i64 i) (fun (i : Nat) => a.length - i) (0) ?_ ?_
  · simp (implicitDefEqProofs := false) (dsimp := false) only [go_sem, Nat.zero_le, List.take_zero]
  · rintro i ⟨sl, df, hp, gh⟩ ⟨xb, xl, rfl, rfl, rfl, x0, x1, x5⟩
    simp only at xb xl x0 x1 x5
    obtain ⟨j, rfl⟩ := slots_lit xl; clear xl; simp only [junk_succ, junk_zero, evA_tmp, nth_16, nth_four, nth_one, nth_zero, Nat.zero_add, Nat.reduceAdd] at  x0 x1 x5 ⊢
    refine wp_ok (so := {}) mixed _ (by kernel_rfl) ?_
    obtain ⟨h1, e2⟩ := xb
    by_cases hi : i < a.length
    · have hib : i < b.length := by omega
      simp (implicitDefEqProofs := false) (dsimp := false) only [go_sem, x0, x1, x5, rowN cLay_len hi, rowN cLay_len hib, rowN_le cLay_len hi, rowN_le cLay_len hib, nat_lt hi, decide_true, wrap_succ (show i < 9223372036854775807 by omega), cLay, eqLay, eqGuardL]
      refine ⟨by omega, fun e => ?_, fun e => ?_⟩
      · symm
        rw [decide_eq_false_iff_not]
        rintro rfl
        simp at e
      · have e3 : a[i] = b[i] := by simp at e; obtain ⟨q1, q2, q3, q4⟩ := e; cases ha : a[i]; cases hb : b[i]; simp_all
        exact ⟨i + 1, ⟨⟨hi, by rw [take_eq_succ hi hib e2]; exact e3⟩, rfl⟩, by omega⟩
    · have hs : ((i : Int) < (a.length : Int)) = False := eq_false (by omega)
      simp (implicitDefEqProofs := false) (dsimp := false) only [go_sem, x0, x1, x5, hs, decide_false]
      have : i = a.length := by omega
      subst this
      rw [List.take_length, e1, List.take_length] at e2
      simp [e2]
def openL : List Lay := [⟨0, false, 0, 0⟩, ⟨1, false, 0, -1⟩, ⟨1, false, 0, 0⟩, ⟨1, true, -1, -1⟩, ⟨2, false, 0, -1⟩, ⟨2, false, 0, 0⟩]
def extraP : List (List UInt8) := [[98, 100], [45, 105]]
theorem slice_map {α β : Type} (f : α → β) (g : β → List AV) (l : List α) : sliceOf g (l.map f) = sliceOf (fun x => g (f x)) l := by
  simp only [sliceOf, List.length_map, List.flatMap_map]
theorem Lays_open : PureA Try.prog 22 [.agg (brdA openB)] (.tup [sliceOf cLay openL, .int .i64 0]) := by
  have := Lays_ok openB
  rw [open_valid, show unlessErr 0 (sliceOf cLayF (laysB openB)) = sliceOf cLay openL by rw [openL, ← open_lays, slice_map]; rfl] at this
  exact this
theorem Emend_extra (h : List Blk) : QuietAt 27 [.agg (brdA extraB), .int .i64 0] h (.tup [sliceOf cStr extraP, .int .i64 1, .agg [.int .i64 0, .bool false, .int .i64 0, .int .i64 0], .int .i64 0]) := by
  have := Emend_ok extraB 0
  rw [extra_emend] at this
  exact QuietAt.of this h
theorem Next_open : PureA Try.prog 39 [.agg (brdA openB)] (.tup [.int .i64 0, .int .i64 0, .int .i64 2, .int .i64 0]) := by
  have := Next_ok openB
  rw [open_next] at this
  exact this
theorem Alike_open : PureA Try.prog 42 [.agg (brdA openB)] (.tup [sliceOf cPair [(0, 1)], .int .i64 0]) := by
  have := Alike_ok openB
  rw [open_alike, open_valid] at this
  exact this
theorem Double_extra (h : List Blk) (hro : h[0]? = some (.role true)) : QuietAt 38 [.agg (brdA extraB), .int .i64 0, .int .i64 1] h (.tup [.int .i64 3, .int .i64 0]) := by
  have := Double_ok extraB 0 1 h hro
  rw [extra_double] at this
  exact this
theorem Turn_4 : PureA Try.prog 30 [.int .i64 4] (.tup [.int .i64 2, .int .i64 0]) := turn_ok 4
section
variable {P : Program} {so : Opt} {ops : Array Oper} {h : List Blk} {K : List AV → Prop} {sl : List AV}
theorem quietL_app1 {o : Oper} {l r : List Oper} : quietL P so ops h (List.append (o :: l) r) K sl = quietL P so ops h (o :: List.append l r) K sl := rfl
theorem quietL_app0 {r : List Oper} : quietL P so ops h (List.append [] r) K sl = quietL P so ops h r K sl := rfl
end
attribute [go_sem ↓] quietL_app1 quietL_app0
theorem app_get0 {α : Type} {a : α} {l r : List α} : (List.append (a :: l) r)[0]? = some a := rfl
theorem app_getS {α : Type} {a : α} {l r : List α} {i : Nat} : (List.append (a :: l) r)[i + 1]? = (List.append l r)[i]? := rfl
theorem app_getN {α : Type} {r : List α} {i : Nat} : (List.append [] r)[i]? = r[i]? := rfl
attribute [go_sem ↓] app_get0 app_getS app_getN
theorem lay_lit (p d r : Int) : PureA Try.prog 54 [.int .i64 p, .int .i64 d, .int .i64 r] (.agg [.int .i64 p, .bool false, .int .i64 d, .int .i64 r]) := lay_ok p d r
theorem half_lit (p d r : Int) : PureA Try.prog 55 [.int .i64 p, .int .i64 d, .int .i64 r] (.agg [.int .i64 p, .bool true, .int .i64 d, .int .i64 r]) := half_ok p d r
theorem eqLays_open : PureA Try.prog 57 [.psl (openL.flatMap cLay) openL.length, .psl [.int .i64 0, .bool false, .int .i64 0, .int .i64 0, .int .i64 1, .bool false, .int .i64 0, .int .i64 (-1), .int .i64 1, .bool false, .int .i64 0, .int .i64 0, .int .i64 1, .bool true, .int .i64 (-1), .int .i64 (-1), .int .i64 2, .bool false, .int .i64 0, .int .i64 (-1), .int .i64 2, .bool false, .int .i64 0, .int .i64 0] 6] (.bool true) := by
  have := eqLays_ok openL openL (by decide)
  rw [show decide (openL = openL) = true by simp] at this
  exact this
theorem eqStrings_extra : PureA Try.prog 59 [.psl (extraP.flatMap cStr) extraP.length, .psl [.str [98, 100], .str [45, 105]] 2] (.bool true) := by
  have := eqStrings_ok extraP extraP (by decide) (by decide) (by decide)
  rw [show (extraP == extraP) = true by decide] at this
  exact this
theorem eqLists_open : PureA Try.prog 43 [.psl ([((0 : Int), (1 : Int))].flatMap cPair) 1, .psl [.psl [.int .i64 0, .int .i64 1] 2] 1] (.bool true) := by
  have := eqLists_ok [[0, 1]] [[0, 1]] (by decide) (by decide)
  exact this
theorem pressed_ok (h : List Blk) (hro : h[0]? = some (.role true)) : QuietAt 26 [] h (.bool true) := by
  unfold QuietAt
  refine CallsA.of_wpe [] { shut := [109, 114, 119, 120], cut := [52, 56, 60, 64, 68, 72, 76, 81, 85, 89, 93, 97, 101, 112, 117] } 123 mixed Try.func26 (by kernel_rfl) rfl (by kernel_rfl) fun j hB hA => ?_; simp only [junk_succ, junk_zero, List.cons_append, List.nil_append, List.length_cons, List.length_nil, Nat.reduceAdd]
  simp (implicitDefEqProofs := false) (dsimp := false) only [go_sem]
  (first | refine CallsA.use (openB_ok) ?_ | refine QuietCalls.use (openB_ok) ?_)
  simp (implicitDefEqProofs := false) (dsimp := false) only [go_sem]
  (first | refine CallsA.use (Lays_open) ?_ | refine QuietCalls.use (Lays_open) ?_)
  simp (implicitDefEqProofs := false) (dsimp := false) only [go_sem]
  (first | refine CallsA.use (extraB_ok) ?_ | refine QuietCalls.use (extraB_ok) ?_)
  simp (implicitDefEqProofs := false) (dsimp := false) only [go_sem]
  refine QuietAt.use (Emend_extra _) ?_
  simp (implicitDefEqProofs := false) (dsimp := false) only [go_sem]
  (first | refine CallsA.use (extraB_ok) ?_ | refine QuietCalls.use (extraB_ok) ?_)
  simp (implicitDefEqProofs := false) (dsimp := false) only [go_sem]
  refine QuietAt.use (Double_extra _ (by rw [List.getElem?_append_left (List.getElem?_eq_some_iff.1 hro).1]; exact hro)) ?_
  simp (implicitDefEqProofs := false) (dsimp := false) only [go_sem]
  (first | refine CallsA.use (openB_ok) ?_ | refine QuietCalls.use (openB_ok) ?_)
  simp (implicitDefEqProofs := false) (dsimp := false) only [go_sem]
  (first | refine CallsA.use (Next_open) ?_ | refine QuietCalls.use (Next_open) ?_)
  simp (implicitDefEqProofs := false) (dsimp := false) only [go_sem]
  (first | refine CallsA.use (openB_ok) ?_ | refine QuietCalls.use (openB_ok) ?_)
  simp (implicitDefEqProofs := false) (dsimp := false) only [go_sem]
  (first | refine CallsA.use (Alike_open) ?_ | refine QuietCalls.use (Alike_open) ?_)
  simp (implicitDefEqProofs := false) (dsimp := false) only [go_sem]
  (first | refine CallsA.use (Turn_4) ?_ | refine QuietCalls.use (Turn_4) ?_)
  simp (implicitDefEqProofs := false) (dsimp := false) only [go_sem, eqLay, eqGuardL]
  (first | refine CallsA.use (lay_lit 0 0 0) ?_ | refine QuietCalls.use (lay_lit 0 0 0) ?_)
  simp (implicitDefEqProofs := false) (dsimp := false) only [go_sem, eqLay, eqGuardL, eq_self, decide_true]
  (first | refine CallsA.use (lay_lit 0 0 0) ?_ | refine QuietCalls.use (lay_lit 0 0 0) ?_)
  simp (implicitDefEqProofs := false) (dsimp := false) only [go_sem]
  (first | refine CallsA.use (lay_lit 1 0 (-1)) ?_ | refine QuietCalls.use (lay_lit 1 0 (-1)) ?_)
  simp (implicitDefEqProofs := false) (dsimp := false) only [go_sem]
  (first | refine CallsA.use (lay_lit 1 0 0) ?_ | refine QuietCalls.use (lay_lit 1 0 0) ?_)
  simp (implicitDefEqProofs := false) (dsimp := false) only [go_sem]
  (first | refine CallsA.use (half_lit 1 (-1) (-1)) ?_ | refine QuietCalls.use (half_lit 1 (-1) (-1)) ?_)
  simp (implicitDefEqProofs := false) (dsimp := false) only [go_sem]
  (first | refine CallsA.use (lay_lit 2 0 (-1)) ?_ | refine QuietCalls.use (lay_lit 2 0 (-1)) ?_)
  simp (implicitDefEqProofs := false) (dsimp := false) only [go_sem]
  (first | refine CallsA.use (lay_lit 2 0 0) ?_ | refine QuietCalls.use (lay_lit 2 0 0) ?_)
  simp (implicitDefEqProofs := false) (dsimp := false) only [go_sem]
  (first | refine CallsA.use (eqLays_open) ?_ | refine QuietCalls.use (eqLays_open) ?_)
  simp (implicitDefEqProofs := false) (dsimp := false) only [go_sem]
  (first | refine CallsA.use (eqStrings_extra) ?_ | refine QuietCalls.use (eqStrings_extra) ?_)
  simp (implicitDefEqProofs := false) (dsimp := false) only [go_sem]
  (first | refine CallsA.use (eqLists_open) ?_ | refine QuietCalls.use (eqLists_open) ?_)
  simp (implicitDefEqProofs := false) (dsimp := false) only [go_sem]
  exact quiet_fine hB rfl
end Go.Mac

/-! FnX -/
/- FnX: dice. -/
namespace Go.Mac
open Go Go.Conc Go.Proofs
set_option maxRecDepth 4000

/-- What is left of the numbers. -/
def leftA : Option (List Int) → AV
  | none => .nilsl
  | some l => ints l
def diceB (r : Option (List Int)) (x : Int) : Blk := .cells 0 [leftA r, .int .u64 x]
def isU64 (x : Int) : Prop := 0 ≤ x ∧ x < 18446744073709551616

theorem wrapU (n : Int) : isU64 (IntKind.u64.wrap n) := by
  have e : IntKind.u64.wrap n = n % 18446744073709551616 := by
    simp [IntKind.wrap, IntKind.bits, IntKind.signed]
  rw [isU64, e]; omega
theorem xorU (a b : Int) : isU64 (xorK .u64 a b) := wrapU _
theorem shr32 {x : Int} (h : isU64 x) : 0 ≤ shrK .u64 x 32 ∧ shrK .u64 x 32 < 4294967296 := by
  have e : shrK .u64 x 32 = x / 4294967296 := by
    unfold shrK
    rw [show min (32 : Int).toNat IntKind.u64.bits = 32 by decide, show (2 : Int) ^ 32 = 4294967296 by decide, Int.fdiv_eq_ediv_of_nonneg _ (by decide)]
  rw [e]; unfold isU64 at h; omega
theorem leftA_below (r : Option (List Int)) (n : Nat) : below n (leftA r) = true := by
  cases r with
  | none => rfl
  | some l => exact below_mono (Nat.zero_le n) _ (below_psl (f := cInt) (fun _ => rfl) l)
theorem diceB_below (r : Option (List Int)) (x : Int) (n : Nat) : belowBlk n (diceB r x) = true := by
  simp only [diceB, belowBlk, belowL, leftA_below, below, Bool.and_self]
theorem all_set {P : Blk → Bool} {h : List Blk} {i : Nat} {b : Blk} (hh : h.all P = true) (hb : P b = true) : (h.set i b).all P = true := by
  rw [List.all_eq_true] at *
  intro x hx
  rcases List.mem_or_eq_of_mem_set hx with hx | rfl
  · exact hh x hx
  · exact hb
/-- The end of a function that changes one block ahead. -/
theorem set_end {h : List Blk} {i : Nat} {b : Blk} {v : AV} {Q : AEnd → List Blk → Prop} (hb : h.all (belowBlk h.length) = true) (hb2 : belowBlk h.length b = true) (hv : below h.length v = true) (hq : Q (.ret v) (h.set i b)) :
    ∃ v' n, v = v' ∧ h.length ≤ n ∧ below n v' = true ∧ ((h.set i b).take n).all (belowBlk n) = true ∧ Q (.ret v') ((h.set i b).take n) := by
  refine ⟨v, h.length, rfl, Nat.le_refl _, hv, ?_, ?_⟩ <;> rw [List.take_of_length_le (by simp)]
  · exact all_set hb hb2
  · exact hq
/-- What a function gives that rolls dice: any of some values; only the dice change. -/
def Rolls (f : FuncId) (args : List AV) (h : List Blk) (i : Nat) (A : AV → Prop) : Prop :=
  CallsA Try.prog f args h fun e h' => ∃ v r' x', e = .ret v ∧ A v ∧ h' = h.set i (diceB r' x')
theorem Rolls.use {f : FuncId} {args : List AV} {h : List Blk} {i : Nat} {A : AV → Prop} {Post : AEnd → List Blk → Prop} (c : Rolls f args h i A) (hp : ∀ v r' x', A v → Post (.ret v) (h.set i (diceB r' x'))) : CallsA Try.prog f args h Post := by
  refine CallsA.mono c ?_
  rintro _ _ ⟨v, r', x', rfl, q, rfl⟩
  exact hp v r' x' q
theorem rolls_end {h : List Blk} {i : Nat} {r : Option (List Int)} {x : Int} {v : AV} {A : AV → Prop} (hb : h.all (belowBlk h.length) = true) (hv : below h.length v = true) (hq : A v) :
    ∃ v' n, v = v' ∧ h.length ≤ n ∧ below n v' = true ∧ ((h.set i (diceB r x)).take n).all (belowBlk n) = true ∧ ∃ v1 r' x', AEnd.ret v' = .ret v1 ∧ A v1 ∧ (h.set i (diceB r x)).take n = h.set i (diceB r' x') :=
  set_end (Q := fun e h' => ∃ v1 r' x', e = .ret v1 ∧ A v1 ∧ h' = h.set i (diceB r' x')) hb (diceB_below r x _) hv ⟨v, r, x, rfl, hq, rfl⟩
/-- What rolls dice gives one value, which hangs on the dice alone. -/
def Det (f : FuncId) (args : Nat → List AV) (r : Option (List Int)) (x : Int) (A : AV → Prop) : Prop :=
  ∃ v r' x', A v ∧ ∀ h i, h[i]? = some (diceB r x) → CallsA Try.prog f (args i) h fun e h' => e = .ret v ∧ h' = h.set i (diceB r' x')
theorem Det.rolls {f : FuncId} {args : Nat → List AV} {r : Option (List Int)} {x : Int} {A : AV → Prop} {h : List Blk} {i : Nat} (c : Det f args r x A) (hi : h[i]? = some (diceB r x)) : Rolls f (args i) h i A := by
  obtain ⟨v, r', x', ha, c⟩ := c
  refine CallsA.mono (c h i hi) ?_
  rintro _ _ ⟨rfl, rfl⟩
  exact ⟨v, r', x', rfl, ha, rfl⟩
theorem det_end {h : List Blk} {i : Nat} {r : Option (List Int)} {x : Int} {v : AV} (hb : h.all (belowBlk h.length) = true) (hv : below h.length v = true) :
    ∃ v' n, v = v' ∧ h.length ≤ n ∧ below n v' = true ∧ ((h.set i (diceB r x)).take n).all (belowBlk n) = true ∧ (AEnd.ret v' = .ret v ∧ (h.set i (diceB r x)).take n = h.set i (diceB r x)) :=
  set_end (Q := fun e h' => e = .ret v ∧ h' = h.set i (diceB r x)) hb (diceB_below r x _) hv ⟨rfl, rfl⟩
def lastD (x more : Int) : Int :=
  let y := IntKind.u64.wrap (IntKind.u64.wrap (IntKind.u64.wrap (x + more) + 6364136223846793005) * 15074714826142052245)
  xorK .u64 y (shrK .u64 y 29)
def outD (x : Int) : Int := shrK .u64 (IntKind.u64.wrap (xorK .u64 x (shrK .u64 x 33) * 18397679294719823053)) 32
theorem roll_det (r : Option (List Int)) (x : Int) : Det 61 (fun i => [.ptr ⟨i, 0⟩ 0]) r x fun a => ∃ v, a = .int .u64 v ∧ (0 ≤ v ∧ v < 4294967296) := by
  unfold Det
  rcases r with _ | _ | ⟨a, l⟩
  · refine ⟨.int .u64 (outD (lastD x 0)), none, lastD x 0, ⟨_, rfl, shr32 (wrapU _)⟩, fun h i hi => ?g⟩
    case g =>
      have hl : i < h.length := (List.getElem?_eq_some_iff.1 hi).1
      have hs : ∀ b : Blk, (h.set i b)[i]? = some b := fun b => List.getElem?_set_self hl
      refine CallsA.of_wpe [] { tail := [(6, 11)] } 62 mixed Try.func61 (by kernel_rfl) rfl (by kernel_rfl) fun j hB hA => ?_; simp only [junk_succ, junk_zero, List.cons_append, List.nil_append, List.length_cons, List.length_nil, Nat.reduceAdd]
      simp (implicitDefEqProofs := false) (dsimp := false) only [go_sem, hi, diceB, leftA, hs, List.set_set]
      exact det_end (r := none) hB (by rfl)
  · refine ⟨.int .u64 (outD (lastD x 0)), some [], lastD x 0, ⟨_, rfl, shr32 (wrapU _)⟩, fun h i hi => ?g⟩
    case g =>
      have hl : i < h.length := (List.getElem?_eq_some_iff.1 hi).1
      have hs : ∀ b : Blk, (h.set i b)[i]? = some b := fun b => List.getElem?_set_self hl
      refine CallsA.of_wpe [] { tail := [(6, 11)] } 62 mixed Try.func61 (by kernel_rfl) rfl (by kernel_rfl) fun j hB hA => ?_; simp only [junk_succ, junk_zero, List.cons_append, List.nil_append, List.length_cons, List.length_nil, Nat.reduceAdd]
      simp (implicitDefEqProofs := false) (dsimp := false) only [go_sem, hi, diceB, leftA, hs, List.set_set, ints]
      exact det_end (r := some []) hB (by rfl)
  · refine ⟨.int .u64 (outD (lastD x (IntKind.u64.wrap a))), some l, lastD x (IntKind.u64.wrap a), ⟨_, rfl, shr32 (wrapU _)⟩, fun h i hi => ?g⟩
    case g =>
      have hl : i < h.length := (List.getElem?_eq_some_iff.1 hi).1
      have hs : ∀ b : Blk, (h.set i b)[i]? = some b := fun b => List.getElem?_set_self hl
      have h0 : (((l.length + 1 : Nat) : Int) > 0) = True := eq_true (by omega)
      have hfl : (l.flatMap cInt).length = l.length := by rw [length_rows cInt_len, Nat.mul_one]
      have htk : (l.flatMap cInt).take l.length = l.flatMap cInt := List.take_of_length_le (by omega)
      refine CallsA.of_wpe [] { tail := [(6, 11)] } 62 mixed Try.func61 (by kernel_rfl) rfl (by kernel_rfl) fun j hB hA => ?_; simp only [junk_succ, junk_zero, List.cons_append, List.nil_append, List.length_cons, List.length_nil, Nat.reduceAdd]
      simp (implicitDefEqProofs := false) (dsimp := false) only [go_sem, hi, diceB, leftA, hs, List.set_set, ints, List.flatMap_cons, cInt, h0, decide_true, hfl, htk, Nat.add_sub_cancel, Nat.le_refl]
      refine ⟨⟨by omega, by omega⟩, ?_⟩
      exact det_end (r := some l) hB (by rfl)
theorem To_det (r : Option (List Int)) (x n : Int) (hn : n ≤ 1000) : Det 19 (fun i => [.ptr ⟨i, 0⟩ 0, .int .i64 n]) r x fun a => ∃ v : Nat, a = .int .i64 v ∧ (v : Int) ≤ max n 0 := by
  unfold Det
  by_cases c : n ≤ 0
  · refine ⟨.int .i64 0, r, x, ⟨0, rfl, by omega⟩, fun h i hi => ?_⟩
    refine CallsA.of_wpe [] {} 13 mixed Try.func19 (by kernel_rfl) rfl (by kernel_rfl) fun j hB hA => ?_; simp only [junk_succ, junk_zero, List.cons_append, List.nil_append, List.length_cons, List.length_nil, Nat.reduceAdd]
    simp (implicitDefEqProofs := false) (dsimp := false) only [go_sem, eq_true c, decide_true]
    have := det_end (i := i) (r := r) (x := x) (v := .int .i64 0) hB rfl
    rw [set_same hi] at this ⊢
    exact this
  · obtain ⟨_, r', x', ⟨v, rfl, hv⟩, c1⟩ := roll_det r x
    have c' : 0 < n := by omega
    have e : IntKind.i64.wrap (shrK IntKind.u64 (IntKind.u64.wrap (v * IntKind.u64.wrap (IntKind.i64.wrap (n + 1)))) 32) = ((v * (n + 1) / 4294967296).toNat : Int) ∧ v * (n + 1) / 4294967296 ≤ n ∧ 0 ≤ v * (n + 1) / 4294967296 := by
      obtain ⟨m, rfl⟩ : ∃ m : Nat, n = m := ⟨n.toNat, by omega⟩
      obtain ⟨w, rfl⟩ : ∃ w : Nat, v = w := ⟨v.toNat, by omega⟩
      have h1 : w * (m + 1) ≤ 4294967295 * (m + 1) := Nat.mul_le_mul_right _ (by omega)
      have h2 : ((w : Int) * ((m : Int) + 1)) = ((w * (m + 1) : Nat) : Int) := by simp
      have eU : ∀ k : Int, 0 ≤ k → k < 18446744073709551616 → IntKind.u64.wrap k = k := by
        intro k a1 a2
        have e : IntKind.u64.wrap k = k % 18446744073709551616 := by simp [IntKind.wrap, IntKind.bits, IntKind.signed]
        rw [e]; omega
      have eS : ∀ k : Int, shrK .u64 k 32 = k / 4294967296 := by
        intro k
        unfold shrK
        rw [show min (32 : Int).toNat IntKind.u64.bits = 32 by decide, show (2 : Int) ^ 32 = 4294967296 by decide, Int.fdiv_eq_ediv_of_nonneg _ (by decide)]
      rw [show IntKind.i64.wrap ((m : Int) + 1) = (m : Int) + 1 from wrap64 (by omega) (by omega), eU ((m : Int) + 1) (by omega) (by omega), h2]
      generalize w * (m + 1) = z at *
      rw [eU (z : Int) (by omega) (by omega), eS, wrap64 (by omega) (by omega)]
      omega
    refine ⟨.int .i64 ((v * (n + 1) / 4294967296).toNat : Nat), r', x', ⟨_, rfl, by omega⟩, fun h i hi => ?_⟩
    refine CallsA.of_wpe [] {} 13 mixed Try.func19 (by kernel_rfl) rfl (by kernel_rfl) fun j hB hA => ?_; simp only [junk_succ, junk_zero, List.cons_append, List.nil_append, List.length_cons, List.length_nil, Nat.reduceAdd]
    simp (implicitDefEqProofs := false) (dsimp := false) only [go_sem, eq_false c, decide_false]
    refine CallsA.mono (c1 h i hi) ?_
    rintro _ _ ⟨rfl, rfl⟩
    simp (implicitDefEqProofs := false) (dsimp := false) only [go_sem]
    rw [e.1]
    exact det_end hB rfl
theorem Once_det (r : Option (List Int)) (x n : Int) (hn0 : 0 ≤ n) (hn : n ≤ 1000) : Det 20 (fun i => [.ptr ⟨i, 0⟩ 0, .int .i64 n]) r x fun a => ∃ v : Bool, a = .bool v := by
  unfold Det
  obtain ⟨_, r', x', ⟨v, rfl, hv⟩, c1⟩ := To_det r x (n - 1) (by omega)
  apply Exists.intro
  refine ⟨r', x', ?a, fun h i hi => ?g⟩
  case g =>
    refine CallsA.of_wpe [] {} 10 mixed Try.func20 (by kernel_rfl) rfl (by kernel_rfl) fun j hB hA => ?_; simp only [junk_succ, junk_zero, List.cons_append, List.nil_append, List.length_cons, List.length_nil, Nat.reduceAdd]
    simp (implicitDefEqProofs := false) (dsimp := false) only [go_sem, show IntKind.i64.wrap (n - 1) = n - 1 from wrap64 (by omega) (by omega)]
    refine CallsA.mono (c1 h i hi) ?_
    rintro _ _ ⟨rfl, rfl⟩
    simp (implicitDefEqProofs := false) (dsimp := false) only [go_sem]
    exact det_end hB (by rfl)
  case a => exact ⟨_, rfl⟩
theorem One_det (r : Option (List Int)) (x : Int) (l : List Int) (hn0 : 0 < l.length) (hn : l.length ≤ 1000) : Det 21 (fun i => [.ptr ⟨i, 0⟩ 0, ints l]) r x fun a => ∃ v ∈ l, a = .int .i64 v := by
  unfold Det
  obtain ⟨_, r', x', ⟨v, rfl, hv⟩, c1⟩ := To_det r x ((l.length : Int) - 1) (by omega)
  have hl : v < l.length := by omega
  refine ⟨_, r', x', ⟨_, List.getElem_mem hl, rfl⟩, fun h i hi => ?_⟩
  refine CallsA.of_wpe [] {} 11 mixed Try.func21 (by kernel_rfl) rfl (by kernel_rfl) fun j hB hA => ?_; simp only [junk_succ, junk_zero, List.cons_append, List.nil_append, List.length_cons, List.length_nil, Nat.reduceAdd]
  simp (implicitDefEqProofs := false) (dsimp := false) only [go_sem, ints, show IntKind.i64.wrap ((l.length : Int) - 1) = (l.length : Int) - 1 from wrap64 (by omega) (by omega)]
  refine CallsA.mono (c1 h i hi) ?_
  rintro _ _ ⟨rfl, rfl⟩
  simp (implicitDefEqProofs := false) (dsimp := false) only [go_sem, row1 cInt_len hl, row1_le cInt_len hl, cInt, nat_lt hl]
  exact det_end hB rfl
theorem From_det (r : Option (List Int)) (x lo hi' : Int) (h1 : -1000 ≤ lo) (h2 : lo ≤ hi') (h3 : hi' ≤ 1000) (h4 : hi' - lo ≤ 1000) : Det 77 (fun i => [.ptr ⟨i, 0⟩ 0, .int .i64 lo, .int .i64 hi']) r x fun a => ∃ v : Int, a = .int .i64 v ∧ lo ≤ v ∧ v ≤ hi' := by
  unfold Det
  obtain ⟨_, r', x', ⟨v, rfl, hv⟩, c1⟩ := To_det r x (hi' - lo) (by omega)
  refine ⟨.int .i64 (lo + v), r', x', ⟨_, rfl, by omega, by omega⟩, fun h i hi => ?_⟩
  refine CallsA.of_wpe [] {} 11 mixed Try.func77 (by kernel_rfl) rfl (by kernel_rfl) fun j hB hA => ?_; simp only [junk_succ, junk_zero, List.cons_append, List.nil_append, List.length_cons, List.length_nil, Nat.reduceAdd]
  simp (implicitDefEqProofs := false) (dsimp := false) only [go_sem, show IntKind.i64.wrap (hi' - lo) = hi' - lo from wrap64 (by omega) (by omega)]
  refine CallsA.mono (c1 h i hi) ?_
  rintro _ _ ⟨rfl, rfl⟩
  simp (implicitDefEqProofs := false) (dsimp := false) only [go_sem]
  rw [show IntKind.i64.wrap (lo + v) = lo + v from wrap64 (by omega) (by omega)]
  exact det_end hB rfl
theorem To_ok (h : List Blk) (i : Nat) (r : Option (List Int)) (x n : Int) (hn : n ≤ 1000) (hi : h[i]? = some (diceB r x)) : Rolls 19 [.ptr ⟨i, 0⟩ 0, .int .i64 n] h i fun a => ∃ v : Nat, a = .int .i64 v ∧ (v : Int) ≤ max n 0 := (To_det r x n hn).rolls hi
theorem Once_ok (h : List Blk) (i : Nat) (r : Option (List Int)) (x n : Int) (hn0 : 0 ≤ n) (hn : n ≤ 1000) (hi : h[i]? = some (diceB r x)) : Rolls 20 [.ptr ⟨i, 0⟩ 0, .int .i64 n] h i fun a => ∃ v : Bool, a = .bool v := (Once_det r x n hn0 hn).rolls hi
theorem One_ok (h : List Blk) (i : Nat) (r : Option (List Int)) (x : Int) (l : List Int) (hn0 : 0 < l.length) (hn : l.length ≤ 1000) (hi : h[i]? = some (diceB r x)) : Rolls 21 [.ptr ⟨i, 0⟩ 0, ints l] h i fun a => ∃ v ∈ l, a = .int .i64 v := (One_det r x l hn0 hn).rolls hi
theorem From_ok (h : List Blk) (i : Nat) (r : Option (List Int)) (x lo hi' : Int) (h1 : -1000 ≤ lo) (h2 : lo ≤ hi') (h3 : hi' ≤ 1000) (h4 : hi' - lo ≤ 1000) (hi : h[i]? = some (diceB r x)) : Rolls 77 [.ptr ⟨i, 0⟩ 0, .int .i64 lo, .int .i64 hi'] h i fun a => ∃ v : Int, a = .int .i64 v ∧ lo ≤ v ∧ v ≤ hi' := (From_det r x lo hi' h1 h2 h3 h4).rolls hi
end Go.Mac

/-! CloseA -/
/- CloseA: from a contract of a statement about numbers to its row. -/
namespace Go.Proofs.Ytdioclckllbhpaa
open Go.ChangeShapes Go.WideShapes Go.ChangeAt Go.RowKit Go.Conc Go.Mac

theorem own : ownKnob Try.prog.godebug = none := by kernel_rfl
theorem laidOut : laidOutB Try.prog = true := by kernel_rfl
theorem underI : Try.prog.underlying 22 = some (.slice 3) := by kernel_rfl
theorem under3 : Try.prog.underlying 3 = some (.int .i64) := by kernel_rfl
theorem under4 : Try.prog.underlying 4 = some .bool := by kernel_rfl
theorem cells3 : Try.prog.cellsOf 3 = 1 := by kernel_rfl

/-- A row of numbers in memory. -/
theorem row_VRL {c : Cx} {W : World} {b off : Nat} {arr : Array Value} {el : TypeId} {fz : Nat × Nat} (hb : W.heap[b]? = some (.cells arr el fz)) : ∀ (l : List Int) (o : Nat), (∀ j, j < l.length → W.cell? ⟨b, o + j, none⟩ = some (.int .i64 (l.getD j 0))) →
    ∃ vs : List Value, VRL c (l.flatMap cInt) vs ∧ vs <+: arr.toList.drop o
  | [], o, _ => ⟨[], rfl, List.nil_prefix⟩
  | n :: l, o, h => by
    have h0 := h 0 (by simp)
    obtain ⟨vs, h1, t, h2⟩ := row_VRL (c := c) (off := off) hb l (o + 1) (fun j hj => by have := h (j + 1) (by simpa using hj); simpa [Nat.add_assoc, Nat.add_comm 1 j] using this)
    refine ⟨.int .i64 n :: vs, ⟨_, _, rfl, rfl, h1⟩, t, ?_⟩
    simp only [World.cell?, hb, Nat.add_zero, Option.isSome_none, Bool.false_eq_true, if_false, List.getD_cons_zero] at h0
    have hl : o < arr.toList.length := by
      have := (Array.getElem?_eq_some_iff.1 h0).1
      simpa using this
    rw [List.drop_eq_getElem_cons hl]
    have e : arr.toList[o] = .int .i64 n := by
      have := (Array.getElem?_eq_some_iff.1 h0).2
      simpa using this
    rw [e, ← h2]
    rfl
set_option maxRecDepth 100000 in
theorem lifted {f : FuncId} {fn : Func} {s : ChangeSpec} {conds : List PathCond} {rb : Nat} (hfn : Try.checked.prog.funcs[f]? = some fn) (hpar : fn.params.toList = [22]) (hres : fn.resultTypes.toList = [4]) (hinit : Try.prog.inits.idxOf? f = none)
    (hvars : s.vars = []) (hsp : ∀ (H : Type) (d : DataW H), s.fn H [d] = { results := [.lit (.bool true)], args := [d] })
    (hc : ∀ r : Option (List Int), CallsA Try.prog f [leftA r] [.role true] fun e _ => e = .ret (.bool true))
    (os : Os) (started : os.Started) (H : Type) (enc : TypeId × Value → H)
    (hwit : ∃ (w : World) (tape : Tape) (i : Input), w.os = os ∧ (w.forCall tape i).Shaped Try.checked.prog ∧ i.vars = [] ∧ Input.okWide Try.checked.prog (w.forCall tape i) .any w.heap.size f i ∧
      s.pre6 enc Try.checked.prog fn conds false (w.forCall tape i).memory i.args ∧ ({} : Assume).holds Try.checked.prog (lone (Frame.enter Try.checked.prog f i.args .normal) [] (w.forCall tape i))) :
    ReturnsInLeavingWide {} Try.checked os f .any (s.pre6 enc Try.checked.prog fn conds false) (s.post enc Try.checked.prog fn false true false false) := by
  refine returnsInLeavingWide_of_change_sized (C := Try.checked) own started hfn hwit ?_
  intro W base args ds gs before hval hW _ _ _
  have hW' := hW
  obtain ⟨p, q, hA, hV, rfl, _, _⟩ := hW
  rw [hpar] at hA
  rw [hvars] at hV
  obtain ⟨v0, d0, rfl, rfl, h0⟩ := trodAll_one hA
  obtain ⟨rfl, rfl⟩ := trodVars_none hV
  have hp0 : fn.params[0]? = some 22 := by
    have := congrArg (fun l => l[0]?) hpar
    simpa using this
  have hok := hval 0 22 v0 hp0 rfl
  have h0k := h0
  obtain ⟨fuel, hf⟩ := h0
  simp only [List.append_nil] at hW'
  have hlt : ∀ x ∈ p, x.block < W.heap.size := fun x hx => by simpa using hW'.lt x hx
  have hargs : ∀ (W' : World), Below W.heap.size W W' → DataW.Trod enc Try.prog W' 0 (fun b => decide (b < W.heap.size)) true 22 v0 d0 p :=
    fun W' hn => Below.trod laidOut (by kernel_rfl) (of_decide_eq_true (by kernel_rfl)) h0k hn hlt
  -- what the numbers are
  have hnum : ∃ r : Option (List Int), VRL (Cx.start W) [leftA r] [v0] := by
    rcases open_ints underI under3 cells3 hf with ⟨hcs, _⟩ | ⟨a, len, cap, zs, hcs, _, hl, hm, hz, _, hcell, _⟩
    · have hv : v0 = .slice none 0 0 := by obtain ⟨a0, l0, c0, rfl⟩ := okWide_slice underI hok; simpa [Value.cells] using hcs
      subst hv
      exact ⟨none, _, _, rfl, rfl, rfl⟩
    · have hv : v0 = .slice (some a) len cap := by obtain ⟨a0, l0, c0, rfl⟩ := okWide_slice underI hok; simpa [Value.cells] using hcs
      subst hv
      simp only [Value.okWide, underI, Cell.okWide, Cell.ok] at hok
      obtain ⟨_, _, _, hspot, row, cells, hshape, _⟩ := hok
      obtain ⟨b, off, spot⟩ := a
      simp only at hspot
      subst hspot
      simp only [if_true] at hz
      unfold World.shape? at hshape
      split at hshape
      · rename_i arr el fz hb
        have hlen : len ≤ zs.length := by omega
        obtain ⟨vs, h1, h2⟩ := row_VRL (c := Cx.start W) (off := off) hb (zs.take len) off (fun j hj => by
          simp only [List.length_take] at hj
          have := hcell j (by omega)
          have ea : (⟨b, off, none⟩ : Addr).add j = ⟨b, off + j, none⟩ := by unfold Addr.add; split <;> simp_all
          rw [ea] at this
          show W.cell? ⟨b, off + j, none⟩ = _
          rw [this]
          simp [List.getD, List.getElem?_take_of_lt (show j < len by omega)])
        refine ⟨some (zs.take len), _, _, rfl, ?_, rfl⟩
        have hll : (zs.take len).length = len := by rw [List.length_take]; omega
        show VR (Cx.start W) (.psl ((zs.take len).flatMap cInt) (zs.take len).length) _
        rw [hll]
        exact .inr ⟨b, off, arr, el, fz, vs, cap, rfl, hl, hb, h1, h2⟩
      · cases hshape
  obtain ⟨r, hr⟩ := hnum
  obtain ⟨M, last, o, w', t', h1, h2, h3, h4⟩ := runs_of_calls (W := W) (args := #[v0]) hinit (hc r) hr
  refine ⟨M, last, o, w', t', h1, h2, h3, h4.mono fun v hF => ?_⟩
  obtain ⟨hbel, c, _, hv⟩ := hF
  have hv' : v = .bool true := hv
  subst hv'
  have hrs : fn.resultTypes.size = 1 := by
    have := congrArg List.length hres
    simpa using this
  have hrl : Value.resultList fn.resultTypes.size (.bool true) = [.bool true] := by rw [hrs]; rfl
  refine ⟨[d0], [], _, [], p, [], by simpa using hW', ?_, ?_, ?_, hbel.frame _, fun h => by cases h⟩
  · rw [hres, hrl, List.append_nil, hsp]; exact trodAll_mk1 (shut_bool under4 true)
  · rw [hpar, List.append_nil, hsp]; exact trodAll_mk1 (hargs _ hbel)
  · rw [hvars, List.append_nil, hsp]; rfl
end Go.Proofs.Ytdioclckllbhpaa

